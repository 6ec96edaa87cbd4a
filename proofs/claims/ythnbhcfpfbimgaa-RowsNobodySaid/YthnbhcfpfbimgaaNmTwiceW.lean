/- The walks of Twice and Same, of the program and of the reference, and of long. -/
import Derived.Test.YthnbhcfpfbimgaaNmFindW
namespace Go.Proofs.Ythnbhcfpfbimgaa
open Go.RowKit
set_option maxHeartbeats 400000 in
theorem twiceR_any (n c B : Nat) (A : Option Addr) (ss : List ByteArray) (w : World) (hn : n ≤ 9223372036854775807) (hs : HasStr w B A n ss) :
    Calls Try.prog 58 #[.slice A n c] w fun e w' => e = .returned (.int .i64 (Nm.twice ss)) ∧ w = w' := by
  rw [Nm.twice_eq]
  have hl := hs.len
  subst hl
  go_enter Try.func58, Try.ntmps58
  go_wp2_with fail
  go_loop [3] (fun i => ∃ k : Nat, k ≤ ss.length ∧ i = .int .i64 k ∧ (∀ j, j < k → decide (Nm.find ss (Nm.at_ ss j) < j) = false)) (fun i => ss.length - (intOf i).toNat)
  case atStart => exact ⟨0, Nat.zero_le _, rfl, fun j h => by omega⟩
  case round =>
    obtain ⟨k, hk, rfl, hg⟩ := hrel
    have HG := hide hg
    clear hg
    by_cases hlt : k < ss.length
    · obtain ⟨b, off, rfl, _, hc⟩ := hs.str hlt
      have hf := findR_any ss.length c B (some ⟨b, off, none⟩) ss (Nm.at_ ss k) w hn hs
      have HF := hide hf
      clear hf
      by_cases hp : Nm.find ss (Nm.at_ ss k) < (k : Int)
      · go_wp2_with fail
        refine HF.out.mono ?_
        rintro e w' ⟨rfl, rfl⟩
        go_wp2_with fail
        go_ret
        exact ⟨ret_int (Nm.first_at (p := fun i => decide (Nm.find ss (Nm.at_ ss i) < i)) k (by simpa using hp) ss.length 0 (fun j _ hj => HG.out j hj) (by omega) (by omega)).symm, rfl⟩
      · go_wp2_with fail
        refine HF.out.mono ?_
        rintro e w' ⟨rfl, rfl⟩
        go_wp2_with fail
        go_round
        case rel =>
          refine ⟨k + 1, by omega, by go_num, fun j hj => ?_⟩
          by_cases e : j = k
          · subst e; simpa using hp
          · exact HG.out j (by omega)
        case measure => simp [intOf]; omega
    · go_wp2_with fail
      go_ret
      exact ⟨ret_int (Nm.first_none (p := fun i => decide (Nm.find ss (Nm.at_ ss i) < i)) ss.length 0 (fun j _ hj => HG.out j (by omega))).symm, rfl⟩

/-- long: more than 60 texts, or one of more than 200 bytes. -/
def Nm.long (ss : List ByteArray) : Bool := decide (60 < ss.length) || ss.any fun s => decide (200 < s.size)
theorem Nm.long_false {ss : List ByteArray} (h : Nm.long ss = false) : ss.length ≤ 60 ∧ ∀ s ∈ ss, s.size ≤ 200 := by
  simp [Nm.long] at h
  exact h

end Go.Proofs.Ythnbhcfpfbimgaa
