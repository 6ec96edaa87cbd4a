/- The walks of Find, Twice and Same, of the program and of the reference, and of long. -/
import Derived.Test.YthnbhcfpfbimgaaNmPlaceW
namespace Go.Proofs.Ythnbhcfpfbimgaa
open Go.RowKit

/-- The slice value '.slice A n c' holds the strings ss. -/
def HasStr (w : World) (B : Nat) (A : Option Addr) (n : Nat) (ss : List ByteArray) : Prop := Has w B A n (ss.map Value.string)
section
variable {w w' : World} {B n : Nat} {A : Option Addr} {ss : List ByteArray}
theorem HasStr.len (h : HasStr w B A n ss) : ss.length = n := by simpa using h.1
theorem HasStr.str (h : HasStr w B A n ss) {i : Nat} (hi : i < n) : ∃ b off, A = some ⟨b, off, none⟩ ∧ b < B ∧ w.cell? ⟨b, off + i, none⟩ = some (.string (Nm.at_ ss i)) := by
  obtain ⟨b, off, u, e, hb, hu, hc⟩ := Has.at_ h hi
  have hl := h.len
  have : u = .string (Nm.at_ ss i) := by
    rw [List.getElem?_map] at hu
    simp only [Nm.at_, List.getD_eq_getElem?_getD]
    rw [List.getElem?_eq_getElem (by omega)] at hu ⊢
    simp at hu ⊢
    exact hu.symm
  subst this
  exact ⟨b, off, e, hb, hc⟩
theorem HasStr.take (h : HasStr w B A n ss) {k : Nat} (hk : k ≤ n) : HasStr w B A k (ss.take k) := by
  have hl := h.len
  refine ⟨by simp; omega, fun h0 => ?_⟩
  obtain ⟨b, off, e, hb, hc⟩ := h.2 (by omega)
  refine ⟨b, off, e, hb, fun j u hu => hc j u ?_⟩
  rw [List.map_take, List.getElem?_take] at hu
  split at hu
  · exact hu
  · cases hu
theorem HasStr.dr (h : HasStr w B A n ss) (hd : Dr w w') : HasStr w' B A n ss := h.keep fun p _ => hd.cell p
end
set_option maxHeartbeats 400000 in
theorem findR_any (n c B : Nat) (A : Option Addr) (ss : List ByteArray) (s : ByteArray) (w : World) (hn : n ≤ 9223372036854775807) (hs : HasStr w B A n ss) :
    Calls Try.prog 78 #[.slice A n c, .string s] w fun e w' => e = .returned (.int .i64 (Nm.find ss s)) ∧ w = w' := by
  have hl := hs.len
  subst hl
  go_enter Try.func78, Try.ntmps78
  go_wp2_with fail
  go_loop [5] (fun i => ∃ k : Nat, k ≤ ss.length ∧ i = .int .i64 k ∧ (∀ j, j < k → Nm.eqs (Nm.at_ ss j) s = false)) (fun i => ss.length - (intOf i).toNat)
  case atStart => exact ⟨0, Nat.zero_le _, rfl, fun j h => by omega⟩
  case round =>
    obtain ⟨k, hk, rfl, hg⟩ := hrel
    have HG := hide hg
    clear hg
    by_cases hlt : k < ss.length
    · obtain ⟨b, off, rfl, _, hc⟩ := hs.str hlt
      cases hp : Nm.eqs (Nm.at_ ss k) s
      · have hp' : ((Nm.at_ ss k).toList == s.toList) = false := hp
        have HP := hide hp
        clear hp
        go_wp2_with fail
        go_round
        case rel =>
          refine ⟨k + 1, by omega, by go_num, fun j hj => ?_⟩
          by_cases e : j = k
          · subst e; exact HP.out
          · exact HG.out j (by omega)
        case measure => simp [intOf]; omega
      · have hp' : ((Nm.at_ ss k).toList == s.toList) = true := hp
        have HP := hide hp
        clear hp
        go_wp2_with fail
        go_ret
        exact ⟨ret_int (Nm.first_at (p := fun i => Nm.eqs (Nm.at_ ss i) s) k HP.out ss.length 0 (fun j _ hj => HG.out j hj) (by omega) (by omega)).symm, rfl⟩
    · go_wp2_with fail
      go_ret
      exact ⟨ret_int (Nm.first_none (p := fun i => Nm.eqs (Nm.at_ ss i) s) ss.length 0 (fun j _ hj => HG.out j (by omega))).symm, rfl⟩

end Go.Proofs.Ythnbhcfpfbimgaa
