/- The walks of letter, goes and Right, of the program and of the reference: each returns what Nm.right says, and changes nothing. -/
import Derived.Test.YtokfcnjmgnmncaaWords
import Derived.Test.YtokfcnjmgnmncaaNmLess
namespace Go.Proofs.Ytokfcnjmgnmncaa
open Go.RowKit
theorem letterR_any (c : Nat) (w : World) : Calls Try.prog 35 #[.int .u8 c] w fun e w' => e = .returned (.bool (Nm.letter c)) ∧ w = w' := by
  by_cases h1 : (97 : Int) ≤ c <;> by_cases h2 : (c : Int) ≤ 122
  all_goals
    go_enter Try.func35, Try.ntmps35
    go_wp2
    go_ret
    exact ⟨by simp [Nm.letter]; omega, rfl⟩

set_option maxHeartbeats 400000 in
set_option maxRecDepth 100000 in
theorem rightR_any (s : ByteArray) (w : World) (hs : s.size ≤ maxLen) : Calls Try.prog 32 #[.string s] w fun e w' => e = .returned (.bool (Nm.right s)) ∧ w = w' := by
  unfold maxLen at hs
  by_cases h0 : s.size = 0
  · have hn : (s.size : Int) < 1 := by omega
    have hr := Nm.right_small h0
    clear h0
    go_enter Try.func32, Try.ntmps32
    go_wp2_with fail
    go_ret
    exact ⟨by first | rfl | simp [hr], rfl⟩
  · have hp : 0 < s.size := by omega
    have hn : ¬ (s.size : Int) < 1 := by omega
    clear h0
    by_cases h1 : (16 : Int) < s.size
    · have hr := Nm.right_long (by omega : 16 < s.size)
      go_enter Try.func32, Try.ntmps32
      go_wp2_with fail
      go_ret
      exact ⟨by first | rfl | simp [hr], rfl⟩
    · cases hl : Nm.letter (s[0]'hp).toNat
      · have hr := Nm.right_first (s := s) (by rw [Nm.byte_eq hp]; exact hl)
        go_enter Try.func32, Try.ntmps32
        go_wp2_with (go_at_call 35; refine (letterR_any _ _).mono ?_; rintro e w' ⟨rfl, rfl⟩)
        go_ret
        exact ⟨by first | rfl | simp [hr], rfl⟩
      · go_enter Try.func32, Try.ntmps32
        go_wp2_with (go_at_call 35; refine (letterR_any _ _).mono ?_; rintro e w' ⟨rfl, rfl⟩)
        go_loop [3] (fun i => ∃ k : Nat, 1 ≤ k ∧ k ≤ s.size ∧ i = .int .i64 k ∧ ∀ j, j < k → Nm.goes (Nm.byte s j) = true) (fun i => s.size - (intOf i).toNat)
        case atStart =>
          refine ⟨1, by omega, by omega, rfl, fun j h => ?_⟩
          obtain rfl : j = 0 := by omega
          rw [Nm.byte_eq hp]; exact Nm.goes_letter hl
        case round =>
          obtain ⟨k, hk1, hk, rfl, hg⟩ := hrel
          have HG := hide hg
          clear hg
          have HL := hide hl
          clear hl
          by_cases hlt : k < s.size
          · cases hlk : Nm.letter (s[k]'hlt).toNat <;> by_cases h3 : ((s[k]'hlt).toNat : Int) < 48 <;> by_cases h4 : (57 : Int) < (s[k]'hlt).toNat <;> cases h5 : (((s[k]'hlt).toNat : Int) != 95)
            all_goals
              go_wp2_with (go_at_call 35; refine (letterR_any _ _).mono ?_; rintro e w' ⟨rfl, rfl⟩)
              all_goals first
                | (go_round
                   case rel =>
                     refine ⟨k + 1, by omega, by omega, by go_num, fun j hj => ?_⟩
                     by_cases e : j = k
                     · subst e
                       rw [Nm.byte_eq hlt]
                       simp [Nm.letter] at hlk
                       simp at h5
                       simp [Nm.goes] <;> omega
                     · exact HG.out j (by omega)
                   case measure => simp [intOf]; omega)
                | (go_ret
                   refine ⟨ret_bool ?_, rfl⟩
                   rw [Nm.right_bad hlt]
                   rw [Nm.byte_eq hlt]
                   simp [Nm.letter] at hlk
                   simp at h5
                   simp [Nm.goes] <;> omega)
          · have hr := Nm.right_good (s := s) hp (by omega) (by rw [Nm.byte_eq hp]; exact HL.out) (fun i hi => HG.out i (by omega))
            go_wp2_with fail
            go_ret
            exact ⟨by first | rfl | simp [hr], rfl⟩

end Go.Proofs.Ytokfcnjmgnmncaa
