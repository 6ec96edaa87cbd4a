/- The walks of letter, goes and Right, of the program and of the reference: each returns what Nm.right says, and changes nothing. -/
import Derived.Test.YtncaifdcmiblgaaWords
import Derived.Test.YtncaifdcmiblgaaNmLess
namespace Go.Proofs.Ytncaifdcmiblgaa
open Go.RowKit

theorem letter_any (c : Nat) (w : World) : Calls Try.prog 27 #[.int .u8 c] w fun e w' => e = .returned (.bool (Nm.letter c)) ∧ w = w' := by
  by_cases h1 : (97 : Int) ≤ c <;> by_cases h2 : (c : Int) ≤ 122
  all_goals
    go_enter Try.func27, Try.ntmps27
    go_wp2
    go_ret
    exact ⟨by simp [Nm.letter]; omega, rfl⟩

theorem letterR_any (c : Nat) (w : World) : Calls Try.prog 30 #[.int .u8 c] w fun e w' => e = .returned (.bool (Nm.letter c)) ∧ w = w' := by
  by_cases h1 : (97 : Int) ≤ c <;> by_cases h2 : (c : Int) ≤ 122
  all_goals
    go_enter Try.func30, Try.ntmps30
    go_wp2
    go_ret
    exact ⟨by simp [Nm.letter]; omega, rfl⟩

set_option maxHeartbeats 400000 in
theorem goes_any (c : Nat) (w : World) : Calls Try.prog 28 #[.int .u8 c] w fun e w' => e = .returned (.bool (Nm.goes c)) ∧ w = w' := by
  cases hl : Nm.letter c
  · by_cases h3 : (48 : Int) ≤ c <;> by_cases h4 : (c : Int) ≤ 57 <;> cases h5 : ((c : Int) == 95)
    all_goals
      go_enter Try.func28, Try.ntmps28
      go_wp2_with (go_at_call 27; refine (letter_any _ _).mono ?_; rintro e w' ⟨rfl, rfl⟩)
      all_goals
        go_ret
        refine ⟨ret_bool ?_, rfl⟩
        simp [Nm.letter] at hl
        simp at h5
        simp [Nm.goes] <;> omega
  · have hg := Nm.goes_letter hl
    go_enter Try.func28, Try.ntmps28
    go_wp2_with (go_at_call 27; refine (letter_any _ _).mono ?_; rintro e w' ⟨rfl, rfl⟩)
    go_ret
    exact ⟨by simp [hg], rfl⟩

set_option maxHeartbeats 400000 in
theorem right_any (s : ByteArray) (w : World) (hs : s.size ≤ maxLen) : Calls Try.prog 23 #[.string s] w fun e w' => e = .returned (.bool (Nm.right s)) ∧ w = w' := by
  unfold maxLen at hs
  by_cases h0 : s.size = 0
  · have hn : s.toList.isEmpty = true := by rw [Lib.toList_data, List.isEmpty_iff]; exact List.eq_nil_of_length_eq_zero (by simpa using h0)
    have hr := Nm.right_small h0
    clear h0
    go_enter Try.func23, Try.ntmps23
    go_wp2_with fail
    go_ret
    exact ⟨by first | rfl | simp [hr], rfl⟩
  · have hp : 0 < s.size := by omega
    have hn : s.toList.isEmpty = false := by rw [Lib.toList_data, ← Bool.not_eq_true, List.isEmpty_iff]; intro e; apply h0; simpa using congrArg List.length e
    clear h0
    by_cases h1 : (16 : Int) < s.size
    · have hr := Nm.right_long (by omega : 16 < s.size)
      go_enter Try.func23, Try.ntmps23
      go_wp2_with fail
      go_ret
      exact ⟨by first | rfl | simp [hr], rfl⟩
    · cases hl : Nm.letter (s[0]'hp).toNat
      · have hr := Nm.right_first (s := s) (by rw [Nm.byte_eq hp]; exact hl)
        go_enter Try.func23, Try.ntmps23
        go_wp2_with (go_at_call 27; refine (letter_any _ _).mono ?_; rintro e w' ⟨rfl, rfl⟩)
        go_ret
        exact ⟨by first | rfl | simp [hr], rfl⟩
      · go_enter Try.func23, Try.ntmps23
        go_wp2_with (go_at_call 27; refine (letter_any _ _).mono ?_; rintro e w' ⟨rfl, rfl⟩)
        go_loop [19] (fun i => ∃ k : Nat, k ≤ s.size ∧ i = .int .i64 k ∧ ∀ j, j < k → Nm.goes (Nm.byte s j) = true) (fun i => s.size - (intOf i).toNat)
        case atStart => exact ⟨0, Nat.zero_le _, rfl, fun j h => by omega⟩
        case round =>
          obtain ⟨k, hk, rfl, hg⟩ := hrel
          have HG := hide hg
          clear hg
          by_cases hlt : k < s.size
          · cases hgk : Nm.goes (s[k]'hlt).toNat
            · have hr := Nm.right_bad hlt (by rw [Nm.byte_eq hlt]; exact hgk)
              go_wp2_with (go_at_call 28; refine (goes_any _ _).mono ?_; rintro e w' ⟨rfl, rfl⟩)
              go_ret
              exact ⟨by first | rfl | simp [hr], rfl⟩
            · go_wp2_with (go_at_call 28; refine (goes_any _ _).mono ?_; rintro e w' ⟨rfl, rfl⟩)
              go_round
              case rel =>
                refine ⟨k + 1, by omega, by go_num, fun j hj => ?_⟩
                by_cases e : j = k
                · subst e; rw [Nm.byte_eq hlt]; exact hgk
                · exact HG.out j (by omega)
              case measure => simp [intOf]; omega
          · have hr := Nm.right_good (s := s) hp (by omega) (by rw [Nm.byte_eq hp]; exact hl) (fun i hi => HG.out i (by omega))
            go_wp2_with fail
            go_ret
            exact ⟨by first | rfl | simp [hr], rfl⟩

set_option maxHeartbeats 400000 in
set_option maxRecDepth 100000 in
theorem rightR_any (s : ByteArray) (w : World) (hs : s.size ≤ maxLen) : Calls Try.prog 25 #[.string s] w fun e w' => e = .returned (.bool (Nm.right s)) ∧ w = w' := by
  unfold maxLen at hs
  by_cases h0 : s.size = 0
  · have hn : (s.size : Int) < 1 := by omega
    have hr := Nm.right_small h0
    clear h0
    go_enter Try.func25, Try.ntmps25
    go_wp2_with fail
    go_ret
    exact ⟨by first | rfl | simp [hr], rfl⟩
  · have hp : 0 < s.size := by omega
    have hn : ¬ (s.size : Int) < 1 := by omega
    clear h0
    by_cases h1 : (16 : Int) < s.size
    · have hr := Nm.right_long (by omega : 16 < s.size)
      go_enter Try.func25, Try.ntmps25
      go_wp2_with fail
      go_ret
      exact ⟨by first | rfl | simp [hr], rfl⟩
    · cases hl : Nm.letter (s[0]'hp).toNat
      · have hr := Nm.right_first (s := s) (by rw [Nm.byte_eq hp]; exact hl)
        go_enter Try.func25, Try.ntmps25
        go_wp2_with (go_at_call 30; refine (letterR_any _ _).mono ?_; rintro e w' ⟨rfl, rfl⟩)
        go_ret
        exact ⟨by first | rfl | simp [hr], rfl⟩
      · go_enter Try.func25, Try.ntmps25
        go_wp2_with (go_at_call 30; refine (letterR_any _ _).mono ?_; rintro e w' ⟨rfl, rfl⟩)
        go_loop [3] (fun i => ∃ k : Nat, 1 ≤ k ∧ k ≤ s.size ∧ i = .int .i64 k ∧ ∀ j, j < k → Nm.goes (Nm.byte s j) = true) (fun i => s.size - (intOf i).toNat)
        case atStart =>
          refine ⟨1, by omega, by omega, rfl, fun j h => ?_⟩
          obtain rfl : j = 0 := by omega
          rw [Nm.byte_eq hp]; exact Nm.goes_letter hl
        case round =>
          obtain ⟨k, hk1, hk, rfl, hg⟩ := hrel
          have HG := hide hg
          clear hg
          have HL := hide hl
          clear hl
          by_cases hlt : k < s.size
          · cases hlk : Nm.letter (s[k]'hlt).toNat <;> by_cases h3 : ((s[k]'hlt).toNat : Int) < 48 <;> by_cases h4 : (57 : Int) < (s[k]'hlt).toNat <;> cases h5 : (((s[k]'hlt).toNat : Int) != 95)
            all_goals
              go_wp2_with (go_at_call 30; refine (letterR_any _ _).mono ?_; rintro e w' ⟨rfl, rfl⟩)
              all_goals first
                | (go_round
                   case rel =>
                     refine ⟨k + 1, by omega, by omega, by go_num, fun j hj => ?_⟩
                     by_cases e : j = k
                     · subst e
                       rw [Nm.byte_eq hlt]
                       simp [Nm.letter] at hlk
                       simp at h5
                       simp [Nm.goes] <;> omega
                     · exact HG.out j (by omega)
                   case measure => simp [intOf]; omega)
                | (go_ret
                   refine ⟨ret_bool ?_, rfl⟩
                   rw [Nm.right_bad hlt]
                   rw [Nm.byte_eq hlt]
                   simp [Nm.letter] at hlk
                   simp at h5
                   simp [Nm.goes] <;> omega)
          · have hr := Nm.right_good (s := s) hp (by omega) (by rw [Nm.byte_eq hp]; exact HL.out) (fun i hi => HG.out i (by omega))
            go_wp2_with fail
            go_ret
            exact ⟨by first | rfl | simp [hr], rfl⟩

end Go.Proofs.Ytncaifdcmiblgaa
