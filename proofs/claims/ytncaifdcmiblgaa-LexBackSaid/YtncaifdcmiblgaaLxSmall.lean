/- The walks of the small functions of lines: runs, signs, comments. -/
import Derived.Test.YtncaifdcmiblgaaNmRight
import Derived.Test.YtncaifdcmiblgaaLxPlain
import Derived.Test.YtncaifdcmiblgaaRowZ
namespace Go.Proofs.Ytncaifdcmiblgaa
open Go.RowKit

theorem lgoes_any (c : Nat) (w : World) : Calls Try.prog 20 #[.int .u8 c] w fun e w' => e = .returned (.bool (Nm.goes c)) ∧ w = w' := by
  by_cases h1 : (97 : Int) ≤ c <;> by_cases h2 : (c : Int) ≤ 122 <;> by_cases h3 : (48 : Int) ≤ c <;> by_cases h4 : (c : Int) ≤ 57
  all_goals
    go_enter Try.func20, Try.ntmps20
    go_wp2_with fail
    all_goals
      go_ret
      refine ⟨ret_bool ?_, rfl⟩
      simp [Nm.goes] <;> omega
theorem rgoes_any (c : Nat) (w : World) : Calls Try.prog 29 #[.int .u8 c] w fun e w' => e = .returned (.bool (Nm.goes c)) ∧ w = w' := by
  by_cases h1 : (97 : Int) ≤ c <;> by_cases h2 : (c : Int) ≤ 122 <;> by_cases h3 : (48 : Int) ≤ c <;> by_cases h4 : (c : Int) ≤ 57
  all_goals
    go_enter Try.func29, Try.ntmps29
    go_wp2_with fail
    all_goals
      go_ret
      refine ⟨ret_bool ?_, rfl⟩
      simp [Nm.goes] <;> omega

theorem lsign_any (c : Nat) (w : World) : Calls Try.prog 22 #[.int .u8 c] w fun e w' => e = .returned (.bool (Lx.sg c)) ∧ w = w' := by
  cases hs : Lx.sg c
  · have hn : c ≠ 35 ∧ c ≠ 43 ∧ c ≠ 38 ∧ c ≠ 40 ∧ c ≠ 41 ∧ c ≠ 123 ∧ c ≠ 125 ∧ c ≠ 91 ∧ c ≠ 93 ∧ c ≠ 44 ∧ c ≠ 58 ∧ c ≠ 61 ∧ c ≠ 124 ∧ c ≠ 60 := by
      simp [Lx.sg] at hs; omega
    have n1 : (c : Int) ≠ 35 := by omega
    have n2 : (c : Int) ≠ 43 := by omega
    have n3 : (c : Int) ≠ 38 := by omega
    have n4 : (c : Int) ≠ 40 := by omega
    have n5 : (c : Int) ≠ 41 := by omega
    have n6 : (c : Int) ≠ 123 := by omega
    have n7 : (c : Int) ≠ 125 := by omega
    have n8 : (c : Int) ≠ 91 := by omega
    have n9 : (c : Int) ≠ 93 := by omega
    have n10 : (c : Int) ≠ 44 := by omega
    have n11 : (c : Int) ≠ 58 := by omega
    have n12 : (c : Int) ≠ 61 := by omega
    have n13 : (c : Int) ≠ 124 := by omega
    have n14 : (c : Int) ≠ 60 := by omega
    clear hn hs
    go_enter Try.func22, Try.ntmps22
    go_wp2_with fail
    go_ret
    exact ⟨rfl, rfl⟩
  · have hn : c = 35 ∨ c = 43 ∨ c = 38 ∨ c = 40 ∨ c = 41 ∨ c = 123 ∨ c = 125 ∨ c = 91 ∨ c = 93 ∨ c = 44 ∨ c = 58 ∨ c = 61 ∨ c = 124 ∨ c = 60 := by
      simpa [Lx.sg] using hs
    clear hs
    rcases hn with rfl | rfl | rfl | rfl | rfl | rfl | rfl | rfl | rfl | rfl | rfl | rfl | rfl | rfl
    all_goals
      go_enter Try.func22, Try.ntmps22
      go_wp2_with fail
      go_ret
      exact ⟨rfl, rfl⟩
end Go.Proofs.Ytncaifdcmiblgaa
