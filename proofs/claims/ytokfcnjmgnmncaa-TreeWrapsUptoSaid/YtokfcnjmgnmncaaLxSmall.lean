/- The walks of the small functions of lines: runs, signs, comments. -/
import Derived.Test.YtokfcnjmgnmncaaNmRight
import Derived.Test.YtokfcnjmgnmncaaLxPlain
import Derived.Test.YtokfcnjmgnmncaaRowZ
namespace Go.Proofs.Ytokfcnjmgnmncaa
open Go.RowKit
theorem rgoes_any (c : Nat) (w : World) : Calls Try.prog 36 #[.int .u8 c] w fun e w' => e = .returned (.bool (Nm.goes c)) ∧ w = w' := by
  by_cases h1 : (97 : Int) ≤ c <;> by_cases h2 : (c : Int) ≤ 122 <;> by_cases h3 : (48 : Int) ≤ c <;> by_cases h4 : (c : Int) ≤ 57
  all_goals
    go_enter Try.func36, Try.ntmps36
    go_wp2_with fail
    all_goals
      go_ret
      refine ⟨ret_bool ?_, rfl⟩
      simp [Nm.goes] <;> omega

end Go.Proofs.Ytokfcnjmgnmncaa
