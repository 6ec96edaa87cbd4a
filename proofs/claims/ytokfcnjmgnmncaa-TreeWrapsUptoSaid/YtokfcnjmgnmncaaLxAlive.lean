/- The chapter's example. -/
import Derived.Test.YtokfcnjmgnmncaaLxSame
namespace Go.Proofs.Ytokfcnjmgnmncaa
open Go.RowKit

@[go_sem] theorem guardFault : Try.prog.eqGuardType Try.prog.depth 27 = false := by kernel_rfl
@[go_sem] theorem eqFault (a b c d : Int) (w : World) : (Op.equalIn 10000 27 (.agg #[.int .i64 a, .int .i64 b]) (.agg #[.int .i64 c, .int .i64 d])).run Try.prog w = .ok (a == c && b == d) w := by
  have hS : Try.prog.underlying 27 = some (.struct (Try.prog.fieldsOf 27)) := by kernel_rfl
  have hp : Try.prog.stoodInHeld 27 = false := by kernel_rfl
  have u3 := Try.underlying3
  rw [show (10000 : Nat) = 9999 + 1 from rfl, run_equalIn_agg w 9999 27 _ _ hS hp]
  simp only [Program.fieldsOf, Try.underlying27]
  go_simp
  by_cases h1 : a = c <;> by_cases h2 : b = d <;> simp [h1, h2]

abbrev exA : ByteArray := ⟨#[108, 101, 113, 32, 107, 32, 120, 32, 35, 104, 105, 32, 45, 45, 32, 119, 104, 121]⟩
abbrev exB : ByteArray := ⟨#[97, 45, 98]⟩
theorem exA_read : (Lx.read exA).2 = none ∧ (Lx.read exA).1.length = 5 ∧ ((Lx.read exA).1[4]?).map (·.pos) = some 9 ∧ (Lx.text (Lx.read exA).1).data = #[108, 101, 113, 32, 107, 32, 120, 35, 104, 105] ∧ ∀ t ∈ (Lx.read exA).1, t.text.size ≤ 1000 := by
  decide +kernel
theorem exB_read : (Lx.read exB).2 = some 1 := by decide +kernel

end Go.Proofs.Ytokfcnjmgnmncaa
