/- The chapter's example. -/
import Derived.Test.YtncaifdcmiblgaaLxSame
namespace Go.Proofs.Ytncaifdcmiblgaa
open Go.RowKit

@[go_sem] theorem guardFault : Try.prog.eqGuardType Try.prog.depth 25 = false := by kernel_rfl
@[go_sem] theorem eqFault (a b c d : Int) (w : World) : (Op.equalIn 10000 25 (.agg #[.int .i64 a, .int .i64 b]) (.agg #[.int .i64 c, .int .i64 d])).run Try.prog w = .ok (a == c && b == d) w := by
  have hS : Try.prog.underlying 25 = some (.struct (Try.prog.fieldsOf 25)) := by kernel_rfl
  have hp : Try.prog.stoodInHeld 25 = false := by kernel_rfl
  have u3 := Try.underlying3
  rw [show (10000 : Nat) = 9999 + 1 from rfl, run_equalIn_agg w 9999 25 _ _ hS hp]
  simp only [Program.fieldsOf, Try.underlying25]
  go_simp
  by_cases h1 : a = c <;> by_cases h2 : b = d <;> simp [h1, h2]

abbrev exA : ByteArray := ⟨#[108, 101, 113, 32, 107, 32, 120, 32, 35, 104, 105, 32, 45, 45, 32, 119, 104, 121]⟩
abbrev exB : ByteArray := ⟨#[97, 45, 98]⟩
theorem exA_read : (Lx.read exA).2 = none ∧ (Lx.read exA).1.length = 5 ∧ ((Lx.read exA).1[4]?).map (·.pos) = some 9 ∧ (Lx.text (Lx.read exA).1).data = #[108, 101, 113, 32, 107, 32, 120, 35, 104, 105] ∧ ∀ t ∈ (Lx.read exA).1, t.text.size ≤ 1000 := by
  decide +kernel
theorem exB_read : (Lx.read exB).2 = some 1 := by decide +kernel

theorem exA_any (w : World) : Calls Try.prog 8 #[.string exA] w fun e w' => ∃ A c, e = .returned (.tuple #[.slice A 5 c, .agg #[.int .i64 0, .int .i64 0]]) ∧ TokRow w' (.slice A 5 c) (Lx.read exA).1 ∧ Below w.heap.size w w' := by
  refine (lread_any exA w (by decide)).mono ?_
  rintro e w' ⟨v, rfl, hrow, _, hb⟩
  obtain ⟨A, c, rfl, _, _⟩ := RowZ.form hrow
  rw [exA_read.1]
  rw [exA_read.2.1] at *
  exact ⟨A, c, rfl, hrow, hb⟩
theorem exB_any (w : World) : Calls Try.prog 8 #[.string exB] w fun e w' => ∃ v, e = .returned (.tuple #[v, .agg #[.int .i64 1, .int .i64 1]]) ∧ Below w.heap.size w w' := by
  refine (lread_any exB w (by decide)).mono ?_
  rintro e w' ⟨v, rfl, hrow, _, hb⟩
  rw [exB_read]
  exact ⟨v, rfl, hb⟩

set_option maxHeartbeats 800000 in
theorem alive_any (w : World) : Calls Try.prog 7 #[] w fun e w' => e = .returned (.bool true) ∧ Below w.heap.size w w' := by
  go_enter Try.func7, Try.ntmps7
  go_wp2_with fail
  refine (exA_any w).mono ?_
  rintro e w1 ⟨A, c, rfl, hrow, hb1⟩
  have H1 := hide (And.intro hrow hb1)
  clear hrow hb1
  go_wp2_with fail
  refine (exB_any _).mono ?_
  rintro e w2 ⟨v2, rfl, hb2⟩
  have hbW := hb2.trans ((below_laid w2 (.cells #[.int .i64 1, .int .i64 1] 25)).mono hb2.size)
  have hf1 := (hbW.block w1.heap.size (by simp)).trans (heap_alloc_new w1 (.cells #[.int .i64 0, .int .i64 0] 25))
  have hf2 := heap_alloc_new w2 (.cells #[.int .i64 1, .int .i64 1] 25)
  have hb01 := H1.out.2.trans (((below_laid w1 (.cells #[.int .i64 0, .int .i64 0] 25)).trans (hbW.mono (by simp))).mono H1.out.2.size)
  have hrowW := RowZ.below H1.out.1 ((below_laid w1 (.cells #[.int .i64 0, .int .i64 0] 25)).trans (hbW.mono (by simp)))
  have c10 : (w2.alloc (.cells #[.int .i64 1, .int .i64 1] 25)).cell? ⟨w1.heap.size, 0, none⟩ = some (.int .i64 0) := by rw [cell_block hf1]; rfl
  have c11 : (w2.alloc (.cells #[.int .i64 1, .int .i64 1] 25)).cell? ⟨w1.heap.size, 1, none⟩ = some (.int .i64 0) := by rw [cell_block hf1]; rfl
  have HW := hide (And.intro hbW (And.intro hf2 (And.intro hb01 hrowW)))
  have hws : w1.heap.size < w2.heap.size := by have := hb2.size; simp at this; omega
  clear hb2 hbW hf1 hf2 hb01 hrowW
  go_wp2_with fail
  generalize w2.alloc (.cells #[.int .i64 1, .int .i64 1] 25) = W at *
  obtain ⟨hbW, hf2, hb01, hrowW⟩ := HW.out
  have hhas : HasT W W.heap.size A 5 (Lx.read exA).1 := by
    have h5 := exA_read.2.1
    have hr := hrowW
    rw [← h5] at hr ⊢
    exact HasT.of_row hr
  obtain ⟨t, ht, htp⟩ : ∃ t, (Lx.read exA).1[4]? = some t ∧ t.pos = 9 := by
    have := exA_read.2.2.1
    cases h : (Lx.read exA).1[4]? with
    | none => rw [h] at this; simp at this
    | some t => rw [h] at this; simp at this; exact ⟨t, rfl, this⟩
  refine (ltext_any 5 c W.heap.size A _ W (by decide) (Nat.le_refl _) hhas exA_read.2.2.2.2).mono ?_
  rintro e w3 ⟨rfl, hb3⟩
  have htx : Lx.text (Lx.read exA).1 = ⟨#[108, 101, 113, 32, 107, 32, 120, 35, 104, 105]⟩ := by
    have := exA_read.2.2.2.1
    cases h : Lx.text (Lx.read exA).1
    rw [h] at this
    simp only at this
    rw [this]
  rw [htx]
  obtain ⟨b, off, rfl, hbb, hcell⟩ := (hhas.below hb3).2 (by decide)
  have c9 := (hcell 4 t ht).2.2
  rw [htp] at c9
  have hf3 := (hb3.block _ (blk_lt hf2)).trans hf2
  have c20 : w3.cell? ⟨w2.heap.size, 0, none⟩ = some (.int .i64 1) := by rw [cell_block hf3]; rfl
  have c21 : w3.cell? ⟨w2.heap.size, 1, none⟩ = some (.int .i64 1) := by rw [cell_block hf3]; rfl
  have HB := hide (hb01.trans (hb3.mono hb01.size))
  clear hbW hf2 hb01 hrowW hhas ht htp hb3 htx hcell hf3 HW c10 c11
  go_wp2_with fail
  go_ret
  exact ⟨rfl, HB.out⟩
end Go.Proofs.Ytncaifdcmiblgaa
