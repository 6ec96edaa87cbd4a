/- The walks of the small functions of trees. -/
import Derived.Test.YtokfcnjmgnmncaaTrMem
import Derived.Test.YtokfcnjmgnmncaaLxRightR
namespace Go.Proofs.Ytokfcnjmgnmncaa
open Go.RowKit

theorem tcloser_any (c : Nat) (w : World) : Calls Try.prog 21 #[.int .u8 c] w fun e w' => e = .returned (.int .u8 (Tr.closer c : Nat)) ∧ w = w' := by
  by_cases h : c = 123 ∨ c = 91 ∨ c = 40
  · rcases h with rfl | rfl | rfl
    all_goals
      go_enter Try.func21, Try.ntmps21
      go_wp2_with fail
      go_ret
      exact ⟨rfl, rfl⟩
  · have hc := hide (show Tr.closer c = 0 by unfold Tr.closer; rw [if_neg (by omega), if_neg (by omega)])
    have h1 : (c : Int) ≠ 123 := by omega
    have h2 : (c : Int) ≠ 91 := by omega
    have h3 : (c : Int) ≠ 40 := by omega
    have g1 : ((c : Int) == 123) = false := by simpa using h1
    have g2 : ((c : Int) == 91) = false := by simpa using h2
    have g3 : ((c : Int) == 40) = false := by simpa using h3
    clear h h1 h2 h3
    go_enter Try.func21, Try.ntmps21
    go_wp2_with fail
    go_ret
    exact ⟨ret_int (by rw [hc.out]; rfl), rfl⟩

theorem rclosing_any (c : Nat) (w : World) : Calls Try.prog 28 #[.int .u8 c] w fun e w' => e = .returned (.int .u8 (Tr.closer c : Nat)) ∧ w = w' := by
  by_cases h : c = 123 ∨ c = 91 ∨ c = 40
  · rcases h with rfl | rfl | rfl
    all_goals
      go_enter Try.func28, Try.ntmps28
      go_wp2_with fail
      go_ret
      exact ⟨rfl, rfl⟩
  · have hc := hide (show Tr.closer c = 0 by unfold Tr.closer; rw [if_neg (by omega), if_neg (by omega)])
    have h1 : (c : Int) ≠ 123 := by omega
    have h2 : (c : Int) ≠ 91 := by omega
    have h3 : (c : Int) ≠ 40 := by omega
    have g1 : ((c : Int) == 123) = false := by simpa using h1
    have g2 : ((c : Int) == 91) = false := by simpa using h2
    have g3 : ((c : Int) == 40) = false := by simpa using h3
    clear h h1 h2 h3
    go_enter Try.func28, Try.ntmps28
    go_wp2_with fail
    go_ret
    exact ⟨ret_int (by rw [hc.out]; rfl), rfl⟩

theorem tcloses_any (c : Nat) (w : World) : Calls Try.prog 23 #[.int .u8 c] w fun e w' => e = .returned (.bool (Tr.closes c)) ∧ w = w' := by
  by_cases h : c = 41 ∨ c = 125 ∨ c = 93
  · rcases h with rfl | rfl | rfl
    all_goals
      go_enter Try.func23, Try.ntmps23
      go_wp2_with fail
      go_ret
      exact ⟨rfl, rfl⟩
  · have hc := hide (show Tr.closes c = false by simp only [Tr.closes, decide_eq_false_iff_not]; omega)
    have h1 : (c : Int) ≠ 41 := by omega
    have h2 : (c : Int) ≠ 125 := by omega
    have h3 : (c : Int) ≠ 93 := by omega
    have g1 : ((c : Int) == 41) = false := by simpa using h1
    have g2 : ((c : Int) == 125) = false := by simpa using h2
    have g3 : ((c : Int) == 93) = false := by simpa using h3
    clear h h1 h2 h3
    go_enter Try.func23, Try.ntmps23
    go_wp2_with fail
    go_ret
    exact ⟨ret_bool (by rw [hc.out]), rfl⟩

theorem rcloses_any (c : Nat) (w : World) : Calls Try.prog 30 #[.int .u8 c] w fun e w' => e = .returned (.bool (Tr.closes c)) ∧ w = w' := by
  by_cases h : c = 41 ∨ c = 125 ∨ c = 93
  · rcases h with rfl | rfl | rfl
    all_goals
      go_enter Try.func30, Try.ntmps30
      go_wp2_with fail
      go_ret
      exact ⟨rfl, rfl⟩
  · have hc := hide (show Tr.closes c = false by simp only [Tr.closes, decide_eq_false_iff_not]; omega)
    have h1 : (c : Int) ≠ 41 := by omega
    have h2 : (c : Int) ≠ 125 := by omega
    have h3 : (c : Int) ≠ 93 := by omega
    have g1 : ((c : Int) == 41) = false := by simpa using h1
    have g2 : ((c : Int) == 125) = false := by simpa using h2
    have g3 : ((c : Int) == 93) = false := by simpa using h3
    clear h h1 h2 h3
    go_enter Try.func30, Try.ntmps30
    go_wp2_with fail
    go_ret
    exact ⟨ret_bool (by rw [hc.out]), rfl⟩

theorem tbad_any (t : Lx.T) (w : World) : Calls Try.prog 22 #[.agg #[.int .u8 t.kind, .string t.text, .int .i64 t.pos]] w fun e w' =>
    e = .returned (.tuple #[.slice none 0 0, .agg #[.int .i64 2, .int .i64 t.pos]]) ∧ Below w.heap.size w w' := by
  have hblk := heap_alloc_new w (.cells #[.int .u8 t.kind, .string t.text, .int .i64 t.pos] 35)
  have hb2 : ((w.alloc (.cells #[.int .u8 t.kind, .string t.text, .int .i64 t.pos] 35)).alloc (.cells #[.int .i64 0, .int .i64 0] 27)).heap[w.heap.size + 1]? = some (.cells #[.int .i64 0, .int .i64 0] 27 (0, 0)) := by
    have := heap_alloc_new (w.alloc (.cells #[.int .u8 t.kind, .string t.text, .int .i64 t.pos] 35)) (.cells #[.int .i64 0, .int .i64 0] 27)
    simpa using this
  have x2 : ((w.alloc (.cells #[.int .u8 t.kind, .string t.text, .int .i64 t.pos] 35)).alloc (.cells #[.int .i64 0, .int .i64 0] 27)).cell? ⟨w.heap.size, 2, none⟩ = some (.int .i64 t.pos) := by
    rw [World.cell?_alloc_past _ _ _ (by simp), cell_block hblk]; rfl
  have HB := hide (And.intro hb2 (((Below.refl w.heap.size w).alloc (Nat.le_refl _) (.cells #[.int .u8 t.kind, .string t.text, .int .i64 t.pos] 35)).alloc (by simp) (.cells #[.int .i64 0, .int .i64 0] 27)))
  have y0 := cell_block hb2 0
  have y1 := cell_block hb2 1
  have y2 := frozen_of_row _ (w.heap.size + 1) 0 _ _ hb2
  have y3 := frozen_of_row _ (w.heap.size + 1) 1 _ _ hb2
  simp only [List.getElem?_toArray, List.getElem?_cons_zero, List.getElem?_cons_succ] at y0 y1
  clear hblk hb2
  go_enter Try.func22, Try.ntmps22
  go_wp2_with fail
  generalize (w.alloc (.cells #[.int .u8 t.kind, .string t.text, .int .i64 t.pos] 35)).alloc (.cells #[.int .i64 0, .int .i64 0] 27) = W at *
  go_still_tail 4, (by kernel_rfl)
  change wpList _ _ _ _ _ W.drew
  go_wp2_with fail
  have hp := fault_put (w := W) HB.out.1 (.int .i64 2) (.int .i64 t.pos)
  refine bodyPost_ret (v := .tuple #[.slice none 0 0, .agg #[.int .i64 2, .int .i64 t.pos]]) (by simp [results, Try.results22, go_sem, hp.1, hp.2]) rfl ⟨rfl, ?_⟩
  exact below_drewN (fault_below HB.out.2 (by omega) _ _) 1
end Go.Proofs.Ytokfcnjmgnmncaa
