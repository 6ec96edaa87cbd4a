/- The walk of TreeWraps where its guard says no; and all together. -/
import Derived.Test.YtokfcnjmgnmncaaTrWraps
namespace Go.Proofs.Ytokfcnjmgnmncaa
open Go.RowKit
set_option linter.unusedVariables false

set_option maxHeartbeats 6400000 in
theorem tw1 (A : Option Addr) (n c : Nat) (l : List Lx.T) (A2 : Option Addr) (n2 c2 : Nat) (m : List Lx.T) (w : World) (h : HasT w w.heap.size A n l) (h2 : HasT w w.heap.size A2 n2 m) (hn : n ≤ 1048576) (hn2 : n2 ≤ 1048576)
    (hzl : ∀ t ∈ l, t.text.size ≤ maxLen) (hzm : ∀ t ∈ m, t.text.size ≤ maxLen) (fa fb ga gb : Int) (hva : outV (Tr.read l) = .agg #[.int .i64 fa, .int .i64 fb]) (hvb : outV (Tr.read m) = .agg #[.int .i64 ga, .int .i64 gb]) (g : 140 < n) :
    Calls Try.prog 5 #[.slice A n c, .slice A2 n2 c2] w fun e w' => e = .returned (.bool true) ∧ Below w.heap.size w w' := by
  have HR1 := hide (fun W (hW : Below w.heap.size w W) => (tread_any n c w.heap.size A l W (h.below hW) hW.size (by omega)))
  have HR2 := hide (fun W (hW : Below w.heap.size w W) => (tread_any n2 c2 w.heap.size A2 m W (h2.below hW) hW.size (by omega)))
  rw [hva] at HR1
  rw [hvb] at HR2
  have HB1 := hide (fun W (hW : Below w.heap.size w W) => big_any n c w.heap.size A l W (h.below hW) (by unfold maxLen; omega) hzl)
  have HB2 := hide (fun W (hW : Below w.heap.size w W) => big_any n2 c2 w.heap.size A2 m W (h2.below hW) (by unfold maxLen; omega) hzm)
  have g1 : (140 : Int) < n := by omega
  clear h h2 hzl hzm hva hvb
  go_enter Try.func5, Try.ntmps5
  go_wp2_with fail
  refine (HR1.out _ (Below.refl _ _)).mono ?_
  rintro e w1 ⟨v1, rfl, hrow1, hb1⟩
  obtain ⟨Aa, ca, rfl, hca, hcam⟩ := hrow1.form
  have hbl := below_laid w1 (.cells #[.int .i64 fa, .int .i64 fb] 27)
  have H1 := hide (And.intro (below_next hb1 hbl) (heap_alloc_new w1 (.cells #[.int .i64 fa, .int .i64 fb] 27)))
  have hs1 : w1.heap.size < (w1.alloc (.cells #[.int .i64 fa, .int .i64 fb] 27)).heap.size := by simp
  clear hrow1 hb1 hbl
  go_wp2_with fail
  generalize w1.alloc (.cells #[.int .i64 fa, .int .i64 fb] 27) = W at *
  refine (HR2.out _ H1.out.1).mono ?_
  rintro e w2 ⟨v2, rfl, hrow2, hb2⟩
  obtain ⟨Ab, cb, rfl, hcb, hcbm⟩ := hrow2.form
  have hbl := below_laid w2 (.cells #[.int .i64 ga, .int .i64 gb] 27)
  have hbx := heap_alloc_new w2 (.cells #[.int .i64 ga, .int .i64 gb] 27)
  have hb3 := below_next hb2 hbl
  have hf1 := (hb3.block w1.heap.size hs1).trans H1.out.2
  have y0 := cell_block hf1 0
  have y1 := cell_block hf1 1
  have z0 := cell_block hbx 0
  have z1 := cell_block hbx 1
  simp only [List.getElem?_toArray, List.getElem?_cons_zero, List.getElem?_cons_succ] at y0 y1 z0 z1
  have H2 := hide (below_next H1.out.1 hb3)
  clear hrow2 hb2 hbl hbx hb3 hf1
  go_wp2_with fail
  generalize w2.alloc (.cells #[.int .i64 ga, .int .i64 gb] 27) = W2 at *
  refine (alive_any _).mono ?_
  rintro e w8 ⟨rfl, hb8⟩
  have H8 := hide (below_next H2.out hb8)
  clear hb8
  go_wp2_with fail
  go_ret
  exact ⟨rfl, H8.out⟩

set_option maxHeartbeats 6400000 in
theorem tw2 (A : Option Addr) (n c : Nat) (l : List Lx.T) (A2 : Option Addr) (n2 c2 : Nat) (m : List Lx.T) (w : World) (h : HasT w w.heap.size A n l) (h2 : HasT w w.heap.size A2 n2 m) (hn : n ≤ 1048576) (hn2 : n2 ≤ 1048576)
    (hzl : ∀ t ∈ l, t.text.size ≤ maxLen) (hzm : ∀ t ∈ m, t.text.size ≤ maxLen) (fa fb ga gb : Int) (hva : outV (Tr.read l) = .agg #[.int .i64 fa, .int .i64 fb]) (hvb : outV (Tr.read m) = .agg #[.int .i64 ga, .int .i64 gb]) (g : ¬ 140 < n) (g2 : 140 < n2) :
    Calls Try.prog 5 #[.slice A n c, .slice A2 n2 c2] w fun e w' => e = .returned (.bool true) ∧ Below w.heap.size w w' := by
  have HR1 := hide (fun W (hW : Below w.heap.size w W) => (tread_any n c w.heap.size A l W (h.below hW) hW.size (by omega)))
  have HR2 := hide (fun W (hW : Below w.heap.size w W) => (tread_any n2 c2 w.heap.size A2 m W (h2.below hW) hW.size (by omega)))
  rw [hva] at HR1
  rw [hvb] at HR2
  have HB1 := hide (fun W (hW : Below w.heap.size w W) => big_any n c w.heap.size A l W (h.below hW) (by unfold maxLen; omega) hzl)
  have HB2 := hide (fun W (hW : Below w.heap.size w W) => big_any n2 c2 w.heap.size A2 m W (h2.below hW) (by unfold maxLen; omega) hzm)
  have g1 : ¬ (140 : Int) < n := by omega
  have g3 : (140 : Int) < n2 := by omega
  clear h h2 hzl hzm hva hvb
  go_enter Try.func5, Try.ntmps5
  go_wp2_with fail
  refine (HR1.out _ (Below.refl _ _)).mono ?_
  rintro e w1 ⟨v1, rfl, hrow1, hb1⟩
  obtain ⟨Aa, ca, rfl, hca, hcam⟩ := hrow1.form
  have hbl := below_laid w1 (.cells #[.int .i64 fa, .int .i64 fb] 27)
  have H1 := hide (And.intro (below_next hb1 hbl) (heap_alloc_new w1 (.cells #[.int .i64 fa, .int .i64 fb] 27)))
  have hs1 : w1.heap.size < (w1.alloc (.cells #[.int .i64 fa, .int .i64 fb] 27)).heap.size := by simp
  clear hrow1 hb1 hbl
  go_wp2_with fail
  generalize w1.alloc (.cells #[.int .i64 fa, .int .i64 fb] 27) = W at *
  refine (HR2.out _ H1.out.1).mono ?_
  rintro e w2 ⟨v2, rfl, hrow2, hb2⟩
  obtain ⟨Ab, cb, rfl, hcb, hcbm⟩ := hrow2.form
  have hbl := below_laid w2 (.cells #[.int .i64 ga, .int .i64 gb] 27)
  have hbx := heap_alloc_new w2 (.cells #[.int .i64 ga, .int .i64 gb] 27)
  have hb3 := below_next hb2 hbl
  have hf1 := (hb3.block w1.heap.size hs1).trans H1.out.2
  have y0 := cell_block hf1 0
  have y1 := cell_block hf1 1
  have z0 := cell_block hbx 0
  have z1 := cell_block hbx 1
  simp only [List.getElem?_toArray, List.getElem?_cons_zero, List.getElem?_cons_succ] at y0 y1 z0 z1
  have H2 := hide (below_next H1.out.1 hb3)
  clear hrow2 hb2 hbl hbx hb3 hf1
  go_wp2_with fail
  generalize w2.alloc (.cells #[.int .i64 ga, .int .i64 gb] 27) = W2 at *
  refine (alive_any _).mono ?_
  rintro e w8 ⟨rfl, hb8⟩
  have H8 := hide (below_next H2.out hb8)
  clear hb8
  go_wp2_with fail
  go_ret
  exact ⟨rfl, H8.out⟩

set_option maxHeartbeats 6400000 in
theorem tw3 (A : Option Addr) (n c : Nat) (l : List Lx.T) (A2 : Option Addr) (n2 c2 : Nat) (m : List Lx.T) (w : World) (h : HasT w w.heap.size A n l) (h2 : HasT w w.heap.size A2 n2 m) (hn : n ≤ 1048576) (hn2 : n2 ≤ 1048576)
    (hzl : ∀ t ∈ l, t.text.size ≤ maxLen) (hzm : ∀ t ∈ m, t.text.size ≤ maxLen) (fa fb ga gb : Int) (hva : outV (Tr.read l) = .agg #[.int .i64 fa, .int .i64 fb]) (hvb : outV (Tr.read m) = .agg #[.int .i64 ga, .int .i64 gb]) (g : ¬ 140 < n) (g2 : ¬ 140 < n2) (b1 : Lx.big l = true) :
    Calls Try.prog 5 #[.slice A n c, .slice A2 n2 c2] w fun e w' => e = .returned (.bool true) ∧ Below w.heap.size w w' := by
  have HR1 := hide (fun W (hW : Below w.heap.size w W) => (tread_any n c w.heap.size A l W (h.below hW) hW.size (by omega)))
  have HR2 := hide (fun W (hW : Below w.heap.size w W) => (tread_any n2 c2 w.heap.size A2 m W (h2.below hW) hW.size (by omega)))
  rw [hva] at HR1
  rw [hvb] at HR2
  have HB1 := hide (fun W (hW : Below w.heap.size w W) => big_any n c w.heap.size A l W (h.below hW) (by unfold maxLen; omega) hzl)
  have HB2 := hide (fun W (hW : Below w.heap.size w W) => big_any n2 c2 w.heap.size A2 m W (h2.below hW) (by unfold maxLen; omega) hzm)
  have g1 : ¬ (140 : Int) < n := by omega
  have g3 : ¬ (140 : Int) < n2 := by omega
  rw [b1] at HB1
  clear b1
  clear h h2 hzl hzm hva hvb
  go_enter Try.func5, Try.ntmps5
  go_wp2_with fail
  refine (HR1.out _ (Below.refl _ _)).mono ?_
  rintro e w1 ⟨v1, rfl, hrow1, hb1⟩
  obtain ⟨Aa, ca, rfl, hca, hcam⟩ := hrow1.form
  have hbl := below_laid w1 (.cells #[.int .i64 fa, .int .i64 fb] 27)
  have H1 := hide (And.intro (below_next hb1 hbl) (heap_alloc_new w1 (.cells #[.int .i64 fa, .int .i64 fb] 27)))
  have hs1 : w1.heap.size < (w1.alloc (.cells #[.int .i64 fa, .int .i64 fb] 27)).heap.size := by simp
  clear hrow1 hb1 hbl
  go_wp2_with fail
  generalize w1.alloc (.cells #[.int .i64 fa, .int .i64 fb] 27) = W at *
  refine (HR2.out _ H1.out.1).mono ?_
  rintro e w2 ⟨v2, rfl, hrow2, hb2⟩
  obtain ⟨Ab, cb, rfl, hcb, hcbm⟩ := hrow2.form
  have hbl := below_laid w2 (.cells #[.int .i64 ga, .int .i64 gb] 27)
  have hbx := heap_alloc_new w2 (.cells #[.int .i64 ga, .int .i64 gb] 27)
  have hb3 := below_next hb2 hbl
  have hf1 := (hb3.block w1.heap.size hs1).trans H1.out.2
  have y0 := cell_block hf1 0
  have y1 := cell_block hf1 1
  have z0 := cell_block hbx 0
  have z1 := cell_block hbx 1
  simp only [List.getElem?_toArray, List.getElem?_cons_zero, List.getElem?_cons_succ] at y0 y1 z0 z1
  have H2 := hide (below_next H1.out.1 hb3)
  clear hrow2 hb2 hbl hbx hb3 hf1
  go_wp2_with fail
  generalize w2.alloc (.cells #[.int .i64 ga, .int .i64 gb] 27) = W2 at *
  refine (HB1.out _ H2.out).mono ?_
  rintro e w' ⟨rfl, rfl⟩
  go_wp2_with fail
  refine (alive_any _).mono ?_
  rintro e w8 ⟨rfl, hb8⟩
  have H8 := hide (below_next H2.out hb8)
  clear hb8
  go_wp2_with fail
  go_ret
  exact ⟨rfl, H8.out⟩

set_option maxHeartbeats 6400000 in
theorem tw4 (A : Option Addr) (n c : Nat) (l : List Lx.T) (A2 : Option Addr) (n2 c2 : Nat) (m : List Lx.T) (w : World) (h : HasT w w.heap.size A n l) (h2 : HasT w w.heap.size A2 n2 m) (hn : n ≤ 1048576) (hn2 : n2 ≤ 1048576)
    (hzl : ∀ t ∈ l, t.text.size ≤ maxLen) (hzm : ∀ t ∈ m, t.text.size ≤ maxLen) (fa fb ga gb : Int) (hva : outV (Tr.read l) = .agg #[.int .i64 fa, .int .i64 fb]) (hvb : outV (Tr.read m) = .agg #[.int .i64 ga, .int .i64 gb]) (g : ¬ 140 < n) (g2 : ¬ 140 < n2) (b1 : Lx.big l = false) (b2 : Lx.big m = true) :
    Calls Try.prog 5 #[.slice A n c, .slice A2 n2 c2] w fun e w' => e = .returned (.bool true) ∧ Below w.heap.size w w' := by
  have HR1 := hide (fun W (hW : Below w.heap.size w W) => (tread_any n c w.heap.size A l W (h.below hW) hW.size (by omega)))
  have HR2 := hide (fun W (hW : Below w.heap.size w W) => (tread_any n2 c2 w.heap.size A2 m W (h2.below hW) hW.size (by omega)))
  rw [hva] at HR1
  rw [hvb] at HR2
  have HB1 := hide (fun W (hW : Below w.heap.size w W) => big_any n c w.heap.size A l W (h.below hW) (by unfold maxLen; omega) hzl)
  have HB2 := hide (fun W (hW : Below w.heap.size w W) => big_any n2 c2 w.heap.size A2 m W (h2.below hW) (by unfold maxLen; omega) hzm)
  have g1 : ¬ (140 : Int) < n := by omega
  have g3 : ¬ (140 : Int) < n2 := by omega
  rw [b1] at HB1
  rw [b2] at HB2
  clear b1 b2
  clear h h2 hzl hzm hva hvb
  go_enter Try.func5, Try.ntmps5
  go_wp2_with fail
  refine (HR1.out _ (Below.refl _ _)).mono ?_
  rintro e w1 ⟨v1, rfl, hrow1, hb1⟩
  obtain ⟨Aa, ca, rfl, hca, hcam⟩ := hrow1.form
  have hbl := below_laid w1 (.cells #[.int .i64 fa, .int .i64 fb] 27)
  have H1 := hide (And.intro (below_next hb1 hbl) (heap_alloc_new w1 (.cells #[.int .i64 fa, .int .i64 fb] 27)))
  have hs1 : w1.heap.size < (w1.alloc (.cells #[.int .i64 fa, .int .i64 fb] 27)).heap.size := by simp
  clear hrow1 hb1 hbl
  go_wp2_with fail
  generalize w1.alloc (.cells #[.int .i64 fa, .int .i64 fb] 27) = W at *
  refine (HR2.out _ H1.out.1).mono ?_
  rintro e w2 ⟨v2, rfl, hrow2, hb2⟩
  obtain ⟨Ab, cb, rfl, hcb, hcbm⟩ := hrow2.form
  have hbl := below_laid w2 (.cells #[.int .i64 ga, .int .i64 gb] 27)
  have hbx := heap_alloc_new w2 (.cells #[.int .i64 ga, .int .i64 gb] 27)
  have hb3 := below_next hb2 hbl
  have hf1 := (hb3.block w1.heap.size hs1).trans H1.out.2
  have y0 := cell_block hf1 0
  have y1 := cell_block hf1 1
  have z0 := cell_block hbx 0
  have z1 := cell_block hbx 1
  simp only [List.getElem?_toArray, List.getElem?_cons_zero, List.getElem?_cons_succ] at y0 y1 z0 z1
  have H2 := hide (below_next H1.out.1 hb3)
  clear hrow2 hb2 hbl hbx hb3 hf1
  go_wp2_with fail
  generalize w2.alloc (.cells #[.int .i64 ga, .int .i64 gb] 27) = W2 at *
  refine (HB1.out _ H2.out).mono ?_
  rintro e w' ⟨rfl, rfl⟩
  go_wp2_with fail
  refine (HB2.out _ H2.out).mono ?_
  rintro e w' ⟨rfl, rfl⟩
  go_wp2_with fail
  refine (alive_any _).mono ?_
  rintro e w8 ⟨rfl, hb8⟩
  have H8 := hide (below_next H2.out hb8)
  clear hb8
  go_wp2_with fail
  go_ret
  exact ⟨rfl, H8.out⟩

set_option maxHeartbeats 6400000 in
theorem tw5 (A : Option Addr) (n c : Nat) (l : List Lx.T) (A2 : Option Addr) (n2 c2 : Nat) (m : List Lx.T) (w : World) (h : HasT w w.heap.size A n l) (h2 : HasT w w.heap.size A2 n2 m) (hn : n ≤ 1048576) (hn2 : n2 ≤ 1048576)
    (hzl : ∀ t ∈ l, t.text.size ≤ maxLen) (hzm : ∀ t ∈ m, t.text.size ≤ maxLen) (fa fb ga gb : Int) (hva : outV (Tr.read l) = .agg #[.int .i64 2, .int .i64 fb]) (hvb : outV (Tr.read m) = .agg #[.int .i64 ga, .int .i64 gb]) (g : ¬ 140 < n) (g2 : ¬ 140 < n2) (b1 : Lx.big l = false) (b2 : Lx.big m = false) :
    Calls Try.prog 5 #[.slice A n c, .slice A2 n2 c2] w fun e w' => e = .returned (.bool true) ∧ Below w.heap.size w w' := by
  have HR1 := hide (fun W (hW : Below w.heap.size w W) => (tread_any n c w.heap.size A l W (h.below hW) hW.size (by omega)))
  have HR2 := hide (fun W (hW : Below w.heap.size w W) => (tread_any n2 c2 w.heap.size A2 m W (h2.below hW) hW.size (by omega)))
  rw [hva] at HR1
  rw [hvb] at HR2
  have HB1 := hide (fun W (hW : Below w.heap.size w W) => big_any n c w.heap.size A l W (h.below hW) (by unfold maxLen; omega) hzl)
  have HB2 := hide (fun W (hW : Below w.heap.size w W) => big_any n2 c2 w.heap.size A2 m W (h2.below hW) (by unfold maxLen; omega) hzm)
  have g1 : ¬ (140 : Int) < n := by omega
  have g3 : ¬ (140 : Int) < n2 := by omega
  rw [b1] at HB1
  rw [b2] at HB2
  clear b1 b2
  clear h h2 hzl hzm hva hvb
  go_enter Try.func5, Try.ntmps5
  go_wp2_with fail
  refine (HR1.out _ (Below.refl _ _)).mono ?_
  rintro e w1 ⟨v1, rfl, hrow1, hb1⟩
  obtain ⟨Aa, ca, rfl, hca, hcam⟩ := hrow1.form
  have hbl := below_laid w1 (.cells #[.int .i64 2, .int .i64 fb] 27)
  have H1 := hide (And.intro (below_next hb1 hbl) (heap_alloc_new w1 (.cells #[.int .i64 2, .int .i64 fb] 27)))
  have hs1 : w1.heap.size < (w1.alloc (.cells #[.int .i64 2, .int .i64 fb] 27)).heap.size := by simp
  clear hrow1 hb1 hbl
  go_wp2_with fail
  generalize w1.alloc (.cells #[.int .i64 2, .int .i64 fb] 27) = W at *
  refine (HR2.out _ H1.out.1).mono ?_
  rintro e w2 ⟨v2, rfl, hrow2, hb2⟩
  obtain ⟨Ab, cb, rfl, hcb, hcbm⟩ := hrow2.form
  have hbl := below_laid w2 (.cells #[.int .i64 ga, .int .i64 gb] 27)
  have hbx := heap_alloc_new w2 (.cells #[.int .i64 ga, .int .i64 gb] 27)
  have hb3 := below_next hb2 hbl
  have hf1 := (hb3.block w1.heap.size hs1).trans H1.out.2
  have y0 := cell_block hf1 0
  have y1 := cell_block hf1 1
  have z0 := cell_block hbx 0
  have z1 := cell_block hbx 1
  simp only [List.getElem?_toArray, List.getElem?_cons_zero, List.getElem?_cons_succ] at y0 y1 z0 z1
  have H2 := hide (below_next H1.out.1 hb3)
  clear hrow2 hb2 hbl hbx hb3 hf1
  go_wp2_with fail
  generalize w2.alloc (.cells #[.int .i64 ga, .int .i64 gb] 27) = W2 at *
  refine (HB1.out _ H2.out).mono ?_
  rintro e w' ⟨rfl, rfl⟩
  go_wp2_with fail
  refine (HB2.out _ H2.out).mono ?_
  rintro e w' ⟨rfl, rfl⟩
  go_wp2_with fail
  refine (alive_any _).mono ?_
  rintro e w8 ⟨rfl, hb8⟩
  have H8 := hide (below_next H2.out hb8)
  clear hb8
  go_wp2_with fail
  go_ret
  exact ⟨rfl, H8.out⟩

set_option maxHeartbeats 6400000 in
theorem tw6 (A : Option Addr) (n c : Nat) (l : List Lx.T) (A2 : Option Addr) (n2 c2 : Nat) (m : List Lx.T) (w : World) (h : HasT w w.heap.size A n l) (h2 : HasT w w.heap.size A2 n2 m) (hn : n ≤ 1048576) (hn2 : n2 ≤ 1048576)
    (hzl : ∀ t ∈ l, t.text.size ≤ maxLen) (hzm : ∀ t ∈ m, t.text.size ≤ maxLen) (fa fb ga gb : Int) (hva : outV (Tr.read l) = .agg #[.int .i64 0, .int .i64 0]) (hvb : outV (Tr.read m) = .agg #[.int .i64 2, .int .i64 gb]) (g : ¬ 140 < n) (g2 : ¬ 140 < n2) (b1 : Lx.big l = false) (b2 : Lx.big m = false) :
    Calls Try.prog 5 #[.slice A n c, .slice A2 n2 c2] w fun e w' => e = .returned (.bool true) ∧ Below w.heap.size w w' := by
  have HR1 := hide (fun W (hW : Below w.heap.size w W) => (tread_any n c w.heap.size A l W (h.below hW) hW.size (by omega)))
  have HR2 := hide (fun W (hW : Below w.heap.size w W) => (tread_any n2 c2 w.heap.size A2 m W (h2.below hW) hW.size (by omega)))
  rw [hva] at HR1
  rw [hvb] at HR2
  have HB1 := hide (fun W (hW : Below w.heap.size w W) => big_any n c w.heap.size A l W (h.below hW) (by unfold maxLen; omega) hzl)
  have HB2 := hide (fun W (hW : Below w.heap.size w W) => big_any n2 c2 w.heap.size A2 m W (h2.below hW) (by unfold maxLen; omega) hzm)
  have g1 : ¬ (140 : Int) < n := by omega
  have g3 : ¬ (140 : Int) < n2 := by omega
  rw [b1] at HB1
  rw [b2] at HB2
  clear b1 b2
  clear h h2 hzl hzm hva hvb
  go_enter Try.func5, Try.ntmps5
  go_wp2_with fail
  refine (HR1.out _ (Below.refl _ _)).mono ?_
  rintro e w1 ⟨v1, rfl, hrow1, hb1⟩
  obtain ⟨Aa, ca, rfl, hca, hcam⟩ := hrow1.form
  have hbl := below_laid w1 (.cells #[.int .i64 0, .int .i64 0] 27)
  have H1 := hide (And.intro (below_next hb1 hbl) (heap_alloc_new w1 (.cells #[.int .i64 0, .int .i64 0] 27)))
  have hs1 : w1.heap.size < (w1.alloc (.cells #[.int .i64 0, .int .i64 0] 27)).heap.size := by simp
  clear hrow1 hb1 hbl
  go_wp2_with fail
  generalize w1.alloc (.cells #[.int .i64 0, .int .i64 0] 27) = W at *
  refine (HR2.out _ H1.out.1).mono ?_
  rintro e w2 ⟨v2, rfl, hrow2, hb2⟩
  obtain ⟨Ab, cb, rfl, hcb, hcbm⟩ := hrow2.form
  have hbl := below_laid w2 (.cells #[.int .i64 2, .int .i64 gb] 27)
  have hbx := heap_alloc_new w2 (.cells #[.int .i64 2, .int .i64 gb] 27)
  have hb3 := below_next hb2 hbl
  have hf1 := (hb3.block w1.heap.size hs1).trans H1.out.2
  have y0 := cell_block hf1 0
  have y1 := cell_block hf1 1
  have z0 := cell_block hbx 0
  have z1 := cell_block hbx 1
  simp only [List.getElem?_toArray, List.getElem?_cons_zero, List.getElem?_cons_succ] at y0 y1 z0 z1
  have H2 := hide (below_next H1.out.1 hb3)
  clear hrow2 hb2 hbl hbx hb3 hf1
  go_wp2_with fail
  generalize w2.alloc (.cells #[.int .i64 2, .int .i64 gb] 27) = W2 at *
  refine (HB1.out _ H2.out).mono ?_
  rintro e w' ⟨rfl, rfl⟩
  go_wp2_with fail
  refine (HB2.out _ H2.out).mono ?_
  rintro e w' ⟨rfl, rfl⟩
  go_wp2_with fail
  refine (alive_any _).mono ?_
  rintro e w8 ⟨rfl, hb8⟩
  have H8 := hide (below_next H2.out hb8)
  clear hb8
  go_wp2_with fail
  go_ret
  exact ⟨rfl, H8.out⟩

theorem treeWraps_any (A : Option Addr) (n c : Nat) (l : List Lx.T) (A2 : Option Addr) (n2 c2 : Nat) (m : List Lx.T) (w : World) (h : HasT w w.heap.size A n l) (hn : n ≤ c) (hc : c ≤ maxLen) (hz : ∀ t ∈ l, Lx.Fit t) (hs : n ≤ 1048576)
    (h2 : HasT w w.heap.size A2 n2 m) (hn2 : n2 ≤ c2) (hc2 : c2 ≤ maxLen) (hz2 : ∀ t ∈ m, Lx.Fit t) (hs2 : n2 ≤ 1048576) :
    Calls Try.prog 5 #[.slice A n c, .slice A2 n2 c2] w fun e w' => e = .returned (.bool true) ∧ Below w.heap.size w w' := by
  have hzl : ∀ t ∈ l, t.text.size ≤ maxLen := fun t ht => (hz t ht).2.1
  have hzm : ∀ t ∈ m, t.text.size ≤ maxLen := fun t ht => (hz2 t ht).2.1
  obtain ⟨fa, fb, hva⟩ := outV_form (Tr.read l)
  obtain ⟨ga, gb, hvb⟩ := outV_form (Tr.read m)
  by_cases g : 140 < n
  · exact tw1 A n c l A2 n2 c2 m w h h2 hs hs2 hzl hzm fa fb ga gb hva hvb g
  by_cases g2 : 140 < n2
  · exact tw2 A n c l A2 n2 c2 m w h h2 hs hs2 hzl hzm fa fb ga gb hva hvb g g2
  cases b1 : Lx.big l
  · cases b2 : Lx.big m
    · cases hra : Tr.read l with
      | bad p =>
        exact tw5 A n c l A2 n2 c2 m w h h2 hs hs2 hzl hzm 2 p ga gb (by rw [hra]; rfl) hvb g g2 b1 b2
      | good a =>
        cases hrb : Tr.read m with
        | bad p =>
          exact tw6 A n c l A2 n2 c2 m w h h2 hs hs2 hzl hzm 0 0 2 p (by rw [hra]; rfl) (by rw [hrb]; rfl) g g2 b1 b2
        | good b =>
          by_cases hd : 24 ≤ Tr.depth a
          · obtain ⟨p, hp⟩ := Tr.read_wrap_over (o := tkO) (e := tkE) rfl hra hd
            exact treeWraps_core A n c l A2 n2 c2 m w a b .nil 2 p h h2 (by omega) (by omega) b1 b2 hra hrb hzl hzm (by rw [hp]; rfl) (by rw [hp]; rfl) (.inl ⟨hd, rfl, rfl⟩)
          · have hp := Tr.read_wrap (o := tkO) (e := tkE) rfl rfl hra (by omega)
            exact treeWraps_core A n c l A2 n2 c2 m w a b (.cons tkO a 7 .nil) 0 0 h h2 (by omega) (by omega) b1 b2 hra hrb hzl hzm (by rw [hp]; rfl) (by rw [hp]; rfl) (.inr ⟨by omega, rfl, rfl, rfl⟩)
    · exact tw4 A n c l A2 n2 c2 m w h h2 hs hs2 hzl hzm fa fb ga gb hva hvb g g2 b1 b2
  · exact tw3 A n c l A2 n2 c2 m w h h2 hs hs2 hzl hzm fa fb ga gb hva hvb g g2 b1
end Go.Proofs.Ytokfcnjmgnmncaa
