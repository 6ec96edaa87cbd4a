/- Texts put together: RgRight2 RwSem. -/
import Derived.Test.YthnbhcfpfbimgaaGreatMl22
import Derived.Test.YthnbhcfpfbimgaaGreatMl12
/- The walks of chapter 15's Right, chapter 19's Right. (Printed by rgright2.py.) -/
namespace Go.Proofs.YthnbhcfpfbimgaaGreat
open Go.RowKit
open Rw (El At Fld)
set_option maxRecDepth 100000 in
set_option maxHeartbeats 4000000 in
theorem right15_lacks (B : Nat) (vl vv vc va vb : Value) (n : Nat) (l : List Vr) (x : As) (w : World) (h : Lats w B vl n) (h2 : Vars w B vv l) (h3 : AsAt w B x vc va vb) (hB : B ≤ w.heap.size) (hop : x.op = 10) : Calls Tryz.prog 22 #[.agg #[vl, vv], .agg #[.int .i64 x.op, .int .i64 x.lat, vc, .int .i64 x.to_.var, .int .u64 x.to_.el.e0, .int .u64 x.to_.el.e1, .int .u64 x.to_.el.e2, .int .u64 x.to_.el.e3, .int .u64 x.to_.el.e4, .int .u64 x.to_.el.e5, .int .u64 x.to_.el.e6, .int .u64 x.to_.el.e7, va, .int .i64 x.a.tail, vb, .int .i64 x.b.tail, .int .i64 x.var, .string x.field]] w fun e w' => RIf (AOk l.length x) e ∧ Below w.heap.size w w' := by
  obtain ⟨A, c, rfl, hnc, hcm⟩ := h.form
  obtain ⟨A2, c2, rfl, hnc2, hcm2⟩ := h2.form
  obtain ⟨Ac, cc, rfl, _, _⟩ := SlAt.form h3.code
  obtain ⟨Aa, ca, rfl, _, _⟩ := SlAt.form h3.fa
  obtain ⟨Ab, cb, rfl, _, _⟩ := SlAt.form h3.fb
  have hl9 : (n : Int) ≤ 9223372036854775807 := by unfold maxLen at hcm; omega
  have HT := hide ((ScW.new h h2 hB).step (below_laid _ (.cells #[.int .i64 x.op, .int .i64 x.lat, (.slice Ac x.code.length cc), .int .i64 x.to_.var, .int .u64 x.to_.el.e0, .int .u64 x.to_.el.e1, .int .u64 x.to_.el.e2, .int .u64 x.to_.el.e3, .int .u64 x.to_.el.e4, .int .u64 x.to_.el.e5, .int .u64 x.to_.el.e6, .int .u64 x.to_.el.e7, (.slice Aa x.a.fields.length ca), .int .i64 x.a.tail, (.slice Ab x.b.fields.length cb), .int .i64 x.b.tail, .int .i64 x.var, .string x.field] 71)))
  have HA := hide (heap_two w (.cells #[.slice A n c, .slice A2 l.length c2] 25) (.cells #[.int .i64 x.op, .int .i64 x.lat, (.slice Ac x.code.length cc), .int .i64 x.to_.var, .int .u64 x.to_.el.e0, .int .u64 x.to_.el.e1, .int .u64 x.to_.el.e2, .int .u64 x.to_.el.e3, .int .u64 x.to_.el.e4, .int .u64 x.to_.el.e5, .int .u64 x.to_.el.e6, .int .u64 x.to_.el.e7, (.slice Aa x.a.fields.length ca), .int .i64 x.a.tail, (.slice Ab x.b.fields.length cb), .int .i64 x.b.tail, .int .i64 x.var, .string x.field] 71))
  have HX := hide ((h3.mono hB).below HT.out.below)
  have k0 : ((w.alloc (.cells #[.slice A n c, .slice A2 l.length c2] 25)).alloc (.cells #[.int .i64 x.op, .int .i64 x.lat, (.slice Ac x.code.length cc), .int .i64 x.to_.var, .int .u64 x.to_.el.e0, .int .u64 x.to_.el.e1, .int .u64 x.to_.el.e2, .int .u64 x.to_.el.e3, .int .u64 x.to_.el.e4, .int .u64 x.to_.el.e5, .int .u64 x.to_.el.e6, .int .u64 x.to_.el.e7, (.slice Aa x.a.fields.length ca), .int .i64 x.a.tail, (.slice Ab x.b.fields.length cb), .int .i64 x.b.tail, .int .i64 x.var, .string x.field] 71)).cell? ⟨w.heap.size + 1, 0, none⟩ = some (.int .i64 x.op) := by rw [cell_block HA.out]; rfl
  have k1 : ((w.alloc (.cells #[.slice A n c, .slice A2 l.length c2] 25)).alloc (.cells #[.int .i64 x.op, .int .i64 x.lat, (.slice Ac x.code.length cc), .int .i64 x.to_.var, .int .u64 x.to_.el.e0, .int .u64 x.to_.el.e1, .int .u64 x.to_.el.e2, .int .u64 x.to_.el.e3, .int .u64 x.to_.el.e4, .int .u64 x.to_.el.e5, .int .u64 x.to_.el.e6, .int .u64 x.to_.el.e7, (.slice Aa x.a.fields.length ca), .int .i64 x.a.tail, (.slice Ab x.b.fields.length cb), .int .i64 x.b.tail, .int .i64 x.var, .string x.field] 71)).cell? ⟨w.heap.size + 1, 1, none⟩ = some (.int .i64 x.lat) := by rw [cell_block HA.out]; rfl
  have k16 : ((w.alloc (.cells #[.slice A n c, .slice A2 l.length c2] 25)).alloc (.cells #[.int .i64 x.op, .int .i64 x.lat, (.slice Ac x.code.length cc), .int .i64 x.to_.var, .int .u64 x.to_.el.e0, .int .u64 x.to_.el.e1, .int .u64 x.to_.el.e2, .int .u64 x.to_.el.e3, .int .u64 x.to_.el.e4, .int .u64 x.to_.el.e5, .int .u64 x.to_.el.e6, .int .u64 x.to_.el.e7, (.slice Aa x.a.fields.length ca), .int .i64 x.a.tail, (.slice Ab x.b.fields.length cb), .int .i64 x.b.tail, .int .i64 x.var, .string x.field] 71)).cell? ⟨w.heap.size + 1, 16, none⟩ = some (.int .i64 x.var) := by rw [cell_block HA.out]; rfl
  have k17 : ((w.alloc (.cells #[.slice A n c, .slice A2 l.length c2] 25)).alloc (.cells #[.int .i64 x.op, .int .i64 x.lat, (.slice Ac x.code.length cc), .int .i64 x.to_.var, .int .u64 x.to_.el.e0, .int .u64 x.to_.el.e1, .int .u64 x.to_.el.e2, .int .u64 x.to_.el.e3, .int .u64 x.to_.el.e4, .int .u64 x.to_.el.e5, .int .u64 x.to_.el.e6, .int .u64 x.to_.el.e7, (.slice Aa x.a.fields.length ca), .int .i64 x.a.tail, (.slice Ab x.b.fields.length cb), .int .i64 x.b.tail, .int .i64 x.var, .string x.field] 71)).cell? ⟨w.heap.size + 1, 17, none⟩ = some (.string x.field) := by rw [cell_block HA.out]; rfl
  have q0 := HT.out.c0
  have q1 := HT.out.c1
  clear h h2 h3 hnc hcm hnc2 hcm2 HA
  have HOP := hide hop
  clear hop
  go_enter Tryz.func22, Tryz.ntmps22
  go_upto_region 1 with fail
  generalize (w.alloc (Obj.cells _ 25)).alloc (Obj.cells _ 71) = w0 at *
  rw [HOP.out] at k0
  have HK := hide (kind_any w.heap.size _ _ n l x.var 2 x.lat w0 HT.out.lats HT.out.vars HT.out.below.size)
  have HSF := hide HX.out.sf
  have HKB : Hid (kindB l x.var 2 x.lat = true → AOk l.length x) := hide fun h => ⟨fun _ => kindB_lt h, fun h9 => by rw [HOP.out] at h9; omega, .inr (.inr HOP.out)⟩
  generalize kindB l x.var 2 x.lat = r at *
  have HR := hide (fun wq => rightR_any x.field wq HSF.out)
  generalize Nm.right x.field = rr at *
  cases r
  · go_wp2_with (go_at_call 40; refine HK.out.mono ?_; rintro e w1 ⟨rfl, hb1⟩; have H1 : Hid (Kpt w0 w1) := hide ⟨hb1⟩; clear hb1)
    go_ret
    exact ⟨⟨_, rfl, fun h => by cases h⟩, (HT.out.step H1.out.below).below⟩
  · go_wp2_with (first | (go_at_call 40; refine HK.out.mono ?_; rintro e w1 ⟨rfl, hb1⟩; have H1 : Hid (Kpt w0 w1) := hide ⟨hb1⟩; have k17 := H1.out.cell k17; clear hb1) | (go_at_call 38; refine (HR.out w1).mono ?_; rintro e w2 ⟨rfl, rfl⟩))
    go_ret
    exact ⟨⟨_, rfl, fun _ => HKB.out (by trivial)⟩, (HT.out.step H1.out.below).below⟩
set_option maxRecDepth 100000 in
set_option maxHeartbeats 4000000 in
theorem right15_none (B : Nat) (vl vv vc va vb : Value) (n : Nat) (l : List Vr) (x : As) (w : World) (h : Lats w B vl n) (h2 : Vars w B vv l) (h3 : AsAt w B x vc va vb) (hB : B ≤ w.heap.size) (hop : x.op ≠ 10) (hlat : x.lat < 0 ∨ (n : Int) ≤ x.lat ∨ (x.op ≠ 8 ∧ x.op ≠ 9)) : Calls Tryz.prog 22 #[.agg #[vl, vv], .agg #[.int .i64 x.op, .int .i64 x.lat, vc, .int .i64 x.to_.var, .int .u64 x.to_.el.e0, .int .u64 x.to_.el.e1, .int .u64 x.to_.el.e2, .int .u64 x.to_.el.e3, .int .u64 x.to_.el.e4, .int .u64 x.to_.el.e5, .int .u64 x.to_.el.e6, .int .u64 x.to_.el.e7, va, .int .i64 x.a.tail, vb, .int .i64 x.b.tail, .int .i64 x.var, .string x.field]] w fun e w' => RIf (AOk l.length x) e ∧ Below w.heap.size w w' := by
  obtain ⟨A, c, rfl, hnc, hcm⟩ := h.form
  obtain ⟨A2, c2, rfl, hnc2, hcm2⟩ := h2.form
  obtain ⟨Ac, cc, rfl, _, _⟩ := SlAt.form h3.code
  obtain ⟨Aa, ca, rfl, _, _⟩ := SlAt.form h3.fa
  obtain ⟨Ab, cb, rfl, _, _⟩ := SlAt.form h3.fb
  have hl9 : (n : Int) ≤ 9223372036854775807 := by unfold maxLen at hcm; omega
  have HT := hide ((ScW.new h h2 hB).step (below_laid _ (.cells #[.int .i64 x.op, .int .i64 x.lat, (.slice Ac x.code.length cc), .int .i64 x.to_.var, .int .u64 x.to_.el.e0, .int .u64 x.to_.el.e1, .int .u64 x.to_.el.e2, .int .u64 x.to_.el.e3, .int .u64 x.to_.el.e4, .int .u64 x.to_.el.e5, .int .u64 x.to_.el.e6, .int .u64 x.to_.el.e7, (.slice Aa x.a.fields.length ca), .int .i64 x.a.tail, (.slice Ab x.b.fields.length cb), .int .i64 x.b.tail, .int .i64 x.var, .string x.field] 71)))
  have HA := hide (heap_two w (.cells #[.slice A n c, .slice A2 l.length c2] 25) (.cells #[.int .i64 x.op, .int .i64 x.lat, (.slice Ac x.code.length cc), .int .i64 x.to_.var, .int .u64 x.to_.el.e0, .int .u64 x.to_.el.e1, .int .u64 x.to_.el.e2, .int .u64 x.to_.el.e3, .int .u64 x.to_.el.e4, .int .u64 x.to_.el.e5, .int .u64 x.to_.el.e6, .int .u64 x.to_.el.e7, (.slice Aa x.a.fields.length ca), .int .i64 x.a.tail, (.slice Ab x.b.fields.length cb), .int .i64 x.b.tail, .int .i64 x.var, .string x.field] 71))
  have HX := hide ((h3.mono hB).below HT.out.below)
  have k0 : ((w.alloc (.cells #[.slice A n c, .slice A2 l.length c2] 25)).alloc (.cells #[.int .i64 x.op, .int .i64 x.lat, (.slice Ac x.code.length cc), .int .i64 x.to_.var, .int .u64 x.to_.el.e0, .int .u64 x.to_.el.e1, .int .u64 x.to_.el.e2, .int .u64 x.to_.el.e3, .int .u64 x.to_.el.e4, .int .u64 x.to_.el.e5, .int .u64 x.to_.el.e6, .int .u64 x.to_.el.e7, (.slice Aa x.a.fields.length ca), .int .i64 x.a.tail, (.slice Ab x.b.fields.length cb), .int .i64 x.b.tail, .int .i64 x.var, .string x.field] 71)).cell? ⟨w.heap.size + 1, 0, none⟩ = some (.int .i64 x.op) := by rw [cell_block HA.out]; rfl
  have k1 : ((w.alloc (.cells #[.slice A n c, .slice A2 l.length c2] 25)).alloc (.cells #[.int .i64 x.op, .int .i64 x.lat, (.slice Ac x.code.length cc), .int .i64 x.to_.var, .int .u64 x.to_.el.e0, .int .u64 x.to_.el.e1, .int .u64 x.to_.el.e2, .int .u64 x.to_.el.e3, .int .u64 x.to_.el.e4, .int .u64 x.to_.el.e5, .int .u64 x.to_.el.e6, .int .u64 x.to_.el.e7, (.slice Aa x.a.fields.length ca), .int .i64 x.a.tail, (.slice Ab x.b.fields.length cb), .int .i64 x.b.tail, .int .i64 x.var, .string x.field] 71)).cell? ⟨w.heap.size + 1, 1, none⟩ = some (.int .i64 x.lat) := by rw [cell_block HA.out]; rfl
  have q0 := HT.out.c0
  have q1 := HT.out.c1
  clear h h2 h3 hnc hcm hnc2 hcm2 HA
  go_enter Tryz.func22, Tryz.ntmps22
  go_upto_region 1 with fail
  generalize (w.alloc (Obj.cells _ 25)).alloc (Obj.cells _ 71) = w0 at *
  have b1 : (x.op == 10) = false := by simpa using hop
  by_cases h0 : x.lat < 0
  · have d1 : decide (x.lat < 0) = true := decide_eq_true h0
    go_wp2_with fail
    go_ret
    exact ⟨⟨_, rfl, fun h => by cases h⟩, HT.out.below⟩
  have d1 : decide (x.lat < 0) = false := decide_eq_false h0
  by_cases h1 : (n : Int) ≤ x.lat
  · have d2 : decide ((n : Int) ≤ x.lat) = true := decide_eq_true h1
    go_wp2_with fail
    go_ret
    exact ⟨⟨_, rfl, fun h => by cases h⟩, HT.out.below⟩
  have d2 : decide ((n : Int) ≤ x.lat) = false := decide_eq_false h1
  have h89 : x.op ≠ 8 ∧ x.op ≠ 9 := by
    rcases hlat with h | h | h
    · exact absurd h h0
    · exact absurd h h1
    · exact h
  have b2 : (x.op == 9) = false := by simpa using h89.2
  have b3 : (x.op != 8) = true := by simpa using h89.1
  clear hlat h89 hop h0 h1
  go_wp2_with fail
  go_ret
  exact ⟨⟨_, rfl, fun h => by cases h⟩, HT.out.below⟩
set_option maxRecDepth 100000 in
set_option maxHeartbeats 4000000 in
theorem right15_rows (B : Nat) (vl vv vc va vb : Value) (n : Nat) (l : List Vr) (x : As) (w : World) (h : Lats w B vl n) (h2 : Vars w B vv l) (h3 : AsAt w B x vc va vb) (hB : B ≤ w.heap.size) (t : Nat) (ht : t < n) (hlat : x.lat = (t : Nat)) (hop : x.op = 9) : Calls Tryz.prog 22 #[.agg #[vl, vv], .agg #[.int .i64 x.op, .int .i64 x.lat, vc, .int .i64 x.to_.var, .int .u64 x.to_.el.e0, .int .u64 x.to_.el.e1, .int .u64 x.to_.el.e2, .int .u64 x.to_.el.e3, .int .u64 x.to_.el.e4, .int .u64 x.to_.el.e5, .int .u64 x.to_.el.e6, .int .u64 x.to_.el.e7, va, .int .i64 x.a.tail, vb, .int .i64 x.b.tail, .int .i64 x.var, .string x.field]] w fun e w' => RIf (AOk l.length x) e ∧ Below w.heap.size w w' := by
  obtain ⟨A, c, rfl, hnc, hcm⟩ := h.form
  obtain ⟨A2, c2, rfl, hnc2, hcm2⟩ := h2.form
  obtain ⟨Ac, cc, rfl, _, _⟩ := SlAt.form h3.code
  obtain ⟨Aa, ca, rfl, _, _⟩ := SlAt.form h3.fa
  obtain ⟨Ab, cb, rfl, _, _⟩ := SlAt.form h3.fb
  have hl9 : (n : Int) ≤ 9223372036854775807 := by unfold maxLen at hcm; omega
  have HT := hide ((ScW.new h h2 hB).step (below_laid _ (.cells #[.int .i64 x.op, .int .i64 x.lat, (.slice Ac x.code.length cc), .int .i64 x.to_.var, .int .u64 x.to_.el.e0, .int .u64 x.to_.el.e1, .int .u64 x.to_.el.e2, .int .u64 x.to_.el.e3, .int .u64 x.to_.el.e4, .int .u64 x.to_.el.e5, .int .u64 x.to_.el.e6, .int .u64 x.to_.el.e7, (.slice Aa x.a.fields.length ca), .int .i64 x.a.tail, (.slice Ab x.b.fields.length cb), .int .i64 x.b.tail, .int .i64 x.var, .string x.field] 71)))
  have HA := hide (heap_two w (.cells #[.slice A n c, .slice A2 l.length c2] 25) (.cells #[.int .i64 x.op, .int .i64 x.lat, (.slice Ac x.code.length cc), .int .i64 x.to_.var, .int .u64 x.to_.el.e0, .int .u64 x.to_.el.e1, .int .u64 x.to_.el.e2, .int .u64 x.to_.el.e3, .int .u64 x.to_.el.e4, .int .u64 x.to_.el.e5, .int .u64 x.to_.el.e6, .int .u64 x.to_.el.e7, (.slice Aa x.a.fields.length ca), .int .i64 x.a.tail, (.slice Ab x.b.fields.length cb), .int .i64 x.b.tail, .int .i64 x.var, .string x.field] 71))
  have HX := hide ((h3.mono hB).below HT.out.below)
  have k0 : ((w.alloc (.cells #[.slice A n c, .slice A2 l.length c2] 25)).alloc (.cells #[.int .i64 x.op, .int .i64 x.lat, (.slice Ac x.code.length cc), .int .i64 x.to_.var, .int .u64 x.to_.el.e0, .int .u64 x.to_.el.e1, .int .u64 x.to_.el.e2, .int .u64 x.to_.el.e3, .int .u64 x.to_.el.e4, .int .u64 x.to_.el.e5, .int .u64 x.to_.el.e6, .int .u64 x.to_.el.e7, (.slice Aa x.a.fields.length ca), .int .i64 x.a.tail, (.slice Ab x.b.fields.length cb), .int .i64 x.b.tail, .int .i64 x.var, .string x.field] 71)).cell? ⟨w.heap.size + 1, 0, none⟩ = some (.int .i64 x.op) := by rw [cell_block HA.out]; rfl
  have k1 : ((w.alloc (.cells #[.slice A n c, .slice A2 l.length c2] 25)).alloc (.cells #[.int .i64 x.op, .int .i64 x.lat, (.slice Ac x.code.length cc), .int .i64 x.to_.var, .int .u64 x.to_.el.e0, .int .u64 x.to_.el.e1, .int .u64 x.to_.el.e2, .int .u64 x.to_.el.e3, .int .u64 x.to_.el.e4, .int .u64 x.to_.el.e5, .int .u64 x.to_.el.e6, .int .u64 x.to_.el.e7, (.slice Aa x.a.fields.length ca), .int .i64 x.a.tail, (.slice Ab x.b.fields.length cb), .int .i64 x.b.tail, .int .i64 x.var, .string x.field] 71)).cell? ⟨w.heap.size + 1, 1, none⟩ = some (.int .i64 x.lat) := by rw [cell_block HA.out]; rfl
  have k12 : ((w.alloc (.cells #[.slice A n c, .slice A2 l.length c2] 25)).alloc (.cells #[.int .i64 x.op, .int .i64 x.lat, (.slice Ac x.code.length cc), .int .i64 x.to_.var, .int .u64 x.to_.el.e0, .int .u64 x.to_.el.e1, .int .u64 x.to_.el.e2, .int .u64 x.to_.el.e3, .int .u64 x.to_.el.e4, .int .u64 x.to_.el.e5, .int .u64 x.to_.el.e6, .int .u64 x.to_.el.e7, (.slice Aa x.a.fields.length ca), .int .i64 x.a.tail, (.slice Ab x.b.fields.length cb), .int .i64 x.b.tail, .int .i64 x.var, .string x.field] 71)).cell? ⟨w.heap.size + 1, 12, none⟩ = some (.slice Aa x.a.fields.length ca) := by rw [cell_block HA.out]; rfl
  have k13 : ((w.alloc (.cells #[.slice A n c, .slice A2 l.length c2] 25)).alloc (.cells #[.int .i64 x.op, .int .i64 x.lat, (.slice Ac x.code.length cc), .int .i64 x.to_.var, .int .u64 x.to_.el.e0, .int .u64 x.to_.el.e1, .int .u64 x.to_.el.e2, .int .u64 x.to_.el.e3, .int .u64 x.to_.el.e4, .int .u64 x.to_.el.e5, .int .u64 x.to_.el.e6, .int .u64 x.to_.el.e7, (.slice Aa x.a.fields.length ca), .int .i64 x.a.tail, (.slice Ab x.b.fields.length cb), .int .i64 x.b.tail, .int .i64 x.var, .string x.field] 71)).cell? ⟨w.heap.size + 1, 13, none⟩ = some (.int .i64 x.a.tail) := by rw [cell_block HA.out]; rfl
  have k14 : ((w.alloc (.cells #[.slice A n c, .slice A2 l.length c2] 25)).alloc (.cells #[.int .i64 x.op, .int .i64 x.lat, (.slice Ac x.code.length cc), .int .i64 x.to_.var, .int .u64 x.to_.el.e0, .int .u64 x.to_.el.e1, .int .u64 x.to_.el.e2, .int .u64 x.to_.el.e3, .int .u64 x.to_.el.e4, .int .u64 x.to_.el.e5, .int .u64 x.to_.el.e6, .int .u64 x.to_.el.e7, (.slice Aa x.a.fields.length ca), .int .i64 x.a.tail, (.slice Ab x.b.fields.length cb), .int .i64 x.b.tail, .int .i64 x.var, .string x.field] 71)).cell? ⟨w.heap.size + 1, 14, none⟩ = some (.slice Ab x.b.fields.length cb) := by rw [cell_block HA.out]; rfl
  have k15 : ((w.alloc (.cells #[.slice A n c, .slice A2 l.length c2] 25)).alloc (.cells #[.int .i64 x.op, .int .i64 x.lat, (.slice Ac x.code.length cc), .int .i64 x.to_.var, .int .u64 x.to_.el.e0, .int .u64 x.to_.el.e1, .int .u64 x.to_.el.e2, .int .u64 x.to_.el.e3, .int .u64 x.to_.el.e4, .int .u64 x.to_.el.e5, .int .u64 x.to_.el.e6, .int .u64 x.to_.el.e7, (.slice Aa x.a.fields.length ca), .int .i64 x.a.tail, (.slice Ab x.b.fields.length cb), .int .i64 x.b.tail, .int .i64 x.var, .string x.field] 71)).cell? ⟨w.heap.size + 1, 15, none⟩ = some (.int .i64 x.b.tail) := by rw [cell_block HA.out]; rfl
  have q0 := HT.out.c0
  have q1 := HT.out.c1
  clear h h2 h3 hnc hcm hnc2 hcm2 HA
  have HOP := hide hop
  have HLAT := hide hlat
  clear hop hlat
  go_enter Tryz.func22, Tryz.ntmps22
  go_upto_region 1 with fail
  generalize (w.alloc (Obj.cells _ 25)).alloc (Obj.cells _ 71) = w0 at *
  rw [HOP.out] at k0
  rw [HLAT.out] at k1
  have t0 : (t : Int) < n := by omega
  have HR1 := hide (isRow_tot w.heap.size _ _ _ n l t x.a w0 HT.out.lats HT.out.vars HX.out.fa HX.out.sa HT.out.below.size ht)
  have HR2 := hide (fun wq (hk : Kpt w0 wq) => isRow_tot w.heap.size _ _ _ n l t x.b wq (HT.out.step hk.below).lats (HT.out.step hk.below).vars (HX.out.fb.below hk.below) HX.out.sb (HT.out.step hk.below).below.size ht)
  go_upto_region 6 with fail
  go_wp2_with (go_at_call 41; refine HR1.out.mono ?_; rintro e w1 ⟨⟨⟨r, rfl, hr⟩⟩, hb1⟩; have H1 : Hid (Kpt w0 w1) := hide ⟨hb1⟩; have HV1 := hide hr; have q0 := H1.out.cell q0; have q1 := H1.out.cell q1; have k1 := H1.out.cell k1; have k14 := H1.out.cell k14; have k15 := H1.out.cell k15; clear hr hb1 HR1; cases r)
  · go_ret
    exact ⟨⟨_, rfl, fun h => by cases h⟩, (HT.out.step H1.out.below).below⟩
  · refine (HR2.out w1 H1.out).mono ?_
    rintro e w2 ⟨⟨⟨r, rfl, hr⟩⟩, hb2⟩
    have H2 := hide (And.intro hr (H1.out.step hb2))
    clear hr hb2 HR2
    go_wp2_with fail
    go_ret
    exact ⟨⟨_, rfl, fun h => ⟨fun h10 => by rw [HOP.out] at h10; omega, fun _ => ⟨HV1.out (by trivial), H2.out.1 h⟩, .inr (.inl HOP.out)⟩⟩, (HT.out.step H2.out.2.below).below⟩
theorem right15_tot (B : Nat) (vl vv vc va vb : Value) (n : Nat) (l : List Vr) (x : As) (w : World) (h : Lats w B vl n) (h2 : Vars w B vv l) (h3 : AsAt w B x vc va vb) (hB : B ≤ w.heap.size) : Calls Tryz.prog 22 #[.agg #[vl, vv], .agg #[.int .i64 x.op, .int .i64 x.lat, vc, .int .i64 x.to_.var, .int .u64 x.to_.el.e0, .int .u64 x.to_.el.e1, .int .u64 x.to_.el.e2, .int .u64 x.to_.el.e3, .int .u64 x.to_.el.e4, .int .u64 x.to_.el.e5, .int .u64 x.to_.el.e6, .int .u64 x.to_.el.e7, va, .int .i64 x.a.tail, vb, .int .i64 x.b.tail, .int .i64 x.var, .string x.field]] w fun e w' => RIf (AOk l.length x) e ∧ Below w.heap.size w w' := by
  by_cases h10 : x.op = 10
  · exact right15_lacks B vl vv vc va vb n l x w h h2 h3 hB h10
  by_cases hl : x.lat < 0
  · exact right15_none B vl vv vc va vb n l x w h h2 h3 hB h10 (.inl hl)
  by_cases hn : (n : Int) ≤ x.lat
  · exact right15_none B vl vv vc va vb n l x w h h2 h3 hB h10 (.inr (.inl hn))
  obtain ⟨t, ht⟩ := Int.eq_ofNat_of_zero_le (by omega : 0 ≤ x.lat)
  by_cases h9 : x.op = 9
  · exact right15_rows B vl vv vc va vb n l x w h h2 h3 hB t (by omega) ht h9
  by_cases h8 : x.op = 8
  · exact right15_code B vl vv vc va vb n l x w h h2 h3 hB t (by omega) ht h8
  exact right15_none B vl vv vc va vb n l x w h h2 h3 hB h10 (.inr (.inr ⟨h8, h9⟩))
/-- A right problem. -/
structure POk (l : List Vr) (as_ : List As) : Prop where
  vars : l.length ≤ 64
  few : as_.length ≤ 64
  ok : ∀ x ∈ as_, AOk l.length x
set_option maxRecDepth 100000 in
set_option maxHeartbeats 4000000 in
theorem right19_tot (B : Nat) (vl vv vs : Value) (n : Nat) (l : List Vr) (as_ : List As) (w : World) (h : Lats w B vl n) (h2 : Vars w B vv l) (h3 : Asrs w B vs as_) (hB : B ≤ w.heap.size) : Calls Tryz.prog 6 #[.agg #[vl, vv, vs]] w fun e w' => RIf (POk l as_) e ∧ Below w.heap.size w w' := by
  obtain ⟨A, c, rfl, hnc, hcm⟩ := h3.form
  have HT := hide (PrW.new h h2 h3 hB)
  have hl9 : (as_.length : Int) ≤ 9223372036854775807 := by unfold maxLen at hcm; omega
  clear h hnc hcm h2 h3
  obtain ⟨Al, cl, rfl, _, _⟩ := HT.out.lats.form
  obtain ⟨Av, cv, rfl, _, _⟩ := HT.out.vars.form
  have k0 := HT.out.c0
  have k1 := HT.out.c1
  have k2 := HT.out.c2
  go_enter Tryz.func6, Tryz.ntmps6
  go_upto_region 1 with fail
  generalize w.alloc (Obj.cells _ 28) = w0 at *
  have HBG := hide (right13_tot w.heap.size _ _ n l w0 HT.out.lats HT.out.vars HT.out.below.size)
  go_upto_if 13 with (go_at_call 21; refine HBG.out.mono ?_; rintro e w4 ⟨⟨⟨z, rfl, hz⟩⟩, hb4⟩; have H4 := hide (HT.out.step hb4); have HZ := hide hz; have k3 := H4.out.c2; clear hb4 hz; cases z)
  · go_wp2_with fail
    go_ret
    exact ⟨⟨_, rfl, fun h => by cases h⟩, H4.out.below⟩
  clear k0 k1 k2 HBG HT
  have h64 := HZ.out (by trivial)
  have HV := hide h64
  clear HZ h64
  by_cases h80 : 64 < as_.length
  · have d1 : decide (64 < (as_.length : Int)) = true := decide_eq_true (by omega)
    go_wp2_with fail
    go_ret
    exact ⟨⟨_, rfl, fun h => by cases h⟩, H4.out.below⟩
  have d1 : decide (64 < (as_.length : Int)) = false := decide_eq_false (by omega)
  have ha64 : as_.length ≤ 64 := by omega
  have HN := hide ha64
  go_wp2_with fail
  clear d1 k3 h80
  go_loopw [3] (fun kv wr => (∃ q : Nat, (q ≤ as_.length ∧ ∀ (j : Nat) x, j < q → as_[j]? = some x → AOk l.length x) ∧ kv = .int .i64 (q : Nat)) ∧ PrW w (.slice Al n cl) (.slice Av l.length cv) (.slice A as_.length c) n l as_ wr) (fun kv _ => as_.length - (intOf kv).toNat)
  case atStart => exact ⟨⟨0, ⟨by omega, fun j x h => by omega⟩, rfl⟩, H4.out⟩
  case round =>
    obtain ⟨⟨q, ⟨hq, hok⟩, rfl⟩, ho⟩ := hrel
    clear H4
    have HO := hide ho
    have HOK := hide hok
    clear ho hok
    have k2 := HO.out.c2
    by_cases hlt : q < as_.length
    · have i0 : (q : Int) < as_.length := by omega
      obtain ⟨bl, off, c', vc, va, vb, e, hbl, hr, ha⟩ := HO.out.asr.at hlt
      cases e
      have hget := List.getElem?_eq_getElem hlt
      generalize as_[q] = x at *
      obtain ⟨Ac, cc, rfl, _, _⟩ := SlAt.form ha.code
      obtain ⟨Aa, ca, rfl, _, _⟩ := SlAt.form ha.fa
      obtain ⟨Ab, cb, rfl, _, _⟩ := SlAt.form ha.fb
      have HA := hide ha
      have HR := hide (And.intro hr (And.intro hbl hget))
      clear hr ha hbl hget
      go_upto_region 6 with fail
      have HST : Hid (Kpt wr wr.drew) := hide ⟨below_drewN (Below.refl _ _) 1⟩
      have HF := hide (right15_tot w.heap.size _ _ _ _ _ n l x wr.drew (HO.out.step HST.out.below).lats (HO.out.step HST.out.below).vars (HA.out.below HST.out.below) (HO.out.step HST.out.below).below.size)
      clear k2
      refine wp_region_chain [0, 1, 2, 3, 4, 5, 6] [(7, true), (8, true)] (Kpt wr) (by kernel_rfl) (by kernel_rfl) (fun _ _ _ _ _ h => h) HST.out ?_
      intro hne
      simp only [picks, picksW, List.filterMap_cons, List.filterMap_nil, List.getElem?_cons_zero, List.getElem?_cons_succ, Option.map_some]
      have hu0 : ∀ u : HoldW (Kpt wr), u.w.cell? ⟨w.heap.size, 0, none⟩ = some (.slice Al n cl) := fun u => u.ok.cell HO.out.c0
      have hu1 : ∀ u : HoldW (Kpt wr), u.w.cell? ⟨w.heap.size, 1, none⟩ = some (.slice Av l.length cv) := fun u => u.ok.cell HO.out.c1
      have hu2 : ∀ u : HoldW (Kpt wr), u.w.cell? ⟨w.heap.size, 2, none⟩ = some (.slice (some ⟨bl, off, none⟩) as_.length c) := fun u => u.ok.cell HO.out.c2
      iterate 6 (refine wpHeld_step (fun K hK => ?_); go_simp; refine hK _ ?_; clear hK K)
      refine wpHeld_step (fun K hK => ?_)
      rw [if_pos (by with_unfolding_all rfl)]
      refine held_mid (b := bl) (o := off + q * 18) (cs := [.int .i64 x.op, .int .i64 x.lat, (.slice Ac x.code.length cc), .int .i64 x.to_.var, .int .u64 x.to_.el.e0, .int .u64 x.to_.el.e1, .int .u64 x.to_.el.e2, .int .u64 x.to_.el.e3, .int .u64 x.to_.el.e4, .int .u64 x.to_.el.e5, .int .u64 x.to_.el.e6, .int .u64 x.to_.el.e7, (.slice Aa x.a.fields.length ca), .int .i64 x.a.tail, (.slice Ab x.b.fields.length cb), .int .i64 x.b.tail, .int .i64 x.var, .string x.field]) rfl rfl (by rintro _ ⟨u, rfl⟩; exact u.ok.range HR.out.1 HR.out.2.1) Tryz.underlying71 rfl as_info (hK _ ?_)
      clear hK K
      refine wpHeld_nil ?_
      clear hu0 hu1 hu2 hne
      refine wpChain_cons fun K hK => ?_
      go_wp2_with (go_at_call 22; refine HF.out.mono ?_; rintro e w4 ⟨⟨⟨r, rfl, hr⟩⟩, hb4⟩; have H5 := hide (And.intro hr (HST.out.step hb4)); clear hr hb4)
      refine chainF (fun _ => H5.out.2) (hK _ _ ?_)
      clear hK K
      refine wpChain_cons fun K hK => ?_
      go_wp2_with fail
      refine chainF (fun _ => H5.out.2) (hK _ _ ?_)
      clear hK K
      refine wpChain_nil ?_
      cases r
      · go_wp2_with fail
        go_ret
        exact ⟨⟨_, rfl, fun h => by cases h⟩, (HO.out.step H5.out.2.below).below⟩
      · go_wp2_with fail
        exact ⟨⟨⟨q + 1, ⟨by omega, fun j y hj hy => by
          rcases Nat.lt_or_ge j q with h | h
          · exact HOK.out j y h hy
          · obtain rfl : j = q := by omega
            rw [HR.out.2.2] at hy; injection hy with hy; subst hy; exact H5.out.1 rfl⟩, rfl⟩, HO.out.step H5.out.2.below⟩, by simp [intOf]; omega⟩
    · obtain rfl : q = as_.length := by omega
      have HFIN : Hid (POk l as_) := hide ⟨HV.out, HN.out, fun x hx => by
        obtain ⟨j, hj, rfl⟩ := List.mem_iff_getElem.1 hx
        exact HOK.out j _ hj (List.getElem?_eq_getElem hj)⟩
      go_wp2_with fail
      go_ret
      exact ⟨⟨_, rfl, fun _ => HFIN.out⟩, HO.out.below⟩
end Go.Proofs.YthnbhcfpfbimgaaGreat
/- Plain: what rows mean; what a table's steps keep of a solution. No program in sight. -/
namespace Go.Proofs.YthnbhcfpfbimgaaGreat
namespace Rw
/-- A row's value: what it has at a field. -/
abbrev Val (E : Type) := ByteArray → Option E
section
variable {E : Type} (η : At → E)
theorem toList_iff {a b : ByteArray} : (a.toList == b.toList) = true ↔ a = b := by
  rw [beq_iff_eq]
  constructor
  · intro h
    rw [ByteArray.toList_eq, ByteArray.toList_eq] at h
    obtain ⟨⟨x⟩⟩ := a
    obtain ⟨⟨y⟩⟩ := b
    simp at h
    rw [h]
  · exact fun h => by rw [h]
def findN (fs : List Fld) (f : ByteArray) : Option Fld := fs.find? fun x => x.name.toList == f.toList
def Has (fs : List Fld) (f : ByteArray) : Prop := ∃ g ∈ fs, g.name = f
theorem hasF_true {fs : List Fld} {f : ByteArray} : hasF fs f = true ↔ Has fs f := by
  simp only [hasF, List.any_eq_true, toList_iff, Has]
theorem hasF_false {fs : List Fld} {f : ByteArray} : hasF fs f = false ↔ ¬ Has fs f := by
  rw [← hasF_true]; simp
theorem findN_none {fs : List Fld} {f : ByteArray} : findN fs f = none ↔ ¬ Has fs f := by
  simp only [findN, List.find?_eq_none, toList_iff, Has]
  exact ⟨fun h ⟨g, hg, e⟩ => h g hg e, fun h x hx e => h ⟨x, hx, e⟩⟩
theorem findN_some {fs : List Fld} {f : ByteArray} {g : Fld} (h : findN fs f = some g) : g ∈ fs ∧ g.name = f := by
  have h1 := List.find?_some h
  simp only [toList_iff] at h1
  exact ⟨List.mem_of_find?_eq_some h, h1⟩
theorem findN_of {fs : List Fld} {f : ByteArray} (h : Has fs f) : ∃ g, findN fs f = some g := by
  cases hf : findN fs f with
  | none => exact absurd h (findN_none.1 hf)
  | some g => exact ⟨g, rfl⟩
def NoDup (fs : List Fld) : Prop := fs.Pairwise fun a b => a.name ≠ b.name
theorem findN_mem {fs : List Fld} (hn : NoDup fs) {g : Fld} (hg : g ∈ fs) : findN fs g.name = some g := by
  induction fs with
  | nil => cases hg
  | cons a l ih =>
    obtain ⟨h1, h2⟩ := List.pairwise_cons.1 hn
    simp only [findN, List.find?_cons]
    rcases List.mem_cons.1 hg with rfl | hg
    · rw [toList_iff.2 rfl]
    · have : (a.name.toList == g.name.toList) = false := by
        rw [Bool.eq_false_iff]; intro h; exact h1 g hg (toList_iff.1 h)
      rw [this]
      exact ih h2 hg
/-- Some fields, and behind them another value. -/
def sem (fs : List Fld) (v : Val E) : Val E := fun f => match findN fs f with
  | some g => some (η g.at_)
  | none => v f
theorem sem_has {fs : List Fld} {v : Val E} {f : ByteArray} {g : Fld} (h : findN fs f = some g) : sem η fs v f = some (η g.at_) := by simp only [sem, h]
theorem sem_not {fs : List Fld} {v : Val E} {f : ByteArray} (h : ¬ Has fs f) : sem η fs v f = v f := by simp only [sem, findN_none.2 h]
theorem sem_app (a b : List Fld) (v : Val E) : sem η (a ++ b) v = sem η a (sem η b v) := by
  funext f
  by_cases h : Has a f
  · obtain ⟨g, hg⟩ := findN_of h
    rw [sem_has η hg, sem_has η (g := g)]
    unfold findN at hg ⊢
    rw [List.find?_append, hg]; rfl
  · rw [sem_not η h]
    have : findN (a ++ b) f = findN b f := by
      unfold findN; rw [List.find?_append]
      have := findN_none.2 h
      unfold findN at this
      rw [this]; rfl
    simp only [sem, this]
/-- What stands behind a row's fields. -/
def tv (val : Nat → Val E) (t : Int) : Val E := if t < 0 then fun _ => none else val t.toNat
theorem tv_neg {val : Nat → Val E} {t : Int} (h : t < 0) : tv val t = fun _ => none := if_pos h
theorem tv_nat (val : Nat → Val E) (k : Nat) : tv val (k : Nat) = val k := by unfold tv; rw [if_neg (by omega), Int.toNat_natCast]
/-- Fields that a value does not have. -/
def Off (fs : List Fld) (v : Val E) : Prop := ∀ g ∈ fs, v g.name = none
theorem off_nil (v : Val E) : Off [] v := fun _ hg => absurd hg (by simp)
/-- What a bound row says. -/
structure Fact (val : Nat → Val E) (i : Nat) (fs : List Fld) (t : Int) : Prop where
  eq : val i = sem η fs (tv val t)
  off : Off fs (tv val t)
  dup : NoDup fs
variable (W : W64 → Prop)
/-- A solution of those of a table's facts whose reasons are in W. -/
structure Mod (s : T) (val : Nat → Val E) : Prop where
  row : ∀ (i : Nat) r, s.rows[i]? = some r → r.bound = true → W r.why → Fact η val i r.fields r.tail
  lack : ∀ (i : Nat) r, s.rows[i]? = some r → ∀ l ∈ r.lacks, W l.why → val i l.field = none
  eqs : ∀ e ∈ s.eqs, W e.why → η e.a = η e.b
  stuck : s.stuck = true → ¬ W s.why
structure Cl : Prop where
  zero : W 0
  or : ∀ a b, W (a ||| b) ↔ W a ∧ W b
variable {W} {η}
/-- What a spread says of a solution. -/
theorem spread_sem (hW : Cl W) {rows : List Row} (hw : Wf rows) {val : Nat → Val E} (hr : ∀ (i : Nat) r, rows[i]? = some r → r.bound = true → W r.why → Fact η val i r.fields r.tail) :
    ∀ (m : Nat) (s p : Sp), spread rows m s = p → W p.why → ∃ ext, p.fields = s.fields ++ ext ∧ W s.why ∧ tv val s.fin = sem η ext (tv val p.fin) ∧ Off ext (tv val p.fin) ∧ NoDup ext
  | 0, s, p, h, hp => ⟨[], by rw [← h]; simp [spread], by rw [← h] at hp; exact hp, by rw [← h]; rfl, off_nil _, List.Pairwise.nil⟩
  | m + 1, s, p, h, hp => by
    have triv : spread rows (m + 1) s = s → ∃ ext, p.fields = s.fields ++ ext ∧ W s.why ∧ tv val s.fin = sem η ext (tv val p.fin) ∧ Off ext (tv val p.fin) ∧ NoDup ext := fun e => by
      rw [e] at h
      subst h
      exact ⟨[], by simp, hp, rfl, off_nil _, List.Pairwise.nil⟩
    by_cases h0 : s.fin < 0
    · exact triv (spread_neg h0)
    · cases hx : rows[s.fin.toNat]? with
      | none => exact triv (by rw [spread, if_neg h0, hx])
      | some x =>
        cases hb : x.bound with
        | false => exact triv (spread_free hx hb)
        | true =>
          rw [spread_bound (by omega) hx hb] at h
          obtain ⟨ext, h1, h2, h3, h4, h5⟩ := spread_sem hW hw hr m _ p h hp
          obtain ⟨hs, hxw⟩ := (hW.or _ _).1 h2
          have hf := hr _ x hx hb hxw
          have hfin : tv val s.fin = val s.fin.toNat := by unfold tv; rw [if_neg h0]
          dsimp only at h1 h3
          refine ⟨x.fields ++ ext, by rw [h1, List.append_assoc], hs, by rw [hfin, hf.eq, h3, sem_app], fun g hg => ?_, ?_⟩
          · rcases List.mem_append.1 hg with hg | hg
            · have := hf.off g hg
              rw [h3] at this
              by_cases he : Has ext g.name
              · obtain ⟨q, hq⟩ := findN_of he
                rw [sem_has η hq] at this; cases this
              · rw [sem_not η he] at this; exact this
            · exact h4 g hg
          · refine List.pairwise_append.2 ⟨hf.dup, h5, fun a ha b hb' e => ?_⟩
            have := hf.off a ha
            rw [h3, e] at this
            obtain ⟨q, hq⟩ := findN_of (show Has ext b.name from ⟨b, hb', rfl⟩)
            rw [sem_has η hq] at this; cases this
theorem Mod.spreads (hW : Cl W) {s : T} {val : Nat → Val E} (h : Mod η W s val) (hw : Wf s.rows) (fs : List Fld) (a : Int) (hp : W (s.spreads fs a).why) :
    ∃ ext, (s.spreads fs a).fields = fs ++ ext ∧ tv val a = sem η ext (tv val (s.spreads fs a).fin) ∧ Off ext (tv val (s.spreads fs a).fin) ∧ NoDup ext := by
  obtain ⟨ext, h1, _, h3, h4, h5⟩ := spread_sem hW hw h.row (s.rows.length + 1) ⟨fs, a, 0⟩ _ rfl hp
  exact ⟨ext, h1, h3, h4, h5⟩
theorem Mod.did {s : T} {val : Nat → Val E} (h : Mod η W s val) (u : U) : Mod η W (s.did u) val := ⟨h.row, h.lack, h.eqs, h.stuck⟩
theorem Mod.tick {s : T} {val : Nat → Val E} (h : Mod η W s val) : Mod η W s.tick val := ⟨h.row, h.lack, h.eqs, h.stuck⟩
theorem Mod.stick {s : T} {val : Nat → Val E} (h : Mod η W s val) {y : W64} (hy : ¬ W y) : Mod η W (s.stick y) val := by
  unfold T.stick
  split
  · exact h
  · exact Mod.did (s := { s with stuck := true, why := y }) ⟨h.row, h.lack, h.eqs, fun _ => hy⟩ _
theorem Mod.lacks (hW : Cl W) {s : T} {val : Nat → Val E} (h : Mod η W s val) (hw : Wf s.rows) {a : Int} {f : ByteArray} {y : W64} (hf : W y → tv val a f = none) : Mod η W (s.lacks a f y).2 val := by
  unfold T.lacks
  simp only []
  have hsp := h.spreads hW hw [] a
  generalize s.spreads [] a = p at *
  split
  · rename_i hh
    refine h.stick fun hc => ?_
    obtain ⟨hy, hpw⟩ := (hW.or _ _).1 hc
    obtain ⟨ext, h1, h2, _⟩ := hsp hpw
    rw [List.nil_append] at h1
    rw [h1] at hh
    obtain ⟨q, hq⟩ := findN_of (hasF_true.1 hh)
    have := hf hy
    rw [h2, sem_has η hq] at this
    cases this
  · rename_i hh
    split
    · exact h
    split
    · exact h
    · rename_i hn hany
      show Mod η W (T.did _ _) val
      refine Mod.did ?_ _
      refine ⟨fun i r hr hb hx => ?_, fun i r hr l hl hx => ?_, h.eqs, h.stuck⟩
      · obtain ⟨r0, h1, h2⟩ := modify_get hr
        have hrow := h.row i r0 h1
        rw [h2] at hb hx ⊢
        split at hb <;> simp_all
      · obtain ⟨r0, h1, h2⟩ := modify_get hr
        have hlk := h.lack i r0 h1
        rw [h2] at hl
        split at hl
        · rename_i hki
          subst hki
          have hg : s.rows.getD p.fin.toNat row0 = r0 := by rw [List.getD_eq_getElem?_getD, h1]; rfl
          rw [hg] at hl
          rcases List.mem_append.1 hl with hl | hl
          · exact hlk l hl hx
          · obtain rfl := List.mem_singleton.1 hl
            obtain ⟨hy, hpw⟩ := (hW.or _ _).1 hx
            obtain ⟨ext, h3, h4, _⟩ := hsp hpw
            rw [List.nil_append] at h3
            rw [h3] at hh
            have := hf hy
            rw [h4, sem_not η (hasF_false.1 (by simpa using hh))] at this
            unfold tv at this
            rw [if_neg hn] at this
            exact this
        · exact hlk l hl hx
theorem Mod.lackAll (hW : Cl W) {val : Nat → Val E} {t : Int} : ∀ (L : List (ByteArray × W64)) {s : T}, Mod η W s val → Wf s.rows → (∀ x ∈ L, W x.2 → tv val t x.1 = none) → (∃ n, Sz s n) → Mod η W (s.lackAll t L).2 val
  | [], s, h, _, _, _ => h
  | x :: L, s, h, hw, hL, ⟨n, hz⟩ => by
    have h1 := h.lacks hW hw (a := t) (f := x.1) (y := x.2) (hL x (by simp))
    obtain ⟨h2, h3⟩ := lacks_nx s t x.1 x.2 hz
    unfold T.lackAll
    rcases hl : s.lacks t x.1 x.2 with ⟨b, s'⟩
    rw [hl] at h1 h2 h3
    cases b with
    | false => exact h1
    | true => exact Mod.lackAll hW L h1 (h2.wf hw) (fun x hx => hL x (by simp [hx])) ⟨_, h3⟩
end
end Rw
end Go.Proofs.YthnbhcfpfbimgaaGreat
