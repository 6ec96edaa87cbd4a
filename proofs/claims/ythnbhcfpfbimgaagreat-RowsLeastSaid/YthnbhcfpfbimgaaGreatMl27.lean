/- Texts put together: RhOne RhFirst. -/
import Derived.Test.YthnbhcfpfbimgaaGreatMl26
/- The walk of chapter 19's One, for assertions about rows. (Printed by rhone.py.) -/
namespace Go.Proofs.YthnbhcfpfbimgaaGreat
open Go.RowKit
open Rw (El At Fld)
open Hd (elZ getV oneV rowH sameV)
theorem heap_three (w : World) (o o2 o3 : Obj) : (((w.alloc o).alloc o2).alloc o3).heap[w.heap.size + 1 + 1]? = some o3 := by
  have := heap_alloc_last ((w.alloc o).alloc o2) o3
  rwa [World.size_alloc, World.size_alloc] at this
theorem heap_mid (w : World) (o o2 o3 : Obj) : (((w.alloc o).alloc o2).alloc o3).heap[w.heap.size + 1]? = some o2 := by
  rw [heap_at, if_neg (by rw [World.size_alloc, World.size_alloc]; omega)]
  exact heap_two w o o2
set_option maxRecDepth 100000 in
set_option maxHeartbeats 4000000 in
theorem one_lacks (B : Nat) (vsl vsv vc va vb vl vr : Value) (x : As) (L : List El) (R : List (List Vl)) (w : World) (h : AsAt w B x vc va vb) (h1 : Lbs w B vl L) (h2 : Rws w B vr R) (hop : x.op = 10) (q : Nat) (hq : x.var = (q : Nat)) (hql : q < R.length) :
    Calls Tryz.prog 35 #[.agg #[vsl, vsv], .agg #[.int .i64 x.op, .int .i64 x.lat, vc, .int .i64 x.to_.var, .int .u64 x.to_.el.e0, .int .u64 x.to_.el.e1, .int .u64 x.to_.el.e2, .int .u64 x.to_.el.e3, .int .u64 x.to_.el.e4, .int .u64 x.to_.el.e5, .int .u64 x.to_.el.e6, .int .u64 x.to_.el.e7, va, .int .i64 x.a.tail, vb, .int .i64 x.b.tail, .int .i64 x.var, .string x.field], .agg #[vl, vr]] w fun e w' => e = .returned (.bool (oneV L R x)) ∧ Below w.heap.size w w' := by
  obtain ⟨Ac, cc, rfl, _, _⟩ := SlAt.form h.code
  obtain ⟨Aa, ca, rfl, _, _⟩ := SlAt.form h.fa
  obtain ⟨Ab, cb, rfl, _, _⟩ := SlAt.form h.fb
  obtain ⟨Al, cl, rfl, _, _⟩ := SlAt.form h1.at_
  obtain ⟨Ar, cr, rfl, _, hcr⟩ := h2.form
  have hr9 : (R.length : Int) ≤ 9223372036854775807 := by unfold maxLen at hcr; omega
  have HB := hide (below_next (below_next (below_laid w (.cells #[vsl, vsv] 25)) (below_laid _ (.cells #[.int .i64 x.op, .int .i64 x.lat, (.slice Ac x.code.length cc), .int .i64 x.to_.var, .int .u64 x.to_.el.e0, .int .u64 x.to_.el.e1, .int .u64 x.to_.el.e2, .int .u64 x.to_.el.e3, .int .u64 x.to_.el.e4, .int .u64 x.to_.el.e5, .int .u64 x.to_.el.e6, .int .u64 x.to_.el.e7, (.slice Aa x.a.fields.length ca), .int .i64 x.a.tail, (.slice Ab x.b.fields.length cb), .int .i64 x.b.tail, .int .i64 x.var, .string x.field] 71))) (below_laid _ (.cells #[.slice Al L.length cl, .slice Ar R.length cr] 32)))
  have HA := hide (heap_mid w (.cells #[vsl, vsv] 25) (.cells #[.int .i64 x.op, .int .i64 x.lat, (.slice Ac x.code.length cc), .int .i64 x.to_.var, .int .u64 x.to_.el.e0, .int .u64 x.to_.el.e1, .int .u64 x.to_.el.e2, .int .u64 x.to_.el.e3, .int .u64 x.to_.el.e4, .int .u64 x.to_.el.e5, .int .u64 x.to_.el.e6, .int .u64 x.to_.el.e7, (.slice Aa x.a.fields.length ca), .int .i64 x.a.tail, (.slice Ab x.b.fields.length cb), .int .i64 x.b.tail, .int .i64 x.var, .string x.field] 71) (.cells #[.slice Al L.length cl, .slice Ar R.length cr] 32))
  have HA2 := hide (heap_three w (.cells #[vsl, vsv] 25) (.cells #[.int .i64 x.op, .int .i64 x.lat, (.slice Ac x.code.length cc), .int .i64 x.to_.var, .int .u64 x.to_.el.e0, .int .u64 x.to_.el.e1, .int .u64 x.to_.el.e2, .int .u64 x.to_.el.e3, .int .u64 x.to_.el.e4, .int .u64 x.to_.el.e5, .int .u64 x.to_.el.e6, .int .u64 x.to_.el.e7, (.slice Aa x.a.fields.length ca), .int .i64 x.a.tail, (.slice Ab x.b.fields.length cb), .int .i64 x.b.tail, .int .i64 x.var, .string x.field] 71) (.cells #[.slice Al L.length cl, .slice Ar R.length cr] 32))
  have HRW := hide (h2.below HB.out)
  have k0 : (((w.alloc (.cells #[vsl, vsv] 25)).alloc (.cells #[.int .i64 x.op, .int .i64 x.lat, (.slice Ac x.code.length cc), .int .i64 x.to_.var, .int .u64 x.to_.el.e0, .int .u64 x.to_.el.e1, .int .u64 x.to_.el.e2, .int .u64 x.to_.el.e3, .int .u64 x.to_.el.e4, .int .u64 x.to_.el.e5, .int .u64 x.to_.el.e6, .int .u64 x.to_.el.e7, (.slice Aa x.a.fields.length ca), .int .i64 x.a.tail, (.slice Ab x.b.fields.length cb), .int .i64 x.b.tail, .int .i64 x.var, .string x.field] 71)).alloc (.cells #[.slice Al L.length cl, .slice Ar R.length cr] 32)).cell? ⟨w.heap.size + 1, 0, none⟩ = some (.int .i64 x.op) := by rw [cell_block HA.out]; rfl
  have k16 : (((w.alloc (.cells #[vsl, vsv] 25)).alloc (.cells #[.int .i64 x.op, .int .i64 x.lat, (.slice Ac x.code.length cc), .int .i64 x.to_.var, .int .u64 x.to_.el.e0, .int .u64 x.to_.el.e1, .int .u64 x.to_.el.e2, .int .u64 x.to_.el.e3, .int .u64 x.to_.el.e4, .int .u64 x.to_.el.e5, .int .u64 x.to_.el.e6, .int .u64 x.to_.el.e7, (.slice Aa x.a.fields.length ca), .int .i64 x.a.tail, (.slice Ab x.b.fields.length cb), .int .i64 x.b.tail, .int .i64 x.var, .string x.field] 71)).alloc (.cells #[.slice Al L.length cl, .slice Ar R.length cr] 32)).cell? ⟨w.heap.size + 1, 16, none⟩ = some (.int .i64 x.var) := by rw [cell_block HA.out]; rfl
  have k17 : (((w.alloc (.cells #[vsl, vsv] 25)).alloc (.cells #[.int .i64 x.op, .int .i64 x.lat, (.slice Ac x.code.length cc), .int .i64 x.to_.var, .int .u64 x.to_.el.e0, .int .u64 x.to_.el.e1, .int .u64 x.to_.el.e2, .int .u64 x.to_.el.e3, .int .u64 x.to_.el.e4, .int .u64 x.to_.el.e5, .int .u64 x.to_.el.e6, .int .u64 x.to_.el.e7, (.slice Aa x.a.fields.length ca), .int .i64 x.a.tail, (.slice Ab x.b.fields.length cb), .int .i64 x.b.tail, .int .i64 x.var, .string x.field] 71)).alloc (.cells #[.slice Al L.length cl, .slice Ar R.length cr] 32)).cell? ⟨w.heap.size + 1, 17, none⟩ = some (.string x.field) := by rw [cell_block HA.out]; rfl
  have j1 : (((w.alloc (.cells #[vsl, vsv] 25)).alloc (.cells #[.int .i64 x.op, .int .i64 x.lat, (.slice Ac x.code.length cc), .int .i64 x.to_.var, .int .u64 x.to_.el.e0, .int .u64 x.to_.el.e1, .int .u64 x.to_.el.e2, .int .u64 x.to_.el.e3, .int .u64 x.to_.el.e4, .int .u64 x.to_.el.e5, .int .u64 x.to_.el.e6, .int .u64 x.to_.el.e7, (.slice Aa x.a.fields.length ca), .int .i64 x.a.tail, (.slice Ab x.b.fields.length cb), .int .i64 x.b.tail, .int .i64 x.var, .string x.field] 71)).alloc (.cells #[.slice Al L.length cl, .slice Ar R.length cr] 32)).cell? ⟨w.heap.size + 1 + 1, 1, none⟩ = some (.slice Ar R.length cr) := by rw [cell_block HA2.out]; rfl
  have HHH := hide (And.intro hop hq)
  have HE : Hid (oneV L R x = !(getV R[q] x.field).isSome) := hide (by
    unfold oneV
    rw [if_pos hop, hq, Int.toNat_natCast, List.getD_eq_getElem?_getD, List.getElem?_eq_getElem hql]
    rfl)
  obtain ⟨bl, off, c', u, e, hbl, hcu, hu⟩ := HRW.out.at hql
  cases e
  have i0 : (q : Int) < R.length := by omega
  generalize R[q] = r at *
  obtain ⟨Au, cu, rfl, _, _⟩ := SlAt.form hu.at_
  have HU := hide (And.intro hu hcu)
  clear h h1 h2 hcr HA HA2 hop hq hu hcu
  go_enter Tryz.func35, Tryz.ntmps35
  go_upto_region 1 with fail
  generalize ((w.alloc (Obj.cells _ 25)).alloc (Obj.cells _ 71)).alloc (Obj.cells _ 32) = w0 at *
  rw [HHH.out.1] at k0
  rw [HHH.out.2] at k16
  have d1 : decide (R.length ≤ q) = false := decide_eq_false (by omega)
  have d0 : decide ((q : Int) < 0) = false := decide_eq_false (by omega)
  go_upto_region 4 with fail
  have HC := hide (And.intro k16 (And.intro k17 j1))
  clear k0 k16 k17 j1 d1 d0
  go_cut [7, 8] from 31 to 43 (fun p b wx => RoC w0 (getV r x.field) p b wx)
  case first =>
    have HSS : Hid (Kpt w0 w0.drew) := hide ⟨below_drewN (Below.refl _ _) 1⟩
    have HAT := hide (fun (wq : World) (hq : Kpt w0 wq) => get_any B _ r x.field wq (HU.out.1.below hq.below))
    refine wp_region_tree [0, 2, 6, 1, 3, 7, 4, 5] (.step 8 true (.take 9 (.take 10 (.take 11 (.step 12 true (.step 13 true (.step 14 true .done .done) .done) .done)))) (.step 12 true (.step 8 true (.take 9 (.take 10 (.take 11 (.step 13 true (.step 14 true .done .done) .done)))) .done) .done)) (Kpt w0) (by kernel_rfl) (by kernel_rfl) (fun _ _ _ _ _ h => h) HSS.out ?_
    intro hne
    simp only [picks, List.filterMap_cons, List.filterMap_nil, List.getElem?_cons_zero, List.getElem?_cons_succ]
    have hu1 : ∀ u : HoldW (Kpt w0), u.w.cell? ⟨w.heap.size + 1, 16, none⟩ = some (.int .i64 (q : Nat)) := fun u => u.ok.cell HC.out.1
    have hu2 : ∀ u : HoldW (Kpt w0), u.w.cell? ⟨w.heap.size + 1, 17, none⟩ = some (.string x.field) := fun u => u.ok.cell HC.out.2.1
    have hu3 : ∀ u : HoldW (Kpt w0), u.w.cell? ⟨w.heap.size + 1 + 1, 1, none⟩ = some (.slice (some ⟨bl, off, none⟩) R.length cr) := fun u => u.ok.cell HC.out.2.2
    have hu4 : ∀ u : HoldW (Kpt w0), u.w.cell? ⟨bl, off + q, none⟩ = some (.slice Au r.length cu) := fun u => u.ok.cell HU.out.2
    iterate 8 (refine wpHeld_step (fun K hK => ?_); go_simp; refine hK _ ?_; clear hK K)
    refine wpHeld_nil ?_
    have HNE := hide hne
    clear hu1 hu2 hu3 hu4 hne
    refine wpTree_both rfl (fun K hK => ?_) (wpTree_step rfl fun K hK => ?_)
    · go_wp2_with (go_at_call 54; refine (HAT.out _ HSS.out).mono ?_; rintro e w4 ⟨⟨z, b, rfl, hz, hb⟩, hb4⟩; have H4 := hide (And.intro (HSS.out.step hb4) (And.intro hz hb)); clear hb4 hz hb)
      refine chainF (fun _ => H4.out.1) (hK _ _ ?_)
      clear hK K
      have hne := HNE.out
      iterate 3 (refine wpTree_take rfl (fun K hK => ?_); go_simp; refine hK _ ?_; clear hK K)
      clear hne
      refine wpTree_step rfl fun K hK => ?_
      go_wp2_with fail
      refine chainF (fun _ => H4.out.1.step (below_laid _ _)) (hK _ _ ?_)
      clear hK K
      refine wpTree_step rfl fun K hK => ?_
      have HSA := hide (stA (T := 48) (w := w4) (new := #[.int .u64 z.e0, .int .u64 z.e1, .int .u64 z.e2, .int .u64 z.e3, .int .u64 z.e4, .int .u64 z.e5, .int .u64 z.e6, .int .u64 z.e7]) 7 41 el_info (by simp [Value.oneCell']))
      go_wp2_with (with_reducible refine HSA.out _ _ _ _ _ _ rfl rfl rfl rfl (by with_unfolding_all rfl) ?_)
      refine chainF (fun _ => H4.out.1.step (below_laid _ _)) (hK _ _ ?_)
      clear hK K
      refine wpTree_step rfl fun K hK => ?_
      go_wp2_with fail
      refine chainF (fun _ => H4.out.1.step (below_laid _ _)) (hK _ _ ?_)
      clear hK K
      refine wpTree_end ?_
      go_wp2_with fail
      go_meet
      exact ⟨w4.heap.size, z, b, rfl, rfl, H4.out.2.1, H4.out.2.2, heap_alloc_last _ _, (H4.out.1.step (below_laid _ _)).below⟩
    · go_wp2_with fail
      refine chainF (fun _ => HSS.out.step (below_laid _ _)) (hK _ _ ?_)
      clear hK K
      refine wpTree_step rfl fun K hK => ?_
      have HSB : Hid (Kpt w0 (w0.alloc (.cells #[.int .u64 0, .int .u64 0, .int .u64 0, .int .u64 0, .int .u64 0, .int .u64 0, .int .u64 0, .int .u64 0] 48)).drew) := hide ⟨below_drewN (below_laid _ _) 1⟩
      have HZB : Hid ((w0.alloc (.cells #[.int .u64 0, .int .u64 0, .int .u64 0, .int .u64 0, .int .u64 0, .int .u64 0, .int .u64 0, .int .u64 0] 48)).drew.heap[w0.heap.size]? = some (.cells #[.int .u64 0, .int .u64 0, .int .u64 0, .int .u64 0, .int .u64 0, .int .u64 0, .int .u64 0, .int .u64 0] 48 (0, 0))) := hide (heap_alloc_last w0 _)
      generalize (w0.alloc (Obj.cells #[.int .u64 0, .int .u64 0, .int .u64 0, .int .u64 0, .int .u64 0, .int .u64 0, .int .u64 0, .int .u64 0] 48)).drew = wz at *
      go_wp2_with (go_at_call 54; refine (HAT.out _ HSB.out).mono ?_; rintro e w4 ⟨⟨z, b, rfl, hz, hb⟩, hb4⟩; have H4 := hide (And.intro (HSB.out.step hb4) (And.intro hz (And.intro hb (heap_below HZB.out hb4)))); clear hb4 hz hb)
      refine chainF (fun _ => H4.out.1) (hK _ _ ?_)
      clear hK K
      have hne := HNE.out
      iterate 3 (refine wpTree_take rfl (fun K hK => ?_); go_simp; refine hK _ ?_; clear hK K)
      clear hne
      refine wpTree_step rfl fun K hK => ?_
      have HSR : Hid (Kpt w0 (w4.setRow w0.heap.size #[.int .u64 z.e0, .int .u64 z.e1, .int .u64 z.e2, .int .u64 z.e3, .int .u64 z.e4, .int .u64 z.e5, .int .u64 z.e6, .int .u64 z.e7])) := hide ⟨below_setRow H4.out.1.below (Nat.le_refl _) _⟩
      refine wpList_store_row rfl 48 (.tmp 7) (.tmp 41) rfl w0.heap.size #[.int .u64 z.e0, .int .u64 z.e1, .int .u64 z.e2, .int .u64 z.e3, .int .u64 z.e4, .int .u64 z.e5, .int .u64 z.e6, .int .u64 z.e7] rfl rfl 48 _ H4.out.2.2.2 el_info rfl (by simp [Value.oneCell']) ?_
      have HSH := hide (setRow_heap w4 w0.heap.size #[.int .u64 0, .int .u64 0, .int .u64 0, .int .u64 0, .int .u64 0, .int .u64 0, .int .u64 0, .int .u64 0] #[.int .u64 z.e0, .int .u64 z.e1, .int .u64 z.e2, .int .u64 z.e3, .int .u64 z.e4, .int .u64 z.e5, .int .u64 z.e6, .int .u64 z.e7] 48 (0, 0) H4.out.2.2.2)
      generalize w4.setRow w0.heap.size #[.int .u64 z.e0, .int .u64 z.e1, .int .u64 z.e2, .int .u64 z.e3, .int .u64 z.e4, .int .u64 z.e5, .int .u64 z.e6, .int .u64 z.e7] = w6 at *
      go_wp2_with fail
      refine chainF (fun _ => HSR.out) (hK _ _ ?_)
      clear hK K
      refine wpTree_step rfl fun K hK => ?_
      go_wp2_with fail
      refine chainF (fun _ => HSR.out) (hK _ _ ?_)
      clear hK K
      refine wpTree_end ?_
      go_wp2_with fail
      go_meet
      exact ⟨w0.heap.size, z, b, rfl, rfl, H4.out.2.1, H4.out.2.2.1, HSH.out, HSR.out.below⟩
  case rest =>
    obtain ⟨pp, z, cb, rfl, rfl, hz, hcb, hh, hbx⟩ := hcut
    have HX := hide (And.intro hcb hbx)
    clear hz hcb hh hbx
    go_wp2_with fail
    go_ret
    exact ⟨congrArg (fun b => Ending.returned (.bool b)) (by rw [HE.out, HX.out.1]), below_next HB.out HX.out.2⟩
set_option maxRecDepth 100000 in
set_option maxHeartbeats 4000000 in
theorem one_rows (B : Nat) (vsl vsv vc va vb vl vr : Value) (x : As) (L : List El) (R : List (List Vl)) (w : World) (h : AsAt w B x vc va vb) (h1 : Lbs w B vl L) (h2 : Rws w B vr R) (hop : x.op = 9) (hfew : ∀ r ∈ R, r.length ≤ 1048576) (hfa : x.a.fields.length ≤ 1000) (hfb : x.b.fields.length ≤ 1000) :
    Calls Tryz.prog 35 #[.agg #[vsl, vsv], .agg #[.int .i64 x.op, .int .i64 x.lat, vc, .int .i64 x.to_.var, .int .u64 x.to_.el.e0, .int .u64 x.to_.el.e1, .int .u64 x.to_.el.e2, .int .u64 x.to_.el.e3, .int .u64 x.to_.el.e4, .int .u64 x.to_.el.e5, .int .u64 x.to_.el.e6, .int .u64 x.to_.el.e7, va, .int .i64 x.a.tail, vb, .int .i64 x.b.tail, .int .i64 x.var, .string x.field], .agg #[vl, vr]] w fun e w' => e = .returned (.bool (oneV L R x)) ∧ Below w.heap.size w w' := by
  obtain ⟨Ac, cc, rfl, _, _⟩ := SlAt.form h.code
  obtain ⟨Aa, ca, rfl, _, _⟩ := SlAt.form h.fa
  obtain ⟨Ab, cb, rfl, _, _⟩ := SlAt.form h.fb
  obtain ⟨Al, cl, rfl, _, _⟩ := SlAt.form h1.at_
  obtain ⟨Ar, cr, rfl, _, hcr⟩ := h2.form
  have HB := hide (below_next (below_next (below_laid w (.cells #[vsl, vsv] 25)) (below_laid _ (.cells #[.int .i64 x.op, .int .i64 x.lat, (.slice Ac x.code.length cc), .int .i64 x.to_.var, .int .u64 x.to_.el.e0, .int .u64 x.to_.el.e1, .int .u64 x.to_.el.e2, .int .u64 x.to_.el.e3, .int .u64 x.to_.el.e4, .int .u64 x.to_.el.e5, .int .u64 x.to_.el.e6, .int .u64 x.to_.el.e7, (.slice Aa x.a.fields.length ca), .int .i64 x.a.tail, (.slice Ab x.b.fields.length cb), .int .i64 x.b.tail, .int .i64 x.var, .string x.field] 71))) (below_laid _ (.cells #[.slice Al L.length cl, .slice Ar R.length cr] 32)))
  have HA := hide (heap_mid w (.cells #[vsl, vsv] 25) (.cells #[.int .i64 x.op, .int .i64 x.lat, (.slice Ac x.code.length cc), .int .i64 x.to_.var, .int .u64 x.to_.el.e0, .int .u64 x.to_.el.e1, .int .u64 x.to_.el.e2, .int .u64 x.to_.el.e3, .int .u64 x.to_.el.e4, .int .u64 x.to_.el.e5, .int .u64 x.to_.el.e6, .int .u64 x.to_.el.e7, (.slice Aa x.a.fields.length ca), .int .i64 x.a.tail, (.slice Ab x.b.fields.length cb), .int .i64 x.b.tail, .int .i64 x.var, .string x.field] 71) (.cells #[.slice Al L.length cl, .slice Ar R.length cr] 32))
  have HA2 := hide (heap_three w (.cells #[vsl, vsv] 25) (.cells #[.int .i64 x.op, .int .i64 x.lat, (.slice Ac x.code.length cc), .int .i64 x.to_.var, .int .u64 x.to_.el.e0, .int .u64 x.to_.el.e1, .int .u64 x.to_.el.e2, .int .u64 x.to_.el.e3, .int .u64 x.to_.el.e4, .int .u64 x.to_.el.e5, .int .u64 x.to_.el.e6, .int .u64 x.to_.el.e7, (.slice Aa x.a.fields.length ca), .int .i64 x.a.tail, (.slice Ab x.b.fields.length cb), .int .i64 x.b.tail, .int .i64 x.var, .string x.field] 71) (.cells #[.slice Al L.length cl, .slice Ar R.length cr] 32))
  have HX := hide (h.below HB.out)
  have HR1 := hide (fun (wq : World) (hq : Below w.heap.size w wq) => row19_any B _ _ _ L R x.a wq (h.fa.below hq) h.sa (h1.below hq) (h2.below hq) hfew hfa)
  have HR2 := hide (fun (wq : World) (hq : Below w.heap.size w wq) => row19_any B _ _ _ L R x.b wq (h.fb.below hq) h.sb (h1.below hq) (h2.below hq) hfew hfb)
  have k0 : (((w.alloc (.cells #[vsl, vsv] 25)).alloc (.cells #[.int .i64 x.op, .int .i64 x.lat, (.slice Ac x.code.length cc), .int .i64 x.to_.var, .int .u64 x.to_.el.e0, .int .u64 x.to_.el.e1, .int .u64 x.to_.el.e2, .int .u64 x.to_.el.e3, .int .u64 x.to_.el.e4, .int .u64 x.to_.el.e5, .int .u64 x.to_.el.e6, .int .u64 x.to_.el.e7, (.slice Aa x.a.fields.length ca), .int .i64 x.a.tail, (.slice Ab x.b.fields.length cb), .int .i64 x.b.tail, .int .i64 x.var, .string x.field] 71)).alloc (.cells #[.slice Al L.length cl, .slice Ar R.length cr] 32)).cell? ⟨w.heap.size + 1, 0, none⟩ = some (.int .i64 x.op) := by rw [cell_block HA.out]; rfl
  have k12 : (((w.alloc (.cells #[vsl, vsv] 25)).alloc (.cells #[.int .i64 x.op, .int .i64 x.lat, (.slice Ac x.code.length cc), .int .i64 x.to_.var, .int .u64 x.to_.el.e0, .int .u64 x.to_.el.e1, .int .u64 x.to_.el.e2, .int .u64 x.to_.el.e3, .int .u64 x.to_.el.e4, .int .u64 x.to_.el.e5, .int .u64 x.to_.el.e6, .int .u64 x.to_.el.e7, (.slice Aa x.a.fields.length ca), .int .i64 x.a.tail, (.slice Ab x.b.fields.length cb), .int .i64 x.b.tail, .int .i64 x.var, .string x.field] 71)).alloc (.cells #[.slice Al L.length cl, .slice Ar R.length cr] 32)).cell? ⟨w.heap.size + 1, 12, none⟩ = some (.slice Aa x.a.fields.length ca) := by rw [cell_block HA.out]; rfl
  have k13 : (((w.alloc (.cells #[vsl, vsv] 25)).alloc (.cells #[.int .i64 x.op, .int .i64 x.lat, (.slice Ac x.code.length cc), .int .i64 x.to_.var, .int .u64 x.to_.el.e0, .int .u64 x.to_.el.e1, .int .u64 x.to_.el.e2, .int .u64 x.to_.el.e3, .int .u64 x.to_.el.e4, .int .u64 x.to_.el.e5, .int .u64 x.to_.el.e6, .int .u64 x.to_.el.e7, (.slice Aa x.a.fields.length ca), .int .i64 x.a.tail, (.slice Ab x.b.fields.length cb), .int .i64 x.b.tail, .int .i64 x.var, .string x.field] 71)).alloc (.cells #[.slice Al L.length cl, .slice Ar R.length cr] 32)).cell? ⟨w.heap.size + 1, 13, none⟩ = some (.int .i64 x.a.tail) := by rw [cell_block HA.out]; rfl
  have k14 : (((w.alloc (.cells #[vsl, vsv] 25)).alloc (.cells #[.int .i64 x.op, .int .i64 x.lat, (.slice Ac x.code.length cc), .int .i64 x.to_.var, .int .u64 x.to_.el.e0, .int .u64 x.to_.el.e1, .int .u64 x.to_.el.e2, .int .u64 x.to_.el.e3, .int .u64 x.to_.el.e4, .int .u64 x.to_.el.e5, .int .u64 x.to_.el.e6, .int .u64 x.to_.el.e7, (.slice Aa x.a.fields.length ca), .int .i64 x.a.tail, (.slice Ab x.b.fields.length cb), .int .i64 x.b.tail, .int .i64 x.var, .string x.field] 71)).alloc (.cells #[.slice Al L.length cl, .slice Ar R.length cr] 32)).cell? ⟨w.heap.size + 1, 14, none⟩ = some (.slice Ab x.b.fields.length cb) := by rw [cell_block HA.out]; rfl
  have k15 : (((w.alloc (.cells #[vsl, vsv] 25)).alloc (.cells #[.int .i64 x.op, .int .i64 x.lat, (.slice Ac x.code.length cc), .int .i64 x.to_.var, .int .u64 x.to_.el.e0, .int .u64 x.to_.el.e1, .int .u64 x.to_.el.e2, .int .u64 x.to_.el.e3, .int .u64 x.to_.el.e4, .int .u64 x.to_.el.e5, .int .u64 x.to_.el.e6, .int .u64 x.to_.el.e7, (.slice Aa x.a.fields.length ca), .int .i64 x.a.tail, (.slice Ab x.b.fields.length cb), .int .i64 x.b.tail, .int .i64 x.var, .string x.field] 71)).alloc (.cells #[.slice Al L.length cl, .slice Ar R.length cr] 32)).cell? ⟨w.heap.size + 1, 15, none⟩ = some (.int .i64 x.b.tail) := by rw [cell_block HA.out]; rfl
  have j0 : (((w.alloc (.cells #[vsl, vsv] 25)).alloc (.cells #[.int .i64 x.op, .int .i64 x.lat, (.slice Ac x.code.length cc), .int .i64 x.to_.var, .int .u64 x.to_.el.e0, .int .u64 x.to_.el.e1, .int .u64 x.to_.el.e2, .int .u64 x.to_.el.e3, .int .u64 x.to_.el.e4, .int .u64 x.to_.el.e5, .int .u64 x.to_.el.e6, .int .u64 x.to_.el.e7, (.slice Aa x.a.fields.length ca), .int .i64 x.a.tail, (.slice Ab x.b.fields.length cb), .int .i64 x.b.tail, .int .i64 x.var, .string x.field] 71)).alloc (.cells #[.slice Al L.length cl, .slice Ar R.length cr] 32)).cell? ⟨w.heap.size + 1 + 1, 0, none⟩ = some (.slice Al L.length cl) := by rw [cell_block HA2.out]; rfl
  have j1 : (((w.alloc (.cells #[vsl, vsv] 25)).alloc (.cells #[.int .i64 x.op, .int .i64 x.lat, (.slice Ac x.code.length cc), .int .i64 x.to_.var, .int .u64 x.to_.el.e0, .int .u64 x.to_.el.e1, .int .u64 x.to_.el.e2, .int .u64 x.to_.el.e3, .int .u64 x.to_.el.e4, .int .u64 x.to_.el.e5, .int .u64 x.to_.el.e6, .int .u64 x.to_.el.e7, (.slice Aa x.a.fields.length ca), .int .i64 x.a.tail, (.slice Ab x.b.fields.length cb), .int .i64 x.b.tail, .int .i64 x.var, .string x.field] 71)).alloc (.cells #[.slice Al L.length cl, .slice Ar R.length cr] 32)).cell? ⟨w.heap.size + 1 + 1, 1, none⟩ = some (.slice Ar R.length cr) := by rw [cell_block HA2.out]; rfl
  have HHH := hide hop
  have HE : Hid (oneV L R x = match rowH L R x.a, rowH L R x.b with
    | some l, some m => sameV l m
    | _, _ => false) := hide (by
    unfold oneV
    rw [if_neg (by omega)]
    cases rowH L R x.a <;> cases rowH L R x.b <;> rfl)
  clear h h1 h2 hcr HA HA2 hop hfew hfa hfb
  go_enter Tryz.func35, Tryz.ntmps35
  go_upto_region 1 with fail
  generalize ((w.alloc (Obj.cells _ 25)).alloc (Obj.cells _ 71)).alloc (Obj.cells _ 32) = w0 at *
  rw [HHH.out] at k0
  have HC := hide (And.intro k14 (And.intro k15 (And.intro j0 j1)))
  go_wp2_with fail
  refine (HR1.out _ HB.out).mono ?_
  clear k0 k12 k13 k14 k15 j0 j1
  rintro e w1 ⟨⟨hn1, rfl, hb1⟩ | ⟨l1, v1, hs1, rfl, hv1⟩⟩
  · have H1 : Hid (Kpt w0 w1) := hide ⟨hb1⟩
    have HN1 := hide hn1
    clear hb1 hn1
    have k14 := H1.out.cell HC.out.1
    have k15 := H1.out.cell HC.out.2.1
    have j0 := H1.out.cell HC.out.2.2.1
    have j1 := H1.out.cell HC.out.2.2.2
    go_wp2_with fail
    refine (HR2.out _ (below_next HB.out H1.out.below)).mono ?_
    clear k14 k15 j0 j1
    rintro e w2 ⟨⟨_, rfl, hb2⟩ | ⟨l2, v2, hs2, rfl, hv2⟩⟩
    · have H2 := hide hb2
      clear hb2
      go_wp2_with fail
      go_ret
      exact ⟨congrArg (fun b => Ending.returned (.bool b)) (by rw [HE.out, HN1.out]), below_next (below_next HB.out H1.out.below) H2.out⟩
    · have H2 := hide hv2.below
      obtain ⟨A9, c9, rfl, _⟩ := RowZ.form hv2.row
      clear hv2 hs2
      go_wp2_with fail
      go_ret
      exact ⟨congrArg (fun b => Ending.returned (.bool b)) (by rw [HE.out, HN1.out]), below_next (below_next HB.out H1.out.below) H2.out⟩
  · have H1 : Hid (Kpt w0 w1) := hide ⟨hv1.below⟩
    have HV1 := hide hv1
    have HS1 := hide hs1
    obtain ⟨A8, c8, rfl, _⟩ := RowZ.form hv1.row
    clear hv1 hs1
    have k14 := H1.out.cell HC.out.1
    have k15 := H1.out.cell HC.out.2.1
    have j0 := H1.out.cell HC.out.2.2.1
    have j1 := H1.out.cell HC.out.2.2.2
    go_wp2_with fail
    refine (HR2.out _ (below_next HB.out H1.out.below)).mono ?_
    clear k14 k15 j0 j1
    rintro e w2 ⟨⟨hn2, rfl, hb2⟩ | ⟨l2, v2, hs2, rfl, hv2⟩⟩
    · have H2 := hide hb2
      have HN2 := hide hn2
      clear hb2 hn2
      go_wp2_with fail
      go_ret
      exact ⟨congrArg (fun b => Ending.returned (.bool b)) (by rw [HE.out, HS1.out, HN2.out]), below_next (below_next HB.out H1.out.below) H2.out⟩
    · have H2 := hide hv2
      have HS2 := hide hs2
      obtain ⟨A9, c9, rfl, _⟩ := RowZ.form hv2.row
      have HF := hide (fields18_any _ _ _ _ l1 l2 w2 (HV1.out.vls.below hv2.below) hv2.vls)
      clear hv2 hs2
      generalize hsv : sameV l1 l2 = sv at *
      go_wp2_with (go_at_call 34; refine HF.out.mono ?_; rintro e w3 ⟨rfl, hb3⟩; have H3 := hide hb3; clear hb3)
      go_ret
      exact ⟨congrArg (fun b => Ending.returned (.bool b)) (by rw [HE.out, HS1.out, HS2.out]; exact hsv.symm), below_next (below_next (below_next HB.out H1.out.below) H2.out.below) H3.out⟩
end Go.Proofs.YthnbhcfpfbimgaaGreat
/- The walk of chapter 19's First, for assertions about rows. (Printed by rhfirst.py.) -/
namespace Go.Proofs.YthnbhcfpfbimgaaGreat
open Go.RowKit
open Rw (El At Fld)
open Hd (oneV)
/-- An assertion about rows, right. -/
structure AoR (nv : Nat) (x : As) : Prop where
  ok : AOk nv x
  op : x.op = 9 ∨ x.op = 10
theorem one_any (B : Nat) (vsl vsv vc va vb vl vr : Value) (x : As) (L : List El) (R : List (List Vl)) (w : World) (h : AsAt w B x vc va vb) (h1 : Lbs w B vl L) (h2 : Rws w B vr R) (hx : AoR R.length x) (hfew : ∀ r ∈ R, r.length ≤ 1048576) :
    Calls Tryz.prog 35 #[.agg #[vsl, vsv], .agg #[.int .i64 x.op, .int .i64 x.lat, vc, .int .i64 x.to_.var, .int .u64 x.to_.el.e0, .int .u64 x.to_.el.e1, .int .u64 x.to_.el.e2, .int .u64 x.to_.el.e3, .int .u64 x.to_.el.e4, .int .u64 x.to_.el.e5, .int .u64 x.to_.el.e6, .int .u64 x.to_.el.e7, va, .int .i64 x.a.tail, vb, .int .i64 x.b.tail, .int .i64 x.var, .string x.field], .agg #[vl, vr]] w fun e w' => e = .returned (.bool (oneV L R x)) ∧ Below w.heap.size w w' := by
  rcases hx.op with h9 | h10
  · obtain ⟨ha, hb⟩ := hx.ok.rows h9
    exact one_rows B vsl vsv vc va vb vl vr x L R w h h1 h2 h9 hfew (by have := ha.few; omega) (by have := hb.few; omega)
  · obtain ⟨h0, hl⟩ := hx.ok.lacks h10
    obtain ⟨q, hq⟩ := Int.eq_ofNat_of_zero_le h0
    exact one_lacks B vsl vsv vc va vb vl vr x L R w h h1 h2 h10 q hq (by omega)
/-- A number below zero if all hold. -/
structure RFi (p : Prop) (e : Ending) : Prop where
  ex : ∃ r : Int, e = .returned (.int .i64 r) ∧ (r < 0 ↔ p)
set_option maxRecDepth 100000 in
set_option maxHeartbeats 4000000 in
theorem first19_any (B : Nat) (vsl vsv vs vl vr : Value) (as_ : List As) (L : List El) (R : List (List Vl)) (w : World) (h : Asrs w B vs as_) (h1 : Lbs w B vl L) (h2 : Rws w B vr R) (hok : ∀ x ∈ as_, AoR R.length x) (hfew : ∀ r ∈ R, r.length ≤ 1048576) :
    Calls Tryz.prog 18 #[.agg #[vsl, vsv, vs], .agg #[vl, vr]] w fun e w' => RFi (∀ x ∈ as_, oneV L R x = true) e ∧ Below w.heap.size w w' := by
  obtain ⟨A, c, rfl, _, hcm⟩ := h.form
  obtain ⟨Al, cl, rfl, _, _⟩ := SlAt.form h1.at_
  obtain ⟨Ar, cr, rfl, _, _⟩ := h2.form
  have hl9 : (as_.length : Int) ≤ 9223372036854775807 := by unfold maxLen at hcm; omega
  have HB := hide (below_next (below_laid w (.cells #[vsl, vsv, .slice A as_.length c] 28)) (below_laid _ (.cells #[.slice Al L.length cl, .slice Ar R.length cr] 32)))
  have HA := hide (heap_below (heap_alloc_last w (.cells #[vsl, vsv, .slice A as_.length c] 28)) (below_laid _ (.cells #[.slice Al L.length cl, .slice Ar R.length cr] 32)))
  have HA2 := hide (heap_two w (.cells #[vsl, vsv, .slice A as_.length c] 28) (.cells #[.slice Al L.length cl, .slice Ar R.length cr] 32))
  have HAS := hide (h.below HB.out)
  have HLB := hide (h1.below HB.out)
  have HRW := hide (h2.below HB.out)
  have HOK := hide (And.intro hok hfew)
  have p0 : ((w.alloc (.cells #[vsl, vsv, .slice A as_.length c] 28)).alloc (.cells #[.slice Al L.length cl, .slice Ar R.length cr] 32)).cell? ⟨w.heap.size, 0, none⟩ = some vsl := by rw [cell_block HA.out]; rfl
  have p1 : ((w.alloc (.cells #[vsl, vsv, .slice A as_.length c] 28)).alloc (.cells #[.slice Al L.length cl, .slice Ar R.length cr] 32)).cell? ⟨w.heap.size, 1, none⟩ = some vsv := by rw [cell_block HA.out]; rfl
  have p2 : ((w.alloc (.cells #[vsl, vsv, .slice A as_.length c] 28)).alloc (.cells #[.slice Al L.length cl, .slice Ar R.length cr] 32)).cell? ⟨w.heap.size, 2, none⟩ = some (.slice A as_.length c) := by rw [cell_block HA.out]; rfl
  have k0 : ((w.alloc (.cells #[vsl, vsv, .slice A as_.length c] 28)).alloc (.cells #[.slice Al L.length cl, .slice Ar R.length cr] 32)).cell? ⟨w.heap.size + 1, 0, none⟩ = some (.slice Al L.length cl) := by rw [cell_block HA2.out]; rfl
  have k1 : ((w.alloc (.cells #[vsl, vsv, .slice A as_.length c] 28)).alloc (.cells #[.slice Al L.length cl, .slice Ar R.length cr] 32)).cell? ⟨w.heap.size + 1, 1, none⟩ = some (.slice Ar R.length cr) := by rw [cell_block HA2.out]; rfl
  have HC := hide (And.intro p0 (And.intro p1 (And.intro p2 (And.intro k0 k1))))
  clear h h1 h2 hok hfew hcm HA HA2 p0 p1 p2 k0 k1
  go_enter Tryz.func18, Tryz.ntmps18
  go_wp2_with fail
  generalize (w.alloc (Obj.cells _ 28)).alloc (Obj.cells _ 32) = w0 at *
  go_loopw [5] (fun kv wr => (∃ q : Nat, (q ≤ as_.length ∧ ∀ (j : Nat) x, j < q → as_[j]? = some x → oneV L R x = true) ∧ kv = .int .i64 (q : Nat)) ∧ Kpt w0 wr) (fun kv _ => as_.length - (intOf kv).toNat)
  case atStart => exact ⟨⟨0, ⟨by omega, fun j x h => by omega⟩, rfl⟩, ⟨Below.refl _ _⟩⟩
  case round =>
    obtain ⟨⟨q, ⟨hq, hno⟩, rfl⟩, ho⟩ := hrel
    have HO := hide ho
    have HNO := hide hno
    clear ho hno
    have p2 := HO.out.cell HC.out.2.2.1
    by_cases hlt : q < as_.length
    · have i0 : (q : Int) < as_.length := by omega
      obtain ⟨bl, off, c', vc, va, vb, e, hbl, hr, ha⟩ := (HAS.out.below HO.out.below).at hlt
      cases e
      have hget := List.getElem?_eq_getElem hlt
      have hxo := HOK.out.1 _ (List.getElem_mem hlt)
      generalize as_[q] = x at *
      obtain ⟨Ac, cc, rfl, _, _⟩ := SlAt.form ha.code
      obtain ⟨Aa, ca, rfl, _, _⟩ := SlAt.form ha.fa
      obtain ⟨Ab, cb, rfl, _, _⟩ := SlAt.form ha.fb
      have HA := hide (And.intro ha hxo)
      have HR := hide (And.intro hr (And.intro hbl hget))
      clear hr ha hbl hget hxo
      go_upto_region 4 with fail
      clear p2
      have HST : Hid (Kpt wr wr.drew) := hide ⟨below_drewN (Below.refl _ _) 1⟩
      have HF := hide (one_any B vsl vsv _ _ _ _ _ x L R wr.drew (HA.out.1.below HST.out.below) ((HLB.out.below HO.out.below).below HST.out.below) ((HRW.out.below HO.out.below).below HST.out.below) HA.out.2 HOK.out.2)
      generalize hov : oneV L R x = r at *
      have HOV := hide hov
      clear hov
      refine wp_region_chain [0, 2, 4, 7, 1, 3, 5, 6] [(8, true), (9, true)] (Kpt wr) (by kernel_rfl) (by kernel_rfl) (fun _ _ _ _ _ h => h) HST.out ?_
      intro hne
      simp only [picks, picksW, List.filterMap_cons, List.filterMap_nil, List.getElem?_cons_zero, List.getElem?_cons_succ, Option.map_some]
      have hu0 : ∀ u : HoldW (Kpt wr), u.w.cell? ⟨w.heap.size, 0, none⟩ = some vsl := fun u => (HO.out.step u.ok.below).cell HC.out.1
      have hu1 : ∀ u : HoldW (Kpt wr), u.w.cell? ⟨w.heap.size, 1, none⟩ = some vsv := fun u => (HO.out.step u.ok.below).cell HC.out.2.1
      have hu2 : ∀ u : HoldW (Kpt wr), u.w.cell? ⟨w.heap.size, 2, none⟩ = some (.slice (some ⟨bl, off, none⟩) as_.length c) := fun u => (HO.out.step u.ok.below).cell HC.out.2.2.1
      have hu3 : ∀ u : HoldW (Kpt wr), u.w.cell? ⟨w.heap.size + 1, 0, none⟩ = some (.slice Al L.length cl) := fun u => (HO.out.step u.ok.below).cell HC.out.2.2.2.1
      have hu4 : ∀ u : HoldW (Kpt wr), u.w.cell? ⟨w.heap.size + 1, 1, none⟩ = some (.slice Ar R.length cr) := fun u => (HO.out.step u.ok.below).cell HC.out.2.2.2.2
      iterate 7 (refine wpHeld_step (fun K hK => ?_); go_simp; refine hK _ ?_; clear hK K)
      refine wpHeld_step (fun K hK => ?_)
      rw [if_pos (by with_unfolding_all rfl)]
      refine held_mid (b := bl) (o := off + q * 18) (cs := [.int .i64 x.op, .int .i64 x.lat, (.slice Ac x.code.length cc), .int .i64 x.to_.var, .int .u64 x.to_.el.e0, .int .u64 x.to_.el.e1, .int .u64 x.to_.el.e2, .int .u64 x.to_.el.e3, .int .u64 x.to_.el.e4, .int .u64 x.to_.el.e5, .int .u64 x.to_.el.e6, .int .u64 x.to_.el.e7, (.slice Aa x.a.fields.length ca), .int .i64 x.a.tail, (.slice Ab x.b.fields.length cb), .int .i64 x.b.tail, .int .i64 x.var, .string x.field]) rfl rfl (by rintro _ ⟨u, rfl⟩; exact u.ok.range HR.out.1 HR.out.2.1) Tryz.underlying71 rfl as_info (hK _ ?_)
      clear hK K
      refine wpHeld_nil ?_
      clear hu0 hu1 hu2 hu3 hu4 hne
      refine wpChain_cons fun K hK => ?_
      go_wp2_with (go_at_call 35; refine HF.out.mono ?_; rintro e w4 ⟨rfl, hb4⟩; have H5 := hide (HST.out.step hb4); clear hb4)
      refine chainF (fun _ => H5.out) (hK _ _ ?_)
      clear hK K
      refine wpChain_cons fun K hK => ?_
      go_wp2_with fail
      refine chainF (fun _ => H5.out) (hK _ _ ?_)
      clear hK K
      refine wpChain_nil ?_
      cases r
      · go_wp2_with fail
        go_ret
        refine ⟨⟨_, rfl, ?_⟩, below_next HB.out (HO.out.step H5.out.below).below⟩
        constructor
        · intro h; omega
        · intro h
          have := h x (List.mem_of_getElem? HR.out.2.2)
          rw [HOV.out] at this
          cases this
      · go_wp2_with fail
        exact ⟨⟨⟨q + 1, ⟨by omega, fun j y hj hy => by
          rcases Nat.lt_or_ge j q with h | h
          · exact HNO.out j y h hy
          · obtain rfl : j = q := by omega
            rw [HR.out.2.2] at hy; injection hy with hy; subst hy; exact HOV.out⟩, rfl⟩, HO.out.step H5.out.below⟩, by simp [intOf]; omega⟩
    · obtain rfl : q = as_.length := by omega
      have HFIN : Hid (∀ x ∈ as_, oneV L R x = true) := hide fun x hx => by
        obtain ⟨j, hj, rfl⟩ := List.mem_iff_getElem.1 hx
        exact HNO.out j _ hj (List.getElem?_eq_getElem hj)
      go_wp2_with fail
      go_ret
      exact ⟨⟨-1, rfl, ⟨fun _ => HFIN.out, fun _ => by omega⟩⟩, below_next HB.out HO.out.below⟩
end Go.Proofs.YthnbhcfpfbimgaaGreat
