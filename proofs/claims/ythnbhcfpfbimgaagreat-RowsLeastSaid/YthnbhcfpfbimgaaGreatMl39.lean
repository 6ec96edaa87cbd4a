/- Texts put together: RyRaise. -/
import Derived.Test.YthnbhcfpfbimgaaGreatMl38
/- The walk of chapter 22's reference raise. (Printed by ryraise.py.) -/
namespace Go.Proofs.YthnbhcfpfbimgaaGreat
open Go.RowKit
open Rw (El At Fld)
open Hd (elZ getV giveV raiseV rowH)
theorem Rws.setRow' {w : World} {B g : Nat} {v : Value} {R : List (List Vl)} {old new : Array Value} (h : Rws w B v R) (hg : w.heap[g]? = some (.cells old 32 (0, 0))) (hB : B ≤ g) : Rws (w.setRow g new) B v R := by
  obtain ⟨⟨vs, h1, h2⟩⟩ := h
  refine ⟨⟨vs, h1.setRow' hg hB (by decide), fun i r hr => ?_⟩⟩
  obtain ⟨u, k1, k2⟩ := h2 i r hr
  exact ⟨u, k1, k2.setRow' hg hB (by decide)⟩
set_option maxRecDepth 100000 in
set_option maxHeartbeats 4000000 in
theorem raise_lacks (B : Nat) (vc va vb vl vr : Value) (x : As) (L : List El) (R : List (List Vl)) (w : World) (h : AsAt w B x vc va vb) (h1 : Lbs w B vl L) (h2 : Rws w B vr R) (hB : B ≤ w.heap.size) (hop : x.op = 10) (q : Nat) (hq : x.var = (q : Nat)) (hql : q < R.length) :
    Calls Tryz.prog 30 #[.agg #[.int .i64 x.op, .int .i64 x.lat, vc, .int .i64 x.to_.var, .int .u64 x.to_.el.e0, .int .u64 x.to_.el.e1, .int .u64 x.to_.el.e2, .int .u64 x.to_.el.e3, .int .u64 x.to_.el.e4, .int .u64 x.to_.el.e5, .int .u64 x.to_.el.e6, .int .u64 x.to_.el.e7, va, .int .i64 x.a.tail, vb, .int .i64 x.b.tail, .int .i64 x.var, .string x.field], .agg #[vl, vr]] w fun e w' => RGv w B vl (raiseV L x R) e w' := by
  obtain ⟨Ac, cc, rfl, _, _⟩ := SlAt.form h.code
  obtain ⟨Aa, ca, rfl, _, _⟩ := SlAt.form h.fa
  obtain ⟨Ab, cb, rfl, _, _⟩ := SlAt.form h.fb
  obtain ⟨Al, cl, rfl, _, _⟩ := SlAt.form h1.at_
  obtain ⟨Ar, cr, rfl, _, hcr⟩ := h2.form
  have hr9 : (R.length : Int) ≤ 9223372036854775807 := by unfold maxLen at hcr; omega
  have HB := hide (below_next (below_next (below_laid w (.cells #[.int .i64 x.op, .int .i64 x.lat, (.slice Ac x.code.length cc), .int .i64 x.to_.var, .int .u64 x.to_.el.e0, .int .u64 x.to_.el.e1, .int .u64 x.to_.el.e2, .int .u64 x.to_.el.e3, .int .u64 x.to_.el.e4, .int .u64 x.to_.el.e5, .int .u64 x.to_.el.e6, .int .u64 x.to_.el.e7, (.slice Aa x.a.fields.length ca), .int .i64 x.a.tail, (.slice Ab x.b.fields.length cb), .int .i64 x.b.tail, .int .i64 x.var, .string x.field] 71)) (below_laid _ (.cells #[.slice Al L.length cl, .slice Ar R.length cr] 32))) (below_laid _ (.cells #[.slice none 0 0, .slice none 0 0] 32)))
  have HA := hide (heap_below (heap_alloc_last w (.cells #[.int .i64 x.op, .int .i64 x.lat, (.slice Ac x.code.length cc), .int .i64 x.to_.var, .int .u64 x.to_.el.e0, .int .u64 x.to_.el.e1, .int .u64 x.to_.el.e2, .int .u64 x.to_.el.e3, .int .u64 x.to_.el.e4, .int .u64 x.to_.el.e5, .int .u64 x.to_.el.e6, .int .u64 x.to_.el.e7, (.slice Aa x.a.fields.length ca), .int .i64 x.a.tail, (.slice Ab x.b.fields.length cb), .int .i64 x.b.tail, .int .i64 x.var, .string x.field] 71)) (below_next (below_laid _ (.cells #[.slice Al L.length cl, .slice Ar R.length cr] 32)) (below_laid _ (.cells #[.slice none 0 0, .slice none 0 0] 32))))
  have HA1 := hide (heap_mid w (.cells #[.int .i64 x.op, .int .i64 x.lat, (.slice Ac x.code.length cc), .int .i64 x.to_.var, .int .u64 x.to_.el.e0, .int .u64 x.to_.el.e1, .int .u64 x.to_.el.e2, .int .u64 x.to_.el.e3, .int .u64 x.to_.el.e4, .int .u64 x.to_.el.e5, .int .u64 x.to_.el.e6, .int .u64 x.to_.el.e7, (.slice Aa x.a.fields.length ca), .int .i64 x.a.tail, (.slice Ab x.b.fields.length cb), .int .i64 x.b.tail, .int .i64 x.var, .string x.field] 71) (.cells #[.slice Al L.length cl, .slice Ar R.length cr] 32) (.cells #[.slice none 0 0, .slice none 0 0] 32))
  have HA2 := hide (heap_three w (.cells #[.int .i64 x.op, .int .i64 x.lat, (.slice Ac x.code.length cc), .int .i64 x.to_.var, .int .u64 x.to_.el.e0, .int .u64 x.to_.el.e1, .int .u64 x.to_.el.e2, .int .u64 x.to_.el.e3, .int .u64 x.to_.el.e4, .int .u64 x.to_.el.e5, .int .u64 x.to_.el.e6, .int .u64 x.to_.el.e7, (.slice Aa x.a.fields.length ca), .int .i64 x.a.tail, (.slice Ab x.b.fields.length cb), .int .i64 x.b.tail, .int .i64 x.var, .string x.field] 71) (.cells #[.slice Al L.length cl, .slice Ar R.length cr] 32) (.cells #[.slice none 0 0, .slice none 0 0] 32))
  have k0 : (((w.alloc (.cells #[.int .i64 x.op, .int .i64 x.lat, (.slice Ac x.code.length cc), .int .i64 x.to_.var, .int .u64 x.to_.el.e0, .int .u64 x.to_.el.e1, .int .u64 x.to_.el.e2, .int .u64 x.to_.el.e3, .int .u64 x.to_.el.e4, .int .u64 x.to_.el.e5, .int .u64 x.to_.el.e6, .int .u64 x.to_.el.e7, (.slice Aa x.a.fields.length ca), .int .i64 x.a.tail, (.slice Ab x.b.fields.length cb), .int .i64 x.b.tail, .int .i64 x.var, .string x.field] 71)).alloc (.cells #[.slice Al L.length cl, .slice Ar R.length cr] 32)).alloc (.cells #[.slice none 0 0, .slice none 0 0] 32)).cell? ⟨w.heap.size, 0, none⟩ = some (.int .i64 x.op) := by rw [cell_block HA.out]; rfl
  have k16 : (((w.alloc (.cells #[.int .i64 x.op, .int .i64 x.lat, (.slice Ac x.code.length cc), .int .i64 x.to_.var, .int .u64 x.to_.el.e0, .int .u64 x.to_.el.e1, .int .u64 x.to_.el.e2, .int .u64 x.to_.el.e3, .int .u64 x.to_.el.e4, .int .u64 x.to_.el.e5, .int .u64 x.to_.el.e6, .int .u64 x.to_.el.e7, (.slice Aa x.a.fields.length ca), .int .i64 x.a.tail, (.slice Ab x.b.fields.length cb), .int .i64 x.b.tail, .int .i64 x.var, .string x.field] 71)).alloc (.cells #[.slice Al L.length cl, .slice Ar R.length cr] 32)).alloc (.cells #[.slice none 0 0, .slice none 0 0] 32)).cell? ⟨w.heap.size, 16, none⟩ = some (.int .i64 x.var) := by rw [cell_block HA.out]; rfl
  have k17 : (((w.alloc (.cells #[.int .i64 x.op, .int .i64 x.lat, (.slice Ac x.code.length cc), .int .i64 x.to_.var, .int .u64 x.to_.el.e0, .int .u64 x.to_.el.e1, .int .u64 x.to_.el.e2, .int .u64 x.to_.el.e3, .int .u64 x.to_.el.e4, .int .u64 x.to_.el.e5, .int .u64 x.to_.el.e6, .int .u64 x.to_.el.e7, (.slice Aa x.a.fields.length ca), .int .i64 x.a.tail, (.slice Ab x.b.fields.length cb), .int .i64 x.b.tail, .int .i64 x.var, .string x.field] 71)).alloc (.cells #[.slice Al L.length cl, .slice Ar R.length cr] 32)).alloc (.cells #[.slice none 0 0, .slice none 0 0] 32)).cell? ⟨w.heap.size, 17, none⟩ = some (.string x.field) := by rw [cell_block HA.out]; rfl
  have j0 : (((w.alloc (.cells #[.int .i64 x.op, .int .i64 x.lat, (.slice Ac x.code.length cc), .int .i64 x.to_.var, .int .u64 x.to_.el.e0, .int .u64 x.to_.el.e1, .int .u64 x.to_.el.e2, .int .u64 x.to_.el.e3, .int .u64 x.to_.el.e4, .int .u64 x.to_.el.e5, .int .u64 x.to_.el.e6, .int .u64 x.to_.el.e7, (.slice Aa x.a.fields.length ca), .int .i64 x.a.tail, (.slice Ab x.b.fields.length cb), .int .i64 x.b.tail, .int .i64 x.var, .string x.field] 71)).alloc (.cells #[.slice Al L.length cl, .slice Ar R.length cr] 32)).alloc (.cells #[.slice none 0 0, .slice none 0 0] 32)).cell? ⟨w.heap.size + 1, 0, none⟩ = some (.slice Al L.length cl) := by rw [cell_block HA1.out]; rfl
  have j1 : (((w.alloc (.cells #[.int .i64 x.op, .int .i64 x.lat, (.slice Ac x.code.length cc), .int .i64 x.to_.var, .int .u64 x.to_.el.e0, .int .u64 x.to_.el.e1, .int .u64 x.to_.el.e2, .int .u64 x.to_.el.e3, .int .u64 x.to_.el.e4, .int .u64 x.to_.el.e5, .int .u64 x.to_.el.e6, .int .u64 x.to_.el.e7, (.slice Aa x.a.fields.length ca), .int .i64 x.a.tail, (.slice Ab x.b.fields.length cb), .int .i64 x.b.tail, .int .i64 x.var, .string x.field] 71)).alloc (.cells #[.slice Al L.length cl, .slice Ar R.length cr] 32)).alloc (.cells #[.slice none 0 0, .slice none 0 0] 32)).cell? ⟨w.heap.size + 1, 1, none⟩ = some (.slice Ar R.length cr) := by rw [cell_block HA1.out]; rfl
  have HHH := hide (And.intro hop hq)
  have HE : Hid (raiseV L x R = if (getV R[q] x.field).isSome then none else some (R, false)) := hide (by
    unfold raiseV
    rw [if_pos hop, hq, Int.toNat_natCast, List.getD_eq_getElem?_getD, List.getElem?_eq_getElem hql]
    rfl)
  have HRW := hide (h2.below HB.out)
  have H2 := hide h2
  have HBB := hide hB
  obtain ⟨bl, off, c', u, e, hbl, hcu, hu⟩ := HRW.out.at hql
  cases e
  have i0 : (q : Int) < R.length := by omega
  generalize R[q] = r at *
  obtain ⟨Au, cu, rfl, _, _⟩ := SlAt.form hu.at_
  have HU := hide (And.intro hu hcu)
  clear h h1 h2 hB hcr HA HA1 hop hq hu hcu
  go_enter Tryz.func30, Tryz.ntmps30
  go_upto_region 1 with fail
  generalize ((w.alloc (Obj.cells _ 71)).alloc (Obj.cells _ 32)).alloc (Obj.cells _ 32) = w0 at *
  rw [HHH.out.1] at k0
  rw [HHH.out.2] at k16
  go_upto_region 2 with fail
  have HC := hide (And.intro k16 (And.intro k17 (And.intro j0 j1)))
  clear k0 k16 k17 j0 j1
  go_cut [7, 8] from 22 to 34 (fun p b wx => RoC w0 (getV r x.field) p b wx)
  case first =>
    have HSS : Hid (Kpt w0 w0.drew) := hide ⟨below_drewN (Below.refl _ _) 1⟩
    have HAT := hide (fun (wq : World) (hq : Kpt w0 wq) => get_any B _ r x.field wq (HU.out.1.below hq.below))
    refine wp_region_tree [0, 2, 6, 1, 3, 7, 4, 5] (.step 8 true (.take 9 (.take 10 (.take 11 (.step 12 true (.step 13 true (.step 14 true .done .done) .done) .done)))) (.step 12 true (.step 8 true (.take 9 (.take 10 (.take 11 (.step 13 true (.step 14 true .done .done) .done)))) .done) .done)) (Kpt w0) (by kernel_rfl) (by kernel_rfl) (fun _ _ _ _ _ h => h) HSS.out ?_
    intro hne
    simp only [picks, List.filterMap_cons, List.filterMap_nil, List.getElem?_cons_zero, List.getElem?_cons_succ]
    have hu1 : ∀ u : HoldW (Kpt w0), u.w.cell? ⟨w.heap.size, 16, none⟩ = some (.int .i64 (q : Nat)) := fun u => u.ok.cell HC.out.1
    have hu2 : ∀ u : HoldW (Kpt w0), u.w.cell? ⟨w.heap.size, 17, none⟩ = some (.string x.field) := fun u => u.ok.cell HC.out.2.1
    have hu3 : ∀ u : HoldW (Kpt w0), u.w.cell? ⟨w.heap.size + 1, 1, none⟩ = some (.slice (some ⟨bl, off, none⟩) R.length cr) := fun u => u.ok.cell HC.out.2.2.2
    have hu4 : ∀ u : HoldW (Kpt w0), u.w.cell? ⟨bl, off + q, none⟩ = some (.slice Au r.length cu) := fun u => u.ok.cell HU.out.2
    iterate 8 (refine wpHeld_step (fun K hK => ?_); go_simp; refine hK _ ?_; clear hK K)
    refine wpHeld_nil ?_
    have HNE := hide hne
    clear hu1 hu2 hu3 hu4 hne
    refine wpTree_both rfl (fun K hK => ?_) (wpTree_step rfl fun K hK => ?_)
    · go_wp2_with (go_at_call 54; refine (HAT.out _ HSS.out).mono ?_; rintro e w4 ⟨⟨z, b, rfl, hz, hb⟩, hb4⟩; have H4 := hide (And.intro (HSS.out.step hb4) (And.intro hz hb)); clear hb4 hz hb)
      refine chainF (fun _ => H4.out.1) (hK _ _ ?_)
      clear hK K
      have hne := HNE.out
      iterate 3 (refine wpTree_take rfl (fun K hK => ?_); go_simp; refine hK _ ?_; clear hK K)
      clear hne
      refine wpTree_step rfl fun K hK => ?_
      go_wp2_with fail
      refine chainF (fun _ => H4.out.1.step (below_laid _ _)) (hK _ _ ?_)
      clear hK K
      refine wpTree_step rfl fun K hK => ?_
      have HSA := hide (stA (T := 48) (w := w4) (new := #[.int .u64 z.e0, .int .u64 z.e1, .int .u64 z.e2, .int .u64 z.e3, .int .u64 z.e4, .int .u64 z.e5, .int .u64 z.e6, .int .u64 z.e7]) 7 32 el_info (by simp [Value.oneCell']))
      go_wp2_with (with_reducible refine HSA.out _ _ _ _ _ _ rfl rfl rfl rfl (by with_unfolding_all rfl) ?_)
      refine chainF (fun _ => H4.out.1.step (below_laid _ _)) (hK _ _ ?_)
      clear hK K
      refine wpTree_step rfl fun K hK => ?_
      go_wp2_with fail
      refine chainF (fun _ => H4.out.1.step (below_laid _ _)) (hK _ _ ?_)
      clear hK K
      refine wpTree_end ?_
      go_wp2_with fail
      go_meet
      exact ⟨w4.heap.size, z, b, rfl, rfl, H4.out.2.1, H4.out.2.2, heap_alloc_last _ _, (H4.out.1.step (below_laid _ _)).below⟩
    · go_wp2_with fail
      refine chainF (fun _ => HSS.out.step (below_laid _ _)) (hK _ _ ?_)
      clear hK K
      refine wpTree_step rfl fun K hK => ?_
      have HSB : Hid (Kpt w0 (w0.alloc (.cells #[.int .u64 0, .int .u64 0, .int .u64 0, .int .u64 0, .int .u64 0, .int .u64 0, .int .u64 0, .int .u64 0] 48)).drew) := hide ⟨below_drewN (below_laid _ _) 1⟩
      have HZB : Hid ((w0.alloc (.cells #[.int .u64 0, .int .u64 0, .int .u64 0, .int .u64 0, .int .u64 0, .int .u64 0, .int .u64 0, .int .u64 0] 48)).drew.heap[w0.heap.size]? = some (.cells #[.int .u64 0, .int .u64 0, .int .u64 0, .int .u64 0, .int .u64 0, .int .u64 0, .int .u64 0, .int .u64 0] 48 (0, 0))) := hide (heap_alloc_last w0 _)
      generalize (w0.alloc (Obj.cells #[.int .u64 0, .int .u64 0, .int .u64 0, .int .u64 0, .int .u64 0, .int .u64 0, .int .u64 0, .int .u64 0] 48)).drew = wz at *
      go_wp2_with (go_at_call 54; refine (HAT.out _ HSB.out).mono ?_; rintro e w4 ⟨⟨z, b, rfl, hz, hb⟩, hb4⟩; have H4 := hide (And.intro (HSB.out.step hb4) (And.intro hz (And.intro hb (heap_below HZB.out hb4)))); clear hb4 hz hb)
      refine chainF (fun _ => H4.out.1) (hK _ _ ?_)
      clear hK K
      have hne := HNE.out
      iterate 3 (refine wpTree_take rfl (fun K hK => ?_); go_simp; refine hK _ ?_; clear hK K)
      clear hne
      refine wpTree_step rfl fun K hK => ?_
      have HSR : Hid (Kpt w0 (w4.setRow w0.heap.size #[.int .u64 z.e0, .int .u64 z.e1, .int .u64 z.e2, .int .u64 z.e3, .int .u64 z.e4, .int .u64 z.e5, .int .u64 z.e6, .int .u64 z.e7])) := hide ⟨below_setRow H4.out.1.below (Nat.le_refl _) _⟩
      refine wpList_store_row rfl 48 (.tmp 7) (.tmp 32) rfl w0.heap.size #[.int .u64 z.e0, .int .u64 z.e1, .int .u64 z.e2, .int .u64 z.e3, .int .u64 z.e4, .int .u64 z.e5, .int .u64 z.e6, .int .u64 z.e7] rfl rfl 48 _ H4.out.2.2.2 el_info rfl (by simp [Value.oneCell']) ?_
      have HSH := hide (setRow_heap w4 w0.heap.size #[.int .u64 0, .int .u64 0, .int .u64 0, .int .u64 0, .int .u64 0, .int .u64 0, .int .u64 0, .int .u64 0] #[.int .u64 z.e0, .int .u64 z.e1, .int .u64 z.e2, .int .u64 z.e3, .int .u64 z.e4, .int .u64 z.e5, .int .u64 z.e6, .int .u64 z.e7] 48 (0, 0) H4.out.2.2.2)
      generalize w4.setRow w0.heap.size #[.int .u64 z.e0, .int .u64 z.e1, .int .u64 z.e2, .int .u64 z.e3, .int .u64 z.e4, .int .u64 z.e5, .int .u64 z.e6, .int .u64 z.e7] = w6 at *
      go_wp2_with fail
      refine chainF (fun _ => HSR.out) (hK _ _ ?_)
      clear hK K
      refine wpTree_step rfl fun K hK => ?_
      go_wp2_with fail
      refine chainF (fun _ => HSR.out) (hK _ _ ?_)
      clear hK K
      refine wpTree_end ?_
      go_wp2_with fail
      go_meet
      exact ⟨w0.heap.size, z, b, rfl, rfl, H4.out.2.1, H4.out.2.2.1, HSH.out, HSR.out.below⟩
  case rest =>
    obtain ⟨pp, z, cb, rfl, rfl, hz, hcb, hh, hbx⟩ := hcut
    have HX := hide (And.intro hcb hbx)
    have HK : Hid (Kpt w0 wc) := hide ⟨hbx⟩
    have j0 := HK.out.cell HC.out.2.2.1
    have j1 := HK.out.cell HC.out.2.2.2
    have HRS := hide (heap_below HA2.out hbx)
    rw [hcb] at HE
    clear hz hcb hh hbx
    cases cb
    · have HSO := hide (stO (T := 32) (w := wc) (b := w.heap.size + 1 + 1) (new := #[.slice Al L.length cl, .slice (some ⟨bl, off, none⟩) R.length cr]) 4 34 (HRS.out) asn_info rfl (asn_one rfl))
      have HQ2 := hide (HRS.out)
      go_wp2_with (with_reducible refine HSO.out _ _ _ _ _ rfl rfl rfl rfl ?_)
      refine bodyPost_ret (results_cell_two Tryz.results30 rfl (ld_asn (setRow_heap wc _ _ _ _ _ HQ2.out))) rfl ⟨⟨_, _, _, _, _, rfl, below_setRow (below_next HB.out HX.out.2) (by omega) _, by rw [HE.out]; rfl, fun p hp => by rw [HE.out, if_neg (by simp)] at hp; injection hp with hp; subst hp; exact ⟨rfl, H2.out.below (below_setRow (below_next HB.out HX.out.2) (by omega) _)⟩⟩⟩
    · have HSO := hide (stO (T := 32) (w := wc) (b := w.heap.size + 1 + 1) (new := #[.slice Al L.length cl, .slice (some ⟨bl, off, none⟩) R.length cr]) 4 34 (HRS.out) asn_info rfl (asn_one rfl))
      have HQ2 := hide (HRS.out)
      go_wp2_with (with_reducible refine HSO.out _ _ _ _ _ rfl rfl rfl rfl ?_)
      refine bodyPost_ret (results_cell_two Tryz.results30 rfl (ld_asn (setRow_heap wc _ _ _ _ _ HQ2.out))) rfl ⟨⟨_, _, _, _, _, rfl, below_setRow (below_next HB.out HX.out.2) (by omega) _, by rw [HE.out]; rfl, fun p hp => by rw [HE.out] at hp; cases hp⟩⟩
set_option maxRecDepth 100000 in
set_option maxHeartbeats 8000000 in
theorem raise_rows (B : Nat) (vc va vb vl vr : Value) (x : As) (L : List El) (R : List (List Vl)) (w : World) (h : AsAt w B x vc va vb) (h1 : Lbs w B vl L) (h2 : Rws w B vr R) (hB : B ≤ w.heap.size) (hop : x.op = 9) (hta : x.a.tail < R.length) (htb : x.b.tail < R.length) (hR : R.length ≤ 1000) (hN : ∀ r ∈ R, r.length ≤ 100000) (hfa : x.a.fields.length ≤ 1000) (hfb : x.b.fields.length ≤ 1000) :
    Calls Tryz.prog 30 #[.agg #[.int .i64 x.op, .int .i64 x.lat, vc, .int .i64 x.to_.var, .int .u64 x.to_.el.e0, .int .u64 x.to_.el.e1, .int .u64 x.to_.el.e2, .int .u64 x.to_.el.e3, .int .u64 x.to_.el.e4, .int .u64 x.to_.el.e5, .int .u64 x.to_.el.e6, .int .u64 x.to_.el.e7, va, .int .i64 x.a.tail, vb, .int .i64 x.b.tail, .int .i64 x.var, .string x.field], .agg #[vl, vr]] w fun e w' => RGv w B vl (raiseV L x R) e w' := by
  obtain ⟨Ac, cc, rfl, _, _⟩ := SlAt.form h.code
  obtain ⟨Aa, ca, rfl, _, _⟩ := SlAt.form h.fa
  obtain ⟨Ab, cb, rfl, _, _⟩ := SlAt.form h.fb
  obtain ⟨Al, cl, rfl, _, _⟩ := SlAt.form h1.at_
  obtain ⟨Ar, cr, rfl, _, hcr⟩ := h2.form
  have hr9 : (R.length : Int) ≤ 9223372036854775807 := by unfold maxLen at hcr; omega
  have HB := hide (below_next (below_next (below_laid w (.cells #[.int .i64 x.op, .int .i64 x.lat, (.slice Ac x.code.length cc), .int .i64 x.to_.var, .int .u64 x.to_.el.e0, .int .u64 x.to_.el.e1, .int .u64 x.to_.el.e2, .int .u64 x.to_.el.e3, .int .u64 x.to_.el.e4, .int .u64 x.to_.el.e5, .int .u64 x.to_.el.e6, .int .u64 x.to_.el.e7, (.slice Aa x.a.fields.length ca), .int .i64 x.a.tail, (.slice Ab x.b.fields.length cb), .int .i64 x.b.tail, .int .i64 x.var, .string x.field] 71)) (below_laid _ (.cells #[.slice Al L.length cl, .slice Ar R.length cr] 32))) (below_laid _ (.cells #[.slice none 0 0, .slice none 0 0] 32)))
  have HA := hide (heap_below (heap_alloc_last w (.cells #[.int .i64 x.op, .int .i64 x.lat, (.slice Ac x.code.length cc), .int .i64 x.to_.var, .int .u64 x.to_.el.e0, .int .u64 x.to_.el.e1, .int .u64 x.to_.el.e2, .int .u64 x.to_.el.e3, .int .u64 x.to_.el.e4, .int .u64 x.to_.el.e5, .int .u64 x.to_.el.e6, .int .u64 x.to_.el.e7, (.slice Aa x.a.fields.length ca), .int .i64 x.a.tail, (.slice Ab x.b.fields.length cb), .int .i64 x.b.tail, .int .i64 x.var, .string x.field] 71)) (below_next (below_laid _ (.cells #[.slice Al L.length cl, .slice Ar R.length cr] 32)) (below_laid _ (.cells #[.slice none 0 0, .slice none 0 0] 32))))
  have HA1 := hide (heap_mid w (.cells #[.int .i64 x.op, .int .i64 x.lat, (.slice Ac x.code.length cc), .int .i64 x.to_.var, .int .u64 x.to_.el.e0, .int .u64 x.to_.el.e1, .int .u64 x.to_.el.e2, .int .u64 x.to_.el.e3, .int .u64 x.to_.el.e4, .int .u64 x.to_.el.e5, .int .u64 x.to_.el.e6, .int .u64 x.to_.el.e7, (.slice Aa x.a.fields.length ca), .int .i64 x.a.tail, (.slice Ab x.b.fields.length cb), .int .i64 x.b.tail, .int .i64 x.var, .string x.field] 71) (.cells #[.slice Al L.length cl, .slice Ar R.length cr] 32) (.cells #[.slice none 0 0, .slice none 0 0] 32))
  have HA2 := hide (heap_three w (.cells #[.int .i64 x.op, .int .i64 x.lat, (.slice Ac x.code.length cc), .int .i64 x.to_.var, .int .u64 x.to_.el.e0, .int .u64 x.to_.el.e1, .int .u64 x.to_.el.e2, .int .u64 x.to_.el.e3, .int .u64 x.to_.el.e4, .int .u64 x.to_.el.e5, .int .u64 x.to_.el.e6, .int .u64 x.to_.el.e7, (.slice Aa x.a.fields.length ca), .int .i64 x.a.tail, (.slice Ab x.b.fields.length cb), .int .i64 x.b.tail, .int .i64 x.var, .string x.field] 71) (.cells #[.slice Al L.length cl, .slice Ar R.length cr] 32) (.cells #[.slice none 0 0, .slice none 0 0] 32))
  have k0 : (((w.alloc (.cells #[.int .i64 x.op, .int .i64 x.lat, (.slice Ac x.code.length cc), .int .i64 x.to_.var, .int .u64 x.to_.el.e0, .int .u64 x.to_.el.e1, .int .u64 x.to_.el.e2, .int .u64 x.to_.el.e3, .int .u64 x.to_.el.e4, .int .u64 x.to_.el.e5, .int .u64 x.to_.el.e6, .int .u64 x.to_.el.e7, (.slice Aa x.a.fields.length ca), .int .i64 x.a.tail, (.slice Ab x.b.fields.length cb), .int .i64 x.b.tail, .int .i64 x.var, .string x.field] 71)).alloc (.cells #[.slice Al L.length cl, .slice Ar R.length cr] 32)).alloc (.cells #[.slice none 0 0, .slice none 0 0] 32)).cell? ⟨w.heap.size, 0, none⟩ = some (.int .i64 x.op) := by rw [cell_block HA.out]; rfl
  have k12 : (((w.alloc (.cells #[.int .i64 x.op, .int .i64 x.lat, (.slice Ac x.code.length cc), .int .i64 x.to_.var, .int .u64 x.to_.el.e0, .int .u64 x.to_.el.e1, .int .u64 x.to_.el.e2, .int .u64 x.to_.el.e3, .int .u64 x.to_.el.e4, .int .u64 x.to_.el.e5, .int .u64 x.to_.el.e6, .int .u64 x.to_.el.e7, (.slice Aa x.a.fields.length ca), .int .i64 x.a.tail, (.slice Ab x.b.fields.length cb), .int .i64 x.b.tail, .int .i64 x.var, .string x.field] 71)).alloc (.cells #[.slice Al L.length cl, .slice Ar R.length cr] 32)).alloc (.cells #[.slice none 0 0, .slice none 0 0] 32)).cell? ⟨w.heap.size, 12, none⟩ = some (.slice Aa x.a.fields.length ca) := by rw [cell_block HA.out]; rfl
  have k13 : (((w.alloc (.cells #[.int .i64 x.op, .int .i64 x.lat, (.slice Ac x.code.length cc), .int .i64 x.to_.var, .int .u64 x.to_.el.e0, .int .u64 x.to_.el.e1, .int .u64 x.to_.el.e2, .int .u64 x.to_.el.e3, .int .u64 x.to_.el.e4, .int .u64 x.to_.el.e5, .int .u64 x.to_.el.e6, .int .u64 x.to_.el.e7, (.slice Aa x.a.fields.length ca), .int .i64 x.a.tail, (.slice Ab x.b.fields.length cb), .int .i64 x.b.tail, .int .i64 x.var, .string x.field] 71)).alloc (.cells #[.slice Al L.length cl, .slice Ar R.length cr] 32)).alloc (.cells #[.slice none 0 0, .slice none 0 0] 32)).cell? ⟨w.heap.size, 13, none⟩ = some (.int .i64 x.a.tail) := by rw [cell_block HA.out]; rfl
  have k14 : (((w.alloc (.cells #[.int .i64 x.op, .int .i64 x.lat, (.slice Ac x.code.length cc), .int .i64 x.to_.var, .int .u64 x.to_.el.e0, .int .u64 x.to_.el.e1, .int .u64 x.to_.el.e2, .int .u64 x.to_.el.e3, .int .u64 x.to_.el.e4, .int .u64 x.to_.el.e5, .int .u64 x.to_.el.e6, .int .u64 x.to_.el.e7, (.slice Aa x.a.fields.length ca), .int .i64 x.a.tail, (.slice Ab x.b.fields.length cb), .int .i64 x.b.tail, .int .i64 x.var, .string x.field] 71)).alloc (.cells #[.slice Al L.length cl, .slice Ar R.length cr] 32)).alloc (.cells #[.slice none 0 0, .slice none 0 0] 32)).cell? ⟨w.heap.size, 14, none⟩ = some (.slice Ab x.b.fields.length cb) := by rw [cell_block HA.out]; rfl
  have k15 : (((w.alloc (.cells #[.int .i64 x.op, .int .i64 x.lat, (.slice Ac x.code.length cc), .int .i64 x.to_.var, .int .u64 x.to_.el.e0, .int .u64 x.to_.el.e1, .int .u64 x.to_.el.e2, .int .u64 x.to_.el.e3, .int .u64 x.to_.el.e4, .int .u64 x.to_.el.e5, .int .u64 x.to_.el.e6, .int .u64 x.to_.el.e7, (.slice Aa x.a.fields.length ca), .int .i64 x.a.tail, (.slice Ab x.b.fields.length cb), .int .i64 x.b.tail, .int .i64 x.var, .string x.field] 71)).alloc (.cells #[.slice Al L.length cl, .slice Ar R.length cr] 32)).alloc (.cells #[.slice none 0 0, .slice none 0 0] 32)).cell? ⟨w.heap.size, 15, none⟩ = some (.int .i64 x.b.tail) := by rw [cell_block HA.out]; rfl
  have j0 : (((w.alloc (.cells #[.int .i64 x.op, .int .i64 x.lat, (.slice Ac x.code.length cc), .int .i64 x.to_.var, .int .u64 x.to_.el.e0, .int .u64 x.to_.el.e1, .int .u64 x.to_.el.e2, .int .u64 x.to_.el.e3, .int .u64 x.to_.el.e4, .int .u64 x.to_.el.e5, .int .u64 x.to_.el.e6, .int .u64 x.to_.el.e7, (.slice Aa x.a.fields.length ca), .int .i64 x.a.tail, (.slice Ab x.b.fields.length cb), .int .i64 x.b.tail, .int .i64 x.var, .string x.field] 71)).alloc (.cells #[.slice Al L.length cl, .slice Ar R.length cr] 32)).alloc (.cells #[.slice none 0 0, .slice none 0 0] 32)).cell? ⟨w.heap.size + 1, 0, none⟩ = some (.slice Al L.length cl) := by rw [cell_block HA1.out]; rfl
  have j1 : (((w.alloc (.cells #[.int .i64 x.op, .int .i64 x.lat, (.slice Ac x.code.length cc), .int .i64 x.to_.var, .int .u64 x.to_.el.e0, .int .u64 x.to_.el.e1, .int .u64 x.to_.el.e2, .int .u64 x.to_.el.e3, .int .u64 x.to_.el.e4, .int .u64 x.to_.el.e5, .int .u64 x.to_.el.e6, .int .u64 x.to_.el.e7, (.slice Aa x.a.fields.length ca), .int .i64 x.a.tail, (.slice Ab x.b.fields.length cb), .int .i64 x.b.tail, .int .i64 x.var, .string x.field] 71)).alloc (.cells #[.slice Al L.length cl, .slice Ar R.length cr] 32)).alloc (.cells #[.slice none 0 0, .slice none 0 0] 32)).cell? ⟨w.heap.size + 1, 1, none⟩ = some (.slice Ar R.length cr) := by rw [cell_block HA1.out]; rfl
  have HHH := hide hop
  have HR1 := hide (fun (wq : World) (hq : Below w.heap.size w wq) => row19_any B _ _ _ L R x.a wq (h.fa.below hq) h.sa (h1.below hq) (h2.below hq) (fun r hr => Nat.le_trans (hN r hr) (by omega)) hfa)
  have HR2 := hide (fun (wq : World) (hq : Below w.heap.size w wq) => row19_any B _ _ _ L R x.b wq (h.fb.below hq) h.sb (h1.below hq) (h2.below hq) (fun r hr => Nat.le_trans (hN r hr) (by omega)) hfb)
  have HE0 : Hid (∀ l m, rowH L R x.a = some l → rowH L R x.b = some m → raiseV L x R = match giveV x.a.tail l m R false with
      | none => none
      | some p => match giveV x.b.tail m l p.1 false with
        | none => none
        | some q => some (q.1, p.2 || q.2)) := hide (fun l m e1 e2 => by unfold raiseV; rw [if_neg (by omega), e1, e2]; rfl)
  have HE1 : Hid (rowH L R x.a = none → raiseV L x R = none) := hide (fun e1 => by unfold raiseV; rw [if_neg (by omega), e1])
  have HE2 : Hid (rowH L R x.b = none → raiseV L x R = none) := hide (fun e1 => by unfold raiseV; rw [if_neg (by omega), e1]; cases rowH L R x.a <;> rfl)
  have H12 := hide (And.intro h1 h2)
  have HBB := hide hB
  have HTT := hide (And.intro hta (And.intro htb (And.intro hR (And.intro hN (And.intro hfa hfb)))))
  clear h h1 h2 hB hcr HA HA1 hop hta htb hR hN hfa hfb
  go_enter Tryz.func30, Tryz.ntmps30
  go_upto_region 1 with fail
  generalize ((w.alloc (Obj.cells _ 71)).alloc (Obj.cells _ 32)).alloc (Obj.cells _ 32) = w0 at *
  rw [HHH.out] at k0
  have HC := hide (And.intro k12 (And.intro k13 (And.intro k14 (And.intro k15 (And.intro j0 j1)))))
  go_wp2_with fail
  refine (HR1.out _ HB.out).mono ?_
  clear k0 k12 k13 k14 k15 j0 j1
  rintro e w1 ⟨⟨hn1, rfl, hb1⟩ | ⟨l1, v1, hs1, rfl, hv1⟩⟩
  · have H1 : Hid (Kpt w0 w1) := hide ⟨hb1⟩
    have HN1 := hide (HE1.out hn1)
    clear hb1 hn1
    have k14 := H1.out.cell HC.out.2.2.1
    have k15 := H1.out.cell HC.out.2.2.2.1
    have j0 := H1.out.cell HC.out.2.2.2.2.1
    have j1 := H1.out.cell HC.out.2.2.2.2.2
    go_wp2_with fail
    refine (HR2.out _ (below_next HB.out H1.out.below)).mono ?_
    clear k14 k15 j0 j1
    rintro e w2 ⟨⟨_, rfl, hb2⟩ | ⟨l2, v2, hs2, rfl, hv2⟩⟩
    · have H2 := hide (H1.out.step hb2)
      clear hb2
      have j0 := H2.out.cell HC.out.2.2.2.2.1
      have j1 := H2.out.cell HC.out.2.2.2.2.2
      have HRS := hide (heap_below HA2.out H2.out.below)
      have HSO := hide (stO (T := 32) (w := w2) (b := w.heap.size + 1 + 1) (new := #[.slice Al L.length cl, .slice Ar R.length cr]) 4 57 (HRS.out) asn_info rfl (asn_one rfl))
      have HQ2 := hide (HRS.out)
      go_wp2_with (with_reducible refine HSO.out _ _ _ _ _ rfl rfl rfl rfl ?_)
      refine bodyPost_ret (results_cell_two Tryz.results30 rfl (ld_asn (setRow_heap w2 _ _ _ _ _ HQ2.out))) rfl ⟨⟨_, _, _, _, _, rfl, below_setRow (below_next HB.out H2.out.below) (by omega) _, by rw [HN1.out]; rfl, fun p hp => by rw [HN1.out] at hp; cases hp⟩⟩
    · have H2 := hide (H1.out.step hv2.below)
      obtain ⟨A9, c9, rfl, _⟩ := RowZ.form hv2.row
      clear hv2 hs2
      have j0 := H2.out.cell HC.out.2.2.2.2.1
      have j1 := H2.out.cell HC.out.2.2.2.2.2
      have HRS := hide (heap_below HA2.out H2.out.below)
      have HSO := hide (stO (T := 32) (w := w2) (b := w.heap.size + 1 + 1) (new := #[.slice Al L.length cl, .slice Ar R.length cr]) 4 57 (HRS.out) asn_info rfl (asn_one rfl))
      have HQ2 := hide (HRS.out)
      go_wp2_with (with_reducible refine HSO.out _ _ _ _ _ rfl rfl rfl rfl ?_)
      refine bodyPost_ret (results_cell_two Tryz.results30 rfl (ld_asn (setRow_heap w2 _ _ _ _ _ HQ2.out))) rfl ⟨⟨_, _, _, _, _, rfl, below_setRow (below_next HB.out H2.out.below) (by omega) _, by rw [HN1.out]; rfl, fun p hp => by rw [HN1.out] at hp; cases hp⟩⟩
  · have H1 : Hid (Kpt w0 w1) := hide ⟨hv1.below⟩
    have HV1 := hide hv1
    have HS1 := hide hs1
    obtain ⟨A8, c8, rfl, _⟩ := RowZ.form hv1.row
    clear hv1 hs1
    have k14 := H1.out.cell HC.out.2.2.1
    have k15 := H1.out.cell HC.out.2.2.2.1
    have j0 := H1.out.cell HC.out.2.2.2.2.1
    have j1 := H1.out.cell HC.out.2.2.2.2.2
    go_wp2_with fail
    refine (HR2.out _ (below_next HB.out H1.out.below)).mono ?_
    clear k14 k15 j0 j1
    rintro e w2 ⟨⟨hn2, rfl, hb2⟩ | ⟨l2, v2, hs2, rfl, hv2⟩⟩
    · have H2 := hide (H1.out.step hb2)
      have HN1 := hide (HE2.out hn2)
      clear hb2 hn2
      have j0 := H2.out.cell HC.out.2.2.2.2.1
      have j1 := H2.out.cell HC.out.2.2.2.2.2
      have HRS := hide (heap_below HA2.out H2.out.below)
      have HSO := hide (stO (T := 32) (w := w2) (b := w.heap.size + 1 + 1) (new := #[.slice Al L.length cl, .slice Ar R.length cr]) 4 57 (HRS.out) asn_info rfl (asn_one rfl))
      have HQ2 := hide (HRS.out)
      go_wp2_with (with_reducible refine HSO.out _ _ _ _ _ rfl rfl rfl rfl ?_)
      refine bodyPost_ret (results_cell_two Tryz.results30 rfl (ld_asn (setRow_heap w2 _ _ _ _ _ HQ2.out))) rfl ⟨⟨_, _, _, _, _, rfl, below_setRow (below_next HB.out H2.out.below) (by omega) _, by rw [HN1.out]; rfl, fun p hp => by rw [HN1.out] at hp; cases hp⟩⟩
    · have H2 := hide (H1.out.step hv2.below)
      have HV2 := hide hv2
      have HE := hide (HE0.out l1 l2 HS1.out hs2)
      have HLL : Hid (l1.length ≤ 101000 ∧ l2.length ≤ 101000) := hide ⟨by have := Hd.rowH_len HS1.out HTT.out.2.2.2.1; have := HTT.out.2.2.2.2.1; omega, by have := Hd.rowH_len hs2 HTT.out.2.2.2.1; have := HTT.out.2.2.2.2.2; omega⟩
      have HDU := hide (And.intro (Hd.rowH_up HS1.out).nodup (Hd.rowH_up hs2).nodup)
      obtain ⟨A9, c9, rfl, _⟩ := RowZ.form hv2.row
      have HW2 := hide (below_next HB.out H2.out.below)
      have HGI := hide (give_any w2.heap.size B x.a.tail (.slice A8 l1.length c8) (.slice A9 l2.length c9) (.slice Al L.length cl) (.slice Ar R.length cr) l1 l2 L R 100000 w2 ((HV1.out.vls.below hv2.below).mono hv2.below.size) hv2.vls ((H12.out.1.below HW2.out).mono (Nat.le_trans HBB.out HW2.out.size)) (H12.out.2.below HW2.out) (Nat.le_refl _) (Nat.le_trans HBB.out HW2.out.size) HTT.out.1 HTT.out.2.2.1 HTT.out.2.2.2.1 (by have := HLL.out.2; omega))
      clear hv2 hs2
      have k13 := H2.out.cell HC.out.2.1
      have j0 := H2.out.cell HC.out.2.2.2.2.1
      have j1 := H2.out.cell HC.out.2.2.2.2.2
      cases hg1 : giveV x.a.tail l1 l2 R false with
      | none =>
        rw [hg1] at HGI HE
        clear hg1
        go_upto_region 10 with (first | (with_reducible refine HST.out _ _ _ _ _ _ rfl rfl rfl rfl (by with_unfolding_all rfl) ?_) | (go_at_call 56; refine HGI.out.mono ?_; rintro e w3 ⟨⟨A3, n3, cp3, c3, b3, rfl, hb3, hs3, _⟩⟩; have hs3 : false = b3 := hs3; subst hs3; clear k13 j0 j1; have HST := hide (stA (T := 32) (w := w3) (new := #[.slice Al L.length cl, .slice A3 n3 cp3]) 13 66 asn_info (asn_one rfl)); have H3 := hide ((H2.out.step hb3).step (below_laid w3 (.cells #[.slice Al L.length cl, .slice A3 n3 cp3] 32))); clear hb3))
        generalize w3.alloc (Obj.cells #[.slice Al L.length cl, .slice A3 n3 cp3] 32) = w4 at *
        have j0 := H3.out.cell HC.out.2.2.2.2.1
        have j1 := H3.out.cell HC.out.2.2.2.2.2
        have HRS := hide (heap_below HA2.out H3.out.below)
        have HSO := hide (stO (T := 32) (w := w4) (b := w.heap.size + 1 + 1) (new := #[.slice Al L.length cl, .slice Ar R.length cr]) 4 71 (HRS.out) asn_info rfl (asn_one rfl))
        have HQ2 := hide (HRS.out)
        go_wp2_with (with_reducible refine HSO.out _ _ _ _ _ rfl rfl rfl rfl ?_)
        refine bodyPost_ret (results_cell_two Tryz.results30 rfl (ld_asn (setRow_heap w4 _ _ _ _ _ HQ2.out))) rfl ⟨⟨_, _, _, _, _, rfl, below_setRow (below_next HB.out H3.out.below) (by omega) _, by rw [HE.out]; rfl, fun p hp => by rw [HE.out] at hp; cases hp⟩⟩
      | some p =>
        obtain ⟨R1, d1⟩ := p
        rw [hg1] at HGI HE
        have HG1 := hide (Hd.give_spec HDU.out.2 HTT.out.1 hg1)
        have HN1 := hide (Hd.give_len HTT.out.2.2.2.1 hg1)
        clear hg1
        simp only at HE
        go_upto_region 11 with (first | (with_reducible refine HST.out _ _ _ _ _ _ rfl rfl rfl rfl (by with_unfolding_all rfl) ?_) | (go_at_call 56; refine HGI.out.mono ?_; rintro e w3 ⟨⟨A3, n3, cp3, c3, b3, rfl, hb3, hs3, hp3⟩⟩; have hs3 : true = b3 := hs3; subst hs3; obtain ⟨hc3, hr3⟩ := hp3 _ rfl; have hc3 : d1 = c3 := hc3; subst hc3; clear k13 j0 j1; have HST := hide (stA (T := 32) (w := w3) (new := #[.slice Al L.length cl, .slice A3 n3 cp3]) 13 66 asn_info (asn_one rfl)); have H3 := hide ((H2.out.step hb3).step (below_laid w3 (.cells #[.slice Al L.length cl, .slice A3 n3 cp3] 32))); have HM := hide (heap_alloc_last w3 (.cells #[.slice Al L.length cl, .slice A3 n3 cp3] 32)); have HB3 := hide (below_next hb3 (below_laid w3 (.cells #[.slice Al L.length cl, .slice A3 n3 cp3] 32))); have HR3 := hide (hr3.below (below_laid w3 (.cells #[.slice Al L.length cl, .slice A3 n3 cp3] 32))); clear hb3 hr3 hp3))
        clear HST HGI
        obtain ⟨A3', c3', e3, _, _⟩ := HR3.out.form
        injection e3 with e31 e32 e33
        subst e31 e32 e33
        generalize w3.alloc (Obj.cells #[.slice Al L.length cl, .slice A3 R1.length cp3] 32) = w4 at *
        generalize w3.heap.size = p4 at *
        have HL1 := hide HG1.out.len
        have HW4 := hide (below_next HB.out H3.out.below)
        have HGJ := hide (give_any w4.heap.size B x.b.tail (.slice A9 l2.length c9) (.slice A8 l1.length c8) (.slice Al L.length cl) (.slice A3 R1.length cp3) l2 l1 L R1 201000 w4 ((HV2.out.vls.below HB3.out).mono HB3.out.size) (((HV1.out.vls.below HV2.out.below).below HB3.out).mono (Nat.le_trans HV2.out.below.size HB3.out.size)) ((H12.out.1.below HW4.out).mono (Nat.le_trans HBB.out HW4.out.size)) HR3.out (Nat.le_refl _) (Nat.le_trans HBB.out HW4.out.size) (by rw [HL1.out]; exact HTT.out.2.1) (by rw [HL1.out]; exact HTT.out.2.2.1) (fun r hr => by have := HN1.out r hr; have := HLL.out.2; omega) (by have := HLL.out.1; omega))
        have k15 := H3.out.cell HC.out.2.2.2.1
        have m0 : w4.cell? ⟨p4, 0, none⟩ = some (.slice Al L.length cl) := by rw [cell_block HM.out]; rfl
        have m1 : w4.cell? ⟨p4, 1, none⟩ = some (.slice A3 R1.length cp3) := by rw [cell_block HM.out]; rfl
        cases hg2 : giveV x.b.tail l2 l1 R1 false with
        | none =>
          rw [hg2] at HGJ HE
          clear hg2
          go_upto_region 12 with (first | (with_reducible refine HST.out _ _ _ _ _ _ rfl rfl rfl rfl (by with_unfolding_all rfl) ?_) | (go_at_call 56; refine HGJ.out.mono ?_; rintro e w5 ⟨⟨A5, n5, cp5, c5, b5, rfl, hb5, hs5, _⟩⟩; have hs5 : false = b5 := hs5; subst hs5; clear k15 m0 m1; have HST := hide (stA (T := 32) (w := w5) (new := #[.slice Al L.length cl, .slice A5 n5 cp5]) 16 80 asn_info (asn_one rfl)); have HM5 := hide (heap_alloc_last w5 (.cells #[.slice Al L.length cl, .slice A5 n5 cp5] 32)); have H5 := hide ((H3.out.step hb5).step (below_laid w5 (.cells #[.slice Al L.length cl, .slice A5 n5 cp5] 32))); clear hb5))
          generalize w5.alloc (Obj.cells #[.slice Al L.length cl, .slice A5 n5 cp5] 32) = w6 at *
          generalize w5.heap.size = p6 at *
          have m0 : w6.cell? ⟨p6, 0, none⟩ = some (.slice Al L.length cl) := by rw [cell_block HM5.out]; rfl
          have m1 : w6.cell? ⟨p6, 1, none⟩ = some (.slice A5 n5 cp5) := by rw [cell_block HM5.out]; rfl
          have HRS := hide (heap_below HA2.out H5.out.below)
          cases d1
          · have HSO := hide (stO (T := 32) (w := w6) (b := w.heap.size + 1 + 1) (new := #[.slice Al L.length cl, .slice A5 n5 cp5]) 4 83 (HRS.out) asn_info rfl (asn_one rfl))
            have HQ2 := hide (HRS.out)
            go_wp2_with (with_reducible refine HSO.out _ _ _ _ _ rfl rfl rfl rfl ?_)
            refine bodyPost_ret (results_cell_two Tryz.results30 rfl (ld_asn (setRow_heap w6 _ _ _ _ _ HQ2.out))) rfl ⟨⟨_, _, _, _, _, rfl, below_setRow (below_next HB.out H5.out.below) (by omega) _, by rw [HE.out]; rfl, fun p hp => by rw [HE.out] at hp; cases hp⟩⟩
          · have HSO := hide (stO (T := 32) (w := w6) (b := w.heap.size + 1 + 1) (new := #[.slice Al L.length cl, .slice A5 n5 cp5]) 4 83 (HRS.out) asn_info rfl (asn_one rfl))
            have HQ2 := hide (HRS.out)
            go_wp2_with (with_reducible refine HSO.out _ _ _ _ _ rfl rfl rfl rfl ?_)
            refine bodyPost_ret (results_cell_two Tryz.results30 rfl (ld_asn (setRow_heap w6 _ _ _ _ _ HQ2.out))) rfl ⟨⟨_, _, _, _, _, rfl, below_setRow (below_next HB.out H5.out.below) (by omega) _, by rw [HE.out]; rfl, fun p hp => by rw [HE.out] at hp; cases hp⟩⟩
        | some p =>
          obtain ⟨R2, d2⟩ := p
          rw [hg2] at HGJ HE
          clear hg2
          simp only at HE
          go_upto_region 12 with (first | (with_reducible refine HST.out _ _ _ _ _ _ rfl rfl rfl rfl (by with_unfolding_all rfl) ?_) | (go_at_call 56; refine HGJ.out.mono ?_; rintro e w5 ⟨⟨A5, n5, cp5, c5, b5, rfl, hb5, hs5, hp5⟩⟩; have hs5 : true = b5 := hs5; subst hs5; obtain ⟨hc5, hr5⟩ := hp5 _ rfl; have hc5 : d2 = c5 := hc5; subst hc5; clear k15 m0 m1; have HST := hide (stA (T := 32) (w := w5) (new := #[.slice Al L.length cl, .slice A5 n5 cp5]) 16 80 asn_info (asn_one rfl)); have HM5 := hide (heap_alloc_last w5 (.cells #[.slice Al L.length cl, .slice A5 n5 cp5] 32)); have H5 := hide ((H3.out.step hb5).step (below_laid w5 (.cells #[.slice Al L.length cl, .slice A5 n5 cp5] 32))); have HR5 := hide (hr5.below (below_laid w5 (.cells #[.slice Al L.length cl, .slice A5 n5 cp5] 32))); clear hb5 hr5 hp5))
          generalize w5.alloc (Obj.cells #[.slice Al L.length cl, .slice A5 n5 cp5] 32) = w6 at *
          generalize w5.heap.size = p6 at *
          have m0 : w6.cell? ⟨p6, 0, none⟩ = some (.slice Al L.length cl) := by rw [cell_block HM5.out]; rfl
          have m1 : w6.cell? ⟨p6, 1, none⟩ = some (.slice A5 n5 cp5) := by rw [cell_block HM5.out]; rfl
          have HRS := hide (heap_below HA2.out H5.out.below)
          cases d1
          · have HSO := hide (stO (T := 32) (w := w6) (b := w.heap.size + 1 + 1) (new := #[.slice Al L.length cl, .slice A5 n5 cp5]) 4 83 (HRS.out) asn_info rfl (asn_one rfl))
            have HQ2 := hide (HRS.out)
            go_wp2_with (with_reducible refine HSO.out _ _ _ _ _ rfl rfl rfl rfl ?_)
            refine bodyPost_ret (results_cell_two Tryz.results30 rfl (ld_asn (setRow_heap w6 _ _ _ _ _ HQ2.out))) rfl ⟨⟨_, _, _, _, _, rfl, below_setRow (below_next HB.out H5.out.below) (by omega) _, by rw [HE.out]; rfl, fun p hp => by rw [HE.out] at hp; injection hp with hp; subst hp; exact ⟨rfl, HR5.out.setRow' HRS.out (by have := HBB.out; omega)⟩⟩⟩
          · have HSO := hide (stO (T := 32) (w := w6) (b := w.heap.size + 1 + 1) (new := #[.slice Al L.length cl, .slice A5 n5 cp5]) 4 83 (HRS.out) asn_info rfl (asn_one rfl))
            have HQ2 := hide (HRS.out)
            go_wp2_with (with_reducible refine HSO.out _ _ _ _ _ rfl rfl rfl rfl ?_)
            refine bodyPost_ret (results_cell_two Tryz.results30 rfl (ld_asn (setRow_heap w6 _ _ _ _ _ HQ2.out))) rfl ⟨⟨_, _, _, _, _, rfl, below_setRow (below_next HB.out H5.out.below) (by omega) _, by rw [HE.out]; rfl, fun p hp => by rw [HE.out] at hp; injection hp with hp; subst hp; exact ⟨rfl, HR5.out.setRow' HRS.out (by have := HBB.out; omega)⟩⟩⟩
end Go.Proofs.YthnbhcfpfbimgaaGreat
