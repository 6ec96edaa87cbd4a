/- Texts put together: RgRight. -/
import Derived.Test.YthnbhcfpfbimgaaGreatMl21
/- The walk of chapter 15's Right. (Printed by rgright.py.) -/
namespace Go.Proofs.YthnbhcfpfbimgaaGreat
open Go.RowKit
open Rw (El At Fld)
/-- A right assertion. -/
structure AOk (nv : Nat) (x : As) : Prop where
  lacks : x.op = 10 → 0 ≤ x.var ∧ x.var < nv
  rows : x.op = 9 → TmOk nv x.a ∧ TmOk nv x.b
  op : x.op = 8 ∨ x.op = 9 ∨ x.op = 10
theorem ins_info : (Tryz.prog.info? 114).map (·.size) = some 10 := by kernel_rfl
set_option maxRecDepth 100000 in
set_option maxHeartbeats 4000000 in
theorem right15_code (B : Nat) (vl vv vc va vb : Value) (n : Nat) (l : List Vr) (x : As) (w : World) (h : Lats w B vl n) (h2 : Vars w B vv l) (h3 : AsAt w B x vc va vb) (hB : B ≤ w.heap.size) (t : Nat) (ht : t < n) (hlat : x.lat = (t : Nat)) (hop : x.op = 8) : Calls Tryz.prog 22 #[.agg #[vl, vv], .agg #[.int .i64 x.op, .int .i64 x.lat, vc, .int .i64 x.to_.var, .int .u64 x.to_.el.e0, .int .u64 x.to_.el.e1, .int .u64 x.to_.el.e2, .int .u64 x.to_.el.e3, .int .u64 x.to_.el.e4, .int .u64 x.to_.el.e5, .int .u64 x.to_.el.e6, .int .u64 x.to_.el.e7, va, .int .i64 x.a.tail, vb, .int .i64 x.b.tail, .int .i64 x.var, .string x.field]] w fun e w' => RIf (AOk l.length x) e ∧ Below w.heap.size w w' := by
  obtain ⟨A, c, rfl, hnc, hcm⟩ := h.form
  obtain ⟨A2, c2, rfl, hnc2, hcm2⟩ := h2.form
  obtain ⟨Ac, cc, rfl, _, hcc⟩ := SlAt.form h3.code
  obtain ⟨Aa, ca, rfl, _, _⟩ := SlAt.form h3.fa
  obtain ⟨Ab, cb, rfl, _, _⟩ := SlAt.form h3.fb
  have hl9 : (n : Int) ≤ 9223372036854775807 := by unfold maxLen at hcm; omega
  have hc9 : (x.code.length : Int) ≤ 9223372036854775807 := by unfold maxLen at hcc; omega
  have HT := hide ((ScW.new h h2 hB).step (below_laid _ (.cells #[.int .i64 x.op, .int .i64 x.lat, (.slice Ac x.code.length cc), .int .i64 x.to_.var, .int .u64 x.to_.el.e0, .int .u64 x.to_.el.e1, .int .u64 x.to_.el.e2, .int .u64 x.to_.el.e3, .int .u64 x.to_.el.e4, .int .u64 x.to_.el.e5, .int .u64 x.to_.el.e6, .int .u64 x.to_.el.e7, (.slice Aa x.a.fields.length ca), .int .i64 x.a.tail, (.slice Ab x.b.fields.length cb), .int .i64 x.b.tail, .int .i64 x.var, .string x.field] 71)))
  have HA := hide (heap_two w (.cells #[.slice A n c, .slice A2 l.length c2] 25) (.cells #[.int .i64 x.op, .int .i64 x.lat, (.slice Ac x.code.length cc), .int .i64 x.to_.var, .int .u64 x.to_.el.e0, .int .u64 x.to_.el.e1, .int .u64 x.to_.el.e2, .int .u64 x.to_.el.e3, .int .u64 x.to_.el.e4, .int .u64 x.to_.el.e5, .int .u64 x.to_.el.e6, .int .u64 x.to_.el.e7, (.slice Aa x.a.fields.length ca), .int .i64 x.a.tail, (.slice Ab x.b.fields.length cb), .int .i64 x.b.tail, .int .i64 x.var, .string x.field] 71))
  have HX := hide ((h3.mono hB).below HT.out.below)
  have k0 : ((w.alloc (.cells #[.slice A n c, .slice A2 l.length c2] 25)).alloc (.cells #[.int .i64 x.op, .int .i64 x.lat, (.slice Ac x.code.length cc), .int .i64 x.to_.var, .int .u64 x.to_.el.e0, .int .u64 x.to_.el.e1, .int .u64 x.to_.el.e2, .int .u64 x.to_.el.e3, .int .u64 x.to_.el.e4, .int .u64 x.to_.el.e5, .int .u64 x.to_.el.e6, .int .u64 x.to_.el.e7, (.slice Aa x.a.fields.length ca), .int .i64 x.a.tail, (.slice Ab x.b.fields.length cb), .int .i64 x.b.tail, .int .i64 x.var, .string x.field] 71)).cell? ⟨w.heap.size + 1, 0, none⟩ = some (.int .i64 x.op) := by rw [cell_block HA.out]; rfl
  have k1 : ((w.alloc (.cells #[.slice A n c, .slice A2 l.length c2] 25)).alloc (.cells #[.int .i64 x.op, .int .i64 x.lat, (.slice Ac x.code.length cc), .int .i64 x.to_.var, .int .u64 x.to_.el.e0, .int .u64 x.to_.el.e1, .int .u64 x.to_.el.e2, .int .u64 x.to_.el.e3, .int .u64 x.to_.el.e4, .int .u64 x.to_.el.e5, .int .u64 x.to_.el.e6, .int .u64 x.to_.el.e7, (.slice Aa x.a.fields.length ca), .int .i64 x.a.tail, (.slice Ab x.b.fields.length cb), .int .i64 x.b.tail, .int .i64 x.var, .string x.field] 71)).cell? ⟨w.heap.size + 1, 1, none⟩ = some (.int .i64 x.lat) := by rw [cell_block HA.out]; rfl
  have k2 : ((w.alloc (.cells #[.slice A n c, .slice A2 l.length c2] 25)).alloc (.cells #[.int .i64 x.op, .int .i64 x.lat, (.slice Ac x.code.length cc), .int .i64 x.to_.var, .int .u64 x.to_.el.e0, .int .u64 x.to_.el.e1, .int .u64 x.to_.el.e2, .int .u64 x.to_.el.e3, .int .u64 x.to_.el.e4, .int .u64 x.to_.el.e5, .int .u64 x.to_.el.e6, .int .u64 x.to_.el.e7, (.slice Aa x.a.fields.length ca), .int .i64 x.a.tail, (.slice Ab x.b.fields.length cb), .int .i64 x.b.tail, .int .i64 x.var, .string x.field] 71)).cell? ⟨w.heap.size + 1, 2, none⟩ = some (.slice Ac x.code.length cc) := by rw [cell_block HA.out]; rfl
  have HRT : Hid (((w.alloc (.cells #[.slice A n c, .slice A2 l.length c2] 25)).alloc (.cells #[.int .i64 x.op, .int .i64 x.lat, (.slice Ac x.code.length cc), .int .i64 x.to_.var, .int .u64 x.to_.el.e0, .int .u64 x.to_.el.e1, .int .u64 x.to_.el.e2, .int .u64 x.to_.el.e3, .int .u64 x.to_.el.e4, .int .u64 x.to_.el.e5, .int .u64 x.to_.el.e6, .int .u64 x.to_.el.e7, (.slice Aa x.a.fields.length ca), .int .i64 x.a.tail, (.slice Ab x.b.fields.length cb), .int .i64 x.b.tail, .int .i64 x.var, .string x.field] 71)).rangeAt (w.heap.size + 1) 3 (#[.int .i64 x.to_.var, .int .u64 x.to_.el.e0, .int .u64 x.to_.el.e1, .int .u64 x.to_.el.e2, .int .u64 x.to_.el.e3, .int .u64 x.to_.el.e4, .int .u64 x.to_.el.e5, .int .u64 x.to_.el.e6, .int .u64 x.to_.el.e7] : Array Value).toList) := hide (range_block HA.out 3 _ fun j u hu => by
    have hj : j < 9 := by have := (List.getElem?_eq_some_iff.1 hu).1; simpa using this
    match j, hj with
    | 0, _ => exact hu
    | 1, _ => exact hu
    | 2, _ => exact hu
    | 3, _ => exact hu
    | 4, _ => exact hu
    | 5, _ => exact hu
    | 6, _ => exact hu
    | 7, _ => exact hu
    | 8, _ => exact hu)
  have HLT := hide (blk_lt HA.out)
  have HOP : Hid (AOk l.length x) := hide ⟨fun h => by omega, fun h => by omega, .inl hop⟩
  have HHH := hide (And.intro hop hlat)
  clear hop hlat
  have q0 := HT.out.c0
  have q1 := HT.out.c1
  have t0 : (t : Int) < n := by omega
  clear h h2 h3 hnc hcm hnc2 hcm2 hcc HA
  go_enter Tryz.func22, Tryz.ntmps22
  go_upto_region 1 with fail
  generalize (w.alloc (Obj.cells _ 25)).alloc (Obj.cells _ 71) = w0 at *
  rw [HHH.out.1] at k0
  rw [HHH.out.2] at k1
  have HKC := hide (And.intro k1 k2)
  have HRC := hide (right14_tot w.heap.size _ x.code w0 HX.out.code)
  have HIA := hide (isAtom_tot w.heap.size _ _ n l t x.to_ w0 HT.out.lats HT.out.vars HT.out.below.size ht)
  have HLA := hide (ldA 62 HRT.out Tryz.underlying50 rfl at_info)
  go_upto_region 7 with fail
  go_wp2_with (first | (with_reducible refine HLA.out _ _ _ _ _ rfl rfl (by with_unfolding_all rfl) ?_) | (go_at_call 42; refine HRC.out.mono ?_; rintro e w1 ⟨⟨⟨r, rfl⟩⟩, rfl⟩; cases r))
  · go_ret
    exact ⟨⟨_, rfl, fun h => by cases h⟩, HT.out.below⟩
  refine HIA.out.mono ?_
  rintro e w1 ⟨⟨⟨r, rfl, hr⟩⟩, hb1⟩
  have H1 : Hid (Kpt w0 w1) := hide ⟨hb1⟩
  clear hr hb1 HRC HIA HLA k0 k1 k2 q0 q1
  cases r
  · go_wp2_with fail
    go_ret
    exact ⟨⟨_, rfl, fun h => by cases h⟩, (HT.out.step H1.out.below).below⟩
  go_wp2_with fail
  go_loopw [5] (fun kv wr => (∃ k : Nat, k ≤ x.code.length ∧ kv = .int .i64 (k : Nat)) ∧ Kpt w0 wr) (fun kv _ => x.code.length - (intOf kv).toNat)
  case atStart => exact ⟨⟨0, by omega, rfl⟩, H1.out⟩
  case round =>
    obtain ⟨⟨k, hk, rfl⟩, ho⟩ := hrel
    clear H1
    have HO := hide ho
    clear ho
    have k2 := HO.out.cell HKC.out.2
    by_cases hlt : k < x.code.length
    · have i0 : (k : Int) < x.code.length := by omega
      obtain ⟨bl, off, c', e, hbl, hr⟩ := SlAt.elem (HX.out.code.below HO.out.below) (fun _ => rfl) hlt
      cases e
      generalize x.code[k] = ins at *
      obtain ⟨iop, nn, el⟩ := ins
      have HL := hide (ldA (cs := #[.int .i64 iop, .int .i64 nn, .int .u64 el.e0, .int .u64 el.e1, .int .u64 el.e2, .int .u64 el.e3, .int .u64 el.e4, .int .u64 el.e5, .int .u64 el.e6, .int .u64 el.e7]) 77 hr Tryz.underlying114 rfl ins_info)
      have HSTA := hide (stA (w := wr) (new := #[.int .i64 iop, .int .i64 nn, .int .u64 el.e0, .int .u64 el.e1, .int .u64 el.e2, .int .u64 el.e3, .int .u64 el.e4, .int .u64 el.e5, .int .u64 el.e6, .int .u64 el.e7]) 6 78 ins_info (by simp [Value.oneCell']))
      clear hr
      go_upto_region 13 with (first | (with_reducible refine HL.out _ _ _ _ _ rfl rfl (by with_unfolding_all rfl) ?_) | (with_reducible refine HSTA.out _ _ _ _ _ _ rfl rfl rfl rfl (by with_unfolding_all rfl) ?_))
      clear HL HSTA k2
      have H5 : Hid (Kpt w0 (wr.alloc (.cells #[.int .i64 iop, .int .i64 nn, .int .u64 el.e0, .int .u64 el.e1, .int .u64 el.e2, .int .u64 el.e3, .int .u64 el.e4, .int .u64 el.e5, .int .u64 el.e6, .int .u64 el.e7] 114))) := hide (HO.out.step (below_laid _ _))
      have HB := hide (heap_alloc_last wr (.cells #[.int .i64 iop, .int .i64 nn, .int .u64 el.e0, .int .u64 el.e1, .int .u64 el.e2, .int .u64 el.e3, .int .u64 el.e4, .int .u64 el.e5, .int .u64 el.e6, .int .u64 el.e7] 114))
      have HI : Hid ((wr.alloc (.cells #[.int .i64 iop, .int .i64 nn, .int .u64 el.e0, .int .u64 el.e1, .int .u64 el.e2, .int .u64 el.e3, .int .u64 el.e4, .int .u64 el.e5, .int .u64 el.e6, .int .u64 el.e7] 114)).cell? ⟨wr.heap.size, 0, none⟩ = some (.int .i64 iop) ∧ (wr.alloc (.cells #[.int .i64 iop, .int .i64 nn, .int .u64 el.e0, .int .u64 el.e1, .int .u64 el.e2, .int .u64 el.e3, .int .u64 el.e4, .int .u64 el.e5, .int .u64 el.e6, .int .u64 el.e7] 114)).cell? ⟨wr.heap.size, 1, none⟩ = some (.int .i64 nn) ∧ (wr.alloc (.cells #[.int .i64 iop, .int .i64 nn, .int .u64 el.e0, .int .u64 el.e1, .int .u64 el.e2, .int .u64 el.e3, .int .u64 el.e4, .int .u64 el.e5, .int .u64 el.e6, .int .u64 el.e7] 114)).cell? ⟨w.heap.size + 1, 1, none⟩ = some (.int .i64 (t : Nat)) ∧ (wr.alloc (.cells #[.int .i64 iop, .int .i64 nn, .int .u64 el.e0, .int .u64 el.e1, .int .u64 el.e2, .int .u64 el.e3, .int .u64 el.e4, .int .u64 el.e5, .int .u64 el.e6, .int .u64 el.e7] 114)).rangeAt wr.heap.size 2 (elV el)) := hide ⟨by rw [cell_block HB.out]; rfl, by rw [cell_block HB.out]; rfl, H5.out.cell HKC.out.1, range_block HB.out 2 (elV el) fun j u hu => by rw [Nat.add_comm]; simpa [elV] using hu⟩
      have HBL := hide (blk_lt HB.out)
      clear HB
      generalize wr.alloc (Obj.cells _ 114) = w5 at *
      have HS5 := hide (HT.out.step H5.out.below)
      have HST : Hid (Kpt w5 w5.drew) := hide ⟨below_drewN (Below.refl _ _) 1⟩
      have H6 : Hid (Kpt w0 w5.drew) := hide (H5.out.step HST.out.below)
      by_cases e1 : iop = 1
      · subst e1
        have HKD := hide (kind_any w.heap.size _ _ n l nn 1 t w5.drew (HS5.out.step HST.out.below).lats (HS5.out.step HST.out.below).vars (HS5.out.step HST.out.below).below.size)
        generalize kindB l nn 1 t = r at *
        refine wp_region_tree [0, 1, 2, 3, 4, 5, 6, 7, 8] (.step 9 true (.take 10 (.take 11 (.take 12 (.take 13 (.take 14 (.take 15 (.take 16 (.take 17 (.take 18 (.take 19 (.take 20 (.take 21 (.take 22 (.take 23 (.take 24 (.take 25 (.step 26 true (.take 27 (.take 28 (.take 29 .done))) .done))))))))))))))))) .done) (Kpt w5) (by kernel_rfl) (by kernel_rfl) (fun _ _ _ _ _ h => h) HST.out ?_
        intro hne
        simp only [picks, List.filterMap_cons, List.filterMap_nil, List.getElem?_cons_zero, List.getElem?_cons_succ]
        have hu2 : ∀ u : HoldW (Kpt w5), u.w.cell? ⟨w.heap.size, 0, none⟩ = some (.slice A n c) := fun u => u.ok.cell HS5.out.c0
        have hu3 : ∀ u : HoldW (Kpt w5), u.w.cell? ⟨w.heap.size, 1, none⟩ = some (.slice A2 l.length c2) := fun u => u.ok.cell HS5.out.c1
        have hu4 : ∀ u : HoldW (Kpt w5), u.w.cell? ⟨wr.heap.size, 0, none⟩ = some (.int .i64 1) := fun u => u.ok.cell HI.out.1
        have hu5 : ∀ u : HoldW (Kpt w5), u.w.cell? ⟨wr.heap.size, 1, none⟩ = some (.int .i64 nn) := fun u => u.ok.cell HI.out.2.1
        have hu6 : ∀ u : HoldW (Kpt w5), u.w.cell? ⟨w.heap.size + 1, 1, none⟩ = some (.int .i64 (t : Nat)) := fun u => u.ok.cell HI.out.2.2.1
        iterate 9 (refine wpHeld_step (fun K hK => ?_); go_simp; refine hK _ ?_; clear hK K)
        refine wpHeld_nil ?_
        have HNE := hide hne
        have HUU := hide (And.intro hu2 (And.intro hu3 (And.intro hu4 (And.intro hu5 hu6))))
        clear hu2 hu3 hu4 hu5 hu6 hne
        refine wpTree_step rfl fun K hK => ?_
        go_wp2_with (go_at_call 40; refine HKD.out.mono ?_; rintro e w6 ⟨rfl, hb6⟩; have H7 := hide (And.intro (HST.out.step hb6) (H6.out.step hb6)); clear hb6)
        refine chainF (fun _ => H7.out.1) (hK _ _ ?_)
        clear hK K
        have hne := HNE.out
        obtain ⟨hu2, hu3, hu4, hu5, hu6⟩ := HUU.out
        cases r
        all_goals
          iterate 16 (refine wpTree_take rfl (fun K hK => ?_); go_simp; refine hK _ ?_; clear hK K)
          refine wpTree_step rfl fun K hK => ?_
          refine wpList_skip (by with_unfolding_all rfl) ?_
          go_wp2_with fail
          refine chainF (fun _ => H7.out.1) (hK _ _ ?_)
          clear hK K
          iterate 3 (refine wpTree_take rfl (fun K hK => ?_); go_simp; refine hK _ ?_; clear hK K)
          refine wpTree_end ?_
          clear hu2 hu3 hu4 hu5 hu6 hne
          go_wp2_with fail
        · go_ret
          exact ⟨⟨_, rfl, fun h => by cases h⟩, (HT.out.step H7.out.2.below).below⟩
        · exact ⟨⟨⟨k + 1, by omega, rfl⟩, H7.out.2⟩, by simp [intOf]; omega⟩
      by_cases e2 : iop = 2
      · subst e2
        obtain ⟨b3, o3, c3, nm, bb, u, m, e, hbl3, g0, g1, g2, hsm, hsh⟩ := HS5.out.lats.at ht
        cases e
        obtain ⟨A3, c4, rfl, _⟩ := hsh.form
        have HFT := hide (fits7_tot w.heap.size bb _ m el w5.drew (hsh.below HST.out.below) (HS5.out.step HST.out.below).below.size)
        have HGG := hide (And.intro (two_range g1 g2) hbl3)
        clear g0 g1 g2 hsm hsh hbl3
        refine wp_region_tree [0, 1, 2, 3, 4, 5, 6, 7, 8] (.step 9 true (.take 10 (.take 11 (.take 12 (.take 13 (.take 14 (.take 15 (.take 16 (.take 17 (.take 18 (.take 19 (.take 20 (.take 21 (.take 22 (.take 23 (.take 24 (.take 25 (.step 26 true (.take 27 (.take 28 (.take 29 .done))) .done))))))))))))))))) .done) (Kpt w5) (by kernel_rfl) (by kernel_rfl) (fun _ _ _ _ _ h => h) HST.out ?_
        intro hne
        simp only [picks, List.filterMap_cons, List.filterMap_nil, List.getElem?_cons_zero, List.getElem?_cons_succ]
        have hu2 : ∀ u : HoldW (Kpt w5), u.w.cell? ⟨w.heap.size, 0, none⟩ = some (.slice (some ⟨b3, o3, none⟩) n c) := fun u => u.ok.cell HS5.out.c0
        have hu3 : ∀ u : HoldW (Kpt w5), u.w.cell? ⟨w.heap.size, 1, none⟩ = some (.slice A2 l.length c2) := fun u => u.ok.cell HS5.out.c1
        have hu4 : ∀ u : HoldW (Kpt w5), u.w.cell? ⟨wr.heap.size, 0, none⟩ = some (.int .i64 2) := fun u => u.ok.cell HI.out.1
        have hu5 : ∀ u : HoldW (Kpt w5), u.w.cell? ⟨wr.heap.size, 1, none⟩ = some (.int .i64 nn) := fun u => u.ok.cell HI.out.2.1
        have hu6 : ∀ u : HoldW (Kpt w5), u.w.cell? ⟨w.heap.size + 1, 1, none⟩ = some (.int .i64 (t : Nat)) := fun u => u.ok.cell HI.out.2.2.1
        iterate 9 (refine wpHeld_step (fun K hK => ?_); go_simp; refine hK _ ?_; clear hK K)
        refine wpHeld_nil ?_
        refine wpTree_step rfl fun K hK => ?_
        refine wpList_skip (by with_unfolding_all rfl) ?_
        go_wp2_with fail
        refine chainF (fun _ => HST.out) (hK _ _ ?_)
        clear hK K
        iterate 13 (refine wpTree_take rfl (fun K hK => ?_); go_simp; refine hK _ ?_; clear hK K)
        refine wpTree_take rfl (fun K hK => ?_)
        rw [if_pos (by with_unfolding_all rfl)]
        refine held_mid (b := b3) (o := o3 + t * 3 + 1) (cs := [.bool bb, .slice A3 m c4]) rfl rfl (by rintro _ ⟨u, rfl⟩; exact u.ok.range HGG.out.1 HGG.out.2) Tryz.underlying78 rfl shp_info (hK _ ?_)
        clear hK K
        iterate 1 (refine wpTree_take rfl (fun K hK => ?_); go_simp; refine hK _ ?_; clear hK K)
        refine wpTree_take rfl (fun K hK => ?_)
        rw [if_pos (by with_unfolding_all rfl)]
        refine held_mid (b := wr.heap.size) (o := 2) (cs := elV el) rfl rfl (by rintro _ ⟨u, rfl⟩; exact u.ok.range HI.out.2.2.2 HBL.out) Tryz.underlying48 rfl el_info (hK _ ?_)
        clear hK K
        have HNE := hide hne
        have HUU := hide (And.intro hu2 (And.intro hu3 (And.intro hu4 (And.intro hu5 hu6))))
        clear hu2 hu3 hu4 hu5 hu6 hne
        refine wpTree_step rfl fun K hK => ?_
        go_wp2_with (go_at_call 23; refine HFT.out.mono ?_; rintro e w6 ⟨⟨⟨r, rfl⟩⟩, hb6⟩; have H7 := hide (And.intro (HST.out.step hb6) (H6.out.step hb6)); clear hb6)
        refine chainF (fun _ => H7.out.1) (hK _ _ ?_)
        clear hK K
        have hne := HNE.out
        obtain ⟨hu2, hu3, hu4, hu5, hu6⟩ := HUU.out
        cases r
        all_goals
          iterate 3 (refine wpTree_take rfl (fun K hK => ?_); go_simp; refine hK _ ?_; clear hK K)
          refine wpTree_end ?_
          clear hu2 hu3 hu4 hu5 hu6 hne
          go_wp2_with fail
        · go_ret
          exact ⟨⟨_, rfl, fun h => by cases h⟩, (HT.out.step H7.out.2.below).below⟩
        · exact ⟨⟨⟨k + 1, by omega, rfl⟩, H7.out.2⟩, by simp [intOf]; omega⟩
      · have b1 : (iop == 1) = false := by simpa using e1
        have b2 : (iop == 2) = false := by simpa using e2
        refine wp_region_tree [0, 1, 2, 3, 4, 5, 6, 7, 8] (.step 9 true (.take 10 (.take 11 (.take 12 (.take 13 (.take 14 (.take 15 (.take 16 (.take 17 (.take 18 (.take 19 (.take 20 (.take 21 (.take 22 (.take 23 (.take 24 (.take 25 (.step 26 true (.take 27 (.take 28 (.take 29 .done))) .done))))))))))))))))) .done) (Kpt w5) (by kernel_rfl) (by kernel_rfl) (fun _ _ _ _ _ h => h) HST.out ?_
        intro hne
        simp only [picks, List.filterMap_cons, List.filterMap_nil, List.getElem?_cons_zero, List.getElem?_cons_succ]
        have hu2 : ∀ u : HoldW (Kpt w5), u.w.cell? ⟨w.heap.size, 0, none⟩ = some (.slice A n c) := fun u => u.ok.cell HS5.out.c0
        have hu3 : ∀ u : HoldW (Kpt w5), u.w.cell? ⟨w.heap.size, 1, none⟩ = some (.slice A2 l.length c2) := fun u => u.ok.cell HS5.out.c1
        have hu4 : ∀ u : HoldW (Kpt w5), u.w.cell? ⟨wr.heap.size, 0, none⟩ = some (.int .i64 iop) := fun u => u.ok.cell HI.out.1
        have hu5 : ∀ u : HoldW (Kpt w5), u.w.cell? ⟨wr.heap.size, 1, none⟩ = some (.int .i64 nn) := fun u => u.ok.cell HI.out.2.1
        have hu6 : ∀ u : HoldW (Kpt w5), u.w.cell? ⟨w.heap.size + 1, 1, none⟩ = some (.int .i64 (t : Nat)) := fun u => u.ok.cell HI.out.2.2.1
        iterate 9 (refine wpHeld_step (fun K hK => ?_); go_simp; refine hK _ ?_; clear hK K)
        refine wpHeld_nil ?_
        refine wpTree_step rfl fun K hK => ?_
        refine wpList_skip (by with_unfolding_all rfl) ?_
        go_wp2_with fail
        refine chainF (fun _ => HST.out) (hK _ _ ?_)
        clear hK K
        iterate 16 (refine wpTree_take rfl (fun K hK => ?_); go_simp; refine hK _ ?_; clear hK K)
        refine wpTree_step rfl fun K hK => ?_
        refine wpList_skip (by with_unfolding_all rfl) ?_
        go_wp2_with fail
        refine chainF (fun _ => HST.out) (hK _ _ ?_)
        clear hK K
        iterate 3 (refine wpTree_take rfl (fun K hK => ?_); go_simp; refine hK _ ?_; clear hK K)
        refine wpTree_end ?_
        clear hu2 hu3 hu4 hu5 hu6 hne
        go_wp2_with fail
        exact ⟨⟨⟨k + 1, by omega, rfl⟩, H6.out⟩, by simp [intOf]; omega⟩
    · obtain rfl : k = x.code.length := by omega
      go_wp2_with fail
      go_ret
      exact ⟨⟨_, rfl, fun _ => HOP.out⟩, (HT.out.step HO.out.below).below⟩
end Go.Proofs.YthnbhcfpfbimgaaGreat
