/- Texts put together: RgFit2 RgRow0. -/
import Derived.Test.YthnbhcfpfbimgaaGreatMl20
/- The walks of chapter 15: isAtom, isRow. (Printed by rgfit2.py.) -/
namespace Go.Proofs.YthnbhcfpfbimgaaGreat
open Go.RowKit
open Rw (El At Fld)
theorem Kpt.range {W wr : World} (h : Kpt W wr) {b o : Nat} {cs : List Value} (hc : W.rangeAt b o cs) (hlt : b < W.heap.size) : wr.rangeAt b o cs := range_below hc hlt h.below
theorem Kpt.step {W wr w' : World} (h : Kpt W wr) (hb : Below wr.heap.size wr w') : Kpt W w' := ⟨below_next h.below hb⟩
theorem heap_two (w : World) (o o2 : Obj) : ((w.alloc o).alloc o2).heap[w.heap.size + 1]? = some o2 := by
  have := heap_alloc_last (w.alloc o) o2
  rwa [World.size_alloc] at this
/-- A bool; if it is true, something holds. -/
structure RIf (p : Prop) (e : Ending) : Prop where
  ex : ∃ r, e = .returned (.bool r) ∧ (r = true → p)
theorem shp_info : (Tryz.prog.info? 78).map (·.size) = some 2 := by kernel_rfl
theorem el_info : (Tryz.prog.info? 48).map (·.size) = some 8 := by kernel_rfl
theorem at_info : (Tryz.prog.info? 50).map (·.size) = some 9 := by kernel_rfl
theorem two_range {w : World} {b o : Nat} {x y : Value} (h0 : w.cell? ⟨b, o, none⟩ = some x) (h1 : w.cell? ⟨b, o + 1, none⟩ = some y) : w.rangeAt b o [x, y] := fun j v hv => by
  match j, hv with
  | 0, hv => simp at hv; subst hv; exact h0
  | 1, hv => simp at hv; subst hv; exact h1
  | j + 2, hv => simp at hv
set_option maxRecDepth 100000 in
set_option maxHeartbeats 2000000 in
theorem isAtom_tot (B : Nat) (vl vv : Value) (n : Nat) (l : List Vr) (t : Nat) (a : At) (w : World) (h : Lats w B vl n) (h2 : Vars w B vv l) (hB : B ≤ w.heap.size) (ht : t < n) : Calls Tryz.prog 43 #[.agg #[vl, vv], .int .i64 (t : Nat), .agg #[.int .i64 a.var, .int .u64 a.el.e0, .int .u64 a.el.e1, .int .u64 a.el.e2, .int .u64 a.el.e3, .int .u64 a.el.e4, .int .u64 a.el.e5, .int .u64 a.el.e6, .int .u64 a.el.e7]] w fun e w' => RIf (a.var < l.length) e ∧ Below w.heap.size w w' := by
  obtain ⟨A, c, rfl, hnc, hcm⟩ := h.form
  have hl9 : (n : Int) ≤ 9223372036854775807 := by unfold maxLen at hcm; omega
  have HT := hide ((ScW.new h h2 hB).step (below_laid _ (.cells #[.int .i64 a.var, .int .u64 a.el.e0, .int .u64 a.el.e1, .int .u64 a.el.e2, .int .u64 a.el.e3, .int .u64 a.el.e4, .int .u64 a.el.e5, .int .u64 a.el.e6, .int .u64 a.el.e7] 50)))
  have HA := hide (heap_two w (.cells #[.slice A n c, vv] 25) (.cells #[.int .i64 a.var, .int .u64 a.el.e0, .int .u64 a.el.e1, .int .u64 a.el.e2, .int .u64 a.el.e3, .int .u64 a.el.e4, .int .u64 a.el.e5, .int .u64 a.el.e6, .int .u64 a.el.e7] 50))
  have HR := hide (range_block HA.out 1 (elV a.el) fun j u hu => by rw [Nat.add_comm]; simpa [elV] using hu)
  obtain ⟨bl, off, c', nm, bb, u, m, e, hbl, g0, g1, g2, hsm, hsh⟩ := HT.out.lats.at ht
  cases e
  obtain ⟨A3, c3, rfl, _⟩ := hsh.form
  have HG := hide (two_range g1 g2)
  have HBL := hide hbl
  have HSH := hide hsh
  have k0 := HT.out.c0
  have i0 : (t : Int) < n := by omega
  have j0 : ((w.alloc (.cells #[.slice (some ⟨bl, off, none⟩) n c, vv] 25)).alloc (.cells #[.int .i64 a.var, .int .u64 a.el.e0, .int .u64 a.el.e1, .int .u64 a.el.e2, .int .u64 a.el.e3, .int .u64 a.el.e4, .int .u64 a.el.e5, .int .u64 a.el.e6, .int .u64 a.el.e7] 50)).cell? ⟨w.heap.size + 1, 0, none⟩ = some (.int .i64 a.var) := by rw [cell_block HA.out]; rfl
  have HLV := hide (And.intro h h2)
  clear h h2 hnc hcm hsm g0 g1 g2 hsh hbl
  go_enter Tryz.func43, Tryz.ntmps43
  go_upto_region 1 with fail
  by_cases hv : a.var < 0
  · have d1 : decide (a.var < 0) = true := decide_eq_true hv
    go_upto_region 2 with fail
    generalize (w.alloc (Obj.cells _ 25)).alloc (Obj.cells _ 50) = w0 at *
    have HS : Hid (Kpt w0 w0.drew) := hide ⟨below_drewN (Below.refl _ _) 1⟩
    have HF := hide (fits7_tot w.heap.size bb (.slice A3 m c3) m a.el w0.drew (HSH.out.below HS.out.below) (Nat.le_trans HT.out.below.size HS.out.below.size))
    refine wp_region_chain [0, 1, 2, 3, 4, 5, 6, 7] [(8, true), (9, true)] (Kpt w0) (by kernel_rfl) (by kernel_rfl) (fun _ _ _ _ _ h => h) HS.out ?_
    intro hne
    simp only [picks, picksW, List.filterMap_cons, List.filterMap_nil, List.getElem?_cons_zero, List.getElem?_cons_succ, Option.map_some]
    have hu1 : ∀ u : HoldW (Kpt w0), u.w.cell? ⟨w.heap.size, 0, none⟩ = some (.slice (some ⟨bl, off, none⟩) n c) := fun u => u.ok.cell k0
    iterate 5 (refine wpHeld_step (fun K hK => ?_); go_simp; refine hK _ ?_; clear hK K)
    refine wpHeld_step (fun K hK => ?_)
    rw [if_pos (by with_unfolding_all rfl)]
    refine held_mid (b := bl) (o := off + t * 3 + 1) (cs := [.bool bb, .slice A3 m c3]) rfl rfl (by rintro _ ⟨u, rfl⟩; exact u.ok.range HG.out HBL.out) Tryz.underlying78 rfl shp_info (hK _ ?_)
    clear hK K
    iterate 1 (refine wpHeld_step (fun K hK => ?_); go_simp; refine hK _ ?_; clear hK K)
    refine wpHeld_step (fun K hK => ?_)
    rw [if_pos (by with_unfolding_all rfl)]
    refine held_mid (b := w.heap.size + 1) (o := 1) (cs := elV a.el) rfl rfl (by rintro _ ⟨u, rfl⟩; exact u.ok.range HR.out (blk_lt HA.out)) Tryz.underlying48 rfl el_info (hK _ ?_)
    clear hK K
    refine wpHeld_nil ?_
    clear hu1 hne
    refine wpChain_cons fun K hK => ?_
    go_wp2_with (go_at_call 23; refine HF.out.mono ?_; rintro e w4 ⟨⟨⟨r, rfl⟩⟩, hb4⟩; have H4 := hide (HS.out.step hb4); clear hb4)
    refine chainF (fun _ => H4.out) (hK _ _ ?_)
    clear hK K
    refine wpChain_cons fun K hK => ?_
    go_wp2_with fail
    refine chainF (fun _ => H4.out) (hK _ _ ?_)
    clear hK K
    refine wpChain_nil ?_
    go_wp2_with fail
    have hvl : a.var < l.length := by omega
    go_ret
    exact ⟨⟨r, rfl, fun _ => hvl⟩, HT.out.below.trans (H4.out.below.mono HT.out.below.size)⟩
  · have d1 : decide (a.var < 0) = false := decide_eq_false hv
    have HK := hide (fun wr (hk : Below w.heap.size w wr) => kind_any wr.heap.size _ _ n l a.var 1 t wr ((HLV.out.1.below hk).mono (Nat.le_trans hB hk.size)) ((HLV.out.2.below hk).mono (Nat.le_trans hB hk.size)) (Nat.le_refl _))
    have k1 := HT.out.c1
    obtain ⟨A2, c2, rfl, _⟩ := HLV.out.2.form
    go_wp2_with (go_at_call 40; refine (HK.out _ HT.out.below).mono ?_; rintro e w4 ⟨rfl, hb4⟩; have H4 := hide (HT.out.step hb4); clear hb4)
    have hvl : kindB l a.var 1 t = true → a.var < l.length := fun h => (kindB_lt h).2
    have HV := hide hvl
    clear hvl
    go_ret
    exact ⟨⟨_, rfl, HV.out⟩, H4.out.below⟩
end Go.Proofs.YthnbhcfpfbimgaaGreat
/- The walk of chapter 15's isRow. (Printed by rgfit2.py.) -/
namespace Go.Proofs.YthnbhcfpfbimgaaGreat
open Go.RowKit
open Rw (El At Fld)
/-- A right row term. -/
structure TmOk (nv : Nat) (x : Rw.Term) : Prop where
  few : x.fields.length ≤ 16
  tail : x.tail < nv
  dup : (x.fields.map (·.name)).Nodup
  at_ : ∀ f ∈ x.fields, f.at_.var < nv
theorem twice_nodup {l : List ByteArray} (h : Nm.twice l < 0) : l.Nodup := by
  have hf : ∀ i, i < l.length → decide (0 ≤ Nm.find (l.take i) (Nm.at_ l i)) = false := by
    intro i hi
    rcases Nm.first_cases (fun i => decide (0 ≤ Nm.find (l.take i) (Nm.at_ l i))) l.length 0 with h1 | h1
    · exact h1.2 i (by omega) (by omega)
    · obtain ⟨k, h1, _⟩ := h1
      unfold Nm.twice at h
      omega
  unfold List.Nodup
  rw [List.pairwise_iff_getElem]
  intro i j hi hj hij he
  have := hf j hj
  simp only [decide_eq_false_iff_not] at this
  apply this
  rw [(Nm.find_range _ _).2.2, Nm.at_mem hj, ← he]
  exact List.mem_iff_getElem.2 ⟨i, by simp; omega, by simp⟩
/-- Where the names are gathered. -/
structure IrL (W : World) (nv : Nat) (fs : List Fld) (kv v : Value) (wr : World) : Prop where
  ex : ∃ k : Nat, k ≤ fs.length ∧ kv = .int .i64 (k : Nat) ∧ StS W v ((fs.map (·.name)).take k) wr ∧ ∀ (j : Nat) f, j < k → fs[j]? = some f → f.at_.var < nv
set_option maxRecDepth 100000 in
set_option maxHeartbeats 4000000 in
theorem isRow_tot (B : Nat) (vl vv va : Value) (n : Nat) (l : List Vr) (t : Nat) (x : Rw.Term) (w : World) (h : Lats w B vl n) (h2 : Vars w B vv l) (h3 : SlAt w B 59 10 va x.fields.length (fdsV x.fields)) (hsm : Sml x.fields) (hB : B ≤ w.heap.size) (ht : t < n) : Calls Tryz.prog 41 #[.agg #[vl, vv], .int .i64 (t : Nat), .agg #[va, .int .i64 x.tail]] w fun e w' => RIf (TmOk l.length x) e ∧ Below w.heap.size w w' := by
  obtain ⟨i1, hj, hy0, hy1, hy2⟩ := info_parts info_string
  obtain ⟨A, c, rfl, hnc, hcm⟩ := h.form
  obtain ⟨A2, c2, rfl, hnc2, hcm2⟩ := h2.form
  obtain ⟨A3, c3, rfl, hnc3, hcm3⟩ := SlAt.form h3
  have hl9 : (n : Int) ≤ 9223372036854775807 := by unfold maxLen at hcm; omega
  have hf9 : (x.fields.length : Int) ≤ 9223372036854775807 := by unfold maxLen at hcm3; omega
  have HT := hide ((ScW.new h h2 hB).step (below_laid _ (.cells #[.slice A3 x.fields.length c3, .int .i64 x.tail] 69)))
  have HA := hide (heap_two w (.cells #[.slice A n c, .slice A2 l.length c2] 25) (.cells #[.slice A3 x.fields.length c3, .int .i64 x.tail] 69))
  have HF := hide ((h3.mono hB).below HT.out.below)
  have HSM := hide hsm
  have k0 := HT.out.c0
  have k1 := HT.out.c1
  have j0 : ((w.alloc (.cells #[.slice A n c, .slice A2 l.length c2] 25)).alloc (.cells #[.slice A3 x.fields.length c3, .int .i64 x.tail] 69)).cell? ⟨w.heap.size + 1, 0, none⟩ = some (.slice A3 x.fields.length c3) := by rw [cell_block HA.out]; rfl
  have j1 : ((w.alloc (.cells #[.slice A n c, .slice A2 l.length c2] 25)).alloc (.cells #[.slice A3 x.fields.length c3, .int .i64 x.tail] 69)).cell? ⟨w.heap.size + 1, 1, none⟩ = some (.int .i64 x.tail) := by rw [cell_block HA.out]; rfl
  clear h h2 h3 hsm hnc hcm hnc2 hcm2 hnc3 hcm3 HA
  go_enter Tryz.func41, Tryz.ntmps41
  go_upto_region 1 with fail
  generalize (w.alloc (Obj.cells _ 25)).alloc (Obj.cells _ 69) = w0 at *
  by_cases h16 : 16 < x.fields.length
  · have d1 : decide (16 < (x.fields.length : Int)) = true := decide_eq_true (by omega)
    go_wp2_with fail
    go_ret
    exact ⟨⟨_, rfl, fun h => by cases h⟩, HT.out.below⟩
  have d1 : decide (16 < (x.fields.length : Int)) = false := decide_eq_false (by omega)
  have hf16 : x.fields.length ≤ 16 := by omega
  have H16 := hide hf16
  have HK0 : Hid (Kpt w0 w0) := hide ⟨Below.refl _ _⟩
  have HKD := hide (kind_any w.heap.size _ _ n l x.tail 2 t w0 HT.out.lats HT.out.vars HT.out.below.size)
  have key : (0 ≤ x.tail ∧ kindB l x.tail 2 t = false) ∨ (x.tail < l.length ∧ (x.tail < 0 ∨ (0 ≤ x.tail ∧ kindB l x.tail 2 t = true))) := by
    by_cases h0 : 0 ≤ x.tail
    · cases hk : kindB l x.tail 2 t
      · exact .inl ⟨h0, rfl⟩
      · exact .inr ⟨(kindB_lt hk).2, .inr ⟨h0, rfl⟩⟩
    · exact .inr ⟨by omega, .inl (by omega)⟩
  rcases key with ⟨h0, hk⟩ | ⟨htl, hk⟩
  · have d2 : decide (0 ≤ x.tail) = true := decide_eq_true h0
    rw [hk] at HKD
    go_wp2_with (go_at_call 40; refine HKD.out.mono ?_; rintro e w4 ⟨rfl, hb4⟩; have H4 := hide (HT.out.step hb4); clear hb4)
    go_ret
    exact ⟨⟨_, rfl, fun h => by cases h⟩, H4.out.below⟩
  have HTL := hide htl
  have goal2 : ∀ wq : World, Kpt w0 wq → True := fun _ _ => trivial
  clear goal2 htl h16
  rcases hk with h0 | ⟨h0, hk⟩
  · have d2 : decide (0 ≤ x.tail) = false := decide_eq_false (by omega)
    have HJ0 := hide j0
    go_wp2_with fail
    clear d1 d2 HKD
    have hd : True := trivial
    clear hd
    go_loopw [8, 7] (fun kv v wr => IrL w0 l.length x.fields kv v wr) (fun kv _ _ => x.fields.length - (intOf kv).toNat)
    case atStart => exact ⟨0, by omega, rfl, by rw [List.take_zero]; exact StS.nil HK0.out.below, fun j f hj => by omega⟩
    case round =>
      obtain ⟨k, hk, rfl, ho, hat⟩ := hrel
      have hssl : ((x.fields.map (·.name)).take k).length = k := by simp; omega
      have HRW := hide ho.row
      rw [hssl] at HRW
      obtain ⟨Ar, cr, rfl, _⟩ := RowZ.form HRW.out
      have HO := hide ho
      have HAT := hide hat
      have HS := hide (HT.out.step ho.below)
      have HK : Hid (Kpt w0 wr) := hide ⟨ho.below⟩
      have HSS := hide hssl
      clear ho hat hssl k0 k1 j0 j1
      have j0 := HK.out.cell HJ0.out
      by_cases hlt : k < x.fields.length
      · have i0 : (k : Int) < x.fields.length := by omega
        obtain ⟨bl, off, c', e, hbl, hr⟩ := SlAt.elem HF.out fdV_len hlt
        cases e
        have g0 : wr.cell? ⟨bl, off + k * 10, none⟩ = some (.string x.fields[k].name) := HK.out.cell (hr 0 _ rfl)
        have hsmk := HSM.out _ (List.getElem_mem hlt)
        have hget := List.getElem?_eq_getElem hlt
        have HR := hide (And.intro hr (And.intro hbl (And.intro hsmk hget)))
        clear hr hbl hsmk hget
        have HTK : Hid ((x.fields.map (·.name)).take (k + 1) = (x.fields.map (·.name)).take k ++ [x.fields[k].name]) := hide (by rw [List.take_succ_eq_append_getElem (by simpa using hlt)]; simp)
        generalize x.fields[k] = fd at *
        go_upto_region 8 with (at_builtin; go_must (refine app_rowz rfl (.tmp 33) (.tmp 40) 101 101 rfl 9 i1 _ 1 16 Tryz.underlying101 hj hy0 hy1 hy2 rfl (.slice Ar k cr) k (strV ((x.fields.map (·.name)).take k)) rfl (RowZ.below HRW.out (below_laid wr _)) _ 1 [.string fd.name] rfl (str_news (heap_alloc_new wr _)) (by unfold maxLen; omega) (by omega) ?_); intro A' c4 w' hr hg hob; have HG := hide (And.intro hr (And.intro hg hob)); clear hr hg hob)
        have H5 : Hid (StS w0 (.slice A' (k + 1) c4) ((x.fields.map (·.name)).take (k + 1)) w') := hide (by
          rw [HTK.out]
          exact HO.out.push HR.out.2.2.1 (by rw [HSS.out]; exact HG.out.1) HG.out.2.1 HG.out.2.2)
        obtain ⟨g, rfl⟩ := RowZ.addr HG.out.1 (by omega)
        have hcl : w'.cell? ⟨g, k, none⟩ = some (.string fd.name) := by
          rw [RowZ.cell HG.out.1 (by rw [List.length_append]; simp only [strV, List.length_map, HSS.out, List.length_singleton]; omega), List.getElem?_append_right (by simp only [strV, List.length_map, HSS.out]; omega)]
          simp only [strV, List.length_map, HSS.out, Nat.sub_self]
          rfl
        have HCL := hide hcl
        have HS5 := hide (HT.out.step H5.out.below)
        clear hcl g0 j0 HO HS HK HRW HG HTK
        have HST : Hid (Kpt w' w'.drew) := hide ⟨below_drewN (Below.refl _ _) 1⟩
        have HIA := hide (isAtom_tot w.heap.size _ _ n l t fd.at_ w'.drew (HS5.out.step HST.out.below).lats (HS5.out.step HST.out.below).vars (HS5.out.step HST.out.below).below.size ht)
        have HRI := hide (rightR_any fd.name w'.drew HR.out.2.2.1)
        have hgl : (k : Int) < (k : Int) + 1 := by omega
        refine wp_region_tree [0, 1, 2, 3] (.step 4 true (.take 5 (.take 6 (.take 7 (.take 8 (.take 9 (.take 10 (.take 11 (.take 12 (.take 13 (.take 14 (.step 15 true (.take 16 (.take 17 .done)) .done))))))))))) .done) (Kpt w') (by kernel_rfl) (by kernel_rfl) (fun _ _ _ _ _ h => h) HST.out ?_
        intro hne
        simp only [picks, List.filterMap_cons, List.filterMap_nil, List.getElem?_cons_zero, List.getElem?_cons_succ]
        have hu1 : ∀ u : HoldW (Kpt w'), u.w.cell? ⟨g, k, none⟩ = some (.string fd.name) := fun u => u.ok.cell HCL.out
        iterate 4 (refine wpHeld_step (fun K hK => ?_); go_simp; refine hK _ ?_; clear hK K)
        refine wpHeld_nil ?_
        have HNE := hide hne
        clear hu1 hne
        generalize hrr : Nm.right fd.name = r at *
        refine wpTree_step rfl fun K hK => ?_
        go_wp2_with (go_at_call 38; refine HRI.out.mono ?_; rintro e w1 ⟨rfl, rfl⟩)
        refine chainF (fun _ => HST.out) (hK _ _ ?_)
        clear hK K
        have hne := HNE.out
        have hu2 : ∀ u : HoldW (Kpt w'), u.w.cell? ⟨w.heap.size, 0, none⟩ = some (.slice A n c) := fun u => u.ok.cell HS5.out.c0
        have hu3 : ∀ u : HoldW (Kpt w'), u.w.cell? ⟨w.heap.size, 1, none⟩ = some (.slice A2 l.length c2) := fun u => u.ok.cell HS5.out.c1
        have hu4 : ∀ u : HoldW (Kpt w'), u.w.cell? ⟨w.heap.size + 1, 0, none⟩ = some (.slice (some ⟨bl, off, none⟩) x.fields.length c3) := fun u => u.ok.cell ((Kpt.mk H5.out.below).cell HJ0.out)
        cases r
        · iterate 10 (refine wpTree_take rfl (fun K hK => ?_); go_simp; refine hK _ ?_; clear hK K)
          refine wpTree_step rfl fun K hK => ?_
          go_wp2_with fail
          refine chainF (fun _ => HST.out) (hK _ _ ?_)
          clear hK K
          iterate 2 (refine wpTree_take rfl (fun K hK => ?_); go_simp; refine hK _ ?_; clear hK K)
          refine wpTree_end ?_
          clear hu2 hu3 hu4 hne
          go_wp2_with fail
          go_ret
          exact ⟨⟨_, rfl, fun h => by cases h⟩, (HS5.out.step HST.out.below).below⟩
        · iterate 9 (refine wpTree_take rfl (fun K hK => ?_); go_simp; refine hK _ ?_; clear hK K)
          refine wpTree_take rfl (fun K hK => ?_)
          rw [if_pos (by with_unfolding_all rfl)]
          refine held_mid (b := bl) (o := off + k * 10 + 1) (cs := [.int .i64 fd.at_.var, .int .u64 fd.at_.el.e0, .int .u64 fd.at_.el.e1, .int .u64 fd.at_.el.e2, .int .u64 fd.at_.el.e3, .int .u64 fd.at_.el.e4, .int .u64 fd.at_.el.e5, .int .u64 fd.at_.el.e6, .int .u64 fd.at_.el.e7]) rfl rfl (by rintro _ ⟨u, rfl⟩; exact fun j v hv => by have := ((Kpt.mk H5.out.below).step u.ok.below).range HR.out.1 HR.out.2.1 (j + 1) v (by simpa [fdV, atV, elV] using hv); rwa [Nat.add_comm j 1, ← Nat.add_assoc] at this) Tryz.underlying50 rfl at_info (hK _ ?_)
          clear hK K
          clear hu2 hu3 hu4 hne
          refine wpTree_step rfl fun K hK => ?_
          go_wp2_with (go_at_call 43; refine HIA.out.mono ?_; rintro e w1 ⟨⟨⟨r, rfl, hr⟩⟩, hb1⟩; have H6 := hide (And.intro hr (HST.out.step hb1)); clear hr hb1)
          refine chainF (fun _ => H6.out.2) (hK _ _ ?_)
          clear hK K
          have hne := HNE.out
          cases r
          · iterate 2 (refine wpTree_take rfl (fun K hK => ?_); go_simp; refine hK _ ?_; clear hK K)
            refine wpTree_end ?_
            clear hne
            go_wp2_with fail
            go_ret
            exact ⟨⟨_, rfl, fun h => by cases h⟩, (HS5.out.step H6.out.2.below).below⟩
          · iterate 2 (refine wpTree_take rfl (fun K hK => ?_); go_simp; refine hK _ ?_; clear hK K)
            refine wpTree_end ?_
            clear hne
            go_wp2_with fail
            exact ⟨⟨k + 1, by omega, rfl, H5.out.step H6.out.2.below, fun j f hj hf => by
              rcases Nat.lt_or_ge j k with h | h
              · exact HAT.out j f h hf
              · obtain rfl : j = k := by omega
                rw [HR.out.2.2.2] at hf; injection hf with hf; subst hf; exact H6.out.1 rfl⟩, by simp [intOf]; omega⟩
      · obtain rfl : k = x.fields.length := by omega
        have HLS := hide (HO.out.ls)
        have hcl : ((x.fields.map (·.name)).take x.fields.length) = x.fields.map (·.name) := List.take_of_length_le (by simp)
        have HLH : Hid (HasStr wr wr.heap.size Ar x.fields.length (x.fields.map (·.name))) := hide (by
          obtain ⟨A', c', h1, h2, h3, h4, h5⟩ := SlAt.ex HLS.out.at_
          rw [HSS.out] at h1
          cases h1
          rw [hcl] at h4 h5
          refine ⟨by simp, fun h0 => ?_⟩
          obtain ⟨b, off, rfl, _, h7, h8⟩ := h5 (by simpa using h0)
          exact ⟨b, off, rfl, h7, h8⟩)
        have HW := hide (twiceR_any x.fields.length cr wr.heap.size Ar (x.fields.map (·.name)) wr (by omega) HLH.out)
        clear hcl
        generalize htw : Nm.twice (x.fields.map (·.name)) = tw at *
        have HFIN : Hid (tw < 0 → TmOk l.length x) := hide fun h => ⟨H16.out, HTL.out, twice_nodup (by rw [htw]; exact h), fun f hf => by
          obtain ⟨j, hj, rfl⟩ := List.mem_iff_getElem.1 hf
          exact HAT.out j _ hj (List.getElem?_eq_getElem hj)⟩
        clear htw
        go_wp2_with (go_at_call 39; refine HW.out.mono ?_; rintro e w1 ⟨rfl, rfl⟩)
        go_ret
        exact ⟨⟨_, rfl, fun h => HFIN.out (of_decide_eq_true h)⟩, HS.out.below⟩
  · have d2 : decide (0 ≤ x.tail) = true := decide_eq_true h0
    have HJ0 := hide j0
    rw [hk] at HKD
    go_wp2_with (go_at_call 40; refine HKD.out.mono ?_; rintro e w4 ⟨rfl, hb4⟩; have HK4 : Hid (Kpt w0 w4) := hide ⟨hb4⟩; clear hb4)
    clear d1 d2 HKD HK0
    have hd : True := trivial
    clear hd
    go_loopw [8, 7] (fun kv v wr => IrL w0 l.length x.fields kv v wr) (fun kv _ _ => x.fields.length - (intOf kv).toNat)
    case atStart => exact ⟨0, by omega, rfl, by rw [List.take_zero]; exact StS.nil HK4.out.below, fun j f hj => by omega⟩
    case round =>
      obtain ⟨k, hk, rfl, ho, hat⟩ := hrel
      have hssl : ((x.fields.map (·.name)).take k).length = k := by simp; omega
      have HRW := hide ho.row
      rw [hssl] at HRW
      obtain ⟨Ar, cr, rfl, _⟩ := RowZ.form HRW.out
      have HO := hide ho
      have HAT := hide hat
      have HS := hide (HT.out.step ho.below)
      have HK : Hid (Kpt w0 wr) := hide ⟨ho.below⟩
      have HSS := hide hssl
      clear ho hat hssl k0 k1 j0 j1
      have j0 := HK.out.cell HJ0.out
      by_cases hlt : k < x.fields.length
      · have i0 : (k : Int) < x.fields.length := by omega
        obtain ⟨bl, off, c', e, hbl, hr⟩ := SlAt.elem HF.out fdV_len hlt
        cases e
        have g0 : wr.cell? ⟨bl, off + k * 10, none⟩ = some (.string x.fields[k].name) := HK.out.cell (hr 0 _ rfl)
        have hsmk := HSM.out _ (List.getElem_mem hlt)
        have hget := List.getElem?_eq_getElem hlt
        have HR := hide (And.intro hr (And.intro hbl (And.intro hsmk hget)))
        clear hr hbl hsmk hget
        have HTK : Hid ((x.fields.map (·.name)).take (k + 1) = (x.fields.map (·.name)).take k ++ [x.fields[k].name]) := hide (by rw [List.take_succ_eq_append_getElem (by simpa using hlt)]; simp)
        generalize x.fields[k] = fd at *
        go_upto_region 8 with (at_builtin; go_must (refine app_rowz rfl (.tmp 33) (.tmp 40) 101 101 rfl 9 i1 _ 1 16 Tryz.underlying101 hj hy0 hy1 hy2 rfl (.slice Ar k cr) k (strV ((x.fields.map (·.name)).take k)) rfl (RowZ.below HRW.out (below_laid wr _)) _ 1 [.string fd.name] rfl (str_news (heap_alloc_new wr _)) (by unfold maxLen; omega) (by omega) ?_); intro A' c4 w' hr hg hob; have HG := hide (And.intro hr (And.intro hg hob)); clear hr hg hob)
        have H5 : Hid (StS w0 (.slice A' (k + 1) c4) ((x.fields.map (·.name)).take (k + 1)) w') := hide (by
          rw [HTK.out]
          exact HO.out.push HR.out.2.2.1 (by rw [HSS.out]; exact HG.out.1) HG.out.2.1 HG.out.2.2)
        obtain ⟨g, rfl⟩ := RowZ.addr HG.out.1 (by omega)
        have hcl : w'.cell? ⟨g, k, none⟩ = some (.string fd.name) := by
          rw [RowZ.cell HG.out.1 (by rw [List.length_append]; simp only [strV, List.length_map, HSS.out, List.length_singleton]; omega), List.getElem?_append_right (by simp only [strV, List.length_map, HSS.out]; omega)]
          simp only [strV, List.length_map, HSS.out, Nat.sub_self]
          rfl
        have HCL := hide hcl
        have HS5 := hide (HT.out.step H5.out.below)
        clear hcl g0 j0 HO HS HK HRW HG HTK
        have HST : Hid (Kpt w' w'.drew) := hide ⟨below_drewN (Below.refl _ _) 1⟩
        have HIA := hide (isAtom_tot w.heap.size _ _ n l t fd.at_ w'.drew (HS5.out.step HST.out.below).lats (HS5.out.step HST.out.below).vars (HS5.out.step HST.out.below).below.size ht)
        have HRI := hide (rightR_any fd.name w'.drew HR.out.2.2.1)
        have hgl : (k : Int) < (k : Int) + 1 := by omega
        refine wp_region_tree [0, 1, 2, 3] (.step 4 true (.take 5 (.take 6 (.take 7 (.take 8 (.take 9 (.take 10 (.take 11 (.take 12 (.take 13 (.take 14 (.step 15 true (.take 16 (.take 17 .done)) .done))))))))))) .done) (Kpt w') (by kernel_rfl) (by kernel_rfl) (fun _ _ _ _ _ h => h) HST.out ?_
        intro hne
        simp only [picks, List.filterMap_cons, List.filterMap_nil, List.getElem?_cons_zero, List.getElem?_cons_succ]
        have hu1 : ∀ u : HoldW (Kpt w'), u.w.cell? ⟨g, k, none⟩ = some (.string fd.name) := fun u => u.ok.cell HCL.out
        iterate 4 (refine wpHeld_step (fun K hK => ?_); go_simp; refine hK _ ?_; clear hK K)
        refine wpHeld_nil ?_
        have HNE := hide hne
        clear hu1 hne
        generalize hrr : Nm.right fd.name = r at *
        refine wpTree_step rfl fun K hK => ?_
        go_wp2_with (go_at_call 38; refine HRI.out.mono ?_; rintro e w1 ⟨rfl, rfl⟩)
        refine chainF (fun _ => HST.out) (hK _ _ ?_)
        clear hK K
        have hne := HNE.out
        have hu2 : ∀ u : HoldW (Kpt w'), u.w.cell? ⟨w.heap.size, 0, none⟩ = some (.slice A n c) := fun u => u.ok.cell HS5.out.c0
        have hu3 : ∀ u : HoldW (Kpt w'), u.w.cell? ⟨w.heap.size, 1, none⟩ = some (.slice A2 l.length c2) := fun u => u.ok.cell HS5.out.c1
        have hu4 : ∀ u : HoldW (Kpt w'), u.w.cell? ⟨w.heap.size + 1, 0, none⟩ = some (.slice (some ⟨bl, off, none⟩) x.fields.length c3) := fun u => u.ok.cell ((Kpt.mk H5.out.below).cell HJ0.out)
        cases r
        · iterate 10 (refine wpTree_take rfl (fun K hK => ?_); go_simp; refine hK _ ?_; clear hK K)
          refine wpTree_step rfl fun K hK => ?_
          go_wp2_with fail
          refine chainF (fun _ => HST.out) (hK _ _ ?_)
          clear hK K
          iterate 2 (refine wpTree_take rfl (fun K hK => ?_); go_simp; refine hK _ ?_; clear hK K)
          refine wpTree_end ?_
          clear hu2 hu3 hu4 hne
          go_wp2_with fail
          go_ret
          exact ⟨⟨_, rfl, fun h => by cases h⟩, (HS5.out.step HST.out.below).below⟩
        · iterate 9 (refine wpTree_take rfl (fun K hK => ?_); go_simp; refine hK _ ?_; clear hK K)
          refine wpTree_take rfl (fun K hK => ?_)
          rw [if_pos (by with_unfolding_all rfl)]
          refine held_mid (b := bl) (o := off + k * 10 + 1) (cs := [.int .i64 fd.at_.var, .int .u64 fd.at_.el.e0, .int .u64 fd.at_.el.e1, .int .u64 fd.at_.el.e2, .int .u64 fd.at_.el.e3, .int .u64 fd.at_.el.e4, .int .u64 fd.at_.el.e5, .int .u64 fd.at_.el.e6, .int .u64 fd.at_.el.e7]) rfl rfl (by rintro _ ⟨u, rfl⟩; exact fun j v hv => by have := ((Kpt.mk H5.out.below).step u.ok.below).range HR.out.1 HR.out.2.1 (j + 1) v (by simpa [fdV, atV, elV] using hv); rwa [Nat.add_comm j 1, ← Nat.add_assoc] at this) Tryz.underlying50 rfl at_info (hK _ ?_)
          clear hK K
          clear hu2 hu3 hu4 hne
          refine wpTree_step rfl fun K hK => ?_
          go_wp2_with (go_at_call 43; refine HIA.out.mono ?_; rintro e w1 ⟨⟨⟨r, rfl, hr⟩⟩, hb1⟩; have H6 := hide (And.intro hr (HST.out.step hb1)); clear hr hb1)
          refine chainF (fun _ => H6.out.2) (hK _ _ ?_)
          clear hK K
          have hne := HNE.out
          cases r
          · iterate 2 (refine wpTree_take rfl (fun K hK => ?_); go_simp; refine hK _ ?_; clear hK K)
            refine wpTree_end ?_
            clear hne
            go_wp2_with fail
            go_ret
            exact ⟨⟨_, rfl, fun h => by cases h⟩, (HS5.out.step H6.out.2.below).below⟩
          · iterate 2 (refine wpTree_take rfl (fun K hK => ?_); go_simp; refine hK _ ?_; clear hK K)
            refine wpTree_end ?_
            clear hne
            go_wp2_with fail
            exact ⟨⟨k + 1, by omega, rfl, H5.out.step H6.out.2.below, fun j f hj hf => by
              rcases Nat.lt_or_ge j k with h | h
              · exact HAT.out j f h hf
              · obtain rfl : j = k := by omega
                rw [HR.out.2.2.2] at hf; injection hf with hf; subst hf; exact H6.out.1 rfl⟩, by simp [intOf]; omega⟩
      · obtain rfl : k = x.fields.length := by omega
        have HLS := hide (HO.out.ls)
        have hcl : ((x.fields.map (·.name)).take x.fields.length) = x.fields.map (·.name) := List.take_of_length_le (by simp)
        have HLH : Hid (HasStr wr wr.heap.size Ar x.fields.length (x.fields.map (·.name))) := hide (by
          obtain ⟨A', c', h1, h2, h3, h4, h5⟩ := SlAt.ex HLS.out.at_
          rw [HSS.out] at h1
          cases h1
          rw [hcl] at h4 h5
          refine ⟨by simp, fun h0 => ?_⟩
          obtain ⟨b, off, rfl, _, h7, h8⟩ := h5 (by simpa using h0)
          exact ⟨b, off, rfl, h7, h8⟩)
        have HW := hide (twiceR_any x.fields.length cr wr.heap.size Ar (x.fields.map (·.name)) wr (by omega) HLH.out)
        clear hcl
        generalize htw : Nm.twice (x.fields.map (·.name)) = tw at *
        have HFIN : Hid (tw < 0 → TmOk l.length x) := hide fun h => ⟨H16.out, HTL.out, twice_nodup (by rw [htw]; exact h), fun f hf => by
          obtain ⟨j, hj, rfl⟩ := List.mem_iff_getElem.1 hf
          exact HAT.out j _ hj (List.getElem?_eq_getElem hj)⟩
        clear htw
        go_wp2_with (go_at_call 39; refine HW.out.mono ?_; rintro e w1 ⟨rfl, rfl⟩)
        go_ret
        exact ⟨⟨_, rfl, fun h => HFIN.out (of_decide_eq_true h)⟩, HS.out.below⟩
end Go.Proofs.YthnbhcfpfbimgaaGreat
