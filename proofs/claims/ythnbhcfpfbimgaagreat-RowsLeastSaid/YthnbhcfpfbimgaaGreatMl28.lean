/- Texts put together: RhOrd RhRight18. -/
import Derived.Test.YthnbhcfpfbimgaaGreatMl27
/- The walk of chapter 18's ordered. -/
namespace Go.Proofs.YthnbhcfpfbimgaaGreat
open Go.RowKit
open Rw (El At Fld)
theorem up_names {l : List Vl} (h : ∀ (j : Nat) x y, l[j]? = some x → l[j + 1]? = some y → Nm.ls x.name y.name = true) : Nm.Up (l.map (·.name)) := by
  unfold Nm.Up
  rw [List.pairwise_iff_getElem]
  intro i j hi hj hij
  have key : ∀ d i, (hi : i + d + 1 < l.length) → Nm.ls (l[i]'(by omega)).name (l[i + d + 1]'hi).name = true := by
    intro d
    induction d with
    | zero => intro i hi; exact h i _ _ (List.getElem?_eq_getElem (by omega)) (List.getElem?_eq_getElem hi)
    | succ d ih => intro i hi; exact Nm.ls_trans (ih i (by omega)) (h (i + d + 1) _ _ (List.getElem?_eq_getElem (by omega)) (List.getElem?_eq_getElem hi))
  obtain ⟨d, rfl⟩ : ∃ d, j = i + d + 1 := ⟨j - i - 1, by omega⟩
  simpa using key d i (by simpa using hj)
set_option maxRecDepth 100000 in
set_option maxHeartbeats 4000000 in
theorem ordered_tot (B : Nat) (v : Value) (l : List Vl) (w : World) (h : Vls w B v l) : Calls Tryz.prog 24 #[v] w fun e w' => RIf (Nm.Up (l.map (·.name))) e ∧ Below w.heap.size w w' := by
  obtain ⟨A, c, rfl, _, hcm⟩ := SlAt.form h.at_
  have hl9 : (l.length : Int) ≤ 9223372036854775807 := by unfold maxLen at hcm; omega
  have HL := hide h
  clear h hcm
  go_enter Tryz.func24, Tryz.ntmps24
  go_wp2_with fail
  go_loopw [3] (fun kv wr => (∃ k : Nat, (k ≤ l.length ∧ ∀ (j : Nat) x y, j + 1 < k → l[j]? = some x → l[j + 1]? = some y → Nm.ls x.name y.name = true) ∧ kv = .int .i64 (k : Nat)) ∧ Kpt w wr) (fun kv _ => l.length - (intOf kv).toNat)
  case atStart => exact ⟨⟨0, ⟨by omega, fun j x y h => by omega⟩, rfl⟩, ⟨Below.refl _ _⟩⟩
  case round =>
    obtain ⟨⟨k, ⟨hk, hno⟩, rfl⟩, ho⟩ := hrel
    have HNO := hide hno
    have HO := hide ho
    clear hno ho
    by_cases hlt : k < l.length
    · have i0 : (k : Int) < l.length := by omega
      obtain ⟨bl, off, c', e, hbl, hr⟩ := SlAt.elem (HL.out.at_.below HO.out.below) (fun _ => rfl) hlt
      cases e
      have hget := List.getElem?_eq_getElem hlt
      have hsm := HL.out.small _ (List.getElem_mem hlt)
      have HPREV : Hid (0 < k → ∃ y, l[k - 1]? = some y ∧ y.name.size ≤ maxLen ∧ wr.cell? ⟨bl, off + (k - 1) * 9, none⟩ = some (.string y.name)) := hide fun hp => by
        have hlt' : k - 1 < l.length := by omega
        obtain ⟨b2, o2, c2, e2, _, hr2⟩ := SlAt.elem (HL.out.at_.below HO.out.below) (fun _ => rfl) hlt'
        cases e2
        exact ⟨_, List.getElem?_eq_getElem hlt', HL.out.small _ (List.getElem_mem hlt'), hr2 0 _ rfl⟩
      generalize l[k] = x at *
      have HG := hide hget
      have HCX : Hid (∀ u : Calm wr.heap.size wr, u.w.cell? ⟨bl, off + k * 9, none⟩ = some (.string x.name)) := hide fun u => (World.cell?_of_block (u.below.block _ hbl)).trans (hr 0 _ rfl)
      have HRI := hide (fun u : Calm wr.heap.size wr => rightR_any x.name u.w hsm)
      have HBL := hide hbl
      clear hget hr hsm hbl
      generalize Nm.right x.name = r1 at *
      by_cases hk0 : k = 0
      · subst hk0
        go_upto_region 4 with fail
        have hc1 := HCX.out
        simp only [Nat.zero_mul, Nat.add_zero] at hc1
        refine wp_region_calm wr.heap.size (by kernel_rfl) (by kernel_rfl) ?_
        cases r1 <;> repeat (go_big_quiet_step ((go_at_call 38; exact calm_same (HRI.out _))))
        all_goals
          refine wpQuiet_nil ?_
          intro w4 hw4
          obtain ⟨u, rfl⟩ := hw4
          have H4 := hide (HO.out.step u.below)
          clear hc1 HCX HRI
          generalize u.w = w4 at *
          go_wp2_with fail
        · go_ret
          exact ⟨⟨_, rfl, fun h => by cases h⟩, H4.out.below⟩
        · exact ⟨⟨⟨1, ⟨by omega, fun j x y h => by omega⟩, rfl⟩, H4.out⟩, by simp [intOf]; omega⟩
      · obtain ⟨y, hy, hys, hcy⟩ := HPREV.out (by omega)
        have hc2 : ∀ u : Calm wr.heap.size wr, u.w.cell? ⟨bl, off + (k - 1) * 9, none⟩ = some (.string y.name) := fun u => (World.cell?_of_block (u.below.block _ HBL.out)).trans hcy
        have HLS := hide (fun u : Calm wr.heap.size wr => lessR_any y.name x.name u.w hys)
        have HY := hide hy
        clear hcy hy hys HPREV
        obtain ⟨q, rfl⟩ : ∃ q : Nat, k = q + 1 := ⟨k - 1, by omega⟩
        simp only [Nat.add_sub_cancel] at *
        generalize hls : Nm.ls y.name x.name = r2 at *
        have HLSE := hide hls
        clear hls hk0
        go_upto_region 4 with fail
        have hc1 := HCX.out
        refine wp_region_calm wr.heap.size (by kernel_rfl) (by kernel_rfl) ?_
        have hz : (0 : Int) < (q : Int) + 1 := by omega
        cases r1 <;> cases r2 <;> repeat (go_big_quiet_step ((first | (go_at_call 38; exact calm_same (HRI.out _)) | (go_at_call 16; exact calm_dr (HLS.out _)))))
        all_goals
          refine wpQuiet_nil ?_
          intro w4 hw4
          obtain ⟨u, rfl⟩ := hw4
          have H4 := hide (HO.out.step u.below)
          clear hc1 hc2 HCX HRI HLS
          generalize u.w = w4 at *
          go_wp2_with fail
        rotate_right
        · exact ⟨⟨⟨q + 1 + 1, ⟨by omega, fun j x' y' h hx hy' => by
            rcases Nat.lt_or_ge (j + 1) (q + 1) with h1 | h1
            · exact HNO.out j x' y' h1 hx hy'
            · obtain rfl : j = q := by omega
              rw [HY.out] at hx; injection hx with hx; subst hx
              rw [HG.out] at hy'; injection hy' with hy'; subst hy'
              exact HLSE.out⟩, rfl⟩, H4.out⟩, by simp [intOf]; omega⟩
        all_goals
          go_ret
          exact ⟨⟨_, rfl, fun h => by cases h⟩, H4.out.below⟩
    · obtain rfl : k = l.length := by omega
      have HFIN : Hid (Nm.Up (l.map (·.name))) := hide (up_names fun j x y hx hy => HNO.out j x y (List.getElem?_eq_some_iff.1 hy).1 hx hy)
      go_wp2_with fail
      go_ret
      exact ⟨⟨_, rfl, fun _ => HFIN.out⟩, HO.out.below⟩
end Go.Proofs.YthnbhcfpfbimgaaGreat
/- The walk of chapter 18's Right. (Printed by rhright18.py.) -/
namespace Go.Proofs.YthnbhcfpfbimgaaGreat
open Go.RowKit
open Rw (El At Fld)
/-- A right assignment. -/
structure AsnOk (n : Nat) (L : List El) (R : List (List Vl)) : Prop where
  labs : L.length = n
  rows : R.length = n
  up : ∀ r ∈ R, Nm.Up (r.map (·.name))
set_option maxRecDepth 100000 in
set_option maxHeartbeats 8000000 in
theorem right18_tot (B : Nat) (vl vv wl wrs : Value) (n : Nat) (l : List Vr) (L : List El) (R : List (List Vl)) (w : World) (h : Lats w B vl n) (h2 : Vars w B vv l) (h3 : Lbs w B wl L) (h4 : Rws w B wrs R) (hB : B ≤ w.heap.size) :
    Calls Tryz.prog 7 #[.agg #[vl, vv], .agg #[wl, wrs]] w fun e w' => RIf (AsnOk l.length L R) e ∧ Below w.heap.size w w' := by
  obtain ⟨A, c, rfl, _, hcm⟩ := h.form
  obtain ⟨A2, c2, rfl, _, hcm2⟩ := h2.form
  obtain ⟨Al, cl, rfl, _, hcl⟩ := SlAt.form h3.at_
  obtain ⟨Ar, cr, rfl, _, hcr⟩ := h4.form
  have hl9 : (n : Int) ≤ 9223372036854775807 := by unfold maxLen at hcm; omega
  have hv9 : (l.length : Int) ≤ 9223372036854775807 := by unfold maxLen at hcm2; omega
  have hL9 : (L.length : Int) ≤ 9223372036854775807 := by unfold maxLen at hcl; omega
  have hR9 : (R.length : Int) ≤ 9223372036854775807 := by unfold maxLen at hcr; omega
  have HT := hide ((ScW.new h h2 hB).step (below_laid _ (.cells #[.slice Al L.length cl, .slice Ar R.length cr] 32)))
  have HA := hide (heap_two w (.cells #[.slice A n c, .slice A2 l.length c2] 25) (.cells #[.slice Al L.length cl, .slice Ar R.length cr] 32))
  have HLB := hide (h3.below HT.out.below)
  have HRW := hide (h4.below HT.out.below)
  have k0 := HT.out.c0
  have k1 := HT.out.c1
  have j0 : ((w.alloc (.cells #[.slice A n c, .slice A2 l.length c2] 25)).alloc (.cells #[.slice Al L.length cl, .slice Ar R.length cr] 32)).cell? ⟨w.heap.size + 1, 0, none⟩ = some (.slice Al L.length cl) := by rw [cell_block HA.out]; rfl
  have j1 : ((w.alloc (.cells #[.slice A n c, .slice A2 l.length c2] 25)).alloc (.cells #[.slice Al L.length cl, .slice Ar R.length cr] 32)).cell? ⟨w.heap.size + 1, 1, none⟩ = some (.slice Ar R.length cr) := by rw [cell_block HA.out]; rfl
  clear h h2 h3 h4 hcm hcm2 hcl hcr HA
  go_enter Tryz.func7, Tryz.ntmps7
  go_upto_region 1 with fail
  generalize (w.alloc (Obj.cells _ 25)).alloc (Obj.cells _ 32) = w0 at *
  have HC := hide (And.intro j0 j1)
  by_cases hL : L.length = l.length
  rotate_left
  · have b1 : ((L.length : Int) != l.length) = true := by simp; omega
    clear hL
    go_wp2_with fail
    go_ret
    exact ⟨⟨_, rfl, fun h => by cases h⟩, HT.out.below⟩
  have b1 : ((L.length : Int) != l.length) = false := by simp; omega
  by_cases hR : R.length = l.length
  rotate_left
  · have b2 : ((R.length : Int) != l.length) = true := by simp; omega
    clear hL hR
    go_wp2_with fail
    go_ret
    exact ⟨⟨_, rfl, fun h => by cases h⟩, HT.out.below⟩
  have b2 : ((R.length : Int) != l.length) = false := by simp; omega
  have HLR := hide (And.intro hL hR)
  clear hL hR
  go_wp2_with fail
  clear b1 b2 k0 k1 j0 j1
  go_loopw [5] (fun kv wr => (∃ q : Nat, (q ≤ l.length ∧ ∀ (j : Nat) r, j < q → R[j]? = some r → Nm.Up (r.map (·.name))) ∧ kv = .int .i64 (q : Nat)) ∧ Kpt w0 wr) (fun kv _ => l.length - (intOf kv).toNat)
  case atStart => exact ⟨⟨0, ⟨by omega, fun j x h => by omega⟩, rfl⟩, ⟨Below.refl _ _⟩⟩
  case round =>
    obtain ⟨⟨q, ⟨hq, hno⟩, rfl⟩, ho⟩ := hrel
    have HO := hide ho
    have HNO := hide hno
    clear ho hno
    have HS := hide (HT.out.step HO.out.below)
    have k1 := HS.out.c1
    by_cases hlt : q < l.length
    · have i0 : (q : Int) < l.length := by omega
      have hqL : q < L.length := by have := HLR.out.1; omega
      have hqR : q < R.length := by have := HLR.out.2; omega
      have i1 : (q : Int) < L.length := by omega
      have i2 : (q : Int) < R.length := by omega
      obtain ⟨bv, ov, c', e, hbl, g0, g1, g2, hsm⟩ := HS.out.vars.at hlt
      cases e
      generalize l[q] = vr at *
      obtain ⟨nm, kd, lt⟩ := vr
      clear hsm hbl
      have HB5 := hide (below_laid wr (.cells #[.string nm, .int .i64 kd, .int .i64 lt] 75))
      have H6 := hide (heap_alloc_last wr (.cells #[.string nm, .int .i64 kd, .int .i64 lt] 75))
      go_upto_region 7 with fail
      clear g0 g1 g2 k1
      have g0 : (wr.alloc (.cells #[.string nm, .int .i64 kd, .int .i64 lt] 75)).cell? ⟨wr.heap.size, 1, none⟩ = some (.int .i64 kd) := by rw [cell_block H6.out]; rfl
      have g2 : (wr.alloc (.cells #[.string nm, .int .i64 kd, .int .i64 lt] 75)).cell? ⟨wr.heap.size, 2, none⟩ = some (.int .i64 lt) := by rw [cell_block H6.out]; rfl
      have HP : Hid (wr.heap.size < (wr.alloc (.cells #[.string nm, .int .i64 kd, .int .i64 lt] 75)).heap.size) := hide (blk_lt H6.out)
      clear H6
      generalize wr.alloc (Obj.cells _ 75) = w5 at *
      have H5 : Hid (Kpt w0 w5) := hide (HO.out.step HB5.out)
      have HS5 := hide (HT.out.step H5.out.below)
      have k0 := HS5.out.c0
      by_cases h0 : lt < 0
      · have e0 : decide (lt < 0) = true := decide_eq_true h0
        go_wp2_with fail
        go_ret
        exact ⟨⟨_, rfl, fun h => by cases h⟩, HS5.out.below⟩
      have e0 : decide (lt < 0) = false := decide_eq_false h0
      by_cases h1 : (n : Int) ≤ lt
      · have e1 : decide ((n : Int) ≤ lt) = true := decide_eq_true h1
        go_wp2_with fail
        go_ret
        exact ⟨⟨_, rfl, fun h => by cases h⟩, HS5.out.below⟩
      have e1 : decide ((n : Int) ≤ lt) = false := decide_eq_false h1
      by_cases hkd : kd = 1 ∨ kd = 2
      rotate_left
      · have e2 : (kd != 1) = true := by simp; omega
        have e3 : (kd != 2) = true := by simp; omega
        clear hkd
        go_wp2_with fail
        go_ret
        exact ⟨⟨_, rfl, fun h => by cases h⟩, HS5.out.below⟩
      obtain ⟨t, rfl⟩ := Int.eq_ofNat_of_zero_le (by omega : 0 ≤ lt)
      have htn : t < n := by omega
      have t0 : (t : Int) < n := by omega
      obtain ⟨bs, os, c7, nm2, bb, u, m, e, hbs, s0, s1, s2, hsm2, hsh⟩ := HS5.out.lats.at htn
      cases e
      obtain ⟨A3, c8, rfl, _⟩ := hsh.form
      have HSH := hide hsh
      clear hsm2 hsh hbs s0
      have HLAB := hide (List.getElem?_eq_getElem hqL)
      obtain ⟨be, oe, c9, e, hbe, hre⟩ := SlAt.elem (HLB.out.at_.below H5.out.below) (fun _ => rfl) hqL
      cases e
      obtain ⟨br, orr, c10, ur, e, hbr, hcu, hur⟩ := (HRW.out.below H5.out.below).at hqR
      cases e
      have HGR := hide (List.getElem?_eq_getElem hqR)
      generalize L[q] = lab at *
      generalize R[q] = rr at *
      obtain ⟨Au, cu, rfl, _, hcu9⟩ := SlAt.form hur.at_
      have hr9 : (rr.length : Int) ≤ 9223372036854775807 := by unfold maxLen at hcu9; omega
      have HUR := hide (And.intro hur hcu)
      have HEL := hide (And.intro hre hbe)
      clear hur hcu hcu9 hre hbe hbr HLAB
      have HB6 := hide (below_laid w5 (.cells #[.bool bb, .slice A3 m c8] 78))
      have H7 := hide (heap_alloc_last w5 (.cells #[.bool bb, .slice A3 m c8] 78))
      have HG := hide (And.intro g0 HP.out)
      rcases hkd with rfl | rfl
      · go_upto_region 10 with fail
        clear g0 g2 k0 e0 e1 s1 s2
        have H6 : Hid (Kpt w0 (w5.alloc (.cells #[.bool bb, .slice A3 m c8] 78))) := hide (H5.out.step HB6.out)
        have hp0 : (w5.alloc (.cells #[.bool bb, .slice A3 m c8] 78)).cell? ⟨w5.heap.size, 0, none⟩ = some (.bool bb) := by rw [cell_block H7.out]; rfl
        have hp1 : (w5.alloc (.cells #[.bool bb, .slice A3 m c8] 78)).cell? ⟨w5.heap.size, 1, none⟩ = some (.slice A3 m c8) := by rw [cell_block H7.out]; rfl
        have hg6 : (w5.alloc (.cells #[.bool bb, .slice A3 m c8] 78)).cell? ⟨wr.heap.size, 1, none⟩ = some (.int .i64 1) := (World.cell?_of_block (HB6.out.block _ HG.out.2)).trans HG.out.1
        have HPP := hide (And.intro hp0 (And.intro hp1 hg6))
        clear hp0 hp1 hg6
        have HSH6 := hide (HSH.out.below HB6.out)
        have HUR6 := hide (And.intro (HUR.out.1.below HB6.out) ((World.cell?_of_block (HB6.out.block _ (World.block_lt_of_cell? _ _ HUR.out.2))).trans HUR.out.2))
        have HEL6 := hide (And.intro (range_below HEL.out.1 HEL.out.2 HB6.out) (Nat.lt_of_lt_of_le HEL.out.2 HB6.out.size))
        have HS6 := hide (HT.out.step H6.out.below)
        clear H7
        generalize w5.alloc (Obj.cells _ 78) = w6 at *
        have HST : Hid (Kpt w6 w6.drew) := hide ⟨below_drewN (Below.refl _ _) 1⟩
        have HF := hide (fits7_tot w.heap.size bb (.slice A3 m c8) m lab w6.drew (HSH6.out.below HST.out.below) (Nat.le_trans HS6.out.below.size HST.out.below.size))
        refine wp_region_tree [0, 1, 2, 3, 4, 5, 7, 6, 8, 9] (.step 10 true (.take 11 (.take 12 (.take 13 (.take 14 (.take 15 (.take 16 (.take 17 (.take 18 (.take 19 (.take 20 (.take 21 .done))))))))))) .done) (Kpt w6) (by kernel_rfl) (by kernel_rfl) (fun _ _ _ _ _ h => h) HST.out ?_
        intro hne
        simp only [picks, List.filterMap_cons, List.filterMap_nil, List.getElem?_cons_zero, List.getElem?_cons_succ]
        have hu0 : ∀ u : HoldW (Kpt w6), u.w.cell? ⟨wr.heap.size, 1, none⟩ = some (.int .i64 1) := fun u => u.ok.cell HPP.out.2.2
        have hu1 : ∀ u : HoldW (Kpt w6), u.w.cell? ⟨w5.heap.size, 0, none⟩ = some (.bool bb) := fun u => u.ok.cell HPP.out.1
        have hu2 : ∀ u : HoldW (Kpt w6), u.w.cell? ⟨w5.heap.size, 1, none⟩ = some (.slice A3 m c8) := fun u => u.ok.cell HPP.out.2.1
        have hu3 : ∀ u : HoldW (Kpt w6), u.w.cell? ⟨w.heap.size + 1, 0, none⟩ = some (.slice (some ⟨be, oe, none⟩) L.length cl) := fun u => (H6.out.step u.ok.below).cell HC.out.1
        have hu4 : ∀ u : HoldW (Kpt w6), u.w.cell? ⟨w.heap.size + 1, 1, none⟩ = some (.slice (some ⟨br, orr, none⟩) R.length cr) := fun u => (H6.out.step u.ok.below).cell HC.out.2
        have hu5 : ∀ u : HoldW (Kpt w6), u.w.cell? ⟨br, orr + q, none⟩ = some (.slice Au rr.length cu) := fun u => u.ok.cell HUR6.out.2
        iterate 9 (refine wpHeld_step (fun K hK => ?_); go_simp; refine hK _ ?_; clear hK K)
        refine wpHeld_step (fun K hK => ?_)
        rw [if_pos (by with_unfolding_all rfl)]
        refine held_mid (b := be) (o := oe + q * 8) (cs := elV lab) rfl rfl (by rintro _ ⟨u, rfl⟩; exact Kpt.range u.ok HEL6.out.1 HEL6.out.2) Tryz.underlying48 rfl el_info (hK _ ?_)
        clear hK K
        refine wpHeld_nil ?_
        have HNE := hide hne
        have HUU := hide (And.intro hu4 hu5)
        clear hu0 hu1 hu2 hu3 hu4 hu5 hne
        refine wpTree_step rfl fun K hK => ?_
        go_wp2_with (go_at_call 23; refine HF.out.mono ?_; rintro e w7 ⟨⟨⟨r, rfl⟩⟩, hb7⟩; have H8 := hide (HST.out.step hb7); clear hb7)
        refine chainF (fun _ => H8.out) (hK _ _ ?_)
        clear hK K
        have hne := HNE.out
        obtain ⟨hu4, hu5⟩ := HUU.out
        cases r
        · iterate 11 (refine wpTree_take rfl (fun K hK => ?_); go_simp; refine hK _ ?_; clear hK K)
          refine wpTree_end ?_
          clear hu4 hu5 hne
          go_wp2_with fail
          go_ret
          exact ⟨⟨_, rfl, fun h => by cases h⟩, (HT.out.step (H6.out.step H8.out.below).below).below⟩
        by_cases hr0 : 0 < rr.length
        · have d0 : decide (0 < (rr.length : Int)) = true := decide_eq_true (by omega)
          iterate 11 (refine wpTree_take rfl (fun K hK => ?_); go_simp; refine hK _ ?_; clear hK K)
          refine wpTree_end ?_
          clear hu4 hu5 hne
          go_wp2_with fail
          go_ret
          exact ⟨⟨_, rfl, fun h => by cases h⟩, (HT.out.step (H6.out.step H8.out.below).below).below⟩
        have d0 : decide (0 < (rr.length : Int)) = false := decide_eq_false (by omega)
        iterate 11 (refine wpTree_take rfl (fun K hK => ?_); go_simp; refine hK _ ?_; clear hK K)
        refine wpTree_end ?_
        clear hu4 hu5 hne
        have HUPR : Hid (Nm.Up (rr.map (·.name))) := hide (by
          obtain rfl : rr = [] := List.eq_nil_of_length_eq_zero (by omega)
          exact List.Pairwise.nil)
        clear d0 hr0
        have hk2 := H8.out.cell HPP.out.2.2
        go_wp2_with fail
        clear hk2
        generalize wr = wo at *
        go_loopw [8] (fun kv wr => (∃ j : Nat, j ≤ rr.length ∧ kv = .int .i64 (j : Nat)) ∧ Kpt w6 wr) (fun kv _ => rr.length - (intOf kv).toNat)
        case atStart => exact ⟨⟨0, by omega, rfl⟩, H8.out⟩
        case round =>
          obtain ⟨⟨j, hj, rfl⟩, ho⟩ := hrel
          clear H8
          have HV := hide ho
          clear ho
          have j1 := (H6.out.step HV.out.below).cell HC.out.2
          have c1 := HV.out.cell HUR6.out.2
          by_cases hjl : j < rr.length
          · have j0 : (j : Int) < rr.length := by omega
            obtain ⟨b4, o4, c4, e4, hb4, hr4⟩ := SlAt.elem (HUR6.out.1.at_.below HV.out.below) (fun _ => rfl) hjl
            have e5 : Au = some ⟨b4, o4, none⟩ := by injection e4
            subst e5
            clear e4
            generalize rr[j] = y at *
            have HRY : Hid (wr.rangeAt b4 (o4 + j * 9 + 1) (elV y.el) ∧ b4 < wr.heap.size) := hide ⟨fun p v hv => by
              have := hr4 (p + 1) v (by simpa [vlV] using hv)
              rwa [Nat.add_comm p 1, ← Nat.add_assoc] at this, hb4⟩
            clear hr4 hb4
            have HST : Hid (Kpt wr wr.drew) := hide ⟨below_drewN (Below.refl _ _) 1⟩
            have HF := hide (fits7_tot w.heap.size bb (.slice A3 m c8) m y.el wr.drew ((HSH6.out.below HV.out.below).below HST.out.below) (Nat.le_trans HS6.out.below.size (Nat.le_trans HV.out.below.size HST.out.below.size)))
            go_upto_region 17 with fail
            clear j1 c1
            refine wp_region_chain [0, 1, 3, 6, 2, 4, 5, 7, 8, 9] [(10, true), (11, true)] (Kpt wr) (by kernel_rfl) (by kernel_rfl) (fun _ _ _ _ _ h => h) HST.out ?_
            intro hne
            simp only [picks, picksW, List.filterMap_cons, List.filterMap_nil, List.getElem?_cons_zero, List.getElem?_cons_succ, Option.map_some]
            have hu1 : ∀ u : HoldW (Kpt wr), u.w.cell? ⟨w5.heap.size, 0, none⟩ = some (.bool bb) := fun u => (HV.out.step u.ok.below).cell HPP.out.1
            have hu2 : ∀ u : HoldW (Kpt wr), u.w.cell? ⟨w5.heap.size, 1, none⟩ = some (.slice A3 m c8) := fun u => (HV.out.step u.ok.below).cell HPP.out.2.1
            have hu3 : ∀ u : HoldW (Kpt wr), u.w.cell? ⟨w.heap.size + 1, 1, none⟩ = some (.slice (some ⟨br, orr, none⟩) R.length cr) := fun u => ((H6.out.step HV.out.below).step u.ok.below).cell HC.out.2
            have hu4 : ∀ u : HoldW (Kpt wr), u.w.cell? ⟨br, orr + q, none⟩ = some (.slice (some ⟨b4, o4, none⟩) rr.length cu) := fun u => (HV.out.step u.ok.below).cell HUR6.out.2
            iterate 9 (refine wpHeld_step (fun K hK => ?_); go_simp; refine hK _ ?_; clear hK K)
            refine wpHeld_step (fun K hK => ?_)
            rw [if_pos (by with_unfolding_all rfl)]
            refine held_mid (b := b4) (o := o4 + j * 9 + 1) (cs := elV y.el) rfl rfl (by rintro _ ⟨u, rfl⟩; exact Kpt.range u.ok HRY.out.1 HRY.out.2) Tryz.underlying48 rfl el_info (hK _ ?_)
            clear hK K
            refine wpHeld_nil ?_
            clear hu1 hu2 hu3 hu4 hne
            refine wpChain_cons fun K hK => ?_
            go_wp2_with (go_at_call 23; refine HF.out.mono ?_; rintro e w7 ⟨⟨⟨r, rfl⟩⟩, hb7⟩; have H8 := hide (HST.out.step hb7); clear hb7)
            refine chainF (fun _ => H8.out) (hK _ _ ?_)
            clear hK K
            refine wpChain_cons fun K hK => ?_
            go_wp2_with fail
            refine chainF (fun _ => H8.out) (hK _ _ ?_)
            clear hK K
            refine wpChain_nil ?_
            cases r
            · go_wp2_with fail
              go_ret
              exact ⟨⟨_, rfl, fun h => by cases h⟩, (HT.out.step (H6.out.step (HV.out.step H8.out.below).below).below).below⟩
            · go_wp2_with fail
              exact ⟨⟨⟨j + 1, by omega, rfl⟩, HV.out.step H8.out.below⟩, by simp [intOf]; omega⟩
          · obtain rfl : j = rr.length := by omega
            go_wp2_with fail
            exact ⟨⟨⟨q + 1, ⟨by omega, fun i y hi hy => by
              rcases Nat.lt_or_ge i q with h | h
              · exact HNO.out i y h hy
              · obtain rfl : i = q := by omega
                rw [HGR.out] at hy; injection hy with hy; subst hy; exact HUPR.out⟩, rfl⟩, H6.out.step HV.out.below⟩, by simp [intOf]; omega⟩

      · go_upto_region 10 with fail
        clear g0 g2 k0 e0 e1 s1 s2
        have H6 : Hid (Kpt w0 (w5.alloc (.cells #[.bool bb, .slice A3 m c8] 78))) := hide (H5.out.step HB6.out)
        have hp0 : (w5.alloc (.cells #[.bool bb, .slice A3 m c8] 78)).cell? ⟨w5.heap.size, 0, none⟩ = some (.bool bb) := by rw [cell_block H7.out]; rfl
        have hp1 : (w5.alloc (.cells #[.bool bb, .slice A3 m c8] 78)).cell? ⟨w5.heap.size, 1, none⟩ = some (.slice A3 m c8) := by rw [cell_block H7.out]; rfl
        have hg6 : (w5.alloc (.cells #[.bool bb, .slice A3 m c8] 78)).cell? ⟨wr.heap.size, 1, none⟩ = some (.int .i64 2) := (World.cell?_of_block (HB6.out.block _ HG.out.2)).trans HG.out.1
        have HPP := hide (And.intro hp0 (And.intro hp1 hg6))
        clear hp0 hp1 hg6
        have HSH6 := hide (HSH.out.below HB6.out)
        have HUR6 := hide (And.intro (HUR.out.1.below HB6.out) ((World.cell?_of_block (HB6.out.block _ (World.block_lt_of_cell? _ _ HUR.out.2))).trans HUR.out.2))
        have HEL6 := hide (And.intro (range_below HEL.out.1 HEL.out.2 HB6.out) (Nat.lt_of_lt_of_le HEL.out.2 HB6.out.size))
        have HS6 := hide (HT.out.step H6.out.below)
        clear H7
        generalize w5.alloc (Obj.cells _ 78) = w6 at *
        have hk2 := HPP.out.2.2
        go_quiet (fail)
        clear hk2
        have H8 : Hid (Kpt w6 (w6.drewN nq)) := hide ⟨below_drewN (Below.refl _ _) nq⟩
        generalize w6.drewN nq = w7 at *
        have hk2 := H8.out.cell HPP.out.2.2
        have j0 := (H6.out.step H8.out.below).cell HC.out.1
        have j1 := (H6.out.step H8.out.below).cell HC.out.2
        have hc2 := H8.out.cell HUR6.out.2
        obtain ⟨l0, l1, l2, l3, l4, l5, l6, l7⟩ := lab
        have HLA := hide (ldA (cs := #[.int .u64 l0, .int .u64 l1, .int .u64 l2, .int .u64 l3, .int .u64 l4, .int .u64 l5, .int .u64 l6, .int .u64 l7]) 94 (H8.out.range HEL6.out.1 HEL6.out.2) Tryz.underlying48 rfl el_info)
        have HOR := hide (ordered_tot _ _ rr w7 (HUR6.out.1.below H8.out.below))
        by_cases hz : l0 = 0 ∧ l1 = 0 ∧ l2 = 0 ∧ l3 = 0 ∧ l4 = 0 ∧ l5 = 0 ∧ l6 = 0 ∧ l7 = 0
        rotate_left
        · have he : (l0 == 0 && l1 == 0 && l2 == 0 && l3 == 0 && l4 == 0 && l5 == 0 && l6 == 0 && l7 == 0) = false := by
            rw [← Bool.not_eq_true]
            intro h
            exact hz (by simpa [and_assoc] using h)
          clear hz
          go_wp2_with (with_reducible refine HLA.out _ _ _ _ _ rfl rfl (by with_unfolding_all rfl) ?_)
          go_ret
          exact ⟨⟨_, rfl, fun h => by cases h⟩, (HT.out.step (H6.out.step H8.out.below).below).below⟩
        obtain ⟨rfl, rfl, rfl, rfl, rfl, rfl, rfl, rfl⟩ := hz
        go_wp2_with (first | (with_reducible refine HLA.out _ _ _ _ _ rfl rfl (by with_unfolding_all rfl) ?_) | (go_at_call 24; refine HOR.out.mono ?_; rintro e w8 ⟨⟨⟨r, rfl, hup⟩⟩, hb8⟩; have H9 := hide (H8.out.step hb8); have HUP := hide hup; clear hup hb8; cases r))
        · go_ret
          exact ⟨⟨_, rfl, fun h => by cases h⟩, (HT.out.step (H6.out.step H9.out.below).below).below⟩
        have HUPR := hide (HUP.out (by trivial))
        clear HUP HOR HLA hk2 j0 j1 hc2 H8
        generalize wr = wo at *
        go_loopw [8] (fun kv wr => (∃ j : Nat, j ≤ rr.length ∧ kv = .int .i64 (j : Nat)) ∧ Kpt w6 wr) (fun kv _ => rr.length - (intOf kv).toNat)
        case atStart => exact ⟨⟨0, by omega, rfl⟩, H9.out⟩
        case round =>
          obtain ⟨⟨j, hj, rfl⟩, ho⟩ := hrel
          clear H9
          have HV := hide ho
          clear ho
          have j1 := (H6.out.step HV.out.below).cell HC.out.2
          have c1 := HV.out.cell HUR6.out.2
          by_cases hjl : j < rr.length
          · have j0 : (j : Int) < rr.length := by omega
            obtain ⟨b4, o4, c4, e4, hb4, hr4⟩ := SlAt.elem (HUR6.out.1.at_.below HV.out.below) (fun _ => rfl) hjl
            have e5 : Au = some ⟨b4, o4, none⟩ := by injection e4
            subst e5
            clear e4
            generalize rr[j] = y at *
            have HRY : Hid (wr.rangeAt b4 (o4 + j * 9 + 1) (elV y.el) ∧ b4 < wr.heap.size) := hide ⟨fun p v hv => by
              have := hr4 (p + 1) v (by simpa [vlV] using hv)
              rwa [Nat.add_comm p 1, ← Nat.add_assoc] at this, hb4⟩
            clear hr4 hb4
            have HST : Hid (Kpt wr wr.drew) := hide ⟨below_drewN (Below.refl _ _) 1⟩
            have HF := hide (fits7_tot w.heap.size bb (.slice A3 m c8) m y.el wr.drew ((HSH6.out.below HV.out.below).below HST.out.below) (Nat.le_trans HS6.out.below.size (Nat.le_trans HV.out.below.size HST.out.below.size)))
            go_upto_region 17 with fail
            clear j1 c1
            refine wp_region_chain [0, 1, 3, 6, 2, 4, 5, 7, 8, 9] [(10, true), (11, true)] (Kpt wr) (by kernel_rfl) (by kernel_rfl) (fun _ _ _ _ _ h => h) HST.out ?_
            intro hne
            simp only [picks, picksW, List.filterMap_cons, List.filterMap_nil, List.getElem?_cons_zero, List.getElem?_cons_succ, Option.map_some]
            have hu1 : ∀ u : HoldW (Kpt wr), u.w.cell? ⟨w5.heap.size, 0, none⟩ = some (.bool bb) := fun u => (HV.out.step u.ok.below).cell HPP.out.1
            have hu2 : ∀ u : HoldW (Kpt wr), u.w.cell? ⟨w5.heap.size, 1, none⟩ = some (.slice A3 m c8) := fun u => (HV.out.step u.ok.below).cell HPP.out.2.1
            have hu3 : ∀ u : HoldW (Kpt wr), u.w.cell? ⟨w.heap.size + 1, 1, none⟩ = some (.slice (some ⟨br, orr, none⟩) R.length cr) := fun u => ((H6.out.step HV.out.below).step u.ok.below).cell HC.out.2
            have hu4 : ∀ u : HoldW (Kpt wr), u.w.cell? ⟨br, orr + q, none⟩ = some (.slice (some ⟨b4, o4, none⟩) rr.length cu) := fun u => (HV.out.step u.ok.below).cell HUR6.out.2
            iterate 9 (refine wpHeld_step (fun K hK => ?_); go_simp; refine hK _ ?_; clear hK K)
            refine wpHeld_step (fun K hK => ?_)
            rw [if_pos (by with_unfolding_all rfl)]
            refine held_mid (b := b4) (o := o4 + j * 9 + 1) (cs := elV y.el) rfl rfl (by rintro _ ⟨u, rfl⟩; exact Kpt.range u.ok HRY.out.1 HRY.out.2) Tryz.underlying48 rfl el_info (hK _ ?_)
            clear hK K
            refine wpHeld_nil ?_
            clear hu1 hu2 hu3 hu4 hne
            refine wpChain_cons fun K hK => ?_
            go_wp2_with (go_at_call 23; refine HF.out.mono ?_; rintro e w7 ⟨⟨⟨r, rfl⟩⟩, hb7⟩; have H8 := hide (HST.out.step hb7); clear hb7)
            refine chainF (fun _ => H8.out) (hK _ _ ?_)
            clear hK K
            refine wpChain_cons fun K hK => ?_
            go_wp2_with fail
            refine chainF (fun _ => H8.out) (hK _ _ ?_)
            clear hK K
            refine wpChain_nil ?_
            cases r
            · go_wp2_with fail
              go_ret
              exact ⟨⟨_, rfl, fun h => by cases h⟩, (HT.out.step (H6.out.step (HV.out.step H8.out.below).below).below).below⟩
            · go_wp2_with fail
              exact ⟨⟨⟨j + 1, by omega, rfl⟩, HV.out.step H8.out.below⟩, by simp [intOf]; omega⟩
          · obtain rfl : j = rr.length := by omega
            go_wp2_with fail
            exact ⟨⟨⟨q + 1, ⟨by omega, fun i y hi hy => by
              rcases Nat.lt_or_ge i q with h | h
              · exact HNO.out i y h hy
              · obtain rfl : i = q := by omega
                rw [HGR.out] at hy; injection hy with hy; subst hy; exact HUPR.out⟩, rfl⟩, H6.out.step HV.out.below⟩, by simp [intOf]; omega⟩

    · obtain rfl : q = l.length := by omega
      have HFIN : Hid (AsnOk l.length L R) := hide ⟨HLR.out.1, HLR.out.2, fun r hr => by
        obtain ⟨j, hj, rfl⟩ := List.mem_iff_getElem.1 hr
        exact HNO.out j _ (by have := HLR.out.2; omega) (List.getElem?_eq_getElem hj)⟩
      go_wp2_with fail
      go_ret
      exact ⟨⟨_, rfl, fun _ => HFIN.out⟩, HS.out.below⟩
end Go.Proofs.YthnbhcfpfbimgaaGreat
