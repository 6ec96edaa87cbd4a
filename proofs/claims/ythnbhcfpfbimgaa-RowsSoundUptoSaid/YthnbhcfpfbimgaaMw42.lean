/- Texts put together: RiSound. -/
import Derived.Test.YthnbhcfpfbimgaaMw41
import Derived.Test.YthnbhcfpfbimgaaMw38
/- The walk of RowsSound. (Printed by risound.py.) -/
namespace Go.Proofs.Ythnbhcfpfbimgaa
open Go.RowKit
open Rw (El At Fld T W64 Gd Sz Ow Nm tot)
open Hd (elZ atomV oneV etaL getV)
theorem pr_info : (Try.prog.info? 28).map (·.size) = some 3 := by kernel_rfl
theorem vr_info : (Try.prog.info? 55).map (·.size) = some 3 := by kernel_rfl
theorem pr_one {vl vv va : Value} (h1 : vl.oneCell' = true) (h2 : vv.oneCell' = true) (h3 : va.oneCell' = true) : (#[vl, vv, va] : Array Value).all (·.oneCell') = true := by simp [h1, h2, h3]
theorem fd_mid {w : World} {b : Nat} {f : Fld} (h : w.heap[b]? = some (.cells #[.string f.name, .int .i64 f.at_.var, .int .u64 f.at_.el.e0, .int .u64 f.at_.el.e1, .int .u64 f.at_.el.e2, .int .u64 f.at_.el.e3, .int .u64 f.at_.el.e4, .int .u64 f.at_.el.e5, .int .u64 f.at_.el.e6, .int .u64 f.at_.el.e7] 60 (0, 0))) : w.rangeAt b 1 [.int .i64 f.at_.var, .int .u64 f.at_.el.e0, .int .u64 f.at_.el.e1, .int .u64 f.at_.el.e2, .int .u64 f.at_.el.e3, .int .u64 f.at_.el.e4, .int .u64 f.at_.el.e5, .int .u64 f.at_.el.e6, .int .u64 f.at_.el.e7] :=
  range_block h 1 _ fun j u hu => by
    have hj := (List.getElem?_eq_some_iff.1 hu).1
    simp only [List.length_cons, List.length_nil] at hj
    match j, hu, hj with
    | 0, hu, _ => exact hu
    | 1, hu, _ => exact hu
    | 2, hu, _ => exact hu
    | 3, hu, _ => exact hu
    | 4, hu, _ => exact hu
    | 5, hu, _ => exact hu
    | 6, hu, _ => exact hu
    | 7, hu, _ => exact hu
    | 8, hu, _ => exact hu
/-- The problem whose assertions are about rows, beside all that. -/
structure QuW (W0 : World) (B p : Nat) (vl vv vs wl wrs : Value) (n : Nat) (l : List Vr) (as_ : List As) (L : List El) (R : List (List Vl)) (qv : Value) (wr : World) : Prop where
  ar : ArW W0 B p vl vv vs wl wrs n l as_ L R wr
  ex : ∃ g v, qv = .pointer (some ⟨g, 0, none⟩) ∧ g < wr.heap.size ∧ wr.cell? ⟨g, 0, none⟩ = some vl ∧ wr.cell? ⟨g, 1, none⟩ = some vv ∧ wr.cell? ⟨g, 2, none⟩ = some v ∧ Asrs wr B v (rowsOf as_)
theorem rowsOf_ok {l : List Vr} {as_ : List As} (h : POk l as_) : POk l (rowsOf as_) :=
  ⟨h.vars, Nat.le_trans (List.length_filter_le _ _) h.few, fun x hx => h.ok x ((List.mem_filter.1 hx).1)⟩
theorem rowsOf_aor {l : List Vr} {as_ : List As} {n : Nat} (h : POk l as_) (hn : n = l.length) : ∀ x ∈ rowsOf as_, AoR n x := fun x hx => by
  subst hn
  have hk := h.ok x ((List.mem_filter.1 hx).1)
  refine ⟨hk, ?_⟩
  have h8 : x.op ≠ 8 := by simpa [rowsOf] using (List.mem_filter.1 hx).2
  rcases hk.op with e | e | e
  · exact absurd e h8
  · exact .inl e
  · exact .inr e
set_option maxRecDepth 100000 in
set_option maxHeartbeats 4000000 in
theorem sound_any (B : Nat) (vl vv vs wl wrs : Value) (n : Nat) (l : List Vr) (as_ : List As) (L : List El) (R : List (List Vl)) (w : World) (h1 : Lats w B vl n) (h2 : Vars w B vv l) (h3 : Asrs w B vs as_) (h4 : Lbs w B wl L) (h5 : Rws w B wrs R) (hB : B ≤ w.heap.size) (hfew : ∀ r ∈ R, r.length ≤ 1048576) :
    Calls Try.prog 3 #[.agg #[vl, vv, vs], .agg #[wl, wrs]] w fun e w' => e = .returned (.bool true) ∧ Below w.heap.size w w' := by
  have HAR := hide (ArW.new h1 h2 h3 h4 h5 hB)
  obtain ⟨A, c, rfl, _, hcm⟩ := h3.form
  have hl9 : (as_.length : Int) ≤ 9223372036854775807 := by unfold maxLen at hcm; omega
  have HFEW := hide hfew
  clear h1 h2 h3 h4 h5 hB hfew hcm
  have HG1 := hide (fun (wq : World) (hq : ArW w B w.heap.size vl vv (.slice A as_.length c) wl wrs n l as_ L R wq) => big19_tot B vl vv (.slice A as_.length c) n l as_ wq hq.lats hq.vars hq.asr hq.base)
  have HG2 := hide (fun (wq : World) (hq : ArW w B w.heap.size vl vv (.slice A as_.length c) wl wrs n l as_ L R wq) => big18_tot B wl wrs L R wq hq.labs hq.rows hq.base)
  have HG3 := hide (fun (wq : World) (hq : ArW w B w.heap.size vl vv (.slice A as_.length c) wl wrs n l as_ L R wq) => right19_tot B vl vv (.slice A as_.length c) n l as_ wq hq.lats hq.vars hq.asr hq.base)
  have HG4 := hide (fun (wq : World) (hq : ArW w B w.heap.size vl vv (.slice A as_.length c) wl wrs n l as_ L R wq) => right18_tot B vl vv wl wrs n l L R wq hq.lats hq.vars hq.labs hq.rows hq.base)
  go_enter Try.func3, Try.ntmps3
  go_upto_region 1 with fail
  generalize (w.alloc (Obj.cells _ 28)).alloc (Obj.cells _ 32) = w0 at *
  go_cut [36] from 19 to 36 (fun p wx => GdW w B w.heap.size vl vv (.slice A as_.length c) wl wrs n l as_ L R p wx)
  case first =>
    have a0 := HAR.out.p0
    have a1 := HAR.out.p1
    have a2 := HAR.out.p2
    have a3 := HAR.out.q0
    have a4 := HAR.out.q1
    go_wp2_with (first | (go_at_call 6; refine (HG1.out _ HAR.out).mono ?_; rintro e w1 ⟨⟨b1, rfl⟩, hb⟩; have H1 := hide (HAR.out.step hb); clear hb a0 a1 a2 a3 a4; have a0 := H1.out.p0; have a1 := H1.out.p1; have a2 := H1.out.p2; have a3 := H1.out.q0; have a4 := H1.out.q1; cases b1) | (go_at_call 7; refine (HG2.out _ H1.out).mono ?_; rintro e w2 ⟨⟨b2, rfl⟩, hb⟩; have H2 := hide (H1.out.step hb); clear hb a0 a1 a2 a3 a4; have a0 := H2.out.p0; have a1 := H2.out.p1; have a2 := H2.out.p2; have a3 := H2.out.q0; have a4 := H2.out.q1; cases b2) | (go_at_call 8; refine (HG3.out _ H2.out).mono ?_; rintro e w3 ⟨⟨b3, rfl, hp⟩, hb⟩; have H3 := hide (H2.out.step hb); have HP := hide hp; clear hp hb a0 a1 a2 a3 a4; have a0 := H3.out.p0; have a1 := H3.out.p1; have a2 := H3.out.p2; have a3 := H3.out.q0; have a4 := H3.out.q1; cases b3) | (go_at_call 9; refine (HG4.out _ H3.out).mono ?_; rintro e w4 ⟨⟨b4, rfl, hq⟩, hb⟩; have H4 := hide (H3.out.step hb); have HQ := hide hq; clear hq hb a0 a1 a2 a3 a4; cases b4))
    all_goals go_meet
    all_goals first | exact ⟨⟨true, rfl, fun h => by cases h⟩, H4.out⟩ | exact ⟨⟨false, rfl, fun _ => ⟨HP.out (by trivial), HQ.out (by trivial)⟩⟩, H4.out⟩ | exact ⟨⟨true, rfl, fun h => by cases h⟩, H3.out⟩ | exact ⟨⟨true, rfl, fun h => by cases h⟩, H2.out⟩ | exact ⟨⟨true, rfl, fun h => by cases h⟩, H1.out⟩
  case rest =>
    obtain ⟨⟨b, rfl, hok⟩, har⟩ := hcut
    clear HG1 HG2 HG3 HG4 HAR
    have HAR := hide har
    clear har
    cases b
    rotate_left
    · have HAL := hide (alive_any wc)
      go_wp2_with (go_at_call 10; refine HAL.out.mono ?_; rintro e w1 ⟨rfl, hb⟩; have H1 := hide (HAR.out.step hb); clear hb)
      go_ret
      exact ⟨rfl, H1.out.kp.below⟩
    have HOK := hide (hok rfl)
    clear hok
    go_upto_region 3 with fail
    go_cut [5] from 38 to 42 (fun qv wx => QuW w B w.heap.size vl vv (.slice A as_.length c) wl wrs n l as_ L R qv wx)
    case first =>
      have HC1 : Hid (vl.oneCell' = true ∧ vv.oneCell' = true) := hide ⟨by obtain ⟨_, _, rfl, _⟩ := HAR.out.lats.form; rfl, by obtain ⟨_, _, rfl, _⟩ := HAR.out.vars.form; rfl⟩
      have HSS : Hid (Kpt wc wc.drew) := hide ⟨below_drewN (Below.refl _ _) 1⟩
      have HABT := hide (fun (wq : World) (hq : Kpt wc wq) => about_any B vl vv (.slice A as_.length c) as_ wq ((HAR.out.step hq.below).asr) HOK.out.1.few)
      refine wp_region_tree [0, 2, 1] (.step 3 true (.take 4 (.step 5 true (.step 6 true .done .done) .done)) (.step 5 true (.step 3 true (.take 4 (.step 6 true .done .done)) .done) .done)) (Kpt wc) (by kernel_rfl) (by kernel_rfl) (fun _ _ _ _ _ h => h) HSS.out ?_
      intro hne
      simp only [picks, List.filterMap_cons, List.filterMap_nil, List.getElem?_cons_zero, List.getElem?_cons_succ]
      have hu0 : ∀ u : HoldW (Kpt wc), u.w.cell? ⟨w.heap.size, 0, none⟩ = some vl := fun u => u.ok.cell HAR.out.p0
      have hu1 : ∀ u : HoldW (Kpt wc), u.w.cell? ⟨w.heap.size, 1, none⟩ = some vv := fun u => u.ok.cell HAR.out.p1
      have hu2 : ∀ u : HoldW (Kpt wc), u.w.cell? ⟨w.heap.size, 2, none⟩ = some (.slice A as_.length c) := fun u => u.ok.cell HAR.out.p2
      iterate 3 (refine wpHeld_step (fun K hK => ?_); go_simp; refine hK _ ?_; clear hK K)
      refine wpHeld_nil ?_
      have HNE := hide hne
      clear hu0 hu1 hu2 hne
      refine wpTree_both rfl (fun K hK => ?_) (wpTree_step rfl fun K hK => ?_)
      · go_wp2_with (go_at_call 11; refine (HABT.out _ HSS.out).mono ?_; rintro e w4 ⟨va, rfl, ha, hb4⟩; obtain ⟨Aq, cq, rfl, _, _⟩ := ha.form; have H4 := hide (And.intro (HSS.out.step hb4) ha); clear ha hb4)
        refine chainF (fun _ => H4.out.1) (hK _ _ ?_)
        clear hK K
        have hne := HNE.out
        refine wpTree_take rfl (fun K hK => ?_)
        go_simp
        refine hK _ ?_
        clear hK K hne
        refine wpTree_step rfl fun K hK => ?_
        go_wp2_with fail
        refine chainF (fun _ => H4.out.1.step (below_laid _ _)) (hK _ _ ?_)
        clear hK K
        refine wpTree_step rfl fun K hK => ?_
        have HSA := hide (stA (T := 28) (w := w4) (new := #[vl, vv, .slice Aq (rowsOf as_).length cq]) 5 42 pr_info (pr_one HC1.out.1 HC1.out.2 rfl))
        go_wp2_with (with_reducible refine HSA.out _ _ _ _ _ _ rfl rfl rfl rfl (by with_unfolding_all rfl) ?_)
        refine chainF (fun _ => H4.out.1.step (below_laid _ _)) (hK _ _ ?_)
        clear hK K
        refine wpTree_end ?_
        have HAL := hide (heap_alloc_last w4 (.cells #[vl, vv, .slice Aq (rowsOf as_).length cq] 28))
        have HBL := hide (below_laid w4 (.cells #[vl, vv, .slice Aq (rowsOf as_).length cq] 28))
        have HQ := hide (QuW.mk (HAR.out.step (H4.out.1.step HBL.out).below) ⟨w4.heap.size, .slice Aq (rowsOf as_).length cq, rfl, blk_lt HAL.out, by rw [cell_block HAL.out]; rfl, by rw [cell_block HAL.out]; rfl, by rw [cell_block HAL.out]; rfl, H4.out.2.below HBL.out⟩)
        go_wp2_with fail
        go_meet
        exact HQ.out
      · go_wp2_with fail
        refine chainF (fun _ => HSS.out.step (below_laid _ _)) (hK _ _ ?_)
        clear hK K
        refine wpTree_step rfl fun K hK => ?_
        have HSB : Hid (Kpt wc (wc.alloc (.cells #[.slice none 0 0, .slice none 0 0, .slice none 0 0] 28)).drew) := hide ⟨below_drewN (below_laid _ _) 1⟩
        have HZB : Hid ((wc.alloc (.cells #[.slice none 0 0, .slice none 0 0, .slice none 0 0] 28)).drew.heap[wc.heap.size]? = some (.cells #[.slice none 0 0, .slice none 0 0, .slice none 0 0] 28 (0, 0))) := hide (heap_alloc_last wc _)
        generalize (wc.alloc (Obj.cells #[.slice none 0 0, .slice none 0 0, .slice none 0 0] 28)).drew = wz at *
        go_wp2_with (go_at_call 11; refine (HABT.out _ HSB.out).mono ?_; rintro e w4 ⟨va, rfl, ha, hb4⟩; obtain ⟨Aq, cq, rfl, _, _⟩ := ha.form; have H4 := hide (And.intro (HSB.out.step hb4) (And.intro ha (heap_below HZB.out hb4))); clear ha hb4)
        refine chainF (fun _ => H4.out.1) (hK _ _ ?_)
        clear hK K
        have hne := HNE.out
        refine wpTree_take rfl (fun K hK => ?_)
        go_simp
        refine hK _ ?_
        clear hK K hne
        refine wpTree_step rfl fun K hK => ?_
        have HSR : Hid (Kpt wc (w4.setRow wc.heap.size #[vl, vv, .slice Aq (rowsOf as_).length cq])) := hide ⟨below_setRow H4.out.1.below (Nat.le_refl _) _⟩
        refine wpList_store_row rfl 28 (.tmp 5) (.tmp 42) rfl wc.heap.size #[vl, vv, .slice Aq (rowsOf as_).length cq] rfl rfl 28 _ H4.out.2.2 pr_info rfl (pr_one HC1.out.1 HC1.out.2 rfl) ?_
        have HSH := hide (setRow_heap w4 wc.heap.size #[.slice none 0 0, .slice none 0 0, .slice none 0 0] #[vl, vv, .slice Aq (rowsOf as_).length cq] 28 (0, 0) H4.out.2.2)
        have HAQ := hide (H4.out.2.1.setRow' (new := #[vl, vv, .slice Aq (rowsOf as_).length cq]) H4.out.2.2 HAR.out.base (by decide) (by decide) (by decide))
        generalize w4.setRow wc.heap.size #[vl, vv, .slice Aq (rowsOf as_).length cq] = w6 at *
        go_wp2_with fail
        refine chainF (fun _ => HSR.out) (hK _ _ ?_)
        clear hK K
        refine wpTree_end ?_
        have HQ := hide (QuW.mk (HAR.out.step HSR.out.below) ⟨wc.heap.size, .slice Aq (rowsOf as_).length cq, rfl, blk_lt HSH.out, by rw [cell_block HSH.out]; rfl, by rw [cell_block HSH.out]; rfl, by rw [cell_block HSH.out]; rfl, HAQ.out⟩)
        go_wp2_with fail
        go_meet
        exact HQ.out
    case rest =>
      obtain ⟨har2, g, v, rfl, hgl, c0, c1, c2, hq⟩ := hcut
      have HA2 := hide har2
      obtain ⟨Aq, cq, rfl, _, _⟩ := hq.form
      have HQ := hide (And.intro hq (And.intro hgl (And.intro c0 (And.intro c1 c2))))
      have HFI := hide (first19_any B vl vv (.slice Aq (rowsOf as_).length cq) wl wrs (rowsOf as_) L R wc hq har2.labs har2.rows (rowsOf_aor HOK.out.1 HOK.out.2.rows) HFEW.out)
      clear hgl hq
      have a3 := har2.q0
      have a4 := har2.q1
      clear har2
      go_upto_if 46 with (go_at_call 12; refine HFI.out.mono ?_; rintro e w5 ⟨⟨z, rfl, hz⟩, hb5⟩; have H5 := hide (HA2.out.step hb5); have HZ := hide hz; have HB5 := hide hb5; clear hz hb5)
      clear c0 c1 c2 a3 a4 HFI
      by_cases hz0 : 0 ≤ z
      · rw [show decide (0 ≤ z) = true from decide_eq_true hz0]
        have HAL := hide (alive_any w5)
        go_wp2_with (go_at_call 10; refine HAL.out.mono ?_; rintro e w6 ⟨rfl, hb⟩; have H6 := hide (H5.out.step hb); clear hb)
        go_ret
        exact ⟨rfl, H6.out.kp.below⟩
      rw [show decide (0 ≤ z) = false from decide_eq_false hz0]
      have HSD := hide (Hd.sound (L := L) (R := R) (as_ := rowsOf as_) (rowsOf_ok HOK.out.1).few (HZ.out.1 (by omega)))
      rw [HOK.out.2.rows] at HSD
      clear hz0 HZ
      have HFD := hide (fed_any B vl vv (.slice Aq (rowsOf as_).length cq) l (rowsOf as_) allW w5 H5.out.vars (HQ.out.1.below HB5.out) H5.out.base (rowsOf_ok HOK.out.1) (rowsOf_ok HOK.out.1).nine)
      unfold whyV at HFD
      rw [show ((allW.toNat : Nat) : Int) = 18446744073709551615 from rfl] at HFD
      have c0 := (World.cell?_of_block (HB5.out.block _ HQ.out.2.1)).trans HQ.out.2.2.1
      have c1 := (World.cell?_of_block (HB5.out.block _ HQ.out.2.1)).trans HQ.out.2.2.2.1
      have c2 := (World.cell?_of_block (HB5.out.block _ HQ.out.2.1)).trans HQ.out.2.2.2.2
      go_upto_region 8 with (first | (go_at_call 13; refine HFD.out.mono ?_; rintro e w6 ⟨P3, B3, rfl, hle, htb, hbl⟩; have H6 := hide (And.intro (H5.out.step hbl) htb); obtain ⟨g3, ht3⟩ := htb.ex; have HG3 := hide ht3; clear hle htb hbl ht3) | (go_at_call 14; refine (stuck_tb _ _ _ _ _ HG3.out).mono ?_; rintro e w7 ⟨rfl, hb7⟩; rw [HSD.out.1]; have H7 := hide (TaW.mk (H6.out.1.step hb7) (H6.out.2.step hb7)); clear hb7))
      clear c0 c1 c2 HFD HQ H5 HB5 H6 HG3
      obtain ⟨A2, c2, hv2, _, _⟩ := H7.out.ar.vars.form
      subst hv2
      have hv64 : (l.length : Int) ≤ 64 := by have := HOK.out.1.vars; omega
      have HFO := FdOk.fed l.length allW (rowsOf_ok HOK.out.1).nine (rowsOf as_).length (Nat.le_refl _)
      rw [List.take_length] at HFO
      have HF := hide HFO
      clear HFO
      go_cut [64] from 55 to 64 (fun p wx => p = .bool false ∧ Kpt w7 wx)
      case first =>
        have HSS : Hid (Kpt w7 w7.drew) := hide ⟨below_drewN (Below.refl _ _) 1⟩
        have HLN : Hid (∀ wq, Kpt w7 wq → Calls Try.prog 15 #[.pointer (some ⟨P3, 0, none⟩)] wq fun e w' => e = .returned (.int .i64 (l.length : Nat)) ∧ wq = w') := hide fun wq hq => by
          obtain ⟨g1, hg1⟩ := (H7.out.tb.step hq.below).ex
          have := len_any P3 B3 g1 _ wq hg1
          rwa [HF.out.own, List.length_range] at this
        refine wp_region_tree [0, 1, 2, 4, 5, 6, 7] (.step 3 true (.take 8 (.take 9 .done)) .done) (Kpt w7) (by kernel_rfl) (by kernel_rfl) (fun _ _ _ _ _ h => h) HSS.out ?_
        intro hne
        simp only [picks, List.filterMap_cons, List.filterMap_nil, List.getElem?_cons_zero, List.getElem?_cons_succ]
        have hu1 : ∀ u : HoldW (Kpt w7), u.w.cell? ⟨w.heap.size, 1, none⟩ = some (.slice A2 l.length c2) := fun u => u.ok.cell H7.out.ar.p1
        iterate 7 (refine wpHeld_step (fun K hK => ?_); go_simp; refine hK _ ?_; clear hK K)
        refine wpHeld_nil ?_
        have HNE := hide hne
        clear hne hu1
        refine wpTree_step rfl fun K hK => ?_
        go_wp2_with (go_at_call 15; refine (HLN.out _ HSS.out).mono ?_; rintro e w8 ⟨rfl, rfl⟩)
        refine chainF (fun _ => HSS.out) (hK _ _ ?_)
        clear hK K
        have hne := HNE.out
        iterate 2 (refine wpTree_take rfl (fun K hK => ?_); go_simp; refine hK _ ?_; clear hK K)
        clear hne HNE
        refine wpTree_end ?_
        generalize w7.drew = w9 at *
        go_wp2_with fail
        go_meet
        exact ⟨rfl, HSS.out⟩
      case rest =>
        obtain ⟨rfl, hk8⟩ := hcut
        have H8 := hide (TaW.mk (H7.out.ar.step hk8.below) (H7.out.tb.step hk8.below))
        obtain ⟨g3, ht3⟩ := H8.out.tb.ex
        have hne : (fedT l.length (rowsOf as_) allW).eqs.length ≤ 1000000000 := by
          have h1 := HF.out.sz.eqs
          have h2 : (rowsOf as_).length ≤ 64 := (rowsOf_ok HOK.out.1).few
          have h3 : (namesU (rowsOf as_)).length ≤ 20000 := Nat.le_trans (namesU_len (rowsOf_ok HOK.out.1).nine) (by omega)
          have h4 : (rowsOf as_).length * (7 * (namesU (rowsOf as_)).length + 309) ≤ 64 * 140309 := Nat.mul_le_mul h2 (by omega)
          omega
        have HQ := hide (eqs_any P3 B3 g3 (fedT l.length (rowsOf as_) allW) wc ht3 hne)
        have HWY := hide HSD.out.2.1
        clear hk8 ht3 H7
        go_upto_region 11 with (go_at_call 16; refine HQ.out.mono ?_; rintro e w5 ⟨⟨v5, rfl, hr5, hb5⟩⟩; obtain ⟨A5, c5, rfl, _⟩ := RowZ.form hr5; have H5 := hide (TaW.mk (H8.out.ar.step hb5) (H8.out.tb.step hb5)); have HR := hide hr5; clear hr5 hb5)
        clear HQ H8
        generalize (fedT l.length (rowsOf as_) allW).eqs = es at HWY HR hne ⊢
        have he9 : (es.length : Int) ≤ 1000000000 := by omega
        go_loopw [68] (fun kv wr => (∃ k : Nat, k ≤ es.length ∧ kv = .int .i64 (k : Nat)) ∧ Kpt w5 wr) (fun kv _ => es.length - (intOf kv).toNat)
        case atStart => exact ⟨⟨0, by omega, rfl⟩, ⟨Below.refl _ _⟩⟩
        case round =>
          obtain ⟨⟨k, hk, rfl⟩, ho⟩ := hrel
          have HO := hide ho
          have HARX := hide (H5.out.ar.step ho.below)
          clear ho
          by_cases hlt : k < es.length
          · have i0 : (k : Int) < es.length := by omega
            obtain ⟨bl, off, c', e, hbl, hr⟩ := SlAt.elem (f := eqnV) (SlAt.of_row (B := w5.heap.size) HR.out) (fun _ => rfl) hlt
            cases e
            have HE2 := hide (HWY.out es[k] (List.getElem_mem hlt))
            generalize es[k] = e at *
            unfold eqnV whyV at hr
            generalize hzy : ((e.why.toNat : Nat) : Int) = zy at *
            clear hzy
            have HL := hide (ldA (cs := #[.int .i64 e.a.var, .int .u64 e.a.el.e0, .int .u64 e.a.el.e1, .int .u64 e.a.el.e2, .int .u64 e.a.el.e3, .int .u64 e.a.el.e4, .int .u64 e.a.el.e5, .int .u64 e.a.el.e6, .int .u64 e.a.el.e7, .int .i64 e.b.var, .int .u64 e.b.el.e0, .int .u64 e.b.el.e1, .int .u64 e.b.el.e2, .int .u64 e.b.el.e3, .int .u64 e.b.el.e4, .int .u64 e.b.el.e5, .int .u64 e.b.el.e6, .int .u64 e.b.el.e7, .int .u64 zy]) 70 (HO.out.range hr hbl) Try.underlying52 rfl eqn_info)
            have HST := hide (stA (w := wr) (new := #[.int .i64 e.a.var, .int .u64 e.a.el.e0, .int .u64 e.a.el.e1, .int .u64 e.a.el.e2, .int .u64 e.a.el.e3, .int .u64 e.a.el.e4, .int .u64 e.a.el.e5, .int .u64 e.a.el.e6, .int .u64 e.a.el.e7, .int .i64 e.b.var, .int .u64 e.b.el.e0, .int .u64 e.b.el.e1, .int .u64 e.b.el.e2, .int .u64 e.b.el.e3, .int .u64 e.b.el.e4, .int .u64 e.b.el.e5, .int .u64 e.b.el.e6, .int .u64 e.b.el.e7, .int .u64 zy]) 10 71 eqn_info (by simp [Value.oneCell']))
            clear hr hbl
            go_upto_region 13 with (first | (with_reducible refine HL.out _ _ _ _ _ rfl rfl (by with_unfolding_all rfl) ?_) | (with_reducible refine HST.out _ _ _ _ _ _ rfl rfl rfl rfl (by with_unfolding_all rfl) ?_))
            have HA6 := hide (heap_alloc_last wr (.cells #[.int .i64 e.a.var, .int .u64 e.a.el.e0, .int .u64 e.a.el.e1, .int .u64 e.a.el.e2, .int .u64 e.a.el.e3, .int .u64 e.a.el.e4, .int .u64 e.a.el.e5, .int .u64 e.a.el.e6, .int .u64 e.a.el.e7, .int .i64 e.b.var, .int .u64 e.b.el.e0, .int .u64 e.b.el.e1, .int .u64 e.b.el.e2, .int .u64 e.b.el.e3, .int .u64 e.b.el.e4, .int .u64 e.b.el.e5, .int .u64 e.b.el.e6, .int .u64 e.b.el.e7, .int .u64 zy] 52))
            have HB6 := hide (below_laid wr (.cells #[.int .i64 e.a.var, .int .u64 e.a.el.e0, .int .u64 e.a.el.e1, .int .u64 e.a.el.e2, .int .u64 e.a.el.e3, .int .u64 e.a.el.e4, .int .u64 e.a.el.e5, .int .u64 e.a.el.e6, .int .u64 e.a.el.e7, .int .i64 e.b.var, .int .u64 e.b.el.e0, .int .u64 e.b.el.e1, .int .u64 e.b.el.e2, .int .u64 e.b.el.e3, .int .u64 e.b.el.e4, .int .u64 e.b.el.e5, .int .u64 e.b.el.e6, .int .u64 e.b.el.e7, .int .u64 zy] 52))
            have HAR6 := hide (HARX.out.step HB6.out)
            have HO6 := hide (HO.out.step HB6.out)
            have HLT6 := hide (blk_lt HA6.out)
            have HRG := hide (eqn_ranges HA6.out)
            clear HL HST HA6
            generalize wr.alloc (Obj.cells _ 52) = w6 at *
            generalize wr.heap.size = p6 at *
            have HSS : Hid (Kpt w6 w6.drew) := hide ⟨below_drewN (Below.refl _ _) 1⟩
            have HMA := hide (fun (wq : World) (hq : Kpt w6 wq) => means_any B wl wrs L e.a wq (HAR6.out.labs.below hq.below))
            have HMB := hide (fun (wq : World) (hq : Kpt w6 wq) => means_any B wl wrs L e.b wq (HAR6.out.labs.below hq.below))
            refine wp_region_tree [0, 2, 4, 6, 1, 5] (.step 3 true (.step 7 true (.take 8 .done) .done) .done) (Kpt w6) (by kernel_rfl) (by kernel_rfl) (fun _ _ _ _ _ h => h) HSS.out ?_
            intro hne
            simp only [picks, List.filterMap_cons, List.filterMap_nil, List.getElem?_cons_zero, List.getElem?_cons_succ]
            have hu1 : ∀ u : HoldW (Kpt w6), u.w.cell? ⟨w.heap.size + 1, 0, none⟩ = some wl := fun u => u.ok.cell HAR6.out.q0
            have hu2 : ∀ u : HoldW (Kpt w6), u.w.cell? ⟨w.heap.size + 1, 1, none⟩ = some wrs := fun u => u.ok.cell HAR6.out.q1
            iterate 4 (refine wpHeld_step (fun K hK => ?_); go_simp; refine hK _ ?_; clear hK K)
            refine wpHeld_step (fun K hK => ?_)
            rw [if_pos (by with_unfolding_all rfl)]
            refine held_mid (b := p6) (o := 0) (cs := [.int .i64 e.a.var, .int .u64 e.a.el.e0, .int .u64 e.a.el.e1, .int .u64 e.a.el.e2, .int .u64 e.a.el.e3, .int .u64 e.a.el.e4, .int .u64 e.a.el.e5, .int .u64 e.a.el.e6, .int .u64 e.a.el.e7]) rfl rfl (by rintro _ ⟨u, rfl⟩; exact u.ok.range HRG.out.1 HLT6.out) Try.underlying50 rfl at_info (hK _ ?_)
            clear hK K
            refine wpHeld_step (fun K hK => ?_)
            rw [if_pos (by with_unfolding_all rfl)]
            refine held_mid (b := p6) (o := 9) (cs := [.int .i64 e.b.var, .int .u64 e.b.el.e0, .int .u64 e.b.el.e1, .int .u64 e.b.el.e2, .int .u64 e.b.el.e3, .int .u64 e.b.el.e4, .int .u64 e.b.el.e5, .int .u64 e.b.el.e6, .int .u64 e.b.el.e7]) rfl rfl (by rintro _ ⟨u, rfl⟩; exact u.ok.range HRG.out.2 HLT6.out) Try.underlying50 rfl at_info (hK _ ?_)
            clear hK K
            refine wpHeld_nil ?_
            have HNE := hide hne
            clear hne hu1 hu2
            refine wpTree_step rfl fun K hK => ?_
            go_wp2_with (go_at_call 17; refine (HMA.out _ HSS.out).mono ?_; rintro e w10 ⟨⟨z1, rfl, hz1⟩, hb10⟩; have H10 := hide (HSS.out.step hb10); have HZ1 := hide hz1; clear hb10 hz1)
            refine chainF (fun _ => H10.out) (hK _ _ ?_)
            clear hK K
            refine wpTree_step rfl fun K hK => ?_
            go_wp2_with (go_at_call 17; refine (HMB.out _ H10.out).mono ?_; rintro e w11 ⟨⟨z2, rfl, hz2⟩, hb11⟩; have H11 := hide (H10.out.step hb11); obtain rfl : z1 = z2 := HZ1.out.symm.trans (HE2.out.trans hz2); clear hb11 hz2)
            refine chainF (fun _ => H11.out) (hK _ _ ?_)
            clear hK K
            have hne := HNE.out
            refine wpTree_take rfl (fun K hK => ?_)
            go_simp
            refine hK _ ?_
            clear hK K hne HNE
            refine wpTree_end ?_
            have HK11 := hide (HO6.out.step H11.out.below)
            go_wp2_with fail
            exact ⟨⟨⟨k + 1, by omega, rfl⟩, HK11.out⟩, by simp [intOf]; omega⟩
          · obtain rfl : k = es.length := by omega
            have HT9 := hide (H5.out.tb.step HO.out.below)
            have a1 := HARX.out.p1
            have HSM := hide (HF.out.small HOK.out.1.vars (rowsOf_ok HOK.out.1).few (Nat.le_trans (namesU_len (rowsOf_ok HOK.out.1).nine) (by have : (rowsOf as_).length ≤ 64 := (rowsOf_ok HOK.out.1).few; omega)))
            have HKN := hide HSD.out.2.2
            generalize wr = wo at *
            go_wp2_with fail
            clear a1
            go_loopw [86] (fun kv wr => (∃ v : Nat, v ≤ l.length ∧ kv = .int .i64 (v : Nat)) ∧ Kpt wo wr) (fun kv _ => l.length - (intOf kv).toNat)
            case atStart => exact ⟨⟨0, by omega, rfl⟩, ⟨Below.refl _ _⟩⟩
            case round =>
              obtain ⟨⟨v, hv, rfl⟩, hv2⟩ := hrel
              have HV := hide hv2
              have HARV := hide (HARX.out.step hv2.below)
              have HTV := hide (HT9.out.step hv2.below)
              clear hv2
              by_cases hvl : v < l.length
              · have i1 : (v : Int) < l.length := by omega
                obtain ⟨bl, off, c', e, hbl, hr⟩ := SlAt.elem (f := vrV) HARV.out.vars.at_ (fun _ => rfl) hvl
                cases e
                generalize l[v] = x at *
                have HL := hide (ldA (cs := #[.string x.name, .int .i64 x.kind, .int .i64 x.lat]) 89 hr Try.underlying55 rfl vr_info)
                have HST := hide (stA (w := wr) (new := #[.string x.name, .int .i64 x.kind, .int .i64 x.lat]) 12 90 vr_info (by simp [Value.oneCell']))
                clear hr hbl
                go_upto_region 19 with (first | (with_reducible refine HL.out _ _ _ _ _ rfl rfl (by with_unfolding_all rfl) ?_) | (with_reducible refine HST.out _ _ _ _ _ _ rfl rfl rfl rfl (by with_unfolding_all rfl) ?_))
                have HB6 := hide (below_laid wr (.cells #[.string x.name, .int .i64 x.kind, .int .i64 x.lat] 55))
                have kk : (wr.alloc (.cells #[.string x.name, .int .i64 x.kind, .int .i64 x.lat] 55)).cell? ⟨wr.heap.size, 1, none⟩ = some (.int .i64 x.kind) := by rw [cell_block (heap_alloc_last wr _)]; rfl
                have HLT6 := hide (blk_lt (heap_alloc_last wr (.cells #[.string x.name, .int .i64 x.kind, .int .i64 x.lat] 55)))
                have HAR6 := hide (HARV.out.step HB6.out)
                have HT6 := hide (HTV.out.step HB6.out)
                have HV6 := hide (HV.out.step HB6.out)
                clear HL HST HB6
                generalize wr.alloc (Obj.cells _ 55) = w6 at *
                generalize wr.heap.size = p6 at *
                obtain ⟨g6, ht6⟩ := HT6.out.ex
                have HFL := hide (fields_any P3 B3 v v g6 (fedT l.length (rowsOf as_) allW) w6 ht6 HSM.out.ow (by rw [HSM.out.own]; simp [hvl]) HSM.out.tot (HSM.out.len v hvl))
                have HKV := hide (HKN.out v hvl)
                clear ht6
                have HKK := hide kk
                clear kk
                go_upto_region 20 with (go_at_call 18; refine HFL.out.mono ?_; rintro e w7 ⟨v7, names, rfl, hso, hrz, hb⟩; have H7 := hide (And.intro hso hrz); have HB7 := hide hb; clear hso hrz hb)
                have HV7 := hide (HV6.out.step HB7.out)
                have HAR7 := hide (HAR6.out.step HB7.out)
                have k1 := (World.cell?_of_block (HB7.out.block _ HLT6.out)).trans HKK.out
                clear HFL HT6 HTV HV HV6 HAR6 HARV HKK HB7 HLT6
                by_cases hk2 : x.kind = 2
                rotate_left
                · have hkd : (x.kind != 2) = true := by simp [hk2]
                  clear hk2
                  go_wp2_with fail
                  exact ⟨⟨⟨v + 1, by omega, rfl⟩, HV7.out⟩, by simp [intOf]; omega⟩
                have hkd : (x.kind != 2) = false := by simp [hk2]
                clear hk2
                have hfl : (Rw.pick ((fedT l.length (rowsOf as_) allW).spreads [] (v : Nat)).fields names).length ≤ 1000000 := Nat.le_trans (Rw.pick_len _ _) (Nat.le_trans (Nm.Sorts.length_le H7.out.1.1 fun x hx => (H7.out.1.2 x).1 hx) (by simpa using HSM.out.len v hvl))
                have HPM : Hid (∀ f ∈ Rw.pick ((fedT l.length (rowsOf as_) allW).spreads [] (v : Nat)).fields names, getV (R.getD v []) f.name = some (etaL L f.at_)) := hide fun f hf => HKV.out.has f (Hd.pick_mem hf)
                have HPL : Hid (((fedT l.length (rowsOf as_) allW).spreads [] (v : Nat)).fin < 0 → (R.getD v []).length = (Rw.pick ((fedT l.length (rowsOf as_) allW).spreads [] (v : Nat)).fields names).length) := hide fun hfin => HKV.out.len (HOK.out.2.up _ (by rw [List.getD_eq_getElem?_getD, List.getElem?_eq_getElem (by rw [HOK.out.2.rows]; exact hvl)]; exact List.getElem_mem _)).nodup hfin H7.out.1 H7.out.1.1.nodup
                have HR7 := hide H7.out.2
                clear H7 HKV
                generalize Rw.pick ((fedT l.length (rowsOf as_) allW).spreads [] (v : Nat)).fields names = fs at *
                generalize ((fedT l.length (rowsOf as_) allW).spreads [] (v : Nat)).fin = fin at *
                obtain ⟨A7, c7, rfl, _, _⟩ := RowZ.form HR7.out
                have hf9 : (fs.length : Int) ≤ 1000000 := by omega
                have hvR : v < R.length := by rw [HOK.out.2.rows]; exact hvl
                obtain ⟨br, offr, cr, ur, er, hbr, hcr, hur⟩ := HAR7.out.rows.at hvR
                rw [show R.getD v [] = R[v] by rw [List.getD_eq_getElem?_getD, List.getElem?_eq_getElem hvR]; rfl] at HPM HPL
                generalize R[v] = row at *
                obtain ⟨Au, cu, rfl, _, _⟩ := SlAt.form hur.at_
                have HU := hide (And.intro hur hcr)
                have HQ1 := hide (er ▸ HAR7.out.q1 : w7.cell? ⟨w.heap.size + 1, 1, none⟩ = some (.slice (some ⟨br, offr, none⟩) R.length cr))
                have HVR := hide (show ((v : Nat) : Int) < (R.length : Nat) by omega)
                clear hbr hcr hur er hvR
                go_wp2_with fail
                clear k1
                go_loopw [102] (fun kv wr => (∃ k : Nat, k ≤ fs.length ∧ kv = .int .i64 (k : Nat)) ∧ Kpt w7 wr) (fun kv _ => fs.length - (intOf kv).toNat)
                case atStart => exact ⟨⟨0, by omega, rfl⟩, ⟨Below.refl _ _⟩⟩
                case round =>
                  obtain ⟨⟨k, hk, rfl⟩, ho⟩ := hrel
                  have HO := hide ho
                  clear ho
                  have HAR8 := hide (HAR7.out.step HO.out.below)
                  by_cases hlt : k < fs.length
                  · have j0 : (k : Int) < fs.length := by omega
                    obtain ⟨bl, off, c', e, hbl, hr⟩ := SlAt.elem (SlAt.of_row (B := w7.heap.size) HR7.out) (fun _ => rfl) hlt
                    cases e
                    have HGE := hide (HPM.out fs[k] (List.getElem_mem hlt))
                    generalize fs[k] = f at *
                    have HL := hide (ldA (cs := #[.string f.name, .int .i64 f.at_.var, .int .u64 f.at_.el.e0, .int .u64 f.at_.el.e1, .int .u64 f.at_.el.e2, .int .u64 f.at_.el.e3, .int .u64 f.at_.el.e4, .int .u64 f.at_.el.e5, .int .u64 f.at_.el.e6, .int .u64 f.at_.el.e7]) 104 (HO.out.range hr hbl) Try.underlying60 rfl fd_info)
                    have HST := hide (stA (T := 60) (w := wr) (new := #[.string f.name, .int .i64 f.at_.var, .int .u64 f.at_.el.e0, .int .u64 f.at_.el.e1, .int .u64 f.at_.el.e2, .int .u64 f.at_.el.e3, .int .u64 f.at_.el.e4, .int .u64 f.at_.el.e5, .int .u64 f.at_.el.e6, .int .u64 f.at_.el.e7]) 16 105 fd_info (by simp [Value.oneCell']))
                    clear hr hbl
                    go_upto_region 24 with (first | (with_reducible refine HL.out _ _ _ _ _ rfl rfl (by with_unfolding_all rfl) ?_) | (with_reducible refine HST.out _ _ _ _ _ _ rfl rfl rfl rfl (by with_unfolding_all rfl) ?_))
                    simp only [Act.put]
                    have HA9 := hide (heap_alloc_last wr (.cells #[.string f.name, .int .i64 f.at_.var, .int .u64 f.at_.el.e0, .int .u64 f.at_.el.e1, .int .u64 f.at_.el.e2, .int .u64 f.at_.el.e3, .int .u64 f.at_.el.e4, .int .u64 f.at_.el.e5, .int .u64 f.at_.el.e6, .int .u64 f.at_.el.e7] 60))
                    have HB9 := hide (below_laid wr (.cells #[.string f.name, .int .i64 f.at_.var, .int .u64 f.at_.el.e0, .int .u64 f.at_.el.e1, .int .u64 f.at_.el.e2, .int .u64 f.at_.el.e3, .int .u64 f.at_.el.e4, .int .u64 f.at_.el.e5, .int .u64 f.at_.el.e6, .int .u64 f.at_.el.e7] 60))
                    have HAR9 := hide (HAR8.out.step HB9.out)
                    have HO9 := hide (HO.out.step HB9.out)
                    have HLT9 := hide (blk_lt HA9.out)
                    have HRG := hide (fd_mid HA9.out)
                    have HK0 := hide (show (wr.alloc (.cells #[.string f.name, .int .i64 f.at_.var, .int .u64 f.at_.el.e0, .int .u64 f.at_.el.e1, .int .u64 f.at_.el.e2, .int .u64 f.at_.el.e3, .int .u64 f.at_.el.e4, .int .u64 f.at_.el.e5, .int .u64 f.at_.el.e6, .int .u64 f.at_.el.e7] 60)).cell? ⟨wr.heap.size, 0, none⟩ = some (.string f.name) by rw [cell_block HA9.out]; rfl)
                    clear HL HST HA9 HB9
                    generalize wr.alloc (Obj.cells _ 60) = w9 at *
                    generalize wr.heap.size = p9 at *
                    go_cut [17, 18] from 106 to 117 (fun p b wx => RoC w9 (getV row f.name) p b wx)
                    case first =>
                      have HSS : Hid (Kpt w9 w9.drew) := hide ⟨below_drewN (Below.refl _ _) 1⟩
                      have HAT := hide (fun (wq : World) (hq : Kpt w9 wq) => get_any B _ row f.name wq ((HU.out.1.below HO9.out.below).below hq.below))
                      refine wp_region_tree [0, 2, 5, 1, 6, 3, 4] (.step 7 true (.take 8 (.take 9 (.take 10 (.step 11 true (.step 12 true (.step 13 true .done .done) .done) .done)))) (.step 11 true (.step 7 true (.take 8 (.take 9 (.take 10 (.step 12 true (.step 13 true .done .done) .done)))) .done) .done)) (Kpt w9) (by kernel_rfl) (by kernel_rfl) (fun _ _ _ _ _ h => h) HSS.out ?_
                      intro hne
                      simp only [picks, List.filterMap_cons, List.filterMap_nil, List.getElem?_cons_zero, List.getElem?_cons_succ]
                      have hu1 : ∀ u : HoldW (Kpt w9), u.w.cell? ⟨w.heap.size + 1, 1, none⟩ = some (.slice (some ⟨br, offr, none⟩) R.length cr) := fun u => u.ok.cell (HO9.out.cell HQ1.out)
                      have hu2 : ∀ u : HoldW (Kpt w9), u.w.cell? ⟨p9, 0, none⟩ = some (.string f.name) := fun u => u.ok.cell HK0.out
                      have hu4 : ∀ u : HoldW (Kpt w9), u.w.cell? ⟨br, offr + v, none⟩ = some (.slice Au row.length cu) := fun u => u.ok.cell (HO9.out.cell HU.out.2)
                      have i9 := HVR.out
                      iterate 7 (refine wpHeld_step (fun K hK => ?_); go_simp; refine hK _ ?_; clear hK K)
                      refine wpHeld_nil ?_
                      have HNE := hide hne
                      clear hu1 hu2 hu4 hne i9
                      refine wpTree_both rfl (fun K hK => ?_) (wpTree_step rfl fun K hK => ?_)
                      · go_wp2_with (go_at_call 19; refine (HAT.out _ HSS.out).mono ?_; rintro e w4 ⟨⟨z, b, rfl, hz, hb⟩, hb4⟩; have H4 := hide (And.intro (HSS.out.step hb4) (And.intro hz hb)); clear hb4 hz hb)
                        refine chainF (fun _ => H4.out.1) (hK _ _ ?_)
                        clear hK K
                        have hne := HNE.out
                        iterate 3 (refine wpTree_take rfl (fun K hK => ?_); go_simp; refine hK _ ?_; clear hK K)
                        clear hne
                        refine wpTree_step rfl fun K hK => ?_
                        go_wp2_with fail
                        refine chainF (fun _ => H4.out.1.step (below_laid _ _)) (hK _ _ ?_)
                        clear hK K
                        refine wpTree_step rfl fun K hK => ?_
                        have HSA := hide (stA (T := 48) (w := w4) (new := #[.int .u64 z.e0, .int .u64 z.e1, .int .u64 z.e2, .int .u64 z.e3, .int .u64 z.e4, .int .u64 z.e5, .int .u64 z.e6, .int .u64 z.e7]) 17 115 el_info (by simp [Value.oneCell']))
                        go_wp2_with (with_reducible refine HSA.out _ _ _ _ _ _ rfl rfl rfl rfl (by with_unfolding_all rfl) ?_)
                        refine chainF (fun _ => H4.out.1.step (below_laid _ _)) (hK _ _ ?_)
                        clear hK K
                        refine wpTree_step rfl fun K hK => ?_
                        go_wp2_with fail
                        refine chainF (fun _ => H4.out.1.step (below_laid _ _)) (hK _ _ ?_)
                        clear hK K
                        refine wpTree_end ?_
                        go_wp2_with fail
                        go_meet
                        exact ⟨w4.heap.size, z, b, rfl, rfl, H4.out.2.1, H4.out.2.2, heap_alloc_last _ _, (H4.out.1.step (below_laid _ _)).below⟩
                      · go_wp2_with fail
                        refine chainF (fun _ => HSS.out.step (below_laid _ _)) (hK _ _ ?_)
                        clear hK K
                        refine wpTree_step rfl fun K hK => ?_
                        have HSB : Hid (Kpt w9 (w9.alloc (.cells #[.int .u64 0, .int .u64 0, .int .u64 0, .int .u64 0, .int .u64 0, .int .u64 0, .int .u64 0, .int .u64 0] 48)).drew) := hide ⟨below_drewN (below_laid _ _) 1⟩
                        have HZB : Hid ((w9.alloc (.cells #[.int .u64 0, .int .u64 0, .int .u64 0, .int .u64 0, .int .u64 0, .int .u64 0, .int .u64 0, .int .u64 0] 48)).drew.heap[w9.heap.size]? = some (.cells #[.int .u64 0, .int .u64 0, .int .u64 0, .int .u64 0, .int .u64 0, .int .u64 0, .int .u64 0, .int .u64 0] 48 (0, 0))) := hide (heap_alloc_last w9 _)
                        generalize (w9.alloc (Obj.cells #[.int .u64 0, .int .u64 0, .int .u64 0, .int .u64 0, .int .u64 0, .int .u64 0, .int .u64 0, .int .u64 0] 48)).drew = wz at *
                        go_wp2_with (go_at_call 19; refine (HAT.out _ HSB.out).mono ?_; rintro e w4 ⟨⟨z, b, rfl, hz, hb⟩, hb4⟩; have H4 := hide (And.intro (HSB.out.step hb4) (And.intro hz (And.intro hb (heap_below HZB.out hb4)))); clear hb4 hz hb)
                        refine chainF (fun _ => H4.out.1) (hK _ _ ?_)
                        clear hK K
                        have hne := HNE.out
                        iterate 3 (refine wpTree_take rfl (fun K hK => ?_); go_simp; refine hK _ ?_; clear hK K)
                        clear hne
                        refine wpTree_step rfl fun K hK => ?_
                        have HSR : Hid (Kpt w9 (w4.setRow w9.heap.size #[.int .u64 z.e0, .int .u64 z.e1, .int .u64 z.e2, .int .u64 z.e3, .int .u64 z.e4, .int .u64 z.e5, .int .u64 z.e6, .int .u64 z.e7])) := hide ⟨below_setRow H4.out.1.below (Nat.le_refl _) _⟩
                        refine wpList_store_row rfl 48 (.tmp 17) (.tmp 115) rfl w9.heap.size #[.int .u64 z.e0, .int .u64 z.e1, .int .u64 z.e2, .int .u64 z.e3, .int .u64 z.e4, .int .u64 z.e5, .int .u64 z.e6, .int .u64 z.e7] rfl rfl 48 _ H4.out.2.2.2 el_info rfl (by simp [Value.oneCell']) ?_
                        have HSH := hide (setRow_heap w4 w9.heap.size #[.int .u64 0, .int .u64 0, .int .u64 0, .int .u64 0, .int .u64 0, .int .u64 0, .int .u64 0, .int .u64 0] #[.int .u64 z.e0, .int .u64 z.e1, .int .u64 z.e2, .int .u64 z.e3, .int .u64 z.e4, .int .u64 z.e5, .int .u64 z.e6, .int .u64 z.e7] 48 (0, 0) H4.out.2.2.2)
                        generalize w4.setRow w9.heap.size #[.int .u64 z.e0, .int .u64 z.e1, .int .u64 z.e2, .int .u64 z.e3, .int .u64 z.e4, .int .u64 z.e5, .int .u64 z.e6, .int .u64 z.e7] = w6 at *
                        go_wp2_with fail
                        refine chainF (fun _ => HSR.out) (hK _ _ ?_)
                        clear hK K
                        refine wpTree_step rfl fun K hK => ?_
                        go_wp2_with fail
                        refine chainF (fun _ => HSR.out) (hK _ _ ?_)
                        clear hK K
                        refine wpTree_end ?_
                        go_wp2_with fail
                        go_meet
                        exact ⟨w9.heap.size, z, b, rfl, rfl, H4.out.2.1, H4.out.2.2.1, HSH.out, HSR.out.below⟩
                    case rest =>
                      obtain ⟨pp, z, cb, rfl, rfl, hz, hcb, hh, hbx⟩ := hcut
                      rw [HGE.out] at hz hcb
                      have HZ := hide (show etaL L f.at_ = z from hz)
                      have hcb : true = cb := hcb
                      subst hcb
                      have HH := hide hh
                      have HARc := hide (HAR9.out.step hbx)
                      have HOc := hide (HO9.out.step hbx)
                      have HRc := hide (range_below HRG.out HLT9.out hbx)
                      have HLc := hide (Nat.lt_of_lt_of_le HLT9.out hbx.size)
                      clear hz hh hbx HAR9 HO9 HRG HLT9 HK0
                      go_upto_region 25 with fail
                      have HSS : Hid (Kpt wc wc.drew) := hide ⟨below_drewN (Below.refl _ _) 1⟩
                      have HMA := hide (fun (wq : World) (hq : Kpt wc wq) => means_any B wl wrs L f.at_ wq (HARc.out.labs.below hq.below))
                      refine wp_region_tree [0, 1, 2, 3, 4, 6, 5] (.step 7 true (.take 8 (.take 9 .done)) .done) (Kpt wc) (by kernel_rfl) (by kernel_rfl) (fun _ _ _ _ _ h => h) HSS.out ?_
                      intro hne
                      simp only [picks, List.filterMap_cons, List.filterMap_nil, List.getElem?_cons_zero, List.getElem?_cons_succ]
                      have hu1 : ∀ u : HoldW (Kpt wc), u.w.cell? ⟨w.heap.size + 1, 0, none⟩ = some wl := fun u => u.ok.cell HARc.out.q0
                      have hu2 : ∀ u : HoldW (Kpt wc), u.w.cell? ⟨w.heap.size + 1, 1, none⟩ = some wrs := fun u => u.ok.cell HARc.out.q1
                      iterate 3 (refine wpHeld_step (fun K hK => ?_); go_simp; refine hK _ ?_; clear hK K)
                      refine wpHeld_step (fun K hK => ?_)
                      rw [if_pos (by with_unfolding_all rfl)]
                      refine held_mid (b := pp) (o := 0) (cs := [.int .u64 z.e0, .int .u64 z.e1, .int .u64 z.e2, .int .u64 z.e3, .int .u64 z.e4, .int .u64 z.e5, .int .u64 z.e6, .int .u64 z.e7]) rfl rfl (by rintro _ ⟨u, rfl⟩; exact u.ok.range (range_block HH.out 0 _ fun j x hx => by rw [Nat.zero_add]; simpa using hx) (blk_lt HH.out)) Try.underlying48 rfl el_info (hK _ ?_)
                      clear hK K
                      iterate 2 (refine wpHeld_step (fun K hK => ?_); go_simp; refine hK _ ?_; clear hK K)
                      refine wpHeld_step (fun K hK => ?_)
                      rw [if_pos (by with_unfolding_all rfl)]
                      refine held_mid (b := p9) (o := 1) (cs := [.int .i64 f.at_.var, .int .u64 f.at_.el.e0, .int .u64 f.at_.el.e1, .int .u64 f.at_.el.e2, .int .u64 f.at_.el.e3, .int .u64 f.at_.el.e4, .int .u64 f.at_.el.e5, .int .u64 f.at_.el.e6, .int .u64 f.at_.el.e7]) rfl rfl (by rintro _ ⟨u, rfl⟩; exact u.ok.range HRc.out HLc.out) Try.underlying50 rfl at_info (hK _ ?_)
                      clear hK K
                      refine wpHeld_nil ?_
                      have HNE := hide hne
                      clear hne hu1 hu2
                      refine wpTree_step rfl fun K hK => ?_
                      go_wp2_with (go_at_call 17; refine (HMA.out _ HSS.out).mono ?_; rintro e w10 ⟨⟨z1, rfl, hz1⟩, hb10⟩; have H10 := hide (HSS.out.step hb10); obtain rfl : z = z1 := HZ.out.symm.trans hz1; clear hb10 hz1)
                      refine chainF (fun _ => H10.out) (hK _ _ ?_)
                      clear hK K
                      have hne := HNE.out
                      iterate 2 (refine wpTree_take rfl (fun K hK => ?_); go_simp; refine hK _ ?_; clear hK K)
                      clear hne HNE
                      refine wpTree_end ?_
                      have HK11 := hide (HOc.out.step H10.out.below)
                      go_wp2_with fail
                      exact ⟨⟨⟨k + 1, by omega, rfl⟩, HK11.out⟩, by simp [intOf]; omega⟩
                  · obtain rfl : k = fs.length := by omega
                    have HV8 := hide (HV7.out.step HO.out.below)
                    have a1 := HO.out.cell HQ1.out
                    have a2 := HO.out.cell HU.out.2
                    have i9 := HVR.out
                    by_cases hfin : 0 ≤ fin
                    · rw [show decide (0 ≤ fin) = true from decide_eq_true hfin]
                      clear hfin
                      go_wp2_with fail
                      exact ⟨⟨⟨v + 1, by omega, rfl⟩, HV8.out⟩, by simp [intOf]; omega⟩
                    · rw [show decide (0 ≤ fin) = false from decide_eq_false hfin]
                      rw [HPL.out (by omega)] at a2
                      clear hfin
                      go_wp2_with fail
                      exact ⟨⟨⟨v + 1, by omega, rfl⟩, HV8.out⟩, by simp [intOf]; omega⟩
              · obtain rfl : v = l.length := by omega
                have HAL := hide (alive_any wr)
                go_wp2_with (go_at_call 10; refine HAL.out.mono ?_; rintro e w7 ⟨rfl, hb⟩; have H7 := hide (HARV.out.step hb); clear hb)
                go_ret
                exact ⟨rfl, H7.out.kp.below⟩
end Go.Proofs.Ythnbhcfpfbimgaa
