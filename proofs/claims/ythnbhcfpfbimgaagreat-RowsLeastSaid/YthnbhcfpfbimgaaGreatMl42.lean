/- Texts put together: RyLeast. -/
import Derived.Test.YthnbhcfpfbimgaaGreatMl36
import Derived.Test.YthnbhcfpfbimgaaGreatMl41
/- The walk of RowsLeast. (Printed by ryleast.py.) -/
namespace Go.Proofs.YthnbhcfpfbimgaaGreat
open Go.RowKit
open Rw (El At Fld T W64 Gd Sz Ow Nm tot)
open Hd (elZ atomV oneV etaL getV valsV)
/-- The pairs' loop: do the pairs fit so far? -/
structure LeF (W : World) (L : List El) (es : List Rw.Eqn) (st : Bool) (fv kv : Value) (wr : World) : Prop where
  ex : ∃ k : Nat, k ≤ es.length ∧ kv = .int .i64 (k : Nat) ∧ fv = .bool (!st && (es.take k).all fun e => decide (etaL L e.a = etaL L e.b)) ∧ Kpt W wr
theorem all_succ {L : List El} {es : List Rw.Eqn} {st : Bool} {k : Nat} (h : k < es.length) : (!st && (es.take (k + 1)).all fun e => decide (etaL L e.a = etaL L e.b)) = ((!st && (es.take k).all fun e => decide (etaL L e.a = etaL L e.b)) && decide (etaL L es[k].a = etaL L es[k].b)) := by
  rw [List.take_succ_eq_append_getElem h, List.all_append, List.all_cons, List.all_nil, Bool.and_true, Bool.and_assoc]
theorem el_ne {a b : El} (h : a ≠ b) : (a.e0 == b.e0 && a.e1 == b.e1 && a.e2 == b.e2 && a.e3 == b.e3 && a.e4 == b.e4 && a.e5 == b.e5 && a.e6 == b.e6 && a.e7 == b.e7) = false := by
  rw [← Bool.not_eq_true]
  exact fun e => h (Hd.eqEl_iff.1 e)
/-- The new assignment in its box, its rows so far. -/
structure LeB (W : World) (wl : Value) (R : List (List Vl)) (v : Nat) (wr : World) : Prop where
  below : Below W.heap.size W wr
  box : ∃ A n c, wr.heap[W.heap.size]? = some (.cells #[wl, .slice A n c] 32 (0, 0)) ∧ n = (R.take v).length ∧ OwR wr W.heap.size W.heap.size (.slice A n c) (R.take v)
theorem LeB.step {W : World} {wl : Value} {R : List (List Vl)} {v : Nat} {wr w' : World} (h : LeB W wl R v wr) (hb : Below wr.heap.size wr w') : LeB W wl R v w' := by
  obtain ⟨A, n, c, h1, h2, h3⟩ := h.box
  exact ⟨below_next h.below hb, A, n, c, heap_below h1 hb, h2, h3.below hb⟩
structure LeV (W : World) (wl : Value) (R : List (List Vl)) (n : Nat) (kv : Value) (wr : World) : Prop where
  ex : ∃ v : Nat, v ≤ n ∧ kv = .int .i64 (v : Nat) ∧ LeB W wl R v wr
structure LeR (W : World) (L : List El) (fs : List Fld) (rv kv : Value) (wr : World) : Prop where
  ex : ∃ k : Nat, k ≤ fs.length ∧ kv = .int .i64 (k : Nat) ∧ VaS W rv ((valsV L fs).take k) wr
structure LeS (W : World) (q : Nat) (cs : Array Value) (wr : World) : Prop where
  below : Below W.heap.size W wr
  el : wr.heap[q]? = some (.cells cs 59 (0, 0))
theorem LeS.step {W : World} {q : Nat} {cs : Array Value} {wr w' : World} (h : LeS W q cs wr) (hb : Below wr.heap.size wr w') : LeS W q cs w' := ⟨below_next h.below hb, heap_below h.el hb⟩
/-- Fields whose names rise. -/
structure UpN (fs : List Fld) : Prop where
  up : Nm.Up (fs.map (·.name))
theorem UpN.lt {fs : List Fld} (h : UpN fs) {j k : Nat} (hj : j < k) (hk : k < fs.length) : Nm.ls (fs[j]'(by omega)).name fs[k].name = true := by
  have := List.pairwise_iff_getElem.1 h.up j k (by simp; omega) (by simpa using hk) hj
  simpa using this
theorem vals_succ {L : List El} {fs : List Fld} {k : Nat} (h : k < fs.length) : (valsV L fs).take (k + 1) = (valsV L fs).take k ++ [⟨fs[k].name, etaL L fs[k].at_⟩] := by
  rw [List.take_succ_eq_append_getElem (by simpa [valsV] using h)]
  simp [valsV]
theorem Hd.LeastS.dup {L : List El} {n : Nat} {as_ : List As} {R : List (List Vl)} (h : Hd.LeastS L n as_ R) (h64 : as_.length ≤ 64) (v : Nat) (hv : v < n) : Rw.NoDup ((fedT n as_ allW).spreads [] (v : Nat)).fields := by
  have := (Hd.sound (L := L) (R := R) h64 h.one).2.2
  rw [h.st.len] at this
  exact (this v hv).dup
theorem row_news {w : World} {g : Nat} {u : Value} (h1 : u.oneCell' = true) (h : w.heap[g]? = some (.cells #[u] 57 (0, 0))) : Src Tryz.prog 1 30 (.slice (some ⟨g, 0, none⟩) 1 1) 1 [u] w :=
  Src.ofSlice _ Tryz.underlying30 ⟨g, 0, none⟩ 1 1 _ rfl (World.news_of_block (cs := #[u]) (t := 57) (fr := (0, 0)) h) (by simp [h1])
theorem Vls.grow {w w' : World} {B C n : Nat} {v x : Value} {l : List Vl} {vs : List Value} (h : Vls w B x l) (hr : RowZ w 57 1 v n vs) (hg : w.grownBy w' v.ownBlock) (ho : ∀ g, v.ownBlock = some g → C ≤ g) (hBC : B ≤ C) : Vls w' B x l :=
  ⟨h.at_.keep hg.size fun b hlt hb => hg.block b hlt fun e => by
    rcases hb with hb | ⟨cs, hb⟩
    · have := ho b e.symm; omega
    · exact RowZ.ne_type hr hb (by decide) e.symm, h.small⟩
theorem OwR.push {w w' : World} {B C n : Nat} {v v' u : Value} {R : List (List Vl)} {l : List Vl} {vs : List Value} (k1 : RowZ w 57 1 v n vs) (hn : n = R.length) (k2 : ∀ g, v.ownBlock = some g → C ≤ g) (k3 : ∀ (i : Nat) (r : List Vl), R[i]? = some r → ∃ x, vs[i]? = some x ∧ x.oneCell' = true ∧ Vls w B x r) (hBC : B ≤ C) (hu : Vls w B u l) (h1 : u.oneCell' = true) (hg : w.grownBy w' v.ownBlock) (hr : RowZ w' 57 1 v' (n + 1) (vs ++ [u])) (hob : v'.ownBlock = v.ownBlock ∨ v'.ownBlock = some w.heap.size) (hC : C ≤ w.heap.size) : OwR w' B C v' (R ++ [l]) := by
  subst hn
  have hl : vs.length = R.length := by have := RowZ.len k1; omega
  refine ⟨⟨vs ++ [u], by rw [List.length_append]; exact hr, fun g hgo => ?_, fun i r hi => ?_⟩⟩
  · rcases hob with e | e
    · rw [e] at hgo; exact k2 g hgo
    · rw [e] at hgo; injection hgo with hgo; omega
  · rcases Nat.lt_or_ge i R.length with h | h
    · rw [List.getElem?_append_left h] at hi
      obtain ⟨x, e1, e2, e3⟩ := k3 i r hi
      exact ⟨x, by rw [List.getElem?_append_left (by omega)]; exact e1, e2, e3.grow k1 hg k2 hBC⟩
    · have hi2 := (List.getElem?_eq_some_iff.1 hi).1
      rw [List.length_append, List.length_singleton] at hi2
      obtain rfl : i = R.length := by omega
      rw [List.getElem?_append_right (Nat.le_refl _), Nat.sub_self] at hi
      simp at hi
      subst hi
      exact ⟨u, by rw [List.getElem?_append_right (by omega), hl, Nat.sub_self]; rfl, h1, hu.grow k1 hg k2 hBC⟩
theorem OwR.farA {w : World} {B C g j : Nat} {v x : Value} {R : List (List Vl)} {cur : Array Value} (h : OwR w B C v R) (hc : w.heap[g]? = some (.cells cur 32 (0, 0))) (hg : B ≤ g) : OwR (w.setCell ⟨g, j, none⟩ x) B C v R := by
  obtain ⟨⟨vs, h1, h2, h3⟩⟩ := h
  refine ⟨⟨vs, RowZ.far h1 (RowZ.ne_type h1 hc (by decide)) x, h2, fun i r hr => ?_⟩⟩
  obtain ⟨u, k1, k2, k3⟩ := h3 i r hr
  refine ⟨u, k1, k2, k3.at_.keep (by simp) fun b _ hb => Below.heap_setCell _ _ _ _ fun e => ?_, k3.small⟩
  change b = g at e
  subst e
  rcases hb with hb | ⟨cs, hb⟩
  · omega
  · rw [hc] at hb
    injection hb with hb
    injection hb with _ hb
    revert hb
    decide
set_option maxRecDepth 100000 in
set_option maxHeartbeats 16000000 in
theorem least_any (B : Nat) (vl vv vs wl wrs : Value) (n : Nat) (l : List Vr) (as_ : List As) (L : List El) (R : List (List Vl)) (w : World) (h1 : Lats w B vl n) (h2 : Vars w B vv l) (h3 : Asrs w B vs as_) (h4 : Lbs w B wl L) (h5 : Rws w B wrs R) (hB : B ≤ w.heap.size) :
    Calls Tryz.prog 3 #[.agg #[vl, vv, vs], .agg #[wl, wrs]] w fun e w' => e = .returned (.bool true) ∧ Below w.heap.size w w' := by
  have HAR := hide (ArW.new h1 h2 h3 h4 h5 hB)
  obtain ⟨A, c, rfl, _, hcm⟩ := h3.form
  have hl9 : (as_.length : Int) ≤ 9223372036854775807 := by unfold maxLen at hcm; omega
  clear h1 h2 h3 h4 h5 hB hcm
  have HG1 := hide (fun (wq : World) (hq : ArW w B w.heap.size vl vv (.slice A as_.length c) wl wrs n l as_ L R wq) => big19_tot B vl vv (.slice A as_.length c) n l as_ wq hq.lats hq.vars hq.asr hq.base)
  have HG2 := hide (fun (wq : World) (hq : ArW w B w.heap.size vl vv (.slice A as_.length c) wl wrs n l as_ L R wq) => big18_tot B wl wrs L R wq hq.labs hq.rows hq.base)
  have HG3 := hide (fun (wq : World) (hq : ArW w B w.heap.size vl vv (.slice A as_.length c) wl wrs n l as_ L R wq) => right19_tot B vl vv (.slice A as_.length c) n l as_ wq hq.lats hq.vars hq.asr hq.base)
  have HG4 := hide (fun (wq : World) (hq : ArW w B w.heap.size vl vv (.slice A as_.length c) wl wrs n l as_ L R wq) => right18_tot B vl vv wl wrs n l L R wq hq.lats hq.vars hq.labs hq.rows hq.base)
  go_enter Tryz.func3, Tryz.ntmps3
  go_upto_region 1 with fail
  generalize (w.alloc (Obj.cells _ 28)).alloc (Obj.cells _ 32) = w0 at *
  go_cut [38] from 21 to 38 (fun p wx => GdW w B w.heap.size vl vv (.slice A as_.length c) wl wrs n l as_ L R p wx)
  case first =>
    have a0 := HAR.out.p0
    have a1 := HAR.out.p1
    have a2 := HAR.out.p2
    have a3 := HAR.out.q0
    have a4 := HAR.out.q1
    go_wp2_with (first | (go_at_call 4; refine (HG1.out _ HAR.out).mono ?_; rintro e w1 ⟨⟨b1, rfl⟩, hb⟩; have H1 := hide (HAR.out.step hb); clear hb a0 a1 a2 a3 a4; have a0 := H1.out.p0; have a1 := H1.out.p1; have a2 := H1.out.p2; have a3 := H1.out.q0; have a4 := H1.out.q1; cases b1) | (go_at_call 5; refine (HG2.out _ H1.out).mono ?_; rintro e w2 ⟨⟨b2, rfl⟩, hb⟩; have H2 := hide (H1.out.step hb); clear hb a0 a1 a2 a3 a4; have a0 := H2.out.p0; have a1 := H2.out.p1; have a2 := H2.out.p2; have a3 := H2.out.q0; have a4 := H2.out.q1; cases b2) | (go_at_call 6; refine (HG3.out _ H2.out).mono ?_; rintro e w3 ⟨⟨b3, rfl, hp⟩, hb⟩; have H3 := hide (H2.out.step hb); have HP := hide hp; clear hp hb a0 a1 a2 a3 a4; have a0 := H3.out.p0; have a1 := H3.out.p1; have a2 := H3.out.p2; have a3 := H3.out.q0; have a4 := H3.out.q1; cases b3) | (go_at_call 7; refine (HG4.out _ H3.out).mono ?_; rintro e w4 ⟨⟨b4, rfl, hq⟩, hb⟩; have H4 := hide (H3.out.step hb); have HQ := hide hq; clear hq hb a0 a1 a2 a3 a4; cases b4))
    all_goals go_meet
    all_goals first | exact ⟨⟨true, rfl, fun h => by cases h⟩, H4.out⟩ | exact ⟨⟨false, rfl, fun _ => ⟨HP.out (by trivial), HQ.out (by trivial)⟩⟩, H4.out⟩ | exact ⟨⟨true, rfl, fun h => by cases h⟩, H3.out⟩ | exact ⟨⟨true, rfl, fun h => by cases h⟩, H2.out⟩ | exact ⟨⟨true, rfl, fun h => by cases h⟩, H1.out⟩
  case rest =>
    obtain ⟨⟨b, rfl, hok⟩, har⟩ := hcut
    clear HG1 HG2 HG3 HG4 HAR
    have HAR := hide har
    clear har
    cases b
    rotate_left
    · have HAL := hide (alive_any wc)
      go_wp2_with (go_at_call 8; refine HAL.out.mono ?_; rintro e w1 ⟨rfl, hb⟩; have H1 := hide (HAR.out.step hb); clear hb)
      go_ret
      exact ⟨rfl, H1.out.kp.below⟩
    have HOK := hide (hok rfl)
    clear hok
    go_upto_region 3 with fail
    go_cut [5] from 40 to 44 (fun qv wx => QuW w B w.heap.size vl vv (.slice A as_.length c) wl wrs n l as_ L R qv wx)
    case first =>
      have HC1 : Hid (vl.oneCell' = true ∧ vv.oneCell' = true) := hide ⟨by obtain ⟨_, _, rfl, _⟩ := HAR.out.lats.form; rfl, by obtain ⟨_, _, rfl, _⟩ := HAR.out.vars.form; rfl⟩
      have HSS : Hid (Kpt wc wc.drew) := hide ⟨below_drewN (Below.refl _ _) 1⟩
      have HABT := hide (fun (wq : World) (hq : Kpt wc wq) => about_any B vl vv (.slice A as_.length c) as_ wq ((HAR.out.step hq.below).asr) HOK.out.1.few)
      refine wp_region_tree [0, 2, 1] (.step 3 true (.take 4 (.step 5 true (.step 6 true .done .done) .done)) (.step 5 true (.step 3 true (.take 4 (.step 6 true .done .done)) .done) .done)) (Kpt wc) (by kernel_rfl) (by kernel_rfl) (fun _ _ _ _ _ h => h) HSS.out ?_
      intro hne
      simp only [picks, List.filterMap_cons, List.filterMap_nil, List.getElem?_cons_zero, List.getElem?_cons_succ]
      have hu0 : ∀ u : HoldW (Kpt wc), u.w.cell? ⟨w.heap.size, 0, none⟩ = some vl := fun u => u.ok.cell HAR.out.p0
      have hu1 : ∀ u : HoldW (Kpt wc), u.w.cell? ⟨w.heap.size, 1, none⟩ = some vv := fun u => u.ok.cell HAR.out.p1
      have hu2 : ∀ u : HoldW (Kpt wc), u.w.cell? ⟨w.heap.size, 2, none⟩ = some (.slice A as_.length c) := fun u => u.ok.cell HAR.out.p2
      iterate 3 (refine wpHeld_step (fun K hK => ?_); go_simp; refine hK _ ?_; clear hK K)
      refine wpHeld_nil ?_
      have HNE := hide hne
      clear hu0 hu1 hu2 hne
      refine wpTree_both rfl (fun K hK => ?_) (wpTree_step rfl fun K hK => ?_)
      · go_wp2_with (go_at_call 9; refine (HABT.out _ HSS.out).mono ?_; rintro e w4 ⟨va, rfl, ha, hb4⟩; obtain ⟨Aq, cq, rfl, _, _⟩ := ha.form; have H4 := hide (And.intro (HSS.out.step hb4) ha); clear ha hb4)
        refine chainF (fun _ => H4.out.1) (hK _ _ ?_)
        clear hK K
        have hne := HNE.out
        refine wpTree_take rfl (fun K hK => ?_)
        go_simp
        refine hK _ ?_
        clear hK K hne
        refine wpTree_step rfl fun K hK => ?_
        go_wp2_with fail
        refine chainF (fun _ => H4.out.1.step (below_laid _ _)) (hK _ _ ?_)
        clear hK K
        refine wpTree_step rfl fun K hK => ?_
        have HSA := hide (stA (T := 28) (w := w4) (new := #[vl, vv, .slice Aq (rowsOf as_).length cq]) 5 44 pr_info (pr_one HC1.out.1 HC1.out.2 rfl))
        go_wp2_with (with_reducible refine HSA.out _ _ _ _ _ _ rfl rfl rfl rfl (by with_unfolding_all rfl) ?_)
        refine chainF (fun _ => H4.out.1.step (below_laid _ _)) (hK _ _ ?_)
        clear hK K
        refine wpTree_end ?_
        have HAL := hide (heap_alloc_last w4 (.cells #[vl, vv, .slice Aq (rowsOf as_).length cq] 28))
        have HBL := hide (below_laid w4 (.cells #[vl, vv, .slice Aq (rowsOf as_).length cq] 28))
        have HQ := hide (QuW.mk (HAR.out.step (H4.out.1.step HBL.out).below) ⟨w4.heap.size, .slice Aq (rowsOf as_).length cq, rfl, blk_lt HAL.out, by rw [cell_block HAL.out]; rfl, by rw [cell_block HAL.out]; rfl, by rw [cell_block HAL.out]; rfl, H4.out.2.below HBL.out⟩)
        go_wp2_with fail
        go_meet
        exact HQ.out
      · go_wp2_with fail
        refine chainF (fun _ => HSS.out.step (below_laid _ _)) (hK _ _ ?_)
        clear hK K
        refine wpTree_step rfl fun K hK => ?_
        have HSB : Hid (Kpt wc (wc.alloc (.cells #[.slice none 0 0, .slice none 0 0, .slice none 0 0] 28)).drew) := hide ⟨below_drewN (below_laid _ _) 1⟩
        have HZB : Hid ((wc.alloc (.cells #[.slice none 0 0, .slice none 0 0, .slice none 0 0] 28)).drew.heap[wc.heap.size]? = some (.cells #[.slice none 0 0, .slice none 0 0, .slice none 0 0] 28 (0, 0))) := hide (heap_alloc_last wc _)
        generalize (wc.alloc (Obj.cells #[.slice none 0 0, .slice none 0 0, .slice none 0 0] 28)).drew = wz at *
        go_wp2_with (go_at_call 9; refine (HABT.out _ HSB.out).mono ?_; rintro e w4 ⟨va, rfl, ha, hb4⟩; obtain ⟨Aq, cq, rfl, _, _⟩ := ha.form; have H4 := hide (And.intro (HSB.out.step hb4) (And.intro ha (heap_below HZB.out hb4))); clear ha hb4)
        refine chainF (fun _ => H4.out.1) (hK _ _ ?_)
        clear hK K
        have hne := HNE.out
        refine wpTree_take rfl (fun K hK => ?_)
        go_simp
        refine hK _ ?_
        clear hK K hne
        refine wpTree_step rfl fun K hK => ?_
        have HSR : Hid (Kpt wc (w4.setRow wc.heap.size #[vl, vv, .slice Aq (rowsOf as_).length cq])) := hide ⟨below_setRow H4.out.1.below (Nat.le_refl _) _⟩
        refine wpList_store_row rfl 28 (.tmp 5) (.tmp 44) rfl wc.heap.size #[vl, vv, .slice Aq (rowsOf as_).length cq] rfl rfl 28 _ H4.out.2.2 pr_info rfl (pr_one HC1.out.1 HC1.out.2 rfl) ?_
        have HSH := hide (setRow_heap w4 wc.heap.size #[.slice none 0 0, .slice none 0 0, .slice none 0 0] #[vl, vv, .slice Aq (rowsOf as_).length cq] 28 (0, 0) H4.out.2.2)
        have HAQ := hide (H4.out.2.1.setRow' (new := #[vl, vv, .slice Aq (rowsOf as_).length cq]) H4.out.2.2 HAR.out.base (by decide) (by decide) (by decide))
        generalize w4.setRow wc.heap.size #[vl, vv, .slice Aq (rowsOf as_).length cq] = w6 at *
        go_wp2_with fail
        refine chainF (fun _ => HSR.out) (hK _ _ ?_)
        clear hK K
        refine wpTree_end ?_
        have HQ := hide (QuW.mk (HAR.out.step HSR.out.below) ⟨wc.heap.size, .slice Aq (rowsOf as_).length cq, rfl, blk_lt HSH.out, by rw [cell_block HSH.out]; rfl, by rw [cell_block HSH.out]; rfl, by rw [cell_block HSH.out]; rfl, HAQ.out⟩)
        go_wp2_with fail
        go_meet
        exact HQ.out
    case rest =>
      obtain ⟨har2, g, v, rfl, hgl, c0, c1, c2, hq⟩ := hcut
      have HA2 := hide har2
      obtain ⟨Aq, cq, rfl, _, _⟩ := hq.form
      obtain ⟨Awl, cwl, hwl⟩ := har2.labs.far
      subst hwl
      have HQ := hide (And.intro hq (And.intro hgl (And.intro c0 (And.intro c1 c2))))
      have HFD := hide (fed_any B vl vv (.slice Aq (rowsOf as_).length cq) l (rowsOf as_) allW wc har2.vars hq har2.base (rowsOf_ok HOK.out.1) (rowsOf_ok HOK.out.1).nine)
      unfold whyV at HFD
      rw [show ((allW.toNat : Nat) : Int) = 18446744073709551615 from rfl] at HFD
      clear hgl hq har2
      have HLL : Hid (L.length = l.length) := hide HOK.out.2.labs
      have HPL := hide (Hd.least (n := l.length) HLL.out (rowsOf_ok HOK.out.1).few HOK.out.1.vars (rowsOf_aor HOK.out.1 rfl))
      go_upto_region 6 with (first | (go_at_call 10; refine HFD.out.mono ?_; rintro e w6 ⟨P3, B3, rfl, hle, htb, hbl⟩; have H6 := hide (And.intro (HA2.out.step hbl) htb); have HB6 := hide hbl; obtain ⟨g3, ht3⟩ := htb.ex; have HG3 := hide ht3; clear hle htb hbl ht3) | (go_at_call 11; refine (stuck_tb _ _ _ _ _ HG3.out).mono ?_; rintro e w7 ⟨rfl, hb7⟩; have H7 := hide (TaW.mk (H6.out.1.step hb7) (H6.out.2.step hb7)); have HB7 := hide (below_next HB6.out hb7); clear hb7))
      obtain ⟨A2, c2', hv2, _, _⟩ := H7.out.ar.vars.form
      subst hv2
      have hv64 : (l.length : Int) ≤ 64 := by have := HOK.out.1.vars; omega
      have HFO := FdOk.fed l.length allW (rowsOf_ok HOK.out.1).nine (rowsOf as_).length (Nat.le_refl _)
      rw [List.take_length] at HFO
      have HF := hide HFO
      have HSM := hide (HFO.small HOK.out.1.vars (rowsOf_ok HOK.out.1).few (Nat.le_trans (namesU_len (rowsOf_ok HOK.out.1).nine) (by have : (rowsOf as_).length ≤ 64 := (rowsOf_ok HOK.out.1).few; omega)))
      clear HFO c0 c1 c2 HFD H6 HG3 HB6 HA2
      have c2 := (World.cell?_of_block (HB7.out.block _ HQ.out.2.1)).trans HQ.out.2.2.2.2
      have a1 := H7.out.ar.p1
      have a3 := H7.out.ar.q0
      have HRR := hide (rows_any B l.length (.slice Aq (rowsOf as_).length cq) (.slice Awl L.length cwl) (rowsOf as_) L w7 (HQ.out.1.below HB7.out) H7.out.ar.labs H7.out.ar.base (rowsOf_ok HOK.out.1).few (rowsOf_aor HOK.out.1 rfl) HOK.out.1.vars)
      generalize ho : Hd.rowsV L (rowsOf as_) 2000 (List.replicate l.length []) = o at HRR HPL
      clear ho
      have HFIT : Hid ((!(fedT l.length (rowsOf as_) allW).stuck && (fedT l.length (rowsOf as_) allW).eqs.all fun e => decide (etaL L e.a = etaL L e.b)) = o.isSome) := hide (by
        rcases HPL.out with ⟨e1, e2⟩ | ⟨R', e1, e2⟩
        · rw [e1]
          show _ = false
          rw [← Bool.not_eq_true]
          intro h
          rw [Bool.and_eq_true] at h
          exact e2 ⟨by simpa using h.1, fun e he => by simpa using List.all_eq_true.1 h.2 e he⟩
        · rw [e1, e2.stuck, Bool.not_false, Bool.true_and]
          exact List.all_eq_true.2 fun e he => decide_eq_true (e2.eqs e he))
      have HLS : Hid (∀ R', o = some R' → Hd.LeastS L l.length (rowsOf as_) R') := hide (fun R' e => by
        rcases HPL.out with ⟨e1, _⟩ | ⟨R2, e1, e2⟩
        · rw [e1] at e; cases e
        · rw [e1] at e; injection e with e; subst e; exact e2)
      clear HPL
      go_upto_region 8 with (first | (with_reducible refine HST.out _ _ _ _ _ _ rfl rfl rfl rfl (by with_unfolding_all rfl) ?_) | (go_at_call 12; refine HRR.out.mono ?_; rintro e w8 ⟨⟨A8, m8, c8, b8, rfl, hb8, hs8, hp8⟩⟩; have hs8 : o.isSome = b8 := hs8; subst hs8; clear a1 a3 c2; have HST := hide (stA (T := 32) (w := w8) (new := #[.slice Awl L.length cwl, .slice A8 m8 c8]) 9 62 asn_info (asn_one rfl)); have H8 := hide (And.intro (TaW.mk (H7.out.ar.step hb8) (H7.out.tb.step hb8)) hp8); have HB8 := hide hb8; clear hb8 hp8))
      have HL9 := hide (heap_alloc_last w8 (.cells #[.slice Awl L.length cwl, .slice A8 m8 c8] 32))
      have HBL := hide (below_laid w8 (.cells #[.slice Awl L.length cwl, .slice A8 m8 c8] 32))
      have H9 := hide (TaW.mk (H8.out.1.ar.step HBL.out) (H8.out.1.tb.step HBL.out))
      have HP9 : Hid (∀ R', o = some R' → Rws (w8.alloc (.cells #[.slice Awl L.length cwl, .slice A8 m8 c8] 32)) w7.heap.size (.slice A8 m8 c8) R') := hide (fun R' e => (H8.out.2 R' e).below HBL.out)
      have HB9 := hide (below_next HB7.out (below_next HB8.out HBL.out))
      have HS7 := hide (Nat.le_trans HB8.out.size HBL.out.size)
      clear HST HRR H7 HB7 H8 HB8 HBL
      generalize w8.alloc (Obj.cells #[.slice Awl L.length cwl, .slice A8 m8 c8] 32) = w9 at *
      generalize w8.heap.size = p9 at *
      obtain ⟨g4, ht4⟩ := H9.out.tb.ex
      have hne : (fedT l.length (rowsOf as_) allW).eqs.length ≤ 1000000000 := by
        have h1 := HF.out.sz.eqs
        have h2 : (rowsOf as_).length ≤ 64 := (rowsOf_ok HOK.out.1).few
        have h3 : (namesU (rowsOf as_)).length ≤ 20000 := Nat.le_trans (namesU_len (rowsOf_ok HOK.out.1).nine) (by omega)
        have h4 : (rowsOf as_).length * (7 * (namesU (rowsOf as_)).length + 309) ≤ 64 * 140309 := Nat.mul_le_mul h2 (by omega)
        omega
      have HEQ := hide (eqs_any P3 B3 g4 (fedT l.length (rowsOf as_) allW) w9 ht4 hne)
      clear ht4
      go_upto_region 9 with (go_at_call 13; refine HEQ.out.mono ?_; rintro e w5 ⟨⟨v5, rfl, hr5, hb5⟩⟩; obtain ⟨A5, c5, rfl, _⟩ := RowZ.form hr5; have H5 := hide (TaW.mk (H9.out.ar.step hb5) (H9.out.tb.step hb5)); have HR := hide hr5; have HB5 := hide hb5; clear hr5 hb5)
      clear HEQ
      generalize (fedT l.length (rowsOf as_) allW).eqs = es at HFIT HR hne ⊢
      generalize (fedT l.length (rowsOf as_) allW).stuck = st at HFIT ⊢
      have he9 : (es.length : Int) ≤ 1000000000 := by omega
      go_loopw [11, 69] (fun fv kv wr => LeF w5 L es st fv kv wr) (fun _ kv _ => es.length - (intOf kv).toNat)
      case atStart => exact ⟨⟨0, by omega, rfl, by simp, ⟨Below.refl _ _⟩⟩⟩
      case round =>
        obtain ⟨⟨k, hk, rfl, rfl, ho⟩⟩ := hrel
        have HO := hide ho
        have HARX := hide (H5.out.ar.step ho.below)
        clear ho
        by_cases hlt : k < es.length
        · have i0 : (k : Int) < es.length := by omega
          obtain ⟨bl, off, c', e, hbl, hr⟩ := SlAt.elem (f := eqnV) (SlAt.of_row (B := w5.heap.size) HR.out) (fun _ => rfl) hlt
          cases e
          have HTK := hide (all_succ (L := L) (st := st) hlt)
          generalize hfb : (!st && (es.take k).all fun e => decide (etaL L e.a = etaL L e.b)) = fb at *
          generalize es[k] = e at *
          unfold eqnV whyV at hr
          generalize hzy : ((e.why.toNat : Nat) : Int) = zy at *
          clear hzy hfb
          have HL := hide (ldA (cs := #[.int .i64 e.a.var, .int .u64 e.a.el.e0, .int .u64 e.a.el.e1, .int .u64 e.a.el.e2, .int .u64 e.a.el.e3, .int .u64 e.a.el.e4, .int .u64 e.a.el.e5, .int .u64 e.a.el.e6, .int .u64 e.a.el.e7, .int .i64 e.b.var, .int .u64 e.b.el.e0, .int .u64 e.b.el.e1, .int .u64 e.b.el.e2, .int .u64 e.b.el.e3, .int .u64 e.b.el.e4, .int .u64 e.b.el.e5, .int .u64 e.b.el.e6, .int .u64 e.b.el.e7, .int .u64 zy]) 71 (HO.out.range hr hbl) Tryz.underlying52 rfl eqn_info)
          have HST := hide (stA (w := wr) (new := #[.int .i64 e.a.var, .int .u64 e.a.el.e0, .int .u64 e.a.el.e1, .int .u64 e.a.el.e2, .int .u64 e.a.el.e3, .int .u64 e.a.el.e4, .int .u64 e.a.el.e5, .int .u64 e.a.el.e6, .int .u64 e.a.el.e7, .int .i64 e.b.var, .int .u64 e.b.el.e0, .int .u64 e.b.el.e1, .int .u64 e.b.el.e2, .int .u64 e.b.el.e3, .int .u64 e.b.el.e4, .int .u64 e.b.el.e5, .int .u64 e.b.el.e6, .int .u64 e.b.el.e7, .int .u64 zy]) 13 72 eqn_info (by simp [Value.oneCell']))
          clear hr hbl
          go_upto_region 11 with (first | (with_reducible refine HL.out _ _ _ _ _ rfl rfl (by with_unfolding_all rfl) ?_) | (with_reducible refine HST.out _ _ _ _ _ _ rfl rfl rfl rfl (by with_unfolding_all rfl) ?_))
          have HA6 := hide (heap_alloc_last wr (.cells #[.int .i64 e.a.var, .int .u64 e.a.el.e0, .int .u64 e.a.el.e1, .int .u64 e.a.el.e2, .int .u64 e.a.el.e3, .int .u64 e.a.el.e4, .int .u64 e.a.el.e5, .int .u64 e.a.el.e6, .int .u64 e.a.el.e7, .int .i64 e.b.var, .int .u64 e.b.el.e0, .int .u64 e.b.el.e1, .int .u64 e.b.el.e2, .int .u64 e.b.el.e3, .int .u64 e.b.el.e4, .int .u64 e.b.el.e5, .int .u64 e.b.el.e6, .int .u64 e.b.el.e7, .int .u64 zy] 52))
          have HB6 := hide (below_laid wr (.cells #[.int .i64 e.a.var, .int .u64 e.a.el.e0, .int .u64 e.a.el.e1, .int .u64 e.a.el.e2, .int .u64 e.a.el.e3, .int .u64 e.a.el.e4, .int .u64 e.a.el.e5, .int .u64 e.a.el.e6, .int .u64 e.a.el.e7, .int .i64 e.b.var, .int .u64 e.b.el.e0, .int .u64 e.b.el.e1, .int .u64 e.b.el.e2, .int .u64 e.b.el.e3, .int .u64 e.b.el.e4, .int .u64 e.b.el.e5, .int .u64 e.b.el.e6, .int .u64 e.b.el.e7, .int .u64 zy] 52))
          have HAR6 := hide (HARX.out.step HB6.out)
          have HO6 := hide (HO.out.step HB6.out)
          have HLT6 := hide (blk_lt HA6.out)
          have HRG := hide (eqn_ranges HA6.out)
          clear HL HST HA6
          generalize wr.alloc (Obj.cells _ 52) = w6 at *
          generalize wr.heap.size = p6 at *
          cases fb
          · have HSS : Hid (Kpt w6 w6.drew) := hide ⟨below_drewN (Below.refl _ _) 1⟩
            refine wp_region_tree [0, 1, 2, 4, 6, 8, 3, 7] (.step 5 true (.step 9 true (.take 10 (.take 11 (.step 12 true .done .done))) .done) .done) (Kpt w6) (by kernel_rfl) (by kernel_rfl) (fun _ _ _ _ _ h => h) HSS.out ?_
            intro hne
            simp only [picks, List.filterMap_cons, List.filterMap_nil, List.getElem?_cons_zero, List.getElem?_cons_succ]
            iterate 8 (refine wpHeld_step (fun K hK => ?_); go_simp; refine hK _ ?_; clear hK K)
            refine wpHeld_nil ?_
            have HNE := hide hne
            clear hne
            refine wpTree_step rfl fun K hK => ?_
            refine wpList_skip (by with_unfolding_all rfl) ?_
            go_wp2_with fail
            refine chainF (fun _ => HSS.out) (hK _ _ ?_)
            clear hK K
            refine wpTree_step rfl fun K hK => ?_
            refine wpList_skip (by with_unfolding_all rfl) ?_
            go_wp2_with fail
            refine chainF (fun _ => HSS.out) (hK _ _ ?_)
            clear hK K
            have hne := HNE.out
            iterate 2 (refine wpTree_take rfl (fun K hK => ?_); go_simp; refine hK _ ?_; clear hK K)
            clear hne
            refine wpTree_step rfl fun K hK => ?_
            go_wp2_with fail
            refine chainF (fun _ => HSS.out) (hK _ _ ?_)
            clear hK K
            refine wpTree_end ?_
            have HK11 := hide (HO6.out.step HSS.out.below)
            generalize w6.drew = w7' at *
            go_wp2_with fail
            exact ⟨⟨⟨k + 1, by omega, rfl, congrArg Value.bool (by rw [HTK.out, Bool.false_and]), HK11.out⟩⟩, by simp [intOf]; omega⟩
          · have HSS : Hid (Kpt w6 w6.drew) := hide ⟨below_drewN (Below.refl _ _) 1⟩
            have HMA := hide (fun (wq : World) (hq : Kpt w6 wq) => means_any B (.slice Awl L.length cwl) wrs L e.a wq (HAR6.out.labs.below hq.below))
            have HMB := hide (fun (wq : World) (hq : Kpt w6 wq) => means_any B (.slice Awl L.length cwl) wrs L e.b wq (HAR6.out.labs.below hq.below))
            refine wp_region_tree [0, 1, 2, 4, 6, 8, 3, 7] (.step 5 true (.step 9 true (.take 10 (.take 11 (.step 12 true .done .done))) .done) .done) (Kpt w6) (by kernel_rfl) (by kernel_rfl) (fun _ _ _ _ _ h => h) HSS.out ?_
            intro hne
            simp only [picks, List.filterMap_cons, List.filterMap_nil, List.getElem?_cons_zero, List.getElem?_cons_succ]
            have hu1 : ∀ u : HoldW (Kpt w6), u.w.cell? ⟨w.heap.size + 1, 0, none⟩ = some (.slice Awl L.length cwl) := fun u => u.ok.cell HAR6.out.q0
            have hu2 : ∀ u : HoldW (Kpt w6), u.w.cell? ⟨w.heap.size + 1, 1, none⟩ = some wrs := fun u => u.ok.cell HAR6.out.q1
            iterate 6 (refine wpHeld_step (fun K hK => ?_); go_simp; refine hK _ ?_; clear hK K)
            refine wpHeld_step (fun K hK => ?_)
            rw [if_pos (by with_unfolding_all rfl)]
            refine held_mid (b := p6) (o := 0) (cs := [.int .i64 e.a.var, .int .u64 e.a.el.e0, .int .u64 e.a.el.e1, .int .u64 e.a.el.e2, .int .u64 e.a.el.e3, .int .u64 e.a.el.e4, .int .u64 e.a.el.e5, .int .u64 e.a.el.e6, .int .u64 e.a.el.e7]) rfl rfl (by rintro _ ⟨u, rfl⟩; exact u.ok.range HRG.out.1 HLT6.out) Tryz.underlying50 rfl at_info (hK _ ?_)
            clear hK K
            refine wpHeld_step (fun K hK => ?_)
            rw [if_pos (by with_unfolding_all rfl)]
            refine held_mid (b := p6) (o := 9) (cs := [.int .i64 e.b.var, .int .u64 e.b.el.e0, .int .u64 e.b.el.e1, .int .u64 e.b.el.e2, .int .u64 e.b.el.e3, .int .u64 e.b.el.e4, .int .u64 e.b.el.e5, .int .u64 e.b.el.e6, .int .u64 e.b.el.e7]) rfl rfl (by rintro _ ⟨u, rfl⟩; exact u.ok.range HRG.out.2 HLT6.out) Tryz.underlying50 rfl at_info (hK _ ?_)
            clear hK K
            refine wpHeld_nil ?_
            have HNE := hide hne
            clear hne hu1 hu2
            refine wpTree_step rfl fun K hK => ?_
            go_wp2_with (go_at_call 14; refine (HMA.out _ HSS.out).mono ?_; rintro e w10 ⟨⟨z1, rfl, hz1⟩, hb10⟩; have H10 := hide (HSS.out.step hb10); have HZ1 := hide hz1; clear hb10 hz1)
            refine chainF (fun _ => H10.out) (hK _ _ ?_)
            clear hK K
            refine wpTree_step rfl fun K hK => ?_
            go_wp2_with (go_at_call 14; refine (HMB.out _ H10.out).mono ?_; rintro e w11 ⟨⟨z2, rfl, hz2⟩, hb11⟩; have H11 := hide (H10.out.step hb11); have HZ2 := hide hz2; clear hb11 hz2)
            refine chainF (fun _ => H11.out) (hK _ _ ?_)
            clear hK K
            have HK11 := hide (HO6.out.step H11.out.below)
            by_cases hzz : z1 = z2
            · have HD : Hid ((!st && (es.take (k + 1)).all fun e => decide (etaL L e.a = etaL L e.b)) = true) := hide (by rw [HTK.out, Bool.true_and]; exact decide_eq_true (HZ1.out.trans (hzz.trans HZ2.out.symm)))
              subst hzz
              have hne := HNE.out
              iterate 2 (refine wpTree_take rfl (fun K hK => ?_); go_simp; refine hK _ ?_; clear hK K)
              clear hne
              refine wpTree_step rfl fun K hK => ?_
              go_wp2_with fail
              refine chainF (fun _ => H11.out) (hK _ _ ?_)
              clear hK K
              refine wpTree_end ?_
              go_wp2_with fail
              exact ⟨⟨⟨k + 1, by omega, rfl, congrArg Value.bool HD.out.symm, HK11.out⟩⟩, by simp [intOf]; omega⟩
            · have HD : Hid ((!st && (es.take (k + 1)).all fun e => decide (etaL L e.a = etaL L e.b)) = false) := hide (by rw [HTK.out, Bool.true_and]; exact decide_eq_false fun he => hzz (HZ1.out.symm.trans (he.trans HZ2.out)))
              have he8 := el_ne hzz
              clear hzz
              have hne := HNE.out
              iterate 2 (refine wpTree_take rfl (fun K hK => ?_); go_simp; refine hK _ ?_; clear hK K)
              clear hne he8
              refine wpTree_step rfl fun K hK => ?_
              go_wp2_with fail
              refine chainF (fun _ => H11.out) (hK _ _ ?_)
              clear hK K
              refine wpTree_end ?_
              go_wp2_with fail
              exact ⟨⟨⟨k + 1, by omega, rfl, congrArg Value.bool HD.out.symm, HK11.out⟩⟩, by simp [intOf]; omega⟩
        · obtain rfl : k = es.length := by omega
          have HK5 := hide (HO.out)
          rw [List.take_length, HFIT.out]
          clear HFIT hne he9
          generalize wr = w10 at *
          have H10 := hide (TaW.mk HARX.out (H5.out.tb.step HK5.out.below))
          have HB10 := hide (below_next HB9.out (below_next HB5.out HK5.out.below))
          have HL10 := hide (heap_below HL9.out (below_next HB5.out HK5.out.below))
          have HP10 : Hid (∀ R', o = some R' → Rws w10 w7.heap.size (.slice A8 m8 c8) R') := hide (fun R' e => (HP9.out R' e).below (below_next HB5.out HK5.out.below))
          have HS10 : Hid (w7.heap.size ≤ w10.heap.size) := hide (Nat.le_trans HS7.out (below_next HB5.out HK5.out.below).size)
          clear H9 HP9 HB9 HS7 H5 HR HB5 HO HARX HK5 HL9
          cases o with
          | none =>
            have HAL := hide (alive_any w10)
            go_wp2_with (go_at_call 8; refine HAL.out.mono ?_; rintro e w11 ⟨rfl, hb⟩; have H11 := hide (H10.out.ar.step hb); clear hb)
            go_ret
            exact ⟨rfl, H11.out.kp.below⟩
          | some R' =>
            have HLE := hide (HLS.out R' rfl)
            have HRW := hide (HP10.out R' rfl)
            clear HLS HP10
            obtain ⟨A8', c8', e8, _, _⟩ := HRW.out.form
            injection e8 with e81 e82 e83
            subst e81 e82 e83
            have a1 := H10.out.ar.p1
            have a3 := H10.out.ar.q0
            have HST := hide (stA (T := 32) (w := w10) (new := #[.slice Awl L.length cwl, .slice none 0 0]) 14 94 asn_info (asn_one rfl))
            go_upto_region 18 with (with_reducible refine HST.out _ _ _ _ _ _ rfl rfl rfl rfl (by with_unfolding_all rfl) ?_)
            clear a1 a3 HST
            have HBX : Hid (LeB w10 (.slice Awl L.length cwl) R' 0 (w10.alloc (.cells #[.slice Awl L.length cwl, .slice none 0 0] 32))) := hide ⟨below_laid _ _, ⟨_, _, _, heap_alloc_last _ _, rfl, ⟨⟨[], RowZ.nil, fun g hg => (by cases hg), fun i r hr => (by simp at hr)⟩⟩⟩⟩
            generalize hw11 : w10.alloc (Obj.cells #[.slice Awl L.length cwl, .slice none 0 0] 32) = w11 at HBX ⊢
            clear hw11
            have a1 := (H10.out.ar.step HBX.out.below).p1
            go_wp2_with fail
            clear a1
            go_loopw [99] (fun kv wr => LeV w10 (.slice Awl L.length cwl) R' l.length kv wr) (fun kv _ => l.length - (intOf kv).toNat)
            case atStart => exact ⟨⟨0, by omega, rfl, HBX.out⟩⟩
            case round =>
              obtain ⟨⟨v, hv, rfl, hvb⟩⟩ := hrel
              clear HBX
              have HBX := hide hvb
              have HARV := hide (H10.out.ar.step hvb.below)
              have HTV := hide (H10.out.tb.step hvb.below)
              clear hvb
              by_cases hvl : v < l.length
              · have i1 : (v : Int) < l.length := by omega
                obtain ⟨g6, ht6⟩ := HTV.out.ex
                have HFL := hide (fields_any P3 B3 v v g6 (fedT l.length (rowsOf as_) allW) wr ht6 HSM.out.ow (by rw [HSM.out.own]; simp [hvl]) HSM.out.tot (HSM.out.len v hvl))
                clear ht6
                go_upto_region 22 with (go_at_call 15; refine HFL.out.mono ?_; rintro e w12 ⟨v12, names, rfl, hso, hrz, hb12⟩; have HR12 := hide hrz; have HSO := hide hso; have HB12 := hide hb12; clear hso hrz hb12)
                clear HFL i1
                have HX12 := hide (HBX.out.step HB12.out)
                have HAR12 := hide (HARV.out.step HB12.out)
                clear HBX HARV HTV HB12
                have hvR : v < R'.length := by rw [HLE.out.st.len]; exact hvl
                have hrm : R'.getD v [] ∈ R' := by rw [List.getD_eq_getElem?_getD, List.getElem?_eq_getElem hvR]; exact List.getElem_mem _
                have hvr : valsV L (Rw.pick ((fedT l.length (rowsOf as_) allW).spreads [] (v : Nat)).fields names) = R'.getD v [] := Hd.vals_row (HLE.out.dup (rowsOf_ok HOK.out.1).few v hvl) HSO.out (HLE.out.st.up _ hrm) (HLE.out.val v hvl)
                have hup : UpN (Rw.pick ((fedT l.length (rowsOf as_) allW).spreads [] (v : Nat)).fields names) := ⟨by rw [Hd.pick_names fun n hn => (HSO.out.2 n).1 hn]; exact HSO.out.1⟩
                have htk : R'.take (v + 1) = R'.take v ++ [R'.getD v []] := by
                  rw [List.take_succ_eq_append_getElem hvR, List.getD_eq_getElem?_getD, List.getElem?_eq_getElem hvR]
                  rfl
                have hsv : SmV (R'.getD v []) := by
                  obtain ⟨_, _, _, u, _, _, _, hu⟩ := HRW.out.at hvR
                  rw [List.getD_eq_getElem?_getD, List.getElem?_eq_getElem hvR]
                  exact hu.small
                have hrl : (R'.getD v []).length ≤ 100000 := Nat.le_trans (HLE.out.st.few _ hrm) (Nat.le_trans (namesU_len (rowsOf_ok HOK.out.1).nine) (by have : (rowsOf as_).length ≤ 64 := (rowsOf_ok HOK.out.1).few; omega))
                generalize R'.getD v [] = row at *
                generalize Rw.pick ((fedT l.length (rowsOf as_) allW).spreads [] (v : Nat)).fields names = fs at *
                generalize ((fedT l.length (rowsOf as_) allW).spreads [] (v : Nat)).fin = fin at *
                have hfl : fs.length = row.length := by rw [← hvr]; simp [valsV]
                have HV := hide (And.intro hvr (And.intro hup (And.intro htk (And.intro hsv (And.intro hrl hfl)))))
                obtain ⟨A7, c7, rfl, _, _⟩ := RowZ.form HR12.out
                have hf9 : (fs.length : Int) ≤ 100000 := by omega
                clear hvR hrm hvr hup htk hsv hrl hfl HSO
                generalize wr = wo at *
                go_wp2_with fail
                go_loopw [18, 110] (fun rv kv wr => LeR w12 L fs rv kv wr) (fun _ kv _ => fs.length - (intOf kv).toNat)
                case atStart => exact ⟨⟨0, by omega, rfl, VaS.nil (Below.refl _ _)⟩⟩
                case round =>
                  obtain ⟨⟨k, hk, rfl, hvo⟩⟩ := hrel
                  have HO := hide hvo
                  obtain ⟨A15, c15, e15, _, _⟩ := RowZ.form hvo.row
                  have htl : ((valsV L fs).take k).length = k := by rw [List.length_take]; simp [valsV]; omega
                  rw [htl] at e15
                  subst e15
                  have HTL := hide htl
                  clear hvo htl
                  by_cases hkl : k < fs.length
                  · have j0 : (k : Int) < fs.length := by omega
                    obtain ⟨bl, off, c', e, hbl, hr⟩ := SlAt.elem (SlAt.of_row (B := w12.heap.size) HR12.out) (fun _ => rfl) hkl
                    cases e
                    have HKS := hide (vals_succ (L := L) hkl)
                    have hprev : ∀ j (hj : j < k), Nm.ls (fs[j]'(by omega)).name fs[k].name = true := fun j hj => HV.out.2.1.lt hj hkl
                    have hsmf : fs[k].name.size ≤ maxLen := by
                      refine HV.out.2.2.2.1 ⟨fs[k].name, etaL L fs[k].at_⟩ ?_
                      rw [← HV.out.1]
                      exact List.mem_map.2 ⟨fs[k], List.getElem_mem hkl, rfl⟩
                    have hpn : ∀ j, j < k → ∃ nm : ByteArray, w12.cell? ⟨bl, off + j * 10, none⟩ = some (.string nm) ∧ nm.size ≤ maxLen ∧ Nm.ls nm fs[k].name = true := fun j hj => by
                      have hj2 : j < fs.length := by omega
                      obtain ⟨bl', off', c9, e9, _, hr9⟩ := SlAt.elem (SlAt.of_row (B := w12.heap.size) HR12.out) (fun _ => rfl) hj2
                      injection e9 with e91
                      injection e91 with e91
                      injection e91 with e91 e92
                      subst e91 e92
                      refine ⟨fs[j].name, hr9 0 _ rfl, ?_, hprev j hj⟩
                      refine HV.out.2.2.2.1 ⟨fs[j].name, etaL L fs[j].at_⟩ ?_
                      rw [← HV.out.1]
                      exact List.mem_map.2 ⟨fs[j], List.getElem_mem hj2, rfl⟩
                    have HPN := hide hpn
                    have HSF := hide hsmf
                    clear hpn hsmf hprev
                    generalize fs[k] = f at *
                    have HL := hide (ldA (cs := #[.string f.name, .int .i64 f.at_.var, .int .u64 f.at_.el.e0, .int .u64 f.at_.el.e1, .int .u64 f.at_.el.e2, .int .u64 f.at_.el.e3, .int .u64 f.at_.el.e4, .int .u64 f.at_.el.e5, .int .u64 f.at_.el.e6, .int .u64 f.at_.el.e7]) 113 ((Kpt.mk HO.out.below).range hr hbl) Tryz.underlying59 rfl fd_info)
                    have HST := hide (stA (T := 59) (w := wr) (new := #[.string f.name, .int .i64 f.at_.var, .int .u64 f.at_.el.e0, .int .u64 f.at_.el.e1, .int .u64 f.at_.el.e2, .int .u64 f.at_.el.e3, .int .u64 f.at_.el.e4, .int .u64 f.at_.el.e5, .int .u64 f.at_.el.e6, .int .u64 f.at_.el.e7]) 20 114 fd_info (by simp [Value.oneCell']))
                    clear hr hbl
                    go_upto_region 26 with (first | (with_reducible refine HL.out _ _ _ _ _ rfl rfl (by with_unfolding_all rfl) ?_) | (with_reducible refine HST.out _ _ _ _ _ _ rfl rfl rfl rfl (by with_unfolding_all rfl) ?_))
                    simp only [Act.put]
                    have HA15 := hide (heap_alloc_last wr (.cells #[.string f.name, .int .i64 f.at_.var, .int .u64 f.at_.el.e0, .int .u64 f.at_.el.e1, .int .u64 f.at_.el.e2, .int .u64 f.at_.el.e3, .int .u64 f.at_.el.e4, .int .u64 f.at_.el.e5, .int .u64 f.at_.el.e6, .int .u64 f.at_.el.e7] 59))
                    have HO15 := hide (HO.out.step (below_laid wr (.cells #[.string f.name, .int .i64 f.at_.var, .int .u64 f.at_.el.e0, .int .u64 f.at_.el.e1, .int .u64 f.at_.el.e2, .int .u64 f.at_.el.e3, .int .u64 f.at_.el.e4, .int .u64 f.at_.el.e5, .int .u64 f.at_.el.e6, .int .u64 f.at_.el.e7] 59)))
                    clear HL HST HO j0
                    generalize wr.alloc (Obj.cells _ 59) = w15 at *
                    generalize wr.heap.size = p15 at *
                    go_cut [128] from 115 to 129 (fun bv wx => bv = .bool false ∧ Kpt w15 wx)
                    case first =>
                      have HSS : Hid (Kpt w15 w15.drew) := hide ⟨below_drewN (Below.refl _ _) 1⟩
                      by_cases hk0 : k = 0
                      · subst hk0
                        clear hkl hk
                        simp only [Int.natCast_zero]
                        refine wp_region_calm w15.heap.size (by kernel_rfl) (by kernel_rfl) ?_
                        repeat (go_big_quiet_step (fail))
                        refine wpQuiet_nil ?_
                        rintro _ ⟨u, rfl⟩
                        have hub : Below w15.heap.size w15 u.w := u.below
                        go_wp2_with fail
                        go_meet
                        exact ⟨rfl, ⟨hub⟩⟩
                      · have hg0 : decide ((0 : Int) < k) = true := decide_eq_true (by omega)
                        have hg1 : decide (0 < k) = true := decide_eq_true (by omega)
                        have hg2 : 0 < k := by omega
                        obtain ⟨nm, hnm, hns, hls⟩ := HPN.out (k - 1) (by omega)
                        clear hk0
                        have HNM := hide (And.intro hnm (And.intro hns hls))
                        clear hnm hns hls
                        have j1 : IntKind.i64.wrap ((k : Int) - 1) = (k : Int) - 1 := IntWalk.i64_in _ (by omega)
                        have j2 : ((k : Int) - 1).toNat = k - 1 := by omega
                        have j3 : (0 : Int) ≤ (k : Int) - 1 := by omega
                        have j4 : (k : Int) - 1 < fs.length := by omega
                        have j5 : (1 : Int) ≤ k := by omega
                        refine wp_region_tree [0, 1, 2, 3, 4, 9, 5, 10, 6, 7, 8] (.step 11 true (.take 12 (.take 13 .done)) .done) (Kpt w15) (by kernel_rfl) (by kernel_rfl) (fun _ _ _ _ _ h => h) HSS.out ?_
                        intro hne
                        simp only [picks, List.filterMap_cons, List.filterMap_nil, List.getElem?_cons_zero, List.getElem?_cons_succ]
                        have hu1 : ∀ u : HoldW (Kpt w15), u.w.cell? ⟨bl, off + (k - 1) * 10, none⟩ = some (.string nm) := fun u => u.ok.cell ((Kpt.mk HO15.out.below).cell HNM.out.1)
                        have hu2 : ∀ u : HoldW (Kpt w15), u.w.cell? ⟨p15, 0, none⟩ = some (.string f.name) := fun u => u.ok.cell (by rw [cell_block HA15.out]; rfl)
                        iterate 11 (refine wpHeld_step (fun K hK => ?_); go_simp; refine hK _ ?_; clear hK K)
                        refine wpHeld_nil ?_
                        have HNE := hide hne
                        clear hne hu1 hu2 j1 j2 j3 j4 j5
                        have HLS2 := hide (fun wq => lessR_any nm f.name wq HNM.out.2.1)
                        rw [HNM.out.2.2] at HLS2
                        refine wpTree_step rfl fun K hK => ?_
                        go_wp2_with (go_at_call 16; refine (HLS2.out _).mono ?_; rintro e w16 ⟨rfl, hd⟩; have H16 := hide (HSS.out.step (hd.below _)); clear hd)
                        refine chainF (fun _ => H16.out) (hK _ _ ?_)
                        clear hK K
                        have hne := HNE.out
                        iterate 2 (refine wpTree_take rfl (fun K hK => ?_); go_simp; refine hK _ ?_; clear hK K)
                        clear hne HNE
                        refine wpTree_end ?_
                        go_wp2_with fail
                        go_meet
                        exact ⟨rfl, H16.out⟩
                    case rest =>
                      obtain ⟨rfl, hk16⟩ := hcut
                      have HO16 := hide (HO15.out.step hk16.below)
                      have HA16 := hide (heap_below HA15.out hk16.below)
                      clear HO15 HA15 HPN hk16
                      go_upto_region 28 with fail
                      have HOWN : Hid ((Value.slice A15 k c15).ownBlock ≠ some p15) := hide (RowZ.ne_type HO16.out.row HA16.out (by decide))
                      have HSS : Hid (LeS w12 p15 #[.string f.name, .int .i64 f.at_.var, .int .u64 f.at_.el.e0, .int .u64 f.at_.el.e1, .int .u64 f.at_.el.e2, .int .u64 f.at_.el.e3, .int .u64 f.at_.el.e4, .int .u64 f.at_.el.e5, .int .u64 f.at_.el.e6, .int .u64 f.at_.el.e7] wc.drew) := hide ⟨below_drewN HO16.out.below 1, HA16.out⟩
                      have HBD : Hid (Below wc.heap.size wc wc.drew) := hide (below_drewN (Below.refl _ _) 1)
                      have HMA := hide (fun (wq : World) (hq : Below w12.heap.size w12 wq) => means_any B (.slice Awl L.length cwl) wrs L f.at_ wq (HAR12.out.labs.below hq))
                      refine wp_region_tree [0, 1, 3, 5, 2, 4] (.step 6 true (.take 7 (.step 8 true (.step 9 true (.step 10 true .done .done) .done) .done)) .done) (LeS w12 p15 #[.string f.name, .int .i64 f.at_.var, .int .u64 f.at_.el.e0, .int .u64 f.at_.el.e1, .int .u64 f.at_.el.e2, .int .u64 f.at_.el.e3, .int .u64 f.at_.el.e4, .int .u64 f.at_.el.e5, .int .u64 f.at_.el.e6, .int .u64 f.at_.el.e7]) (by kernel_rfl) (by kernel_rfl) (fun _ _ _ _ _ h => h) HSS.out ?_
                      intro hne
                      simp only [picks, List.filterMap_cons, List.filterMap_nil, List.getElem?_cons_zero, List.getElem?_cons_succ]
                      have hu0 : ∀ u : HoldW (LeS w12 p15 #[.string f.name, .int .i64 f.at_.var, .int .u64 f.at_.el.e0, .int .u64 f.at_.el.e1, .int .u64 f.at_.el.e2, .int .u64 f.at_.el.e3, .int .u64 f.at_.el.e4, .int .u64 f.at_.el.e5, .int .u64 f.at_.el.e6, .int .u64 f.at_.el.e7]), u.w.cell? ⟨p15, 0, none⟩ = some (.string f.name) := fun u => by rw [cell_block u.ok.el]; rfl
                      have hu1 : ∀ u : HoldW (LeS w12 p15 #[.string f.name, .int .i64 f.at_.var, .int .u64 f.at_.el.e0, .int .u64 f.at_.el.e1, .int .u64 f.at_.el.e2, .int .u64 f.at_.el.e3, .int .u64 f.at_.el.e4, .int .u64 f.at_.el.e5, .int .u64 f.at_.el.e6, .int .u64 f.at_.el.e7]), u.w.cell? ⟨w.heap.size + 1, 0, none⟩ = some (.slice Awl L.length cwl) := fun u => (Kpt.mk u.ok.below).cell HAR12.out.q0
                      have hu2 : ∀ u : HoldW (LeS w12 p15 #[.string f.name, .int .i64 f.at_.var, .int .u64 f.at_.el.e0, .int .u64 f.at_.el.e1, .int .u64 f.at_.el.e2, .int .u64 f.at_.el.e3, .int .u64 f.at_.el.e4, .int .u64 f.at_.el.e5, .int .u64 f.at_.el.e6, .int .u64 f.at_.el.e7]), u.w.cell? ⟨w.heap.size + 1, 1, none⟩ = some wrs := fun u => (Kpt.mk u.ok.below).cell HAR12.out.q1
                      iterate 5 (refine wpHeld_step (fun K hK => ?_); go_simp; refine hK _ ?_; clear hK K)
                      refine wpHeld_step (fun K hK => ?_)
                      rw [if_pos (by with_unfolding_all rfl)]
                      refine held_mid (b := p15) (o := 1) (cs := [.int .i64 f.at_.var, .int .u64 f.at_.el.e0, .int .u64 f.at_.el.e1, .int .u64 f.at_.el.e2, .int .u64 f.at_.el.e3, .int .u64 f.at_.el.e4, .int .u64 f.at_.el.e5, .int .u64 f.at_.el.e6, .int .u64 f.at_.el.e7]) rfl rfl (by rintro _ ⟨u, rfl⟩; exact fd_mid u.ok.el) Tryz.underlying50 rfl at_info (hK _ ?_)
                      clear hK K
                      refine wpHeld_nil ?_
                      have HNE := hide hne
                      clear hne hu0 hu1 hu2
                      refine wpTree_step rfl fun K hK => ?_
                      go_wp2_with (go_at_call 14; refine (HMA.out _ HSS.out.below).mono ?_; rintro e w17 ⟨⟨z, rfl, hz⟩, hb17⟩; have H17 := hide (And.intro (HSS.out.step hb17) (And.intro hz (below_next HBD.out hb17))); clear hb17 hz)
                      refine chainF (fun _ => H17.out.1) (hK _ _ ?_)
                      clear hK K
                      have hne := HNE.out
                      refine wpTree_take rfl (fun K hK => ?_)
                      go_simp
                      refine hK _ ?_
                      clear hK K hne
                      refine wpTree_step rfl fun K hK => ?_
                      go_wp2_with fail
                      have HR5 : Hid (LeS w12 p15 #[.string f.name, .int .i64 f.at_.var, .int .u64 f.at_.el.e0, .int .u64 f.at_.el.e1, .int .u64 f.at_.el.e2, .int .u64 f.at_.el.e3, .int .u64 f.at_.el.e4, .int .u64 f.at_.el.e5, .int .u64 f.at_.el.e6, .int .u64 f.at_.el.e7] (w17.alloc (.cells #[.string f.name, .int .u64 z.e0, .int .u64 z.e1, .int .u64 z.e2, .int .u64 z.e3, .int .u64 z.e4, .int .u64 z.e5, .int .u64 z.e6, .int .u64 z.e7] 62))) := hide (H17.out.1.step (below_laid _ _))
                      have HB5' : Hid (Below wc.heap.size wc (w17.alloc (.cells #[.string f.name, .int .u64 z.e0, .int .u64 z.e1, .int .u64 z.e2, .int .u64 z.e3, .int .u64 z.e4, .int .u64 z.e5, .int .u64 z.e6, .int .u64 z.e7] 62))) := hide (below_next H17.out.2.2 (below_laid _ _))
                      have HZ5 : Hid ((w17.alloc (.cells #[.string f.name, .int .u64 z.e0, .int .u64 z.e1, .int .u64 z.e2, .int .u64 z.e3, .int .u64 z.e4, .int .u64 z.e5, .int .u64 z.e6, .int .u64 z.e7] 62)).heap[w17.heap.size]? = some (.cells #[.string f.name, .int .u64 z.e0, .int .u64 z.e1, .int .u64 z.e2, .int .u64 z.e3, .int .u64 z.e4, .int .u64 z.e5, .int .u64 z.e6, .int .u64 z.e7] 62 (0, 0))) := hide (heap_alloc_last w17 _)
                      generalize hw5 : w17.alloc (.cells #[.string f.name, .int .u64 z.e0, .int .u64 z.e1, .int .u64 z.e2, .int .u64 z.e3, .int .u64 z.e4, .int .u64 z.e5, .int .u64 z.e6, .int .u64 z.e7] 62) = w18 at HR5 HB5' HZ5 ⊢
                      clear hw5
                      refine chainF (fun _ => HR5.out) (hK _ _ ?_)
                      clear hK K
                      refine wpTree_step rfl fun K hK => ?_
                      obtain ⟨i1, hj, hy0, hy1, hy2⟩ := info_parts info_val
                      refine app_rowz rfl (.tmp 129) (.tmp 137) 57 57 rfl 62 i1 _ 9 80 Tryz.underlying57 hj hy0 hy1 hy2 rfl (.slice A15 k c15) k (((valsV L fs).take k).flatMap vlV) rfl (by have := RowZ.below HO16.out.row HB5'.out; rwa [HTL.out] at this) _ 1 [.string f.name, .int .u64 z.e0, .int .u64 z.e1, .int .u64 z.e2, .int .u64 z.e3, .int .u64 z.e4, .int .u64 z.e5, .int .u64 z.e6, .int .u64 z.e7] rfl (val_news (x := ⟨f.name, z⟩) HZ5.out) (by unfold maxLen; omega) (by omega) ?_
                      intro A4 c8 w' hr hg hob
                      have H9 : Hid (VaS w12 (.slice A4 (k + 1) c8) ((valsV L fs).take k ++ [⟨f.name, z⟩]) w') := hide (HO16.out.pushes (m := [⟨f.name, z⟩]) (n := k + 1) HB5'.out (fun y hy => by simp at hy; subst hy; exact HSF.out) (by simp [HTL.out]) (by simp only [List.flatMap_cons, List.flatMap_nil, List.append_nil]; exact hr) hg hob)
                      have HR9 : Hid (LeS w12 p15 #[.string f.name, .int .i64 f.at_.var, .int .u64 f.at_.el.e0, .int .u64 f.at_.el.e1, .int .u64 f.at_.el.e2, .int .u64 f.at_.el.e3, .int .u64 f.at_.el.e4, .int .u64 f.at_.el.e5, .int .u64 f.at_.el.e6, .int .u64 f.at_.el.e7] w') := hide ⟨H9.out.below, (hg.block p15 (blk_lt HR5.out.el) (fun e => HOWN.out e.symm)).trans HR5.out.el⟩
                      clear hr hg hob
                      go_wp2_with fail
                      refine chainF (fun _ => HR9.out) (hK _ _ ?_)
                      clear hK K
                      refine wpTree_step rfl fun K hK => ?_
                      go_wp2_with fail
                      refine chainF (fun _ => HR9.out) (hK _ _ ?_)
                      clear hK K
                      refine wpTree_end ?_
                      have HEND : Hid ((valsV L fs).take (k + 1) = (valsV L fs).take k ++ [⟨f.name, z⟩]) := hide (by rw [HKS.out]; exact congrArg (fun y => _ ++ [(⟨f.name, y⟩ : Vl)]) H17.out.2.1)
                      go_wp2_with fail
                      exact ⟨⟨⟨k + 1, by omega, rfl, by rw [HEND.out]; exact H9.out⟩⟩, by simp [intOf]; omega⟩
                  · obtain rfl : k = fs.length := by omega
                    have hall : (valsV L fs).take fs.length = row := by rw [← HV.out.1]; exact List.take_of_length_le (by simp [valsV])
                    rw [hall] at HO
                    have HX16 := hide (HX12.out.step HO.out.below)
                    clear hall HTL
                    obtain ⟨Ab, nb, cb, hbh, hnb, ⟨vs2, k1, k2, k3⟩⟩ := HX16.out.box
                    rw [← hnb] at k1
                    have hnv : nb = v := by rw [hnb, List.length_take]; have := HLE.out.st.len; omega
                    subst hnv
                    obtain ⟨i1, hj, hy0, hy1, hy2⟩ := info_vls
                    have b1 : wr.cell? ⟨w10.heap.size, 1, none⟩ = some (.slice Ab nb cb) := by rw [cell_block hbh]; rfl
                    have HBH := hide hbh
                    have HK1 := hide (And.intro k1 (And.intro k2 k3))
                    have HZZ := hide (heap_alloc_last wr (.cells #[.slice A15 fs.length c15] 57))
                    have HN2 := hide (And.intro hnb hv)
                    clear hbh k1 k2 k3 hnb
                    go_wp2_with (at_builtin; go_must (refine app_rowz rfl (.tmp 141) (.tmp 143) 30 30 rfl 57 i1 _ 1 24 Tryz.underlying30 hj hy0 hy1 hy2 rfl (.slice Ab nb cb) nb vs2 rfl (RowZ.below HK1.out.1 (below_laid _ _)) _ 1 [.slice A15 fs.length c15] rfl (row_news rfl HZZ.out) (by unfold maxLen; omega) (by omega) ?_); intro A4 c4 w' hr hg hob; have HQ4 := hide (OwR.push (B := w10.heap.size) (C := w10.heap.size) (l := row) (RowZ.below HK1.out.1 (below_laid wr (.cells #[.slice A15 fs.length c15] 57))) HN2.out.1 HK1.out.2.1 (fun i r hi => by obtain ⟨u, q1, q2, q3⟩ := HK1.out.2.2 i r hi; exact ⟨u, q1, q2, q3.below (below_laid wr (.cells #[.slice A15 fs.length c15] 57))⟩) (Nat.le_refl _) ⟨(SlAt.of_row HO.out.row).below (below_laid wr (.cells #[.slice A15 fs.length c15] 57)), HO.out.small⟩ rfl hg hr hob (Nat.le_trans HX16.out.below.size (below_laid wr (.cells #[.slice A15 fs.length c15] 57)).size)); have hbh' := (hg.block w10.heap.size (Nat.lt_of_lt_of_le (blk_lt HBH.out) (below_laid wr (.cells #[.slice A15 fs.length c15] 57)).size) (fun e => (RowZ.ne_type (RowZ.below HK1.out.1 (below_laid wr (.cells #[.slice A15 fs.length c15] 57))) (heap_below HBH.out (below_laid wr (.cells #[.slice A15 fs.length c15] 57))) (by decide)) e.symm)).trans (heap_below HBH.out (below_laid wr (.cells #[.slice A15 fs.length c15] 57))); have HBW : Hid (Below w10.heap.size w10 w') := hide ((below_next HX16.out.below (below_laid wr (.cells #[.slice A15 fs.length c15] 57))).grown hg (Nat.le_trans HX16.out.below.size (below_laid wr (.cells #[.slice A15 fs.length c15] 57)).size) HK1.out.2.1); have HBH4 := hide hbh'; have s1 : w'.cell? ⟨w10.heap.size, 1, none⟩ = some (.slice Ab nb cb) := (by rw [cell_block hbh']; rfl); have s2 : w'.frozen? ⟨w10.heap.size, 1, none⟩ = false := frozen_of_row _ _ _ _ _ hbh'; clear hr hg hob b1 hbh')
                    exact ⟨⟨⟨nb + 1, by omega, rfl, ⟨HBW.out.setCell (Nat.le_refl _) _, _, _, _, heap_setCell_same w' w10.heap.size 1 _ _ _ HBH4.out, by rw [HV.out.2.2.1, List.length_append, ← HN2.out.1]; rfl, by rw [HV.out.2.2.1]; exact HQ4.out.farA HBH4.out (Nat.le_refl _)⟩⟩⟩, by simp [intOf]; omega⟩
              · obtain rfl : v = l.length := by omega
                obtain ⟨Ab, nb, cb, hbh, hnb, how⟩ := HBX.out.box
                rw [List.take_of_length_le (by rw [HLE.out.st.len]; exact Nat.le_refl _)] at hnb how
                subst hnb
                have b0 : wr.cell? ⟨w10.heap.size, 0, none⟩ = some (.slice Awl L.length cwl) := by rw [cell_block hbh]; rfl
                have b1 : wr.cell? ⟨w10.heap.size, 1, none⟩ = some (.slice Ab R'.length cb) := by rw [cell_block hbh]; rfl
                have hl := heap_below HL10.out HBX.out.below
                have e0 : wr.cell? ⟨p9, 0, none⟩ = some (.slice Awl L.length cwl) := by rw [cell_block hl]; rfl
                have e1 : wr.cell? ⟨p9, 1, none⟩ = some (.slice A8 R'.length c8) := by rw [cell_block hl]; rfl
                have HBH := hide hbh
                have HOW := hide how
                have HLB := hide (HARV.out.labs.mono HARV.out.base)
                have HS1 := hide (same18_true wr.heap.size wr.heap.size (.slice Awl L.length cwl) (.slice Ab R'.length cb) (.slice Awl L.length cwl) (.slice A8 R'.length c8) L R' wr HLB.out (how.rws.mono HBX.out.below.size) HLB.out ((HRW.out.below HBX.out.below).mono (Nat.le_trans HS10.out HBX.out.below.size)))
                have HBX1 := hide (below_next HB10.out HBX.out.below)
                have HFS := hide (fun (wq : World) (hq : Below wr.heap.size wr wq) => first19_any wr.heap.size vl (.slice A2 l.length c2') (.slice Aq (rowsOf as_).length cq) (.slice Awl L.length cwl) (.slice Ab R'.length cb) (rowsOf as_) L R' wq (((HQ.out.1.below HBX1.out).below hq).mono HARV.out.base) (HLB.out.below hq) ((how.rws.below hq).mono HBX.out.below.size) (rowsOf_aor HOK.out.1 HLE.out.st.len) (fun r hr => Nat.le_trans (HLE.out.st.few r hr) (Nat.le_trans (namesU_len (rowsOf_ok HOK.out.1).nine) (by have : (rowsOf as_).length ≤ 64 := (rowsOf_ok HOK.out.1).few; omega))))
                clear hbh hl how
                go_upto_region 33 with (first | (go_at_call 17; refine HS1.out.mono ?_; rintro e w20 ⟨rfl, hb20⟩; have H20 := hide hb20; clear b0 b1 e0 e1; have c0 := (World.cell?_of_block ((below_next HBX1.out hb20).block _ HQ.out.2.1)).trans HQ.out.2.2.1; have c1 := (World.cell?_of_block ((below_next HBX1.out hb20).block _ HQ.out.2.1)).trans HQ.out.2.2.2.1; have c2 := (World.cell?_of_block ((below_next HBX1.out hb20).block _ HQ.out.2.1)).trans HQ.out.2.2.2.2; have b0 : w20.cell? ⟨w10.heap.size, 0, none⟩ = some (.slice Awl L.length cwl) := (by rw [cell_block (heap_below HBH.out hb20)]; rfl); have b1 : w20.cell? ⟨w10.heap.size, 1, none⟩ = some (.slice Ab R'.length cb) := (by rw [cell_block (heap_below HBH.out hb20)]; rfl); clear hb20) | (go_at_call 18; refine (HFS.out _ H20.out).mono ?_; rintro e w21 ⟨⟨z, rfl, hz⟩, hb21⟩; have hz0 : decide (z < 0) = true := decide_eq_true (hz.2 HLE.out.one); have H21 := hide (below_next H20.out hb21); have HAL := hide (alive_any w21); clear hb21 hz c0 c1 c2 b0 b1) | (go_at_call 8; refine HAL.out.mono ?_; rintro e w22 ⟨rfl, hb⟩; have H22 := hide (HARV.out.step (below_next H21.out hb)); clear hb))
                go_ret
                exact ⟨rfl, H22.out.kp.below⟩
end Go.Proofs.YthnbhcfpfbimgaaGreat
