/- Texts put together: RyGive. -/
import Derived.Test.YthnbhcfpfbimgaaGreatMl37
import Derived.Test.YthnbhcfpfbimgaaGreatMl25
/- The walk of chapter 22's reference give. (Printed by rygive.py.) -/
namespace Go.Proofs.YthnbhcfpfbimgaaGreat
open Go.RowKit
open Rw (El At Fld)
open Hd (elZ getV withV giveV eqEl)
abbrev StO (T : TypeId) (new : Array Value) (b : Nat) (w : World) (k1 k2 : Nat) : Prop :=
  ∀ (ops : Array Oper) (rest : List Oper) (op : Oper) (a : Act) (Q : Exit → Act → World → Prop), op.guard = none → op.op = .store T (.tmp k1) (.tmp k2) → a.eval (.tmp k1) = .pointer (some ⟨b, 0, none⟩) → a.eval (.tmp k2) = .agg new → wpList Tryz.prog ops Q rest (a.put op.dst undef) (w.setRow b new) → wpList Tryz.prog ops Q (op :: rest) a w
theorem stO {T : TypeId} {old new : Array Value} {b : Nat} {w : World} (k1 k2 : Nat) (hg : w.heap[b]? = some (.cells old T (0, 0))) (hi : (Tryz.prog.info? T).map (·.size) = some new.size) (ho : old.size = new.size) (h1 : new.all (·.oneCell') = true) : StO T new b w k1 k2 := fun _ _ _ _ _ h2 h3 h4 h5 h6 =>
  wpList_store_row h2 T (.tmp k1) (.tmp k2) h3 b new h4 h5 T old hg hi ho h1 h6
theorem Vls.setRow' {w : World} {B g : Nat} {T : TypeId} {v : Value} {l : List Vl} {old new : Array Value} (h : Vls w B v l) (hg : w.heap[g]? = some (.cells old T (0, 0))) (hB : B ≤ g) (hT : 62 ≠ T) : Vls (w.setRow g new) B v l := ⟨h.at_.setRow' hg hB hT, h.small⟩
theorem heap_row_ne {w : World} {g b : Nat} (new : Array Value) (h : b ≠ g) : (w.setRow g new).heap[b]? = w.heap[b]? := setRow_other w g b new h
theorem OwR.setRow' {w : World} {B C g : Nat} {v : Value} {R : List (List Vl)} {old new : Array Value} (h : OwR w B C v R) (hg : w.heap[g]? = some (.cells old 32 (0, 0))) (hB : B ≤ g) : OwR (w.setRow g new) B C v R := by
  obtain ⟨⟨vs, h1, h2, h3⟩⟩ := h
  refine ⟨⟨vs, RowZ.keep h1 fun b hb => heap_row_ne _ fun e => ?_, h2, fun i r hr => ?_⟩⟩
  · subst e
    exact RowZ.ne_type h1 hg (by decide) hb
  · obtain ⟨u, k1, k2, k3⟩ := h3 i r hr
    exact ⟨u, k1, k2, k3.setRow' hg hB (by decide)⟩
/-- What give answers. -/
structure RGv (w : World) (B : Nat) (vl : Value) (o : Option (List (List Vl) × Bool)) (e : Ending) (w' : World) : Prop where
  ex : ∃ A n cp c b, e = .returned (.tuple #[.agg #[vl, .slice A n cp], .bool c, .bool b]) ∧ Below w.heap.size w w' ∧ o.isSome = b ∧ ∀ p, o = some p → p.2 = c ∧ Rws w' B (.slice A n cp) p.1
/-- The boxes of give; the rows so far. -/
structure GvL (W : World) (B : Nat) (vl vr : Value) (R : List (List Vl)) (ov : Value) (wr : World) : Prop where
  below : Below W.heap.size W wr
  box : wr.heap[W.heap.size]? = some (.cells #[vl, vr] 32 (0, 0))
  res : wr.heap[W.heap.size + 1]? = some (.cells #[.slice none 0 0, .slice none 0 0] 32 (0, 0))
  out : ∃ q vo, ov = .pointer (some ⟨q, 0, none⟩) ∧ wr.heap[q]? = some (.cells #[vl, vo] 32 (0, 0)) ∧ OwR wr B W.heap.size vo R
theorem GvL.step {W : World} {B : Nat} {vl vr : Value} {R : List (List Vl)} {ov : Value} {wr w' : World} (h : GvL W B vl vr R ov wr) (hb : Below wr.heap.size wr w') : GvL W B vl vr R ov w' := by
  obtain ⟨q, vo, h1, h2, h3⟩ := h.out
  exact ⟨below_next h.below hb, heap_below h.box hb, heap_below h.res hb, q, vo, h1, heap_below h2 hb, h3.below hb⟩
theorem GvL.set {W : World} {B : Nat} {vl vr : Value} {R : List (List Vl)} {q g n c i : Nat} {u : Value} {l : List Vl} {wr : World} (hB : B ≤ W.heap.size) (h : GvL W B vl vr R (.pointer (some ⟨q, 0, none⟩)) wr) (hq : wr.heap[q]? = some (.cells #[vl, .slice (some ⟨g, 0, none⟩) n c] 32 (0, 0))) (hu : Vls wr B u l) (h1 : u.oneCell' = true) : GvL W B vl vr (R.set i l) (.pointer (some ⟨q, 0, none⟩)) (wr.setCell ⟨g, i, none⟩ u) := by
  obtain ⟨q', vo, e, h2, h3⟩ := h.out
  injection e with e
  injection e with e
  injection e with e
  subst e
  rw [h2] at hq
  injection hq with hq
  injection hq with hq
  obtain rfl : vo = .slice (some ⟨g, 0, none⟩) n c := by simpa using hq
  obtain ⟨⟨vs, k1, k2, k3⟩⟩ := h3
  obtain ⟨cur, hc⟩ := RowZ.block k1 (g := g) rfl
  have hne : ∀ {b : Nat} {cs : Array Value}, wr.heap[b]? = some (.cells cs 32 (0, 0)) → (wr.setCell ⟨g, i, none⟩ u).heap[b]? = some (.cells cs 32 (0, 0)) := fun {b cs} hb => by
    rw [Below.heap_setCell _ _ _ _ fun e => ?_]
    · exact hb
    · change b = g at e
      subst e
      rw [hb] at hc
      injection hc with hc
      injection hc with _ hc
      revert hc
      decide
  exact ⟨h.below.setCell (k2 g rfl) _, hne h.box, hne h.res, q, _, rfl, hne h2, OwR.set ⟨⟨vs, k1, k2, k3⟩⟩ hB hu h1⟩
theorem two_one {a v : Value} (h0 : a.oneCell' = true) (h : v.oneCell' = true) : (#[a, v] : Array Value).all (·.oneCell') = true := by simp [h0, h]
theorem asn_one {v : Value} (h : v.oneCell' = true) {A : Option Addr} {n c : Nat} : (#[.slice A n c, v] : Array Value).all (·.oneCell') = true := two_one rfl h
theorem GvL.new {W w0 wf : World} {B : Nat} {vl vr vo : Value} {R : List (List Vl)} {q : Nat} (h0 : Below W.heap.size W w0) (hx0 : w0.heap[W.heap.size]? = some (.cells #[vl, vr] 32 (0, 0))) (hx1 : w0.heap[W.heap.size + 1]? = some (.cells #[.slice none 0 0, .slice none 0 0] 32 (0, 0))) (hk : Below w0.heap.size w0 wf) (hq : wf.heap[q]? = some (.cells #[vl, vo] 32 (0, 0))) (hr : OwR wf B W.heap.size vo R) : GvL W B vl vr R (.pointer (some ⟨q, 0, none⟩)) wf :=
  ⟨below_next h0 hk, heap_below hx0 hk, heap_below hx1 hk, q, vo, rfl, hq, hr⟩
theorem app_copy {w wx : World} {B : Nat} {ops : Array Oper} {rest : List Oper} {o : Oper} {a : Act} {Q : Exit → Act → World → Prop} (hgd : o.guard = none) (s x : Operand) (ho : o.op = .call { callee := .builtin .append, args := #[s, x], argTypes := #[30, 30] }) {g c : Nat} {A : Option Addr} {R : List (List Vl)} (hs : a.eval s = .slice (some ⟨g, 0, none⟩) 0 0) (hx : a.eval x = .slice A R.length c)
    (hr : RowZ wx 57 1 (.slice (some ⟨g, 0, none⟩) 0 0) 0 []) (hR : Rws w B (.slice A R.length c) R) (hb : Below w.heap.size w wx) (hg : w.heap.size ≤ g) (hn : R.length ≤ 1000)
    (hK : ∀ A' c' w', OwR w' B w.heap.size (.slice A' R.length c') R → wx.grownBy w' (some g) → wpList Tryz.prog ops Q rest (a.put o.dst (.slice A' R.length c')) w') : wpList Tryz.prog ops Q (o :: rest) a wx := by
  obtain ⟨vs, k1, k2, k3, k4⟩ := rws_cells hR
  obtain ⟨i1, hj, hy0, hy1, hy2⟩ := info_vls
  refine app_rowz hgd s x 30 30 ho 57 i1 _ 1 24 Tryz.underlying30 hj hy0 hy1 hy2 rfl _ 0 [] hs hr _ R.length vs hx (SlAt.src Tryz.underlying30 (k1.below hb) k3) (by unfold maxLen; omega) (by omega) ?_
  intro A' c' w' hr' hg' hob
  rw [Nat.zero_add, List.nil_append] at hr'
  rw [Nat.zero_add] at hob ⊢
  have hbw : Below w.heap.size w w' := hb.grown hg' hb.size fun k hk => by
    simp only [Value.ownBlock, Option.some.injEq] at hk
    omega
  refine hK _ _ w' (OwR.copy (w0 := w) hr' (fun q hq => ?_) hbw fun i r hi => ?_) hg'
  · rcases hob with e | e
    · rw [e] at hq
      simp only [Value.ownBlock, Option.some.injEq] at hq
      omega
    · rw [e] at hq
      injection hq with hq
      have := hb.size
      omega
  · obtain ⟨u, e1, e2, e3⟩ := k4 i r hi
    exact ⟨u, e1, e2, e3⟩
/-- The loop of give. -/
structure GvR (W : World) (B : Nat) (vl vr : Value) (t : Int) (own other : List Vl) (R : List (List Vl)) (N : Nat) (ov cv kv : Value) (wr : World) : Prop where
  ex : ∃ (k : Nat) (c : Bool) (Rk : List (List Vl)), k ≤ other.length ∧ kv = .int .i64 (k : Nat) ∧ cv = .bool c ∧ giveV t own other R false = giveV t own (other.drop k) Rk c ∧ Rk.length = R.length ∧ (∀ r ∈ Rk, r.length ≤ N + k) ∧ GvL W B vl vr Rk ov wr
theorem set_le {Rk : List (List Vl)} {N k tn : Nat} {r : List Vl} {f : ByteArray} {e : El} (h : ∀ r ∈ Rk, r.length ≤ N + k) (hr : r.length ≤ N + k) : ∀ x ∈ Rk.set tn (withV r f e), x.length ≤ N + (k + 1) := fun x hx => by
  rcases List.mem_or_eq_of_mem_set hx with hx | rfl
  · have := h x hx; omega
  · have := Hd.withV_len r f e; omega
set_option maxRecDepth 100000 in
set_option maxHeartbeats 8000000 in
theorem give_any (B0 B : Nat) (t : Int) (vo vm vl vr : Value) (own other : List Vl) (L : List El) (R : List (List Vl)) (N : Nat) (w : World) (h1 : Vls w B0 vo own) (h2 : Vls w B0 vm other) (h3 : Lbs w B0 vl L) (h4 : Rws w B vr R) (hB0 : B0 ≤ w.heap.size) (hB : B ≤ w.heap.size) (ht : t < R.length) (hR : R.length ≤ 1000) (hN : ∀ r ∈ R, r.length ≤ N) (hN2 : N + other.length ≤ 1000000) :
    Calls Tryz.prog 56 #[.int .i64 t, vo, vm, .agg #[vl, vr]] w fun e w' => RGv w B vl (giveV t own other R false) e w' := by
  obtain ⟨Ao, co, rfl, _, _⟩ := SlAt.form h1.at_
  obtain ⟨Am, cm, rfl, _, hcm⟩ := SlAt.form h2.at_
  obtain ⟨Al, cl, rfl, _, _⟩ := SlAt.form h3.at_
  obtain ⟨vs, hs1, hs2, hs3, hs4⟩ := rws_cells h4
  obtain ⟨Ar, cr, rfl, _, _⟩ := h4.form
  obtain ⟨i1, hj, hy0, hy1, hy2⟩ := info_vls
  have hm9 : (other.length : Int) ≤ 9223372036854775807 := by unfold maxLen at hcm; omega
  have HO := hide (h1.mono hB0)
  have HM := hide (h2.mono hB0)
  have HA := hide (And.intro hs1 (And.intro hs2 (And.intro hs3 hs4)))
  have HT := hide ht
  have HN := hide (And.intro hN (And.intro hN2 hR))
  have HBB := hide hB
  have HA0 := hide h4
  clear h1 h2 h3 h4 hB hB0 hcm hs1 hs2 hs3 hs4 ht hN hN2 hR
  go_enter Tryz.func56, Tryz.ntmps56
  go_upto_region 2 with fail
  have HW0 := hide (below_next (below_laid w (.cells #[.slice Al L.length cl, .slice Ar R.length cr] 32)) (below_laid _ (.cells #[.slice none 0 0, .slice none 0 0] 32)))
  have HX0 := hide (heap_below (heap_alloc_last w (.cells #[.slice Al L.length cl, .slice Ar R.length cr] 32)) (below_laid _ (.cells #[.slice none 0 0, .slice none 0 0] 32)))
  have HX1 := hide (heap_two w (.cells #[.slice Al L.length cl, .slice Ar R.length cr] 32) (.cells #[.slice none 0 0, .slice none 0 0] 32))
  have HS0 : Hid (w.heap.size + 1 + 1 = ((w.alloc (.cells #[.slice Al L.length cl, .slice Ar R.length cr] 32)).alloc (.cells #[.slice none 0 0, .slice none 0 0] 32)).heap.size) := hide (by rw [World.size_alloc, World.size_alloc])
  generalize (w.alloc (Obj.cells #[.slice Al L.length cl, .slice Ar R.length cr] 32)).alloc (Obj.cells #[.slice none 0 0, .slice none 0 0] 32) = w0 at *
  have HC0 : Hid (w0.cell? ⟨w.heap.size, 0, none⟩ = some (.slice Al L.length cl) ∧ w0.cell? ⟨w.heap.size, 1, none⟩ = some (.slice Ar R.length cr)) := hide ⟨by rw [cell_block HX0.out]; rfl, by rw [cell_block HX0.out]; rfl⟩
  go_cut [12] from 16 to 23 (fun ov wx => GvL w B (.slice Al L.length cl) (.slice Ar R.length cr) R ov wx)
  case first =>
    have HSS : Hid (Kpt w0 w0.drew) := hide ⟨below_drewN (Below.refl _ _) 1⟩
    have HRR : Hid (Rws w B (.slice Ar R.length cr) R) := hide HA0.out
    refine wp_region_tree [0, 3, 1, 4] (.step 2 true (.step 5 true (.take 6 (.step 7 true (.step 8 true .done .done) .done)) (.step 7 true (.step 5 true (.take 6 (.step 8 true .done .done)) .done) .done)) (.step 7 true (.step 2 true (.step 5 true (.take 6 (.step 8 true .done .done)) .done) .done) .done)) (Kpt w0) (by kernel_rfl) (by kernel_rfl) (fun _ _ _ _ _ h => h) HSS.out ?_
    intro hne
    simp only [picks, List.filterMap_cons, List.filterMap_nil, List.getElem?_cons_zero, List.getElem?_cons_succ]
    have hu0 : ∀ u : HoldW (Kpt w0), u.w.cell? ⟨w.heap.size, 0, none⟩ = some (.slice Al L.length cl) := fun u => u.ok.cell HC0.out.1
    have hu1 : ∀ u : HoldW (Kpt w0), u.w.cell? ⟨w.heap.size, 1, none⟩ = some (.slice Ar R.length cr) := fun u => u.ok.cell HC0.out.2
    iterate 4 (refine wpHeld_step (fun K hK => ?_); go_simp; refine hK _ ?_; clear hK K)
    refine wpHeld_nil ?_
    have HNE := hide hne
    clear hu0 hu1 hne
    generalize w0.drew = wd at *
    have HWD := hide (below_next HW0.out HSS.out.below)
    refine wpTree_both rfl (fun K hK => ?_) (wpTree_step rfl fun K hK => ?_)
    · go_wp2_with fail
      have H1 : Hid (Kpt w0 (wd.alloc (.cells #[] 57)) ∧ Below w.heap.size w (wd.alloc (.cells #[] 57)) ∧ RowZ (wd.alloc (.cells #[] 57)) 57 1 (.slice (some ⟨wd.heap.size, 0, none⟩) 0 0) 0 [] ∧ wd.heap.size < (wd.alloc (.cells #[] 57)).heap.size) := hide ⟨HSS.out.step (below_laid _ _), below_next HWD.out (below_laid _ _), RowZ.laid wd 57 1 0 [] rfl (Nat.zero_le _), by rw [World.size_alloc]; omega⟩
      generalize wd.alloc (Obj.cells #[] 57) = w1 at *
      refine chainF (fun _ => H1.out.1) (hK _ _ ?_)
      clear hK K
      refine wpTree_both rfl (fun K hK => ?_) (wpTree_step rfl fun K hK => ?_)
      · refine app_copy (w := w) rfl (.tmp 18) (.tmp 20) rfl (g := wd.heap.size) (A := Ar) (c := cr) (R := R) rfl rfl H1.out.2.2.1 HRR.out H1.out.2.1 HWD.out.size HN.out.2.2 ?_
        intro Av cv w' how hgr
        have HVO := hide (And.intro how hgr)
        clear how hgr
        go_wp2_with fail
        have H2 : Hid (Kpt w0 w') := hide ⟨H1.out.1.below.grown HVO.out.2 H1.out.1.below.size (fun k hk => by injection hk with hk; rw [← hk]; exact HSS.out.below.size)⟩
        refine chainF (fun _ => H2.out) (hK _ _ ?_)
        clear hK K
        have hne := HNE.out
        refine wpTree_take rfl (fun K hK => ?_)
        go_simp
        refine hK _ ?_
        clear hK K hne
        refine wpTree_step rfl fun K hK => ?_
        go_wp2_with fail
        refine chainF (fun _ => H2.out.step (below_laid _ _)) (hK _ _ ?_)
        clear hK K
        refine wpTree_step rfl fun K hK => ?_
        have HSA := hide (stA (T := 32) (w := w') (new := #[.slice Al L.length cl, (.slice Av R.length cv)]) 12 22 asn_info (asn_one rfl))
        go_wp2_with (with_reducible refine HSA.out _ _ _ _ _ _ rfl rfl rfl rfl (by with_unfolding_all rfl) ?_)
        refine chainF (fun _ => H2.out.step (below_laid _ _)) (hK _ _ ?_)
        clear hK K
        refine wpTree_end ?_
        go_wp2_with fail
        go_meet
        exact GvL.new HW0.out HX0.out HX1.out (H2.out.step (below_laid _ _)).below (heap_alloc_last _ _) (HVO.out.1.below (below_laid _ _))
      · go_wp2_with fail
        have H3 : Hid (Kpt w0 (w1.alloc (.cells #[.slice none 0 0, .slice none 0 0] 32)) ∧ Below w.heap.size w (w1.alloc (.cells #[.slice none 0 0, .slice none 0 0] 32)) ∧ RowZ (w1.alloc (.cells #[.slice none 0 0, .slice none 0 0] 32)) 57 1 (.slice (some ⟨wd.heap.size, 0, none⟩) 0 0) 0 [] ∧ (w1.alloc (.cells #[.slice none 0 0, .slice none 0 0] 32)).heap[w1.heap.size]? = some (.cells #[.slice none 0 0, .slice none 0 0] 32 (0, 0))) := hide ⟨H1.out.1.step (below_laid _ _), below_next H1.out.2.1 (below_laid _ _), RowZ.below H1.out.2.2.1 (below_laid _ _), heap_alloc_last _ _⟩
        generalize w1.alloc (Obj.cells #[.slice none 0 0, .slice none 0 0] 32) = w2 at *
        refine chainF (fun _ => H3.out.1) (hK _ _ ?_)
        clear hK K
        refine wpTree_step rfl fun K hK => ?_
        refine app_copy (w := w) rfl (.tmp 18) (.tmp 20) rfl (g := wd.heap.size) (A := Ar) (c := cr) (R := R) rfl rfl H3.out.2.2.1 HRR.out H3.out.2.1 HWD.out.size HN.out.2.2 ?_
        intro Av cv w' how hgr
        have HVO := hide (And.intro how hgr)
        clear how hgr
        go_wp2_with fail
        have H2 : Hid (Kpt w0 w') := hide ⟨H3.out.1.below.grown HVO.out.2 H3.out.1.below.size (fun k hk => by injection hk with hk; rw [← hk]; exact HSS.out.below.size)⟩
        have HQ : Hid (w'.heap[w1.heap.size]? = some (.cells #[.slice none 0 0, .slice none 0 0] 32 (0, 0))) := hide ((HVO.out.2.block _ (blk_lt H3.out.2.2.2) (fun e => by injection e with e; have := H1.out.2.2.2; omega)).trans H3.out.2.2.2)
        have HSO := hide (stO (T := 32) (w := w') (b := w1.heap.size) (new := #[.slice Al L.length cl, (.slice Av R.length cv)]) 12 22 HQ.out asn_info rfl (asn_one rfl))
        refine chainF (fun _ => H2.out) (hK _ _ ?_)
        clear hK K
        have hne := HNE.out
        refine wpTree_take rfl (fun K hK => ?_)
        go_simp
        refine hK _ ?_
        clear hK K hne
        refine wpTree_step rfl fun K hK => ?_
        go_wp2_with (with_reducible refine HSO.out _ _ _ _ _ rfl rfl rfl rfl ?_)
        have H5 : Hid (Kpt w0 (w'.setRow w1.heap.size #[.slice Al L.length cl, (.slice Av R.length cv)])) := hide ⟨below_setRow H2.out.below (Nat.le_trans HSS.out.below.size (Nat.le_of_lt H1.out.2.2.2)) _⟩
        refine chainF (fun _ => H5.out) (hK _ _ ?_)
        clear hK K
        refine wpTree_end ?_
        go_wp2_with fail
        go_meet
        exact GvL.new HW0.out HX0.out HX1.out H5.out.below (setRow_heap w' w1.heap.size #[.slice none 0 0, .slice none 0 0] #[.slice Al L.length cl, (.slice Av R.length cv)] 32 (0, 0) HQ.out) (HVO.out.1.setRow' HQ.out (Nat.le_trans HBB.out (Nat.le_trans HWD.out.size (Nat.le_of_lt H1.out.2.2.2))))
    · go_wp2_with fail
      have H1 : Hid (Kpt w0 (wd.alloc (.cells #[.slice none 0 0, .slice none 0 0] 32)) ∧ Below w.heap.size w (wd.alloc (.cells #[.slice none 0 0, .slice none 0 0] 32)) ∧ (wd.alloc (.cells #[.slice none 0 0, .slice none 0 0] 32)).heap[wd.heap.size]? = some (.cells #[.slice none 0 0, .slice none 0 0] 32 (0, 0)) ∧ wd.heap.size < (wd.alloc (.cells #[.slice none 0 0, .slice none 0 0] 32)).heap.size) := hide ⟨HSS.out.step (below_laid _ _), below_next HWD.out (below_laid _ _), heap_alloc_last _ _, by rw [World.size_alloc]; omega⟩
      generalize wd.alloc (Obj.cells #[.slice none 0 0, .slice none 0 0] 32) = w1 at *
      refine chainF (fun _ => H1.out.1) (hK _ _ ?_)
      clear hK K
      refine wpTree_step rfl fun K hK => ?_
      go_wp2_with fail
      have H3 : Hid (Kpt w0 (w1.alloc (.cells #[] 57)) ∧ Below w.heap.size w (w1.alloc (.cells #[] 57)) ∧ RowZ (w1.alloc (.cells #[] 57)) 57 1 (.slice (some ⟨w1.heap.size, 0, none⟩) 0 0) 0 [] ∧ (w1.alloc (.cells #[] 57)).heap[wd.heap.size]? = some (.cells #[.slice none 0 0, .slice none 0 0] 32 (0, 0))) := hide ⟨H1.out.1.step (below_laid _ _), below_next H1.out.2.1 (below_laid _ _), RowZ.laid w1 57 1 0 [] rfl (Nat.zero_le _), heap_below H1.out.2.2.1 (below_laid _ _)⟩
      generalize w1.alloc (Obj.cells #[] 57) = w2 at *
      refine chainF (fun _ => H3.out.1) (hK _ _ ?_)
      clear hK K
      refine wpTree_step rfl fun K hK => ?_
      refine app_copy (w := w) rfl (.tmp 18) (.tmp 20) rfl (g := w1.heap.size) (A := Ar) (c := cr) (R := R) rfl rfl H3.out.2.2.1 HRR.out H3.out.2.1 H1.out.2.1.size HN.out.2.2 ?_
      intro Av cv w' how hgr
      have HVO := hide (And.intro how hgr)
      clear how hgr
      go_wp2_with fail
      have H2 : Hid (Kpt w0 w') := hide ⟨H3.out.1.below.grown HVO.out.2 H3.out.1.below.size (fun k hk => by injection hk with hk; rw [← hk]; exact H1.out.1.below.size)⟩
      have HQ : Hid (w'.heap[wd.heap.size]? = some (.cells #[.slice none 0 0, .slice none 0 0] 32 (0, 0))) := hide ((HVO.out.2.block _ (blk_lt H3.out.2.2.2) (fun e => by injection e with e; have := H1.out.2.2.2; omega)).trans H3.out.2.2.2)
      have HSO := hide (stO (T := 32) (w := w') (b := wd.heap.size) (new := #[.slice Al L.length cl, (.slice Av R.length cv)]) 12 22 HQ.out asn_info rfl (asn_one rfl))
      refine chainF (fun _ => H2.out) (hK _ _ ?_)
      clear hK K
      have hne := HNE.out
      refine wpTree_take rfl (fun K hK => ?_)
      go_simp
      refine hK _ ?_
      clear hK K hne
      refine wpTree_step rfl fun K hK => ?_
      go_wp2_with (with_reducible refine HSO.out _ _ _ _ _ rfl rfl rfl rfl ?_)
      have H5 : Hid (Kpt w0 (w'.setRow wd.heap.size #[.slice Al L.length cl, (.slice Av R.length cv)])) := hide ⟨below_setRow H2.out.below (HSS.out.below.size) _⟩
      refine chainF (fun _ => H5.out) (hK _ _ ?_)
      clear hK K
      refine wpTree_end ?_
      go_wp2_with fail
      go_meet
      exact GvL.new HW0.out HX0.out HX1.out H5.out.below (setRow_heap w' wd.heap.size #[.slice none 0 0, .slice none 0 0] #[.slice Al L.length cl, (.slice Av R.length cv)] 32 (0, 0) HQ.out) (HVO.out.1.setRow' HQ.out (Nat.le_trans HBB.out (HWD.out.size)))
  case rest =>
    obtain ⟨q, vo0, hpp, _, _⟩ := hcut.out
    subst hpp
    have HG := hide hcut
    clear hcut HA0 HX0 HX1 HC0 HW0 HA HS0
    go_wp2_with fail
    go_loopw [11, 13] (fun cv kv wr => GvR w B (.slice Al L.length cl) (.slice Ar R.length cr) t own other R N (.pointer (some ⟨q, 0, none⟩)) cv kv wr) (fun _ kv _ => other.length - (intOf kv).toNat)
    case atStart => exact ⟨⟨0, false, R, Nat.zero_le _, rfl, rfl, rfl, rfl, fun r hr => HN.out.1 r hr, HG.out⟩⟩
    case round =>
      obtain ⟨⟨k, c, Rk, hk, rfl, rfl, hgv, hlen, hrl, hg⟩⟩ := hrel
      clear HG
      have HG := hide hg
      have HL := hide (And.intro hlen hrl)
      clear hg hlen hrl
      by_cases hlt : k < other.length
      · have i0 : (k : Int) < other.length := by omega
        obtain ⟨bm, om, cm', e, hbm, hrm⟩ := SlAt.elem (HM.out.at_.below HG.out.below) (fun _ => rfl) hlt
        cases e
        have hsm := HM.out.small _ (List.getElem_mem hlt)
        rw [List.drop_eq_getElem_cons hlt] at hgv
        generalize other[k] = x at *
        have HSM := hide hsm
        clear hsm
        have g0 : wr.cell? ⟨bm, om + k * 9, none⟩ = some (.string x.name) := hrm 0 _ rfl
        have hr8 : wr.rangeAt bm (om + k * 9 + 1) (elV x.el) := fun j u hu => by
          have := hrm (j + 1) u (by simpa [vlV] using hu)
          rwa [Nat.add_comm j 1, ← Nat.add_assoc] at this
        have HR8 := hide (And.intro hr8 (And.intro hbm g0))
        clear hrm hr8 hbm
        have HGT := hide (get_any w.heap.size (.slice Ao own.length co) own x.name wr (HO.out.below HG.out.below))
        have hgv1 : ∀ e, getV own x.name = some e → eqEl e x.el = true → giveV t own other R false = giveV t own (other.drop (k + 1)) Rk c := fun e h1 h2 => by
          rw [hgv]; simp only [giveV, h1, h2, if_pos]
        have hgv2 : ∀ e, getV own x.name = some e → eqEl e x.el = false → giveV t own other R false = none := fun e h1 h2 => by
          rw [hgv]; simp only [giveV, h1, h2, Bool.false_eq_true, if_false]
        have hgv3 : getV own x.name = none → t < 0 → giveV t own other R false = none := fun h1 h2 => by
          rw [hgv]; simp only [giveV, h1, if_pos h2]
        have hgv4 : getV own x.name = none → ¬ t < 0 → giveV t own other R false = giveV t own (other.drop (k + 1)) (Rk.modify t.toNat fun l => withV l x.name x.el) true := fun h1 h2 => by
          rw [hgv]; simp only [giveV, h1, if_neg h2]
        have HGV := hide (And.intro hgv1 (And.intro hgv2 (And.intro hgv3 hgv4)))
        clear hgv hgv1 hgv2 hgv3 hgv4
        generalize x.name = nm at *
        generalize x.el = xe at *
        cases hgo : getV own nm with
        | some e =>
          have HGO := hide hgo
          rw [hgo] at HGT
          clear hgo
          go_upto_region 7 with (first | (with_reducible refine HST.out _ _ _ _ _ _ rfl rfl rfl rfl (by with_unfolding_all rfl) ?_) | (go_at_call 54; refine HGT.out.mono ?_; rintro e4 w4 ⟨⟨z, b, rfl, hz, hb⟩, hb4⟩; obtain rfl : e = z := hz; have hb : true = b := hb; subst hb; have H4 := hide (HG.out.step hb4); have HB4 := hide hb4; clear hb4; have HST := hide (stA (T := 48) (w := w4) (new := #[.int .u64 e.e0, .int .u64 e.e1, .int .u64 e.e2, .int .u64 e.e3, .int .u64 e.e4, .int .u64 e.e5, .int .u64 e.e6, .int .u64 e.e7]) 14 37 el_info (by simp [Value.oneCell']))))
          clear g0
          have HH5 := hide (heap_alloc_last w4 (.cells #[.int .u64 e.e0, .int .u64 e.e1, .int .u64 e.e2, .int .u64 e.e3, .int .u64 e.e4, .int .u64 e.e5, .int .u64 e.e6, .int .u64 e.e7] 48))
          have HB5 := hide (below_laid w4 (.cells #[.int .u64 e.e0, .int .u64 e.e1, .int .u64 e.e2, .int .u64 e.e3, .int .u64 e.e4, .int .u64 e.e5, .int .u64 e.e6, .int .u64 e.e7] 48))
          have H5 := hide (H4.out.step HB5.out)
          have HR5 := hide (range_below HR8.out.1 HR8.out.2.1 (below_next HB4.out HB5.out))
          have HL5 := hide (Nat.lt_of_lt_of_le HR8.out.2.1 (Nat.le_trans HB4.out.size HB5.out.size))
          clear HST HGT HB4 HB5 H4 HR8
          generalize w4.alloc (Obj.cells #[.int .u64 e.e0, .int .u64 e.e1, .int .u64 e.e2, .int .u64 e.e3, .int .u64 e.e4, .int .u64 e.e5, .int .u64 e.e6, .int .u64 e.e7] 48) = w5 at *
          generalize w4.heap.size = p5 at *
          go_upto_region 8 with fail
          by_cases heq : eqEl e xe = true
          · have HE1 := hide (HGV.out.1 e HGO.out heq)
            obtain rfl : e = xe := Hd.eqEl_iff.1 heq
            clear heq
            have HSS : Hid (Kpt w5 w5.drew) := hide ⟨below_drewN (Below.refl _ _) 1⟩
            refine wp_region_tree [0, 1, 2, 3, 4, 5, 6] .done (Kpt w5) (by kernel_rfl) (by kernel_rfl) (fun _ _ _ _ _ h => h) HSS.out ?_
            intro hne
            simp only [picks, List.filterMap_cons, List.filterMap_nil, List.getElem?_cons_zero, List.getElem?_cons_succ]
            refine wpHeld_step (fun K hK => ?_)
            rw [if_pos (by with_unfolding_all rfl)]
            refine held_mid (b := p5) (o := 0) (cs := [.int .u64 e.e0, .int .u64 e.e1, .int .u64 e.e2, .int .u64 e.e3, .int .u64 e.e4, .int .u64 e.e5, .int .u64 e.e6, .int .u64 e.e7]) rfl rfl (by rintro _ ⟨u, rfl⟩; exact u.ok.range (range_block HH5.out 0 _ fun j x hx => by rw [Nat.zero_add]; simpa using hx) (blk_lt HH5.out)) Tryz.underlying48 rfl el_info (hK _ ?_)
            clear hK K
            iterate 4 (refine wpHeld_step (fun K hK => ?_); go_simp; refine hK _ ?_; clear hK K)
            refine wpHeld_step (fun K hK => ?_)
            rw [if_pos (by with_unfolding_all rfl)]
            refine held_mid (b := bm) (o := om + k * 9 + 1) (cs := [.int .u64 e.e0, .int .u64 e.e1, .int .u64 e.e2, .int .u64 e.e3, .int .u64 e.e4, .int .u64 e.e5, .int .u64 e.e6, .int .u64 e.e7]) rfl rfl (by rintro _ ⟨u, rfl⟩; exact u.ok.range HR5.out HL5.out) Tryz.underlying48 rfl el_info (hK _ ?_)
            clear hK K
            refine wpHeld_step (fun K hK => ?_)
            go_simp
            refine hK _ ?_
            clear hK K
            refine wpHeld_nil ?_
            clear hne
            refine wpTree_end ?_
            have H6 := hide (H5.out.step HSS.out.below)
            generalize w5.drew = w6 at *
            go_wp2_with fail
            exact ⟨⟨⟨k + 1, c, Rk, by omega, rfl, rfl, HE1.out, HL.out.1, fun r hr => by have := HL.out.2 r hr; omega, H6.out⟩⟩, by simp [intOf]; omega⟩
          · have heq : eqEl e xe = false := by simpa using heq
            have HE2 := hide (HGV.out.2.1 e HGO.out heq)
            have he8 : (e.e0 == xe.e0 && e.e1 == xe.e1 && e.e2 == xe.e2 && e.e3 == xe.e3 && e.e4 == xe.e4 && e.e5 == xe.e5 && e.e6 == xe.e6 && e.e7 == xe.e7) = false := heq
            clear heq
            have HSS : Hid (Kpt w5 w5.drew) := hide ⟨below_drewN (Below.refl _ _) 1⟩
            refine wp_region_tree [0, 1, 2, 3, 4, 5, 6] .done (Kpt w5) (by kernel_rfl) (by kernel_rfl) (fun _ _ _ _ _ h => h) HSS.out ?_
            intro hne
            simp only [picks, List.filterMap_cons, List.filterMap_nil, List.getElem?_cons_zero, List.getElem?_cons_succ]
            refine wpHeld_step (fun K hK => ?_)
            rw [if_pos (by with_unfolding_all rfl)]
            refine held_mid (b := p5) (o := 0) (cs := [.int .u64 e.e0, .int .u64 e.e1, .int .u64 e.e2, .int .u64 e.e3, .int .u64 e.e4, .int .u64 e.e5, .int .u64 e.e6, .int .u64 e.e7]) rfl rfl (by rintro _ ⟨u, rfl⟩; exact u.ok.range (range_block HH5.out 0 _ fun j x hx => by rw [Nat.zero_add]; simpa using hx) (blk_lt HH5.out)) Tryz.underlying48 rfl el_info (hK _ ?_)
            clear hK K
            iterate 4 (refine wpHeld_step (fun K hK => ?_); go_simp; refine hK _ ?_; clear hK K)
            refine wpHeld_step (fun K hK => ?_)
            rw [if_pos (by with_unfolding_all rfl)]
            refine held_mid (b := bm) (o := om + k * 9 + 1) (cs := [.int .u64 xe.e0, .int .u64 xe.e1, .int .u64 xe.e2, .int .u64 xe.e3, .int .u64 xe.e4, .int .u64 xe.e5, .int .u64 xe.e6, .int .u64 xe.e7]) rfl rfl (by rintro _ ⟨u, rfl⟩; exact u.ok.range HR5.out HL5.out) Tryz.underlying48 rfl el_info (hK _ ?_)
            clear hK K
            refine wpHeld_step (fun K hK => ?_)
            go_simp
            refine hK _ ?_
            clear hK K
            refine wpHeld_nil ?_
            clear hne
            refine wpTree_end ?_
            clear he8
            have HQ := hide (H5.out.step HSS.out.below)
            generalize w5.drew = w6 at *
            go_upto_region 9 with fail
            have HSO := hide (stO (T := 32) (w := w6) (b := w.heap.size + 1) (new := #[.slice Al L.length cl, .slice Ar R.length cr]) 8 47 HQ.out.res asn_info rfl (asn_one rfl))
            have HQ2 := hide HQ.out.res
            have b0 : w6.cell? ⟨w.heap.size, 0, none⟩ = some (.slice Al L.length cl) := by rw [cell_block HQ.out.box]; rfl
            have b1 : w6.cell? ⟨w.heap.size, 1, none⟩ = some (.slice Ar R.length cr) := by rw [cell_block HQ.out.box]; rfl
            go_wp2_with (with_reducible refine HSO.out _ _ _ _ _ rfl rfl rfl rfl ?_)
            refine bodyPost_ret (results_cell_two Tryz.results56 rfl (ld_asn (setRow_heap w6 _ _ _ _ _ HQ2.out))) rfl ⟨⟨_, _, _, _, _, rfl, below_setRow HQ.out.below (Nat.le_succ _) _, by rw [HE2.out]; rfl, fun p hp => by rw [HE2.out] at hp; cases hp⟩⟩
        | none =>
          have HGO := hide hgo
          rw [hgo] at HGT
          clear hgo
          go_upto_region 7 with (first | (with_reducible refine HST.out _ _ _ _ _ _ rfl rfl rfl rfl (by with_unfolding_all rfl) ?_) | (go_at_call 54; refine HGT.out.mono ?_; rintro e4 w4 ⟨⟨z, b, rfl, hz, hb⟩, hb4⟩; have hb : false = b := hb; subst hb; have H4 := hide (HG.out.step hb4); have HB4 := hide hb4; clear hb4 hz; have HST := hide (stA (T := 48) (w := w4) (new := #[.int .u64 z.e0, .int .u64 z.e1, .int .u64 z.e2, .int .u64 z.e3, .int .u64 z.e4, .int .u64 z.e5, .int .u64 z.e6, .int .u64 z.e7]) 14 37 el_info (by simp [Value.oneCell']))))
          clear g0
          have HB5 := hide (below_laid w4 (.cells #[.int .u64 z.e0, .int .u64 z.e1, .int .u64 z.e2, .int .u64 z.e3, .int .u64 z.e4, .int .u64 z.e5, .int .u64 z.e6, .int .u64 z.e7] 48))
          have H5 := hide (H4.out.step HB5.out)
          have HR5 := hide (range_below HR8.out.1 HR8.out.2.1 (below_next HB4.out HB5.out))
          have HL5 := hide (Nat.lt_of_lt_of_le HR8.out.2.1 (Nat.le_trans HB4.out.size HB5.out.size))
          have HN5 := hide ((World.cell?_of_block ((below_next HB4.out HB5.out).block _ HR8.out.2.1)).trans HR8.out.2.2)
          clear HST HGT HB4 HB5 H4 HR8
          generalize w4.alloc (Obj.cells #[.int .u64 z.e0, .int .u64 z.e1, .int .u64 z.e2, .int .u64 z.e3, .int .u64 z.e4, .int .u64 z.e5, .int .u64 z.e6, .int .u64 z.e7] 48) = w5 at *
          generalize w4.heap.size = p5 at *
          by_cases ht0 : t < 0
          · have HE3 := hide (HGV.out.2.2.1 HGO.out (by omega))
            have d0 : decide (t < 0) = true := decide_eq_true ht0
            have HQ := H5
            clear ht0
            go_upto_region 11 with fail
            have HSO := hide (stO (T := 32) (w := w5) (b := w.heap.size + 1) (new := #[.slice Al L.length cl, .slice Ar R.length cr]) 8 50 HQ.out.res asn_info rfl (asn_one rfl))
            have HQ2 := hide HQ.out.res
            have b0 : w5.cell? ⟨w.heap.size, 0, none⟩ = some (.slice Al L.length cl) := by rw [cell_block HQ.out.box]; rfl
            have b1 : w5.cell? ⟨w.heap.size, 1, none⟩ = some (.slice Ar R.length cr) := by rw [cell_block HQ.out.box]; rfl
            go_wp2_with (with_reducible refine HSO.out _ _ _ _ _ rfl rfl rfl rfl ?_)
            refine bodyPost_ret (results_cell_two Tryz.results56 rfl (ld_asn (setRow_heap w5 _ _ _ _ _ HQ2.out))) rfl ⟨⟨_, _, _, _, _, rfl, below_setRow HQ.out.below (Nat.le_succ _) _, by rw [HE3.out]; rfl, fun p hp => by rw [HE3.out] at hp; cases hp⟩⟩
          · have HE4 := hide (HGV.out.2.2.2 HGO.out (by omega))
            have d0 : decide (t < 0) = false := decide_eq_false ht0
            obtain ⟨tn, rfl⟩ := Int.eq_ofNat_of_zero_le (by omega : 0 ≤ t)
            have htl : tn < Rk.length := by have := HT.out; have := HL.out.1; omega
            obtain ⟨q', vo, hqe, hqh, how⟩ := H5.out.out
            have hqe : q = q' := by injection hqe with h; injection h with h; injection h
            subst hqe
            obtain ⟨g, c1, u, hvo, hge, hgl, hcu, hfu, hou, hvu⟩ := how.at htl
            subst hvo
            have HRL := hide (HL.out.2 _ (List.getElem_mem htl))
            have HE5 := hide (HE4.out.trans (by rw [Int.toNat_natCast, modify_is_set htl]))
            clear HE4
            generalize Rk[tn] = r at *
            obtain ⟨Au, cu, rfl, _, _⟩ := SlAt.form hvu.at_
            have HC := hide (And.intro (show w5.cell? ⟨q, 1, none⟩ = some (.slice (some ⟨g, 0, none⟩) Rk.length c1) by rw [cell_block hqh]; rfl) (And.intro hcu (And.intro hfu (And.intro hvu (And.intro hqh hge)))))
            have HTL := hide htl
            clear hcu hfu hvu hqh hge hgl hou how ht0 htl
            go_upto_region 12 with fail
            clear d0
            have HSS : Hid (Kpt w5 w5.drew) := hide ⟨below_drewN (Below.refl _ _) 1⟩
            have HWI := hide (fun (wq : World) (hq : Kpt w5 wq) => with_any B (.slice Au r.length cu) r nm xe wq (HC.out.2.2.2.1.below hq.below) HSM.out (by have := HRL.out; have := HN.out.2.1; omega))
            refine wp_region_tree [0, 2, 3, 5, 8, 9, 13, 14, 1, 4, 10, 15, 6, 11, 16, 7, 12, 17] (.step 18 true (.take 19 (.step 20 false .done .done)) .done) (Kpt w5) (by kernel_rfl) (by kernel_rfl) (fun _ _ _ _ _ h => h) HSS.out ?_
            intro hne
            simp only [picks, List.filterMap_cons, List.filterMap_nil, List.getElem?_cons_zero, List.getElem?_cons_succ]
            have hu1 : ∀ u : HoldW (Kpt w5), u.w.cell? ⟨q, 1, none⟩ = some (.slice (some ⟨g, 0, none⟩) Rk.length c1) := fun u => u.ok.cell HC.out.1
            have hu2 : ∀ u : HoldW (Kpt w5), u.w.cell? ⟨g, tn, none⟩ = some (.slice Au r.length cu) := fun u => u.ok.cell HC.out.2.1
            have hu3 : ∀ u : HoldW (Kpt w5), u.w.cell? ⟨bm, om + k * 9, none⟩ = some (.string nm) := fun u => u.ok.cell HN5.out
            have i9 : (tn : Int) < Rk.length := by have := HTL.out; omega
            iterate 17 (refine wpHeld_step (fun K hK => ?_); go_simp; refine hK _ ?_; clear hK K)
            refine wpHeld_step (fun K hK => ?_)
            rw [if_pos (by with_unfolding_all rfl)]
            refine held_mid (b := bm) (o := om + k * 9 + 1) (cs := [.int .u64 xe.e0, .int .u64 xe.e1, .int .u64 xe.e2, .int .u64 xe.e3, .int .u64 xe.e4, .int .u64 xe.e5, .int .u64 xe.e6, .int .u64 xe.e7]) rfl rfl (by rintro _ ⟨u, rfl⟩; exact u.ok.range HR5.out HL5.out) Tryz.underlying48 rfl el_info (hK _ ?_)
            clear hK K
            refine wpHeld_nil ?_
            have HNE := hide hne
            clear hne hu1 hu2 hu3
            refine wpTree_step rfl fun K hK => ?_
            go_wp2_with (go_at_call 75; refine (HWI.out _ HSS.out).mono ?_; rintro e7 w7 ⟨⟨v7, rfl, hv7⟩⟩; obtain ⟨A7, c7, rfl, _, _⟩ := RowZ.form hv7.row; have H7 := hide (And.intro (HSS.out.step hv7.below) (And.intro (SlAt.of_row (B := B) hv7.row) hv7.small)); clear hv7)
            refine chainF (fun _ => H7.out.1) (hK _ _ ?_)
            clear hK K
            have hne := HNE.out
            refine wpTree_take rfl (fun K hK => ?_)
            go_simp
            refine hK _ ?_
            clear hK K hne
            refine wpTree_step rfl fun K hK => ?_
            have s1 : w7.cell? ⟨g, tn, none⟩ = some (.slice Au r.length cu) := H7.out.1.cell HC.out.2.1
            have s2 : w7.frozen? ⟨g, tn, none⟩ = false := (World.frozen?_of_block (H7.out.1.below.block _ (World.block_lt_of_cell? w5 _ HC.out.2.1))).trans HC.out.2.2.1
            have HG7 := hide (GvL.set (i := tn) HBB.out (H5.out.step H7.out.1.below) (heap_below HC.out.2.2.2.2.1 H7.out.1.below) ⟨H7.out.2.1, H7.out.2.2⟩ rfl)
            go_wp2_with fail
            refine chainF (fun h => by cases h) (hK _ _ ?_)
            clear hK K s1 s2
            refine wpTree_end ?_
            generalize w7.setCell ⟨g, tn, none⟩ (.slice A7 (withV r nm xe).length c7) = w8 at *
            go_wp2_with fail
            exact ⟨⟨⟨k + 1, true, Rk.set tn (withV r nm xe), by omega, rfl, rfl, HE5.out, by rw [List.length_set]; exact HL.out.1, set_le HL.out.2 HRL.out, HG7.out⟩⟩, by simp [intOf]; omega⟩
      · obtain rfl : k = other.length := by omega
        obtain ⟨q', vo, hqe, hqh, how⟩ := HG.out.out
        have hqe : q = q' := by injection hqe with h; injection h with h; injection h
        subst hqe
        obtain ⟨Av, cv, rfl, _, _⟩ := how.form
        have HHW := hide how
        have HE6 : Hid (giveV t own other R false = some (Rk, c)) := hide (by rw [hgv, List.drop_length]; rfl)
        have b0 : wr.cell? ⟨q, 0, none⟩ = some (.slice Al L.length cl) := by rw [cell_block hqh]; rfl
        have b1 : wr.cell? ⟨q, 1, none⟩ = some (.slice Av Rk.length cv) := by rw [cell_block hqh]; rfl
        have HSO := hide (stO (T := 32) (w := wr) (b := w.heap.size + 1) (new := #[.slice Al L.length cl, .slice Av Rk.length cv]) 8 71 HG.out.res asn_info rfl (asn_one rfl))
        clear hgv hqh how
        go_wp2_with (with_reducible refine HSO.out _ _ _ _ _ rfl rfl rfl rfl ?_)
        refine bodyPost_ret (results_cell_two Tryz.results56 rfl (ld_asn (setRow_heap wr _ _ _ _ _ HG.out.res))) rfl ⟨⟨_, _, _, _, _, rfl, below_setRow HG.out.below (Nat.le_succ _) _, by rw [HE6.out]; rfl, fun p hp => ?_⟩⟩
        rw [HE6.out] at hp
        injection hp with hp
        subst hp
        exact ⟨rfl, (HHW.out.setRow' HG.out.res (Nat.le_trans HBB.out (Nat.le_succ _))).rws⟩
end Go.Proofs.YthnbhcfpfbimgaaGreat
