/- Texts put together: RwSpreads RwApp RwSetRow. -/
import Derived.Test.YthnbhcfpfbimgaaGreatMl05
/- The walk of spreads: a row as far as it is known. -/
namespace Go.Proofs.YthnbhcfpfbimgaaGreat
open Go.RowKit
open Rw (El At Fld Lk Eqn U T W64 Sp Wf tot)

theorem rowsV_get {rs : List Rw.Row} {vs : List (Value × Value)} {k j : Nat} {r : Rw.Row} {v : Value × Value} (h : rs[k]? = some r) (hv : vs[k]? = some v) (hj : j < 5) : (rowsV rs vs)[k * 5 + j]? = (rowV r v)[j]? :=
  flat_get (fun x : Rw.Row × (Value × Value) => rowV x.1 x.2) (fun _ => rfl) (rs.zip vs) k j (r, v) (by rw [List.getElem?_zip_eq_some]; exact ⟨h, hv⟩) hj
/-- A row's five cells. -/
theorem TbX.rowCells {w : World} {B P : Nat} {g : Bl} {s : T} {vu vt vr vo ve : Value} {vs : List (Value × Value)} {fs : List Value} (h : TbX w B P g s vu vt vr vo ve vs fs) {k : Nat} {r : Rw.Row} (hr : s.rows[k]? = some r) :
    ∃ b c v1 v2, vr = .slice (some ⟨b, 0, none⟩) s.rows.length c ∧ vs[k]? = some (v1, v2) ∧ RowAt w B r (v1, v2) ∧ w.cell? ⟨b, k * 5, none⟩ = some (.bool r.bound) ∧ w.cell? ⟨b, k * 5 + 1, none⟩ = some v1 ∧ w.cell? ⟨b, k * 5 + 2, none⟩ = some (.int .i64 r.tail) ∧ w.cell? ⟨b, k * 5 + 3, none⟩ = some (.int .u64 (r.why.toNat : Nat)) ∧ w.cell? ⟨b, k * 5 + 4, none⟩ = some v2 ∧ (∀ j, w.frozen? ⟨b, j, none⟩ = false) ∧ b < w.heap.size ∧ B ≤ b ∧ b ≠ P := by
  have hk := (List.getElem?_eq_some_iff.1 hr).1
  obtain ⟨Ar, c, rfl, _, _⟩ := RowZ.form h.rows
  obtain ⟨b, rfl⟩ := RowZ.addr h.rows (by omega)
  obtain ⟨v, hv⟩ : ∃ v, vs[k]? = some v := ⟨vs[k]'(by rw [h.vsl]; exact hk), List.getElem?_eq_getElem _⟩
  have hlen : (rowsV s.rows vs).length = s.rows.length * 5 := rowsV_len _ _ h.vsl
  have hc : ∀ j, j < 5 → w.cell? ⟨b, k * 5 + j, none⟩ = (rowV r v)[j]? := fun j hj => by
    rw [RowZ.cell h.rows (by rw [hlen]; omega), rowsV_get hr hv hj]
  exact ⟨b, c, v.1, v.2, rfl, hv, h.rowAt k r v hr hv, hc 0 (by omega), hc 1 (by omega), hc 2 (by omega), hc 3 (by omega), hc 4 (by omega), fun j => RowZ.free h.rows j, RowZ.lt h.rows b rfl, h.ge.2.2.2.1 b (by rw [← h.bl.2.2.1]; rfl), fun e => h.ne.1.2.2.1 (by rw [← e]; rfl)⟩
/-- While a row is spread: its box. -/
structure Sb (w wr : World) (n6 nb : Nat) (sp : Sp) (v : Value) : Prop where
  box : wr.heap[nb]? = some (.cells #[v, .int .i64 sp.fin, .int .u64 (sp.why.toNat : Nat)] 99 (0, 0))
  row : RowZ wr 59 10 v sp.fields.length (fdsV sp.fields)
  own : ∀ g, v.ownBlock = some g → w.heap.size ≤ g
  below : Below w.heap.size w wr
  res : wr.heap[n6]? = some (.cells #[.slice none 0 0, .int .i64 0, .int .u64 0] 99 (0, 0))
  ge : w.heap.size ≤ nb ∧ w.heap.size ≤ n6 ∧ nb ≠ n6
theorem Sb.below' {w wr wz : World} {n6 nb : Nat} {sp : Sp} {v : Value} (h : Sb w wr n6 nb sp v) (hb : Below wr.heap.size wr wz) : Sb w wz n6 nb sp v :=
  ⟨(hb.block _ (blk_lt h.box)).trans h.box, h.row.below hb, h.own, h.below.trans (hb.mono h.below.size), (hb.block _ (blk_lt h.res)).trans h.res, h.ge⟩
/-- A round: the fields appended, the reason widened, the tail taken. -/
theorem sb_round {w wz w4 : World} {n6 nb : Nat} {sp : Sp} {v v' : Value} {fx : List Fld} {t : Int} {y : W64} (h : Sb w wz n6 nb sp v) (hr : RowZ w4 59 10 v' (sp.fields ++ fx).length (fdsV (sp.fields ++ fx))) (hg : wz.grownBy w4 v.ownBlock)
    (ho : v'.ownBlock = v.ownBlock ∨ v'.ownBlock = some wz.heap.size) :
    Sb w (((w4.setCell ⟨nb, 0, none⟩ v').setCell ⟨nb, 2, none⟩ (.int .u64 ((sp.why ||| y).toNat : Nat))).setCell ⟨nb, 1, none⟩ (.int .i64 t)) n6 nb ⟨sp.fields ++ fx, t, sp.why ||| y⟩ v' := by
  have hv : ∀ {b : Nat} {cs : Array Value}, wz.heap[b]? = some (.cells cs 99 (0, 0)) → v.ownBlock ≠ some b := fun hb => RowZ.ne_type h.row hb (by decide)
  have hB : w4.heap[nb]? = some (.cells #[v, .int .i64 sp.fin, .int .u64 (sp.why.toNat : Nat)] 99 (0, 0)) := (hg.block _ (blk_lt h.box) (fun e => hv h.box e.symm)).trans h.box
  have h6 : w4.heap[n6]? = some (.cells #[.slice none 0 0, .int .i64 0, .int .u64 0] 99 (0, 0)) := (hg.block _ (blk_lt h.res) (fun e => hv h.res e.symm)).trans h.res
  have hv' : v'.ownBlock ≠ some nb := RowZ.ne_type hr hB (by decide)
  refine ⟨?_, ((hr.far (p := ⟨nb, 0, none⟩) hv' _).far (p := ⟨nb, 2, none⟩) hv' _).far (p := ⟨nb, 1, none⟩) hv' _, fun g hg' => ?_, (((h.below.grown hg h.below.size h.own).setCell (p := ⟨nb, 0, none⟩) h.ge.1 _).setCell (p := ⟨nb, 2, none⟩) h.ge.1 _).setCell (p := ⟨nb, 1, none⟩) h.ge.1 _, ?_, h.ge⟩
  · rw [heap_setCell_same _ nb 1 _ _ _ (heap_setCell_same _ nb 2 _ _ _ (heap_setCell_same _ nb 0 _ _ _ hB))]
    rfl
  · rcases ho with e | e
    · exact h.own g (by rw [← e]; exact hg')
    · rw [e] at hg'; injection hg' with hg'; rw [← hg']; exact h.below.size
  · rw [Below.heap_setCell _ _ _ _ (fun e => h.ge.2.2 e.symm), Below.heap_setCell _ _ _ _ (fun e => h.ge.2.2 e.symm), Below.heap_setCell _ _ _ _ (fun e => h.ge.2.2 e.symm)]
    exact h6
theorem fdsV_app (l m : List Fld) : fdsV (l ++ m) = fdsV l ++ fdsV m := by simp [fdsV]
/-- The result is laid into its variable. -/
theorem sb_end {w wr : World} {n6 nb : Nat} {sp : Sp} {v : Value} (h : Sb w wr n6 nb sp v) (n B : Nat) :
    ((((wr.drewN n).setCell ⟨n6, 0, none⟩ v).setCell ⟨n6, 1, none⟩ (.int .i64 sp.fin)).setCell ⟨n6, 2, none⟩ (.int .u64 (sp.why.toNat : Nat))).heap[n6]? = some (.cells #[v, .int .i64 sp.fin, .int .u64 (sp.why.toNat : Nat)] 99 (0, 0)) ∧
    SlAt ((((wr.drewN n).setCell ⟨n6, 0, none⟩ v).setCell ⟨n6, 1, none⟩ (.int .i64 sp.fin)).setCell ⟨n6, 2, none⟩ (.int .u64 (sp.why.toNat : Nat))) B 59 10 v sp.fields.length (fdsV sp.fields) ∧
    Below w.heap.size w ((((wr.drewN n).setCell ⟨n6, 0, none⟩ v).setCell ⟨n6, 1, none⟩ (.int .i64 sp.fin)).setCell ⟨n6, 2, none⟩ (.int .u64 (sp.why.toNat : Nat))) := by
  have hd := below_drewN (Below.refl wr.heap.size wr) n
  have h6 : (wr.drewN n).heap[n6]? = some (.cells #[.slice none 0 0, .int .i64 0, .int .u64 0] 99 (0, 0)) := (hd.block _ (blk_lt h.res)).trans h.res
  have hne : v.ownBlock ≠ some n6 := RowZ.ne_type h.row h.res (by decide)
  refine ⟨?_, SlAt.of_row ((((h.row.below hd).far (p := ⟨n6, 0, none⟩) hne _).far (p := ⟨n6, 1, none⟩) hne _).far (p := ⟨n6, 2, none⟩) hne _), ((((below_drewN h.below n).setCell (p := ⟨n6, 0, none⟩) h.ge.2.1 _).setCell (p := ⟨n6, 1, none⟩) h.ge.2.1 _).setCell (p := ⟨n6, 2, none⟩) h.ge.2.1 _)⟩
  rw [heap_setCell_same _ n6 2 _ _ _ (heap_setCell_same _ n6 1 _ _ _ (heap_setCell_same _ n6 0 _ _ _ h6))]
  rfl
structure RetSp (w : World) (B : Nat) (sp : Sp) (e : Ending) (w' : World) : Prop where
  ex : ∃ v, e = .returned (.agg (spC v sp.fin sp.why)) ∧ SlAt w' B 59 10 v sp.fields.length (fdsV sp.fields) ∧ Below w.heap.size w w'
theorem fdsV_one (l : List Fld) : ∀ u ∈ fdsV l, u.oneCell' = true := fun u hu => by
  simp only [fdsV, List.mem_flatMap] at hu
  obtain ⟨f, _, hf⟩ := hu
  simp only [fdV, atV, elV, List.mem_cons, List.not_mem_nil, or_false] at hf
  rcases hf with rfl | rfl | rfl | rfl | rfl | rfl | rfl | rfl | rfl | rfl <;> rfl
set_option maxRecDepth 100000 in
set_option maxHeartbeats 4000000 in
theorem spreads_any (P B : Nat) (g : Bl) (s : T) (fs : List Fld) (v : Value) (at_ : Int) (w : World) (h : Tb w B P g s) (hwf : Wf s.rows) (hv : SlAt w B 59 10 v fs.length (fdsV fs)) (ha : at_ < s.rows.length) (hN : fs.length + tot s.rows ≤ 1000000000) :
    Calls Tryz.prog 31 #[.pointer (some ⟨P, 0, none⟩), v, .int .i64 at_] w fun e w' => RetSp w B (s.spreads fs at_) e w' := by
  have hgo : Rw.Go s.rows 1000000000 (s.rows.length + 1) ⟨fs, at_, 0⟩ (s.spreads fs at_) := Rw.Go.start ha hN
  obtain ⟨i1, hj, hy0, hy1, hy2⟩ := info_parts info_fd
  obtain ⟨vu, vt, vr, vo, ve, vs, fu, hx⟩ := h
  have hba := (below_laid w (.cells #[.slice none 0 0, .int .i64 0, .int .u64 0] 99)).alloc (by simp) (.cells #[] 59)
  have hrow0 : RowZ ((w.alloc (.cells #[.slice none 0 0, .int .i64 0, .int .u64 0] 99)).alloc (.cells #[] 59)) 59 10 (.slice (some ⟨w.heap.size + 1, 0, none⟩) 0 0) 0 [] := by
    have := RowZ.laid (w.alloc (.cells #[.slice none 0 0, .int .i64 0, .int .u64 0] 99)) 59 10 0 [] rfl (Nat.zero_le _)
    rw [World.size_alloc] at this
    exact this
  have HR0 := hide hrow0
  clear hrow0
  have HX := hide (And.intro hx (And.intro hv (And.intro hwf (And.intro hgo hba))))
  clear hx hv hwf hgo hba
  go_enter Tryz.func31, Tryz.ntmps31
  go_wp2_with (at_builtin; go_must (refine app_rowz rfl (.tmp 9) (.tmp 10) 54 54 rfl 59 i1 _ 10 88 Tryz.underlying54 hj hy0 hy1 hy2 rfl (.slice (some ⟨w.heap.size + 1, 0, none⟩) 0 0) 0 [] rfl HR0.out v fs.length (fdsV fs) rfl (SlAt.src Tryz.underlying54 (HX.out.2.1.below HX.out.2.2.2.2) (fdsV_one fs)) (by unfold maxLen; omega) (by omega) ?_); intro A' c' w' hr hg hob; go_must (simp only [Nat.zero_add, List.nil_append] at hr hob ⊢); have HG := hide (And.intro hr (And.intro hg hob)); clear hr hg hob)
  go_loopg [] (s.rows.length + 1) (fun gk wr => ∃ sp v' m, Sb w wr w.heap.size w'.heap.size sp v' ∧ Rw.Go s.rows 1000000000 m sp (s.spreads fs at_) ∧ m ≤ gk)
  case atStart =>
    have hr := HG.out.1
    have hob := HG.out.2.2
    have h6 : w'.heap[w.heap.size]? = some (.cells #[.slice none 0 0, .int .i64 0, .int .u64 0] 99 (0, 0)) := by
      refine (HG.out.2.1.block _ (by simp; omega) (by simp [Value.ownBlock])).trans ?_
      rw [heap_at, if_neg (by rw [World.size_alloc]; omega), heap_at, if_pos rfl]
    have hbw : Below w.heap.size w w' := HX.out.2.2.2.2.grown HG.out.2.1 (by simp; omega) (fun k hk => by simp [Value.ownBlock] at hk; omega)
    refine ⟨⟨fs, at_, 0⟩, _, _, ⟨heap_alloc_new w' _, hr.below (below_laid w' _), fun g hg => ?_, hbw.alloc hbw.size _, ?_, hbw.size, Nat.le_refl _, ?_⟩, HX.out.2.2.2.1, Nat.le_refl _⟩
    · rcases hob with e | e
      · rw [e] at hg; simp [Value.ownBlock] at hg; omega
      · rw [e] at hg; injection hg with hg; rw [← hg]; simp; omega
    · exact ((below_laid w' _).block _ (blk_lt h6)).trans h6
    · have := blk_lt h6; omega
  case round =>
    obtain ⟨sp, v', m, hs, hgo, hmg⟩ := hrel
    obtain ⟨Av, cv, rfl, hcv, hcvm⟩ := RowZ.form hs.row
    have b0 : wr.cell? ⟨w'.heap.size, 0, none⟩ = some (.slice Av sp.fields.length cv) := by rw [cell_block hs.box]; rfl
    have b1 : wr.cell? ⟨w'.heap.size, 1, none⟩ = some (.int .i64 sp.fin) := by rw [cell_block hs.box]; rfl
    have b2 : wr.cell? ⟨w'.heap.size, 2, none⟩ = some (.int .u64 (sp.why.toNat : Nat)) := by rw [cell_block hs.box]; rfl
    have r0 : wr.cell? ⟨w.heap.size, 0, none⟩ = some (.slice none 0 0) := by rw [cell_block hs.res]; rfl
    have r1 : wr.cell? ⟨w.heap.size, 1, none⟩ = some (.int .i64 0) := by rw [cell_block hs.res]; rfl
    have r2 : wr.cell? ⟨w.heap.size, 2, none⟩ = some (.int .u64 0) := by rw [cell_block hs.res]; rfl
    have rf : ∀ j, wr.frozen? ⟨w.heap.size, j, none⟩ = false := fun j => frozen_of_row _ _ j _ _ hs.res
    have bf : ∀ j, wr.frozen? ⟨w'.heap.size, j, none⟩ = false := fun j => frozen_of_row _ _ j _ _ hs.box
    have rf0 := rf 0
    have rf1 := rf 1
    have rf2 := rf 2
    have c2 := (hs.below.cell (p := ⟨P, 2, none⟩) HX.out.1.lt).trans HX.out.1.cells.2.2.1
    by_cases h0 : sp.fin < 0
    · have hend : s.spreads fs at_ = sp := by rw [← hgo.res, Rw.spread_neg h0]
      have HE := hide (And.intro hend hs)
      have hd0 : decide (0 ≤ sp.fin) = false := by simp; omega
      clear hend hs hgo rf bf
      go_wp2_with fail
      go_quiet (fail)
      go_wp2_with fail
      obtain ⟨z1, z2, z3⟩ := sb_end HE.out.2 nq B
      generalize (((wr.drewN nq).setCell ⟨w.heap.size, 0, none⟩ (.slice Av sp.fields.length cv)).setCell ⟨w.heap.size, 1, none⟩ (.int .i64 sp.fin)).setCell ⟨w.heap.size, 2, none⟩ (.int .u64 (sp.why.toNat : Nat)) = Y at *
      have y0 : Y.cell? ⟨w.heap.size, 0, none⟩ = some (.slice Av sp.fields.length cv) := by rw [cell_block z1]; rfl
      have y1 : Y.cell? ⟨w.heap.size, 1, none⟩ = some (.int .i64 sp.fin) := by rw [cell_block z1]; rfl
      have y2 : Y.cell? ⟨w.heap.size, 2, none⟩ = some (.int .u64 (sp.why.toNat : Nat)) := by rw [cell_block z1]; rfl
      refine bodyPost_ret (v := .agg (spC (.slice Av sp.fields.length cv) sp.fin sp.why)) (by simp [results, Tryz.results31, go_sem, y0, y1, y2, spC]) rfl ⟨?_⟩
      rw [HE.out.1]
      exact ⟨_, rfl, z2, z3⟩
    · obtain ⟨k, hk⟩ : ∃ k : Nat, sp.fin = k := ⟨sp.fin.toNat, by omega⟩
      have hkr : k < s.rows.length := by rcases hgo.fin with h | h <;> omega
      obtain ⟨x, hx⟩ : ∃ x, s.rows[k]? = some x := ⟨s.rows[k], List.getElem?_eq_getElem hkr⟩
      have hx' : s.rows[sp.fin.toNat]? = some x := by rw [hk]; exact hx
      have hxr := HX.out.1.below hs.below
      obtain ⟨br, cr, v1, v2, rfl, hvk, hra, t0, t1, t2, t3, t4, tf, htl, htB, htP⟩ := hxr.rowCells hx
      have hk0 : (k : Int) < s.rows.length := by omega
      have hk1 : (0 : Int) ≤ k := by omega
      rw [hk] at b1
      cases hb : x.bound with
      | false =>
        have hend : s.spreads fs at_ = sp := by rw [← hgo.res, Rw.spread_free hx' hb]
        rw [hb] at t0
        have HE := hide (And.intro hend hs)
        clear hend hs hgo rf bf hx hx' hxr hvk hra tf htB htP h0 hb t1 t2 t3 t4
        go_wp2_with fail
        go_quiet (fail)
        go_wp2_with fail
        have HE2 := HE.out.2
        obtain ⟨z1, z2, z3⟩ := sb_end HE2 nq B
        rw [hk] at z1 z2 z3
        generalize (((wr.drewN nq).setCell ⟨w.heap.size, 0, none⟩ (.slice Av sp.fields.length cv)).setCell ⟨w.heap.size, 1, none⟩ (.int .i64 k)).setCell ⟨w.heap.size, 2, none⟩ (.int .u64 (sp.why.toNat : Nat)) = Y at *
        have y0 : Y.cell? ⟨w.heap.size, 0, none⟩ = some (.slice Av sp.fields.length cv) := by rw [cell_block z1]; rfl
        have y1 : Y.cell? ⟨w.heap.size, 1, none⟩ = some (.int .i64 k) := by rw [cell_block z1]; rfl
        have y2 : Y.cell? ⟨w.heap.size, 2, none⟩ = some (.int .u64 (sp.why.toNat : Nat)) := by rw [cell_block z1]; rfl
        refine bodyPost_ret (v := .agg (spC (.slice Av sp.fields.length cv) sp.fin sp.why)) (by simp [results, Tryz.results31, go_sem, y0, y1, y2, spC, hk]) rfl ⟨?_⟩
        rw [HE.out.1]
        exact ⟨_, rfl, z2, z3⟩
      | true =>
        rw [hb] at t0
        obtain ⟨A1, c1, e1, hc1, hc1m, _⟩ := hra.fields.ex
        obtain ⟨A2, c2', e2, _⟩ := hra.lacks.ex
        obtain rfl : v1 = .slice A1 x.fields.length c1 := e1
        obtain rfl : v2 = .slice A2 x.lacks.length c2' := e2
        have HE := hide (And.intro hs (And.intro hgo (And.intro hx' (And.intro hb (And.intro hra (And.intro htl hmg))))))
        clear hs hgo rf bf hx hx' hxr hvk hra tf htB htP h0 hb hmg
        go_wp2_with fail
        go_quiet (fail)
        go_upto_region 3 with (fail)
        obtain ⟨F, hF, hFF⟩ : ∃ F : World → Prop, (∀ w'', F w'' ↔ w''.cell? ⟨P, 2, none⟩ = some (.slice (some ⟨br, 0, none⟩) s.rows.length cr) ∧ w''.cell? ⟨w'.heap.size, 1, none⟩ = some (.int .i64 k) ∧ w''.cell? ⟨br, k * 5, none⟩ = some (.bool true) ∧ w''.cell? ⟨br, k * 5 + 1, none⟩ = some (.slice A1 x.fields.length c1) ∧ w''.cell? ⟨br, k * 5 + 2, none⟩ = some (.int .i64 x.tail) ∧ w''.cell? ⟨br, k * 5 + 3, none⟩ = some (.int .u64 (x.why.toNat : Nat)) ∧ w''.cell? ⟨br, k * 5 + 4, none⟩ = some (.slice A2 x.lacks.length c2')) ∧ ∀ u : HoldW F, u.w.cell? ⟨P, 2, none⟩ = some (.slice (some ⟨br, 0, none⟩) s.rows.length cr) ∧ u.w.cell? ⟨w'.heap.size, 1, none⟩ = some (.int .i64 k) ∧ u.w.cell? ⟨br, k * 5, none⟩ = some (.bool true) ∧ u.w.cell? ⟨br, k * 5 + 1, none⟩ = some (.slice A1 x.fields.length c1) ∧ u.w.cell? ⟨br, k * 5 + 2, none⟩ = some (.int .i64 x.tail) ∧ u.w.cell? ⟨br, k * 5 + 3, none⟩ = some (.int .u64 (x.why.toNat : Nat)) ∧ u.w.cell? ⟨br, k * 5 + 4, none⟩ = some (.slice A2 x.lacks.length c2') := ⟨fun w'' => w''.cell? ⟨P, 2, none⟩ = some (.slice (some ⟨br, 0, none⟩) s.rows.length cr) ∧ w''.cell? ⟨w'.heap.size, 1, none⟩ = some (.int .i64 k) ∧ w''.cell? ⟨br, k * 5, none⟩ = some (.bool true) ∧ w''.cell? ⟨br, k * 5 + 1, none⟩ = some (.slice A1 x.fields.length c1) ∧ w''.cell? ⟨br, k * 5 + 2, none⟩ = some (.int .i64 x.tail) ∧ w''.cell? ⟨br, k * 5 + 3, none⟩ = some (.int .u64 (x.why.toNat : Nat)) ∧ w''.cell? ⟨br, k * 5 + 4, none⟩ = some (.slice A2 x.lacks.length c2'), fun _ => Iff.rfl, fun u => u.ok⟩
        have hu0 : ∀ u : HoldW F, u.w.cell? ⟨P, 2, none⟩ = some (.slice (some ⟨br, 0, none⟩) s.rows.length cr) := fun u => (hFF u).1
        have hu1 : ∀ u : HoldW F, u.w.cell? ⟨w'.heap.size, 1, none⟩ = some (.int .i64 k) := fun u => (hFF u).2.1
        have hu2 : ∀ u : HoldW F, u.w.cell? ⟨br, k * 5, none⟩ = some (.bool true) := fun u => (hFF u).2.2.1
        have hu3 : ∀ u : HoldW F, u.w.cell? ⟨br, k * 5 + 1, none⟩ = some (.slice A1 x.fields.length c1) := fun u => (hFF u).2.2.2.1
        have hu4 : ∀ u : HoldW F, u.w.cell? ⟨br, k * 5 + 2, none⟩ = some (.int .i64 x.tail) := fun u => (hFF u).2.2.2.2.1
        have hu5 : ∀ u : HoldW F, u.w.cell? ⟨br, k * 5 + 3, none⟩ = some (.int .u64 (x.why.toNat : Nat)) := fun u => (hFF u).2.2.2.2.2.1
        have hu6 : ∀ u : HoldW F, u.w.cell? ⟨br, k * 5 + 4, none⟩ = some (.slice A2 x.lacks.length c2') := fun u => (hFF u).2.2.2.2.2.2
        generalize hV : wr.drewN nq = V at *
        have hdV := below_drewN (Below.refl wr.heap.size wr) nq
        rw [hV] at hdV
        have hFk : ∀ w'', w''.heap[P]? = V.heap[P]? → w''.heap[w'.heap.size]? = V.heap[w'.heap.size]? → w''.heap[br]? = V.heap[br]? → F w'' := fun w'' q0 q1 q2 => by
          subst hV
          rw [hF]
          exact ⟨(World.cell?_of_block q0).trans c2, (World.cell?_of_block q1).trans b1, (World.cell?_of_block q2).trans t0, (World.cell?_of_block q2).trans t1, (World.cell?_of_block q2).trans t2, (World.cell?_of_block q2).trans t3, (World.cell?_of_block q2).trans t4⟩
        refine wp_region_chain [0, 1, 2, 3, 4, 5, 6, 7] [(8, true), (9, false)] F (by kernel_rfl) (by kernel_rfl) (fun _ _ _ _ _ h => h) (hFk _ rfl rfl rfl) ?_
        intro hne
        simp only [picks, picksW, List.filterMap_cons, List.filterMap_nil, List.getElem?_cons_zero, List.getElem?_cons_succ, Option.map_some]
        repeat (refine wpHeld_step (fun K hK => ?_); go_simp; refine hK _ ?_; clear hK K)
        refine wpHeld_nil ?_
        clear hu0 hu1 hu2 hu3 hu4 hu5 hu6 hne hFF
        have HK := hide (And.intro hFk (And.intro hF hdV))
        clear hFk hF hdV
        refine wpChain_cons fun K hK => ?_
        go_wp2_with fail
        have hbz := below_laidD V (.cells #[.bool false, .slice none 0 0, .int .i64 0, .int .u64 0, .slice none 0 0] 133)
        refine chainF (fun _ => HK.out.1 _ (hbz.block _ (Nat.lt_of_lt_of_le HX.out.1.lt (Nat.le_trans HE.out.1.below.size HK.out.2.2.size))) (hbz.block _ (Nat.lt_of_lt_of_le (blk_lt HE.out.1.box) HK.out.2.2.size)) (hbz.block _ (Nat.lt_of_lt_of_le HE.out.2.2.2.2.2.1 HK.out.2.2.size))) (hK _ _ ?_)
        clear hK K
        have z0 := heap_alloc_new V (.cells #[.bool false, .slice none 0 0, .int .i64 0, .int .u64 0, .slice none 0 0] 133)
        have HZ := hide (And.intro z0 hbz)
        clear z0 hbz
        refine wpChain_cons fun K hK => ?_
        go_wp2_with fail
        refine chainSkip (hK _ _ ?_)
        clear hK K
        refine wpChain_nil ?_
        have hbz := below_laidD V (.cells #[.bool true, .slice A1 x.fields.length c1, .int .i64 x.tail, .int .u64 (x.why.toNat : Nat), .slice A2 x.lacks.length c2'] 133)
        have z8 : ((V.alloc (.cells #[.bool true, .slice A1 x.fields.length c1, .int .i64 x.tail, .int .u64 (x.why.toNat : Nat), .slice A2 x.lacks.length c2'] 133)).drew).heap[V.heap.size]? = _ := heap_alloc_new V _
        have hsz := (HE.out.1.below' HK.out.2.2).below' hbz
        have hfz := (HE.out.2.2.2.2.1.fields.below HK.out.2.2).below hbz
        have hnn : V.heap.size ≠ w'.heap.size := by have := Nat.lt_of_lt_of_le (blk_lt HE.out.1.box) HK.out.2.2.size; omega
        have hnn' : w'.heap.size ≠ V.heap.size := fun e => hnn e.symm
        have hstep := HE.out.2.1.step HX.out.2.2.1 (by rw [hk]; omega) HE.out.2.2.1 HE.out.2.2.2.1
        have hlen := hstep.1.len
        have hlen2 : sp.fields.length + x.fields.length ≤ 1000000000 := by simp only [List.length_append] at hlen; omega
        generalize (V.alloc (.cells #[.bool true, .slice A1 x.fields.length c1, .int .i64 x.tail, .int .u64 (x.why.toNat : Nat), .slice A2 x.lacks.length c2'] 133)).drew = Z at *
        have p0 : Z.cell? ⟨w'.heap.size, 0, none⟩ = some (.slice Av sp.fields.length cv) := by rw [cell_block hsz.box]; rfl
        have p1 : Z.cell? ⟨V.heap.size, 1, none⟩ = some (.slice A1 x.fields.length c1) := by rw [cell_block z8]; rfl
        have HW := hide (And.intro hsz (And.intro z8 (And.intro hfz hstep)))
        clear hsz z8 hfz hstep hlen hbz
        go_wp2_with (at_builtin; go_must (refine app_rowz rfl (.tmp 37) (.tmp 39) 54 54 rfl 59 i1 _ 10 88 Tryz.underlying54 hj hy0 hy1 hy2 rfl (.slice Av sp.fields.length cv) sp.fields.length (fdsV sp.fields) rfl HW.out.1.row (.slice A1 x.fields.length c1) x.fields.length (fdsV x.fields) rfl (SlAt.src Tryz.underlying54 HW.out.2.2.1 (fdsV_one x.fields)) (by unfold maxLen; omega) (by omega) ?_); intro A'' c'' w4 hr hg hob; have qb := (hg.block _ (blk_lt HW.out.1.box) (fun e => RowZ.ne_type HW.out.1.row HW.out.1.box (by decide) e.symm)).trans HW.out.1.box; have q8 := (hg.block _ (blk_lt HW.out.2.1) (fun e => RowZ.ne_type HW.out.1.row HW.out.2.1 (by decide) e.symm)).trans HW.out.2.1; have m0 : w4.cell? ⟨w'.heap.size, 0, none⟩ = some (.slice Av sp.fields.length cv) := (by rw [cell_block qb]; rfl); have m1 : w4.cell? ⟨w'.heap.size, 1, none⟩ = some (.int .i64 sp.fin) := (by rw [cell_block qb]; rfl); have m2 : w4.cell? ⟨w'.heap.size, 2, none⟩ = some (.int .u64 (sp.why.toNat : Nat)) := (by rw [cell_block qb]; rfl); have n2 : w4.cell? ⟨V.heap.size, 2, none⟩ = some (.int .i64 x.tail) := (by rw [cell_block q8]; rfl); have n3 : w4.cell? ⟨V.heap.size, 3, none⟩ = some (.int .u64 (x.why.toNat : Nat)) := (by rw [cell_block q8]; rfl); have fz := (fun j => frozen_of_row w4 w'.heap.size j _ _ qb); have fz0 := fz 0; have fz1 := fz 1; have fz2 := fz 2; have HG4 := hide (And.intro hr (And.intro hg hob)); clear hr hg hob qb q8 fz)
        rw [bits_or]
        have hfin := sb_round (t := x.tail) (y := x.why) HW.out.1 (by rw [List.length_append, fdsV_app]; exact HG4.out.1) HG4.out.2.1 HG4.out.2.2
        have HFin := hide hfin
        clear hfin
        go_roundg (m - 1)
        case measure => exact Nat.lt_of_lt_of_le HW.out.2.2.2.2 HE.out.2.2.2.2.2.2
        case rel => exact ⟨_, _, _, HFin.out, HW.out.2.2.2.1, Nat.le_refl _⟩
end Go.Proofs.YthnbhcfpfbimgaaGreat
/- append to a slice that is full: a new row, and nothing else turns. -/
namespace Go.Proofs.YthnbhcfpfbimgaaGreat
open Go.RowKit

theorem run_app_full {P : Program} {w : World} (t tx ty e : TypeId) (i : TypeInfo) (z : Value) (sz bytes : Nat) (ht : P.underlying t = some (.slice e)) (hi : P.info? e = some i) (hz : i.zero = some z)
    (hsize : i.size = sz) (hby : i.bytes = bytes) (hzs : z.cells.size = sz) (A : Option Addr) (n : Nat) (xs : List Value) (hxl : xs.length = n * sz)
    (hc : 0 < n → ∃ b off, A = some ⟨b, off, none⟩ ∧ ∀ (j : Nat) u, xs[j]? = some u → w.cell? ⟨b, off + j, none⟩ = some u) (x : Value) (m : Nat) (news : List Value) (hs : Src P sz tx x m news w) (hm : 0 < m)
    (h63 : n + m ≤ maxLen) (hbytes : (n + m) * bytes ≤ 140737488355328) :
    ∃ c' w', (Builtin.append_ #[t, tx] ty #[.slice A n n, x]).run P w = .ok (.slice (some ⟨w.heap.size, 0, none⟩) (n + m) c') w' ∧ RowZ w' e sz (.slice (some ⟨w.heap.size, 0, none⟩) (n + m) c') (n + m) (xs ++ news) ∧ Below w.heap.size w w' := by
  have hsmall : ((n + m : Nat) : Int) ≤ 9223372036854775807 := by simp only [maxLen] at h63; omega
  have hs' : Src P i.size tx x m news w := by rw [hsize]; exact hs
  have hnl : news.length = m * sz := hs.newsLen
  have hlen : (xs ++ news).length = (n + m) * sz := by rw [List.length_append, hnl, hxl, Nat.add_mul]
  have hgrown : ∀ old, RowZ (w.drew.alloc (.cells ((xs ++ news).toArray ++ Builtin.zeroCells z.cells (grownCap w (n + m) old e - (n + m))) e)) e sz
      (.slice (some ⟨w.heap.size, 0, none⟩) (n + m) (grownCap w (n + m) old e)) (n + m) (xs ++ news) := fun old => by
    have hge := grownCap_ge w (n + m) old e
    refine .inr ⟨w.heap.size, grownCap w (n + m) old e, _, rfl, heap_alloc_new w.drew _, hge, ?_, grownCap_le_maxLen w (n + m) old e h63, hlen, ?_⟩
    · simp only [Array.size_append, List.size_toArray, size_zeroCells, hzs, hlen]
      rw [← Nat.add_mul, Nat.add_sub_cancel' hge]
      exact Nat.le_refl _
    · simp only [Array.toList_append]
      exact List.take_left' hlen
  subst hby
  have hold : (Builtin.firstCells i.size n (.slice A n n)).run P w.drew = .ok xs.toArray w.drew := by
    rw [hsize]
    cases A with
    | none =>
      have hn : n = 0 := by
        by_cases h : 0 < n
        · obtain ⟨_, _, h, _⟩ := hc h; cases h
        · omega
      subst hn
      have hx0 : xs = [] := List.eq_nil_of_length_eq_zero (by simpa using hxl)
      subst hx0
      exact run_firstCells_none w.drew sz 0 0 0
    | some a =>
      refine run_firstCells_some w.drew sz n a n n xs hxl fun j u hu => ?_
      have hn : 0 < n := by
        have hj := (List.getElem?_eq_some_iff.1 hu).1
        rw [hxl] at hj
        exact Nat.pos_of_ne_zero fun e => by subst e; simp at hj
      obtain ⟨b, off, h1, h2⟩ := hc hn
      cases h1
      rw [add_plain]
      exact h2 j u hu
  have hr := run_append_grow_src (P := P) w t tx ty e i z ht hi hz A n n xs hold x m news hs' (by omega) hsmall (growslice_fits (by omega) hbytes)
  exact ⟨_, _, hr, hgrown n, (below_drewN (Below.refl w.heap.size w) 1).alloc (Nat.le_refl _) _⟩
theorem app_full {P : Program} {w : World} {ops : Array Oper} {rest : List Oper} {o : Oper} {a : Act} {Q : Exit → Act → World → Prop} (hgd : o.guard = none) (s x : Operand) (t tx : TypeId)
    (ho : o.op = .call { callee := .builtin .append, args := #[s, x], argTypes := #[t, tx] })
    (e : TypeId) (i : TypeInfo) (z : Value) (sz bytes : Nat) (ht : P.underlying t = some (.slice e)) (hi : P.info? e = some i) (hz : i.zero = some z)
    (hsize : i.size = sz) (hby : i.bytes = bytes) (hzs : z.cells.size = sz)
    (A : Option Addr) (n : Nat) (xs : List Value) (hs : a.eval s = .slice A n n) (hxl : xs.length = n * sz)
    (hc : 0 < n → ∃ b off, A = some ⟨b, off, none⟩ ∧ ∀ (j : Nat) u, xs[j]? = some u → w.cell? ⟨b, off + j, none⟩ = some u)
    (xv : Value) (m : Nat) (news : List Value) (hx : a.eval x = xv) (hsrc : Src P sz tx xv m news w) (hm : 0 < m)
    (h63 : n + m ≤ maxLen) (hbytes : (n + m) * bytes ≤ 140737488355328)
    (h : ∀ c' w', RowZ w' e sz (.slice (some ⟨w.heap.size, 0, none⟩) (n + m) c') (n + m) (xs ++ news) → Below w.heap.size w w' →
      wpList P ops Q rest (a.put o.dst (.slice (some ⟨w.heap.size, 0, none⟩) (n + m) c')) w') : wpList P ops Q (o :: rest) a w := by
  refine wpList_plain hgd fun K hK => ?_
  obtain ⟨c', w', hr, h2, h3⟩ := run_app_full (P := P) (w := w) t tx o.type e i z sz bytes ht hi hz hsize hby hzs A n xs hxl hc xv m news hsrc hm h63 hbytes
  unfold Oper.wp
  simp [execOp, ho, resolve, invoke, builtin, hs, hx, hr, Result.andThen]
  exact hK _ _ (h c' w' h2 h3)
end Go.Proofs.YthnbhcfpfbimgaaGreat
/- One cell of one row of the table turned. -/
namespace Go.Proofs.YthnbhcfpfbimgaaGreat
open Go.RowKit
open Rw (El At Fld Lk Eqn U T W64)

theorem rowsV_set {rs : List Rw.Row} {vs : List (Value × Value)} {k j : Nat} {r r' : Rw.Row} {v v' : Value × Value} {u : Value} (hl : vs.length = rs.length) (hr : rs[k]? = some r) (hv : vs[k]? = some v) (hj : j < 5)
    (hu : (rowV r' v')[j]? = some u) (hne : ∀ i, i ≠ j → (rowV r' v')[i]? = (rowV r v)[i]?) : (rowsV rs vs).set (k * 5 + j) u = rowsV (rs.set k r') (vs.set k v') := by
  have hk := (List.getElem?_eq_some_iff.1 hr).1
  have hlen : (rowsV rs vs).length = rs.length * 5 := rowsV_len _ _ hl
  have hlen' : (rowsV (rs.set k r') (vs.set k v')).length = rs.length * 5 := by rw [rowsV_len _ _ (by simp [hl]), List.length_set]
  refine List.ext_getElem? fun q => ?_
  rcases Nat.lt_or_ge q (rs.length * 5) with hq | hq
  · obtain ⟨i, t, ht, rfl⟩ : ∃ i t, t < 5 ∧ q = i * 5 + t := ⟨q / 5, q % 5, Nat.mod_lt _ (by omega), by omega⟩
    have hi : i < rs.length := by omega
    obtain ⟨x, hx⟩ : ∃ x, rs[i]? = some x := ⟨rs[i], List.getElem?_eq_getElem hi⟩
    obtain ⟨y, hy⟩ : ∃ y, vs[i]? = some y := ⟨vs[i]'(by omega), List.getElem?_eq_getElem _⟩
    by_cases hik : i = k
    · subst hik
      rw [hr] at hx
      rw [hv] at hy
      cases hx
      cases hy
      rw [rowsV_get (r := r') (v := v') (by rw [List.getElem?_set_self hi]) (by rw [List.getElem?_set_self (by omega)]) ht]
      by_cases htj : t = j
      · subst htj
        rw [List.getElem?_set_self (by rw [hlen]; omega), hu]
      · rw [List.getElem?_set_ne (by omega), rowsV_get hr hv ht, hne t htj]
    · rw [rowsV_get (r := x) (v := y) (by rw [List.getElem?_set_ne (fun e => hik e.symm)]; exact hx) (by rw [List.getElem?_set_ne (fun e => hik e.symm)]; exact hy) ht,
        List.getElem?_set_ne (by omega), rowsV_get hx hy ht]
  · rw [List.getElem?_eq_none (by rw [List.length_set, hlen]; omega), List.getElem?_eq_none (by rw [hlen']; omega)]
theorem TbX.setRow {w : World} {B P b c : Nat} {g : Bl} {s : T} {vu vt vo ve : Value} {vs : List (Value × Value)} {fs : List Value} (h : TbX w B P g s vu vt (.slice (some ⟨b, 0, none⟩) s.rows.length c) vo ve vs fs) {k j : Nat} {r r' : Rw.Row} {v v' : Value × Value} {u : Value} (hr : s.rows[k]? = some r) (hv : vs[k]? = some v) (hj : j < 5)
    (hu : (rowV r' v')[j]? = some u) (hne : ∀ i, i ≠ j → (rowV r' v')[i]? = (rowV r v)[i]?) (hra : RowAt w B r' v') :
    TbX (w.setCell ⟨b, k * 5 + j, none⟩ u) B P g { s with rows := s.rows.set k r' } vu vt (.slice (some ⟨b, 0, none⟩) s.rows.length c) vo ve (vs.set k v') fs ∧ Kp (OnB P g) w (w.setCell ⟨b, k * 5 + j, none⟩ u) := by
  obtain ⟨⟨nu, nt, nr, no, ne⟩, n1, n2, n3, n4⟩ := h.ne
  have hgb : g.r = some b := h.bl.2.2.1.symm
  have hset : ∀ q, q ≠ b → (w.setCell ⟨b, k * 5 + j, none⟩ u).heap[q]? = w.heap[q]? := fun q hq => Below.heap_setCell _ _ _ _ hq
  have hbP : b ≠ P := fun e => nr (by rw [← e]; rfl)
  have hrest := h.rest (w' := w.setCell ⟨b, k * 5 + j, none⟩ u) (g' := g) (by simp) (fun q _ hl => hset q (fun e => (h.off hl).2.2.2.1 (by rw [e]; rfl))) (fun _ _ => id) (fun _ _ => id) (fun _ _ => id)
  have hrow := RowZ.set h.rows (k * 5 + j) u
  rw [rowsV_set h.vsl hr hv hj hu hne] at hrow
  obtain ⟨cur, hcb⟩ := RowZ.block h.rows (g := b) rfl
  refine ⟨⟨?_, h.bl, RowZ.keep h.undo fun q hq => hset q (fun e => by subst e; exact (n1 q hq).2.1 rfl), RowZ.keep h.times fun q hq => hset q (fun e => by subst e; exact (n2 q hq).1 rfl), by rw [List.length_set]; exact hrow,
    RowZ.keep h.own fun q hq => hset q (fun e => by subst e; exact (n3 q rfl).1 hq), RowZ.keep h.eqs fun q hq => hset q (fun e => by subst e; exact (n3 q rfl).2 hq), by simp [h.vsl], fun i x y hx hy => ?_, hrest.2, h.ge, h.apart⟩, (Kp.refl _ _).setCell (.inl (.inr (.inr (.inr (.inl hgb))))) _⟩
  · exact (hset P (fun e => hbP e.symm)).trans h.self
  · by_cases hik : i = k
    · subst hik
      have hi := (List.getElem?_eq_some_iff.1 hr).1
      rw [List.getElem?_set_self hi] at hx
      rw [List.getElem?_set_self (by rw [h.vsl]; exact hi)] at hy
      cases hx
      cases hy
      exact hra.keep (by simp) fun q _ hq => hset q (fun e => by
        subst e
        rcases hq with hq | ⟨t, cs, hc, ht⟩
        · have := h.ge.2.2.2.1 q hgb; omega
        · rw [hcb] at hc
          injection hc with hc
          injection hc with _ hc
          subst hc
          rcases ht with e | e <;> exact absurd e (by decide))
    · exact hrest.1 i x y (by rw [List.getElem?_set_ne (fun e => hik e.symm)] at hx; exact hx) (by rw [List.getElem?_set_ne (fun e => hik e.symm)] at hy; exact hy)
end Go.Proofs.YthnbhcfpfbimgaaGreat
