/- Texts put together: RwFresh RwKeep RwVar RwStick. -/
import Derived.Test.YthnbhcfpfbimgaaMw03
/- The walk of fresh: one row more. -/
namespace Go.Proofs.Ythnbhcfpfbimgaa
open Go.RowKit
open Rw (El At Fld Lk Eqn U T W64)

def row0V : Value := .agg #[.bool false, .slice none 0 0, .int .i64 (-1), .int .u64 0, .slice none 0 0]
theorem info_row : (Try.prog.info? 134).map (fun i => (i.zero, i.size, i.bytes)) = some (some (.agg #[.bool false, .slice none 0 0, .int .i64 0, .int .u64 0, .slice none 0 0]), 5, 72) := by kernel_rfl
theorem row0_news {w : World} {b : Nat} (h : w.heap[b]? = some (.cells #[.bool false, .slice none 0 0, .int .i64 (-1), .int .u64 0, .slice none 0 0] 134 (0, 0))) :
    Src Try.prog 5 81 (.slice (some ⟨b, 0, none⟩) 1 1) 1 [.bool false, .slice none 0 0, .int .i64 (-1), .int .u64 0, .slice none 0 0] w :=
  Src.ofSlice _ Try.underlying81 ⟨b, 0, none⟩ 1 1 _ rfl (World.news_of_block (cs := #[.bool false, .slice none 0 0, .int .i64 (-1), .int .u64 0, .slice none 0 0]) (t := 134) (fr := (0, 0)) h) (by simp [Value.oneCell'])
theorem rowsV_snoc (rs : List Rw.Row) (vs : List (Value × Value)) (r : Rw.Row) (v : Value × Value) (h : vs.length = rs.length) : rowsV (rs ++ [r]) (vs ++ [v]) = rowsV rs vs ++ rowV r v := by
  simp [rowsV, List.zip_append h.symm]
theorem rowAt_snoc {w : World} {B : Nat} {rs : List Rw.Row} {vs : List (Value × Value)} {r : Rw.Row} {v : Value × Value} (hl : vs.length = rs.length) (h : ∀ (k : Nat) r v, rs[k]? = some r → vs[k]? = some v → RowAt w B r v) (hr : RowAt w B r v) :
    ∀ (k : Nat) r' v', (rs ++ [r])[k]? = some r' → (vs ++ [v])[k]? = some v' → RowAt w B r' v' := fun k r' v' h1 h2 => by
  rcases Nat.lt_or_ge k rs.length with hk | hk
  · rw [List.getElem?_append_left hk] at h1
    rw [List.getElem?_append_left (by omega)] at h2
    exact h k r' v' h1 h2
  · have hk' : k = rs.length := by
      have := (List.getElem?_eq_some_iff.1 h1).1
      simp at this; omega
    subst hk'
    rw [List.getElem?_append_right (Nat.le_refl _), Nat.sub_self] at h1
    rw [List.getElem?_append_right (by omega), hl, Nat.sub_self] at h2
    simp at h1 h2
    subst h1
    subst h2
    exact hr
/-- Two boxes, laid one behind the other: the table's pointer, and a number. -/
theorem boxes2 (w : World) (P n : Nat) : Below w.heap.size w ((w.alloc (.cells #[.pointer (some ⟨P, 0, none⟩)] 39)).alloc (.cells #[.int .i64 (n : Nat)] 3)) ∧
    ((w.alloc (.cells #[.pointer (some ⟨P, 0, none⟩)] 39)).alloc (.cells #[.int .i64 (n : Nat)] 3)).heap[w.heap.size]? = some (.cells #[.pointer (some ⟨P, 0, none⟩)] 39 (0, 0)) ∧
    ((w.alloc (.cells #[.pointer (some ⟨P, 0, none⟩)] 39)).alloc (.cells #[.int .i64 (n : Nat)] 3)).heap[w.heap.size + 1]? = some (.cells #[.int .i64 (n : Nat)] 3 (0, 0)) ∧
    ((w.alloc (.cells #[.pointer (some ⟨P, 0, none⟩)] 39)).alloc (.cells #[.int .i64 (n : Nat)] 3)).heap.size = w.heap.size + 2 := by
  refine ⟨(below_laid w _).alloc (by simp) _, ?_, ?_, by simp⟩
  · rw [heap_at, if_neg (by rw [World.size_alloc]; omega), heap_at, if_pos rfl]
  · rw [heap_at, if_pos (by rw [World.size_alloc])]
theorem TbX.not_on {w : World} {B P : Nat} {g : Bl} {s : T} {vu vt vr vo ve : Value} {vs : List (Value × Value)} {fs : List Value} {b : Nat} {cs : Array Value} (h : TbX w B P g s vu vt vr vo ve vs fs) (hb : w.heap[b]? = some (.cells cs 3 (0, 0))) (hn : g.t ≠ some b ∧ g.o ≠ some b) : ¬ OnB P g b := by
  obtain ⟨h1, h2, h3, h4, h5, h6⟩ := h.off (b := b) (.inr ⟨_, _, hb, .inr (.inr (.inr (.inr (.inl ⟨rfl, hn.1, hn.2⟩))))⟩)
  obtain ⟨b1, b2, b3, b4, b5⟩ := h.bl
  rintro (e | e | e | e | e | e)
  · exact h1 e
  · exact h2 (b1.trans e)
  · exact h3 (b2.trans e)
  · exact h4 (b3.trans e)
  · exact h5 (b4.trans e)
  · exact h6 (b5.trans e)
/-- A number in a box that is none of the table's blocks is kept by a step. -/
theorem Stp.kept_int {w w' : World} {B P : Nat} {g : Bl} {s' : T} {b : Nat} {z : Int} (h : Stp w B P g s' w') (hb : w.heap[b]? = some (.cells #[.int .i64 z] 3 (0, 0))) (hn : ¬ OnB P g b) : w'.cell? ⟨b, 0, none⟩ = some (.int .i64 z) := by
  obtain ⟨g', h1, h2, h3⟩ := h.ex
  rw [cell_block ((h2.block b (blk_lt hb) hn).trans hb)]
  rfl
set_option maxRecDepth 100000 in
set_option maxHeartbeats 2000000 in
theorem fresh_any (P B : Nat) (g : Bl) (s : T) (w : World) (h : Tb w B P g s) (hB : B ≤ w.heap.size) (hn : s.rows.length ≤ 1000000000) (hu : s.undo.length ≤ 1000000000) :
    Calls Try.prog 46 #[.pointer (some ⟨P, 0, none⟩)] w fun e w' => RetK (.int .i64 (s.rows.length : Nat)) w B P g s.fresh e w' := by
  obtain ⟨i1, hj, hy0, hy1, hy2⟩ := info_parts info_row
  have hmf := @makes Try.prog
  obtain ⟨vu, vt, vr, vo, ve, vs, fs, hx⟩ := h
  obtain ⟨Ar, cr, rfl, hcr, hcrm⟩ := RowZ.form hx.rows
  obtain ⟨hb2, e0, e1, hs2⟩ := boxes2 w P s.rows.length
  have hx2 := hx.below hb2
  have c2 : (w.alloc (.cells #[.pointer (some ⟨P, 0, none⟩)] 39)).cell? ⟨P, 2, none⟩ = some (.slice Ar s.rows.length cr) := (World.cell?_alloc_lt w _ ⟨P, 2, none⟩ hx.lt).trans hx.cells.2.2.1
  have k0 : ((w.alloc (.cells #[.pointer (some ⟨P, 0, none⟩)] 39)).alloc (.cells #[.int .i64 (s.rows.length : Nat)] 3)).cell? ⟨w.heap.size, 0, none⟩ = some (.pointer (some ⟨P, 0, none⟩)) := by rw [cell_block e0]; rfl
  have k2 := hx2.cells.2.2.1
  have hlt := hx2.lt
  have hnt : g.t ≠ some (w.heap.size + 1) ∧ g.o ≠ some (w.heap.size + 1) := by
    obtain ⟨b1, b2, b3, b4, b5⟩ := hx.bl
    exact ⟨fun e => by have := RowZ.lt hx.times _ (b2.trans e); omega, fun e => by have := RowZ.lt hx.own _ (b4.trans e); omega⟩
  have HO := hide (hx.cells.2.2.2.1)
  have HX := hide (And.intro hx2 (And.intro hb2 (And.intro e0 (And.intro e1 (And.intro hs2 (And.intro hB hnt))))))
  clear hx hx2 hb2 e0 e1 hB hnt hs2
  go_enter Try.func46, Try.ntmps46
  go_upto_region 2 with (fail)
  generalize (w.alloc (.cells #[.pointer (some ⟨P, 0, none⟩)] 39)).alloc (.cells #[.int .i64 (s.rows.length : Nat)] 3) = W at *
  clear c2
  have hbsz : w.heap.size < W.heap.size := by have := HX.out.2.2.2.2.1; omega
  refine wp_region_chain [0, 1, 2, 3, 4, 5] [(6, true), (7, true), (8, false), (9, false), (10, false)] (fun w' => w'.cell? ⟨w.heap.size, 0, none⟩ = some (.pointer (some ⟨P, 0, none⟩)) ∧ w'.cell? ⟨P, 2, none⟩ = some (.slice Ar s.rows.length cr)) (by kernel_rfl) (by kernel_rfl) (fun _ _ _ _ _ h => h) ⟨k0, k2⟩ ?_
  intro hne
  simp only [picks, picksW, List.filterMap_cons, List.filterMap_nil, List.getElem?_cons_zero, List.getElem?_cons_succ, Option.map_some]
  have hu0 : ∀ u : HoldW (fun w' => w'.cell? ⟨w.heap.size, 0, none⟩ = some (.pointer (some ⟨P, 0, none⟩)) ∧ w'.cell? ⟨P, 2, none⟩ = some (.slice Ar s.rows.length cr)), u.w.cell? ⟨w.heap.size, 0, none⟩ = some (.pointer (some ⟨P, 0, none⟩)) := fun u => u.ok.1
  have hu1 : ∀ u : HoldW (fun w' => w'.cell? ⟨w.heap.size, 0, none⟩ = some (.pointer (some ⟨P, 0, none⟩)) ∧ w'.cell? ⟨P, 2, none⟩ = some (.slice Ar s.rows.length cr)), u.w.cell? ⟨P, 2, none⟩ = some (.slice Ar s.rows.length cr) := fun u => u.ok.2
  repeat (refine wpHeld_step (fun K hK => ?_); go_simp; refine hK _ ?_; clear hK K)
  refine wpHeld_nil ?_
  clear hu0 hu1 hne
  refine wpChain_cons fun K hK => ?_
  go_wp2_with fail
  have hba : Below W.drew.heap.size W.drew (W.drew.alloc (.cells #[.bool false, .slice none 0 0, .int .i64 (-1), .int .u64 0, .slice none 0 0] 134)) := below_laid W.drew _
  refine chainF (fun _ => ⟨(hba.cell (p := ⟨w.heap.size, 0, none⟩) hbsz).trans k0, (hba.cell (p := ⟨P, 2, none⟩) hlt).trans k2⟩) (hK _ _ ?_)
  clear hK K
  have hxa := HX.out.1.drew.below hba
  have HA := hide (And.intro hxa hba)
  clear hxa hba
  refine wpChain_cons fun K hK => ?_
  refine app_rowz rfl (.tmp 13) (.tmp 15) 81 81 rfl 134 i1 _ 5 72 Try.underlying81 hj hy0 hy1 hy2 rfl (.slice Ar s.rows.length cr) s.rows.length (rowsV s.rows vs) rfl HA.out.1.rows _ 1 [.bool false, .slice none 0 0, .int .i64 (-1), .int .u64 0, .slice none 0 0] rfl (row0_news (heap_alloc_new W.drew _)) (by unfold maxLen; omega) (by omega) ?_
  intro A' c' w' hr hg hob
  have hxa := HA.out.1
  have hnb : (Value.slice A' (s.rows.length + 1) c').ownBlock = (Value.slice Ar s.rows.length cr).ownBlock ∨ ∃ b, (Value.slice A' (s.rows.length + 1) c').ownBlock = some b ∧ (W.drew.alloc (.cells #[.bool false, .slice none 0 0, .int .i64 (-1), .int .u64 0, .slice none 0 0] 134)).heap.size ≤ b := hob.imp id fun e => ⟨_, e, Nat.le_refl _⟩
  have hkk : ∀ b, b < (W.drew.alloc (.cells #[.bool false, .slice none 0 0, .int .i64 (-1), .int .u64 0, .slice none 0 0] 134)).heap.size → (Value.slice Ar s.rows.length cr).ownBlock ≠ some b → w'.heap[b]? = (W.drew.alloc (.cells #[.bool false, .slice none 0 0, .int .i64 (-1), .int .u64 0, .slice none 0 0] 134)).heap[b]? := fun b hb hne => hg.block b hb fun e => hne e.symm
  have hBa : B ≤ (W.drew.alloc (.cells #[.bool false, .slice none 0 0, .int .i64 (-1), .int .u64 0, .slice none 0 0] 134)).heap.size := Nat.le_trans HX.out.2.2.2.2.2.1 (Nat.le_trans HX.out.2.1.size HA.out.2.size)
  have hrk : ∀ (k : Nat) r v, (s.rows ++ [Rw.row0])[k]? = some r → (vs ++ [(.slice none 0 0, .slice none 0 0)])[k]? = some v → RowAt w' B r v := rowAt_snoc hxa.vsl (fun k r v h1 h2 => (hxa.rowAt k r v h1 h2).keep hg.size fun b hb hc => hkk b hb (hxa.off (leans_row hc)).2.2.2.1) ⟨SlAt.nil _ _ _ _, SlAt.nil _ _ _ _⟩
  have hnew := hxa.newR (rs' := s.rows ++ [Rw.row0]) (vs' := vs ++ [(.slice none 0 0, .slice none 0 0)]) (v' := .slice A' (s.rows.length + 1) c') hg.size hkk (by rw [List.length_append, rowsV_snoc _ _ _ _ hxa.vsl]; exact hr) (by simp [hxa.vsl]) hrk hnb hBa
  have hPw : w'.heap[P]? = (W.drew.alloc (.cells #[.bool false, .slice none 0 0, .int .i64 (-1), .int .u64 0, .slice none 0 0] 134)).heap[P]? := hkk P hxa.lt hxa.ne.1.2.2.1
  have hb0 : (W.drew.alloc (.cells #[.bool false, .slice none 0 0, .int .i64 (-1), .int .u64 0, .slice none 0 0] 134)).heap[w.heap.size]? = some (.cells #[.pointer (some ⟨P, 0, none⟩)] 39 (0, 0)) := (HA.out.2.block _ hbsz).trans HX.out.2.2.1
  have hb1 : (W.drew.alloc (.cells #[.bool false, .slice none 0 0, .int .i64 (-1), .int .u64 0, .slice none 0 0] 134)).heap[w.heap.size + 1]? = some (.cells #[.int .i64 (s.rows.length : Nat)] 3 (0, 0)) := (HA.out.2.block _ (by have := HX.out.2.2.2.2.1; show _ < W.heap.size; omega)).trans HX.out.2.2.2.1
  have hbt : w'.heap[w.heap.size]? = some (.cells #[.pointer (some ⟨P, 0, none⟩)] 39 (0, 0)) := (hkk _ (blk_lt hb0) (RowZ.ne_type hxa.rows hb0 (by decide))).trans hb0
  have hbn : w'.heap[w.heap.size + 1]? = some (.cells #[.int .i64 (s.rows.length : Nat)] 3 (0, 0)) := (hkk _ (blk_lt hb1) (RowZ.ne_type hxa.rows hb1 (by decide))).trans hb1
  have hPself : w'.heap[P]? = some (.cells #[vu, vt, .slice Ar s.rows.length cr, vo, ve, .bool s.stuck, whyV s.why] 83 (0, 0)) := hPw.trans hxa.self
  have q0 : w'.cell? ⟨w.heap.size, 0, none⟩ = some (.pointer (some ⟨P, 0, none⟩)) := by rw [cell_block hbt]; rfl
  have q1 : w'.cell? ⟨P, 2, none⟩ = some (.slice Ar s.rows.length cr) := (World.cell?_of_block hPw).trans hxa.cells.2.2.1
  have q2 : w'.frozen? ⟨P, 2, none⟩ = false := (World.frozen?_of_block hPw).trans (hxa.free 2)
  have hkp : Kp (OnB P g) w (w'.setCell ⟨P, 2, none⟩ (.slice A' (s.rows.length + 1) c')) :=
    (((Kp.of_below (S := OnB P g) HX.out.2.1).trans (S' := OnB P g) (((Kp.refl _ W).drew).alloc _) (fun b h => .inl h)).grown hg fun b hb => .inl (.inr (.inr (.inr (.inl (by rw [← hxa.bl.2.2.1]; exact hb)))))).setCell (.inl (.inl rfl)) _
  have hst : (w'.setCell ⟨P, 2, none⟩ (.slice A' (s.rows.length + 1) c')).heap[w.heap.size]? = some (.cells #[.pointer (some ⟨P, 0, none⟩)] 39 (0, 0)) := (Below.heap_setCell _ _ _ _ (blocks_ne hbt hPself (by decide))).trans hbt
  have hsn : (w'.setCell ⟨P, 2, none⟩ (.slice A' (s.rows.length + 1) c')).heap[w.heap.size + 1]? = some (.cells #[.int .i64 (s.rows.length : Nat)] 3 (0, 0)) := (Below.heap_setCell _ _ _ _ (blocks_ne hbn hPself (by decide))).trans hbn
  have hgn : Gn w g { g with r := (Value.slice A' (s.rows.length + 1) c').ownBlock } := by
    refine ⟨.inl rfl, .inl rfl, ?_, .inl rfl, .inl rfl⟩
    rcases hnb with e | ⟨b, e, hb⟩
    · exact .inl (e.trans hxa.bl.2.2.1)
    · exact .inr ⟨b, e, Nat.le_trans HX.out.2.1.size (Nat.le_trans HA.out.2.size hb)⟩
  have hBs : B ≤ (w'.setCell ⟨P, 2, none⟩ (.slice A' (s.rows.length + 1) c')).heap.size := Nat.le_trans hBa (Nat.le_trans hg.size (Nat.le_of_eq (by simp)))
  have HF := hide (And.intro hnew (And.intro hkp (And.intro hst (And.intro hsn (And.intro hgn (And.intro HX.out.2.2.2.2.2.2 hBs))))))
  refine chainF (fun _ => ⟨q0, q1⟩) (hK _ _ ?_)
  clear hr hg hob hxa hkk hnew hPw hkp hnb hBa hrk hb0 hb1 hbt hbn hPself hst hsn hgn hBs k0 k2 hK K hlt hbsz
  refine wpChain_cons fun K hK => ?_
  go_wp2_with fail
  refine chainSkip (hK _ _ ?_)
  clear hK K
  refine wpChain_cons fun K hK => ?_
  go_wp2_with fail
  refine chainSkip (hK _ _ ?_)
  clear hK K
  refine wpChain_cons fun K hK => ?_
  go_wp2_with fail
  refine chainSkip (hK _ _ ?_)
  clear hK K
  refine wpChain_nil ?_
  clear q0 q1 q2
  generalize w'.setCell ⟨P, 2, none⟩ (.slice A' (s.rows.length + 1) c') = Y at *
  have y0 : Y.cell? ⟨w.heap.size, 0, none⟩ = some (.pointer (some ⟨P, 0, none⟩)) := by rw [cell_block HF.out.2.2.1]; rfl
  have hD : Tb Y B P { g with r := (Value.slice A' (s.rows.length + 1) c').ownBlock } { s with rows := s.rows ++ [Rw.row0] } := ⟨_, _, _, _, _, _, _, HF.out.1⟩
  have HD := hide (did_any P B _ (.func 71) #[.pointer (some ⟨w.heap.size, 0, none⟩), .pointer (some ⟨w.heap.size + 1, 0, none⟩)] (.cutRows s.rows.length) _ Y hD ⟨w.heap.size, w.heap.size + 1, rfl, HF.out.2.2.1, HF.out.2.2.2.1, HF.out.2.2.2.2.2.1⟩ HF.out.2.2.2.2.2.2 hu)
  clear hD
  go_wp2_with (go_at_call 47; refine (HD.out).mono ?_; rintro e w5 ⟨⟨rfl, hS⟩, hO⟩; have HO2 := hide (hO.trans (HF.out.1.cells.2.2.2.1)); clear hO; have HS := hide (Stp.trans (HF.out.2.1) HF.out.2.2.2.2.1 hS); have hnl := hS.kept_int HF.out.2.2.2.1 (TbX.not_on HF.out.1 HF.out.2.2.2.1 HF.out.2.2.2.2.2.1); clear hS)
  go_ret
  exact ⟨⟨rfl, HS.out⟩, HO2.out.trans HO.out.symm⟩
end Go.Proofs.Ythnbhcfpfbimgaa
/- Stages of a walk over a table: what stays. -/
namespace Go.Proofs.Ythnbhcfpfbimgaa
open Go.RowKit
open Rw (El At Fld Lk Eqn U T W64)

/-- What a table's closures and a walk's own boxes lean on is kept. -/
structure Kept (w : World) (B : Nat) (g : Bl) (w' : World) (g' : Bl) : Prop where
  size : w.heap.size ≤ w'.heap.size
  block : ∀ b, b < w.heap.size → Leans w B g b → w'.heap[b]? = w.heap[b]?
  t : ∀ b, b < w.heap.size → g.t ≠ some b → g'.t ≠ some b
  o : ∀ b, b < w.heap.size → g.o ≠ some b → g'.o ≠ some b
  r : ∀ b, b < w.heap.size → g.r ≠ some b → g'.r ≠ some b
def PBox (w : World) (P b : Nat) : Prop := w.heap[b]? = some (.cells #[.pointer (some ⟨P, 0, none⟩)] 39 (0, 0))
def IBox (w : World) (g : Bl) (b : Nat) (z : Int) : Prop := w.heap[b]? = some (.cells #[.int .i64 z] 3 (0, 0)) ∧ g.t ≠ some b ∧ g.o ≠ some b
section
variable {w w' w1 w2 : World} {B P : Nat} {g g' g1 g2 : Bl} {s s1 s2 : T}
theorem Leans.not_on {b : Nat} (h : Tb w B P g s) (hl : Leans w B g b) : ¬ OnB P g b := by
  obtain ⟨_, _, _, _, _, _, _, hx⟩ := h
  obtain ⟨h1, h2, h3, h4, h5, h6⟩ := hx.off hl
  obtain ⟨b1, b2, b3, b4, b5⟩ := hx.bl
  rintro (e | e | e | e | e | e)
  · exact h1 e
  · exact h2 (b1.trans e)
  · exact h3 (b2.trans e)
  · exact h4 (b3.trans e)
  · exact h5 (b4.trans e)
  · exact h6 (b5.trans e)
theorem Kept.mk' (h : Tb w B P g s) (hk : Kp (OnB P g) w w') (hg : Gn w g g') : Kept w B g w' g' :=
  ⟨hk.size, fun b hb hl => hk.block b hb (hl.not_on h), fun _ hb hn => hg.t.ne hb hn, fun _ hb hn => hg.o.ne hb hn, fun _ hb hn => hg.r.ne hb hn⟩
theorem Kept.of_below (h : Below w.heap.size w w') : Kept w B g w' g := ⟨h.size, fun b hb _ => h.block b hb, fun _ _ h => h, fun _ _ h => h, fun _ _ h => h⟩
theorem Kept.drew : Kept w B g w.drew g := Kept.of_below (below_drewN (Below.refl _ _) 1)
theorem Kept.pbox {b : Nat} (h : Kept w B g w' g') (hb : PBox w P b) : PBox w' P b := (h.block b (blk_lt hb) (.inr ⟨_, _, hb, .inr (.inr (.inr (.inl rfl)))⟩)).trans hb
theorem Kept.ibox {b : Nat} {z : Int} (h : Kept w B g w' g') (hb : IBox w g b z) : IBox w' g' b z :=
  ⟨(h.block b (blk_lt hb.1) (.inr ⟨_, _, hb.1, .inr (.inr (.inr (.inr (.inl ⟨rfl, hb.2⟩))))⟩)).trans hb.1, h.t b (blk_lt hb.1) hb.2.1, h.o b (blk_lt hb.1) hb.2.2⟩
theorem Kept.func {f : Value} {u : U} (h : Kept w B g w' g') (hf : FuncIs w B P g f u) : FuncIs w' B P g' f u := hf.keep h.size h.block h.t h.o h.r
theorem Kept.fields {v : Value} {n : Nat} {xs : List Value} (h : Kept w B g w' g') (hf : SlAt w B 60 10 v n xs) : SlAt w' B 60 10 v n xs :=
  hf.keep h.size fun b hb hl => h.block b hb (hl.imp id fun ⟨cs, e⟩ => ⟨_, cs, e, .inl rfl⟩)
theorem Kept.lacks {v : Value} {n : Nat} {xs : List Value} (h : Kept w B g w' g') (hf : SlAt w B 145 2 v n xs) : SlAt w' B 145 2 v n xs :=
  hf.keep h.size fun b hb hl => h.block b hb (hl.imp id fun ⟨cs, e⟩ => ⟨_, cs, e, .inr (.inl rfl)⟩)
theorem Kept.rowAt {r : Rw.Row} {v : Value × Value} (h : Kept w B g w' g') (hf : RowAt w B r v) : RowAt w' B r v := ⟨h.fields hf.fields, h.lacks hf.lacks⟩
/-- Below B all is kept. -/
theorem Kept.low {b : Nat} {o : Obj} (h : Kept w B g w' g') (hb : w.heap[b]? = some o) (hB : b < B) : w'.heap[b]? = some o := (h.block b (blk_lt hb) (.inl hB)).trans hb
theorem PBox.cell {b : Nat} (h : PBox w P b) : w.cell? ⟨b, 0, none⟩ = some (.pointer (some ⟨P, 0, none⟩)) := by rw [cell_block h]; rfl
theorem IBox.cell {b : Nat} {z : Int} (h : IBox w g b z) : w.cell? ⟨b, 0, none⟩ = some (.int .i64 z) := by rw [cell_block h.1]; rfl
theorem TbX.ibox {vu vt vr vo ve : Value} {vs : List (Value × Value)} {fs : List Value} {b : Nat} {z : Int} (hx : TbX w B P g s vu vt vr vo ve vs fs) (hw : w.heap.size ≤ b) (h : w'.heap[b]? = some (.cells #[.int .i64 z] 3 (0, 0))) : IBox w' g b z := by
  obtain ⟨b1, b2, b3, b4, b5⟩ := hx.bl
  exact ⟨h, fun e => by have := RowZ.lt hx.times _ (b2.trans e); omega, fun e => by have := RowZ.lt hx.own _ (b4.trans e); omega⟩
/-- How far a walk has come: the table is there, with a state, and nothing else has turned. -/
structure Sg (w : World) (B P : Nat) (g : Bl) (w1 : World) (g1 : Bl) (s1 : T) : Prop where
  tb : Tb w1 B P g1 s1
  kp : Kp (OnB P g) w w1
  gn : Gn w g g1
  ge : B ≤ w1.heap.size
theorem Sg.refl (h : Tb w B P g s) (hB : B ≤ w.heap.size) : Sg w B P g w g s := ⟨h, Kp.refl _ _, Gn.refl _ _, hB⟩
theorem Sg.stp (h : Sg w B P g w1 g1 s1) : Stp w B P g s1 w1 := ⟨g1, h.tb, h.kp, h.gn⟩
theorem Sg.stepG (h : Sg w B P g w1 g1 s1) (ht : Tb w2 B P g2 s2) (hk : Kp (OnB P g1) w1 w2) (hg : Gn w1 g1 g2) : Sg w B P g w2 g2 s2 ∧ Kept w1 B g1 w2 g2 :=
  ⟨⟨ht, h.kp.trans hk h.gn.on, h.gn.trans hg h.kp.size, Nat.le_trans h.ge hk.size⟩, Kept.mk' h.tb hk hg⟩
theorem Sg.step (h : Sg w B P g w1 g1 s1) (h2 : Stp w1 B P g1 s2 w2) : ∃ g2, Sg w B P g w2 g2 s2 ∧ Kept w1 B g1 w2 g2 := by
  obtain ⟨g2, a, b, c⟩ := h2.ex
  exact ⟨g2, h.stepG a b c⟩
theorem Sg.below (h : Sg w B P g w1 g1 s1) (hb : Below w1.heap.size w1 w2) : Sg w B P g w2 g1 s1 ∧ Kept w1 B g1 w2 g1 := by
  obtain ⟨vu, vt, vr, vo, ve, vs, fs, hx⟩ := h.tb
  exact h.stepG ⟨vu, vt, vr, vo, ve, vs, fs, hx.below hb⟩ (Kp.of_below hb) (Gn.refl _ _)
end
end Go.Proofs.Ythnbhcfpfbimgaa
/- The walk of Var: one variable more. -/
namespace Go.Proofs.Ythnbhcfpfbimgaa
open Go.RowKit
open Rw (El At Fld Lk Eqn U T W64)

theorem var_nil (w : World) : Calls Try.prog 22 #[.pointer none] w fun e w' => e = .returned (.int .i64 (-1)) ∧ Below w.heap.size w w' := by
  have hba := below_laid w (.cells #[.pointer none] 39)
  have HB := hide hba
  clear hba
  go_enter Try.func22, Try.ntmps22
  go_wp2_with fail
  go_ret
  exact ⟨rfl, HB.out⟩
set_option maxRecDepth 100000 in
set_option maxHeartbeats 2000000 in
theorem var_any (P B : Nat) (g : Bl) (s : T) (w : World) (h : Tb w B P g s) (hB : B ≤ w.heap.size) (ht : s.times.length ≤ 1000000000) (hn : s.rows.length ≤ 1000000000) (hw : s.own.length ≤ 1000000000) (hu : s.undo.length ≤ 900000000) :
    Calls Try.prog 22 #[.pointer (some ⟨P, 0, none⟩)] w fun e w' => RetS (.int .i64 (s.own.length : Nat)) w B P g s.var e w' := by
  obtain ⟨i1, hj, hy0, hy1, hy2⟩ := info_parts info_int
  have hmf := @makes Try.prog
  have hbb := below_laid w (.cells #[.pointer (some ⟨P, 0, none⟩)] 39)
  obtain ⟨hS0, hK0⟩ := (Sg.refl h hB).below hbb
  have hp0 : PBox (w.alloc (.cells #[.pointer (some ⟨P, 0, none⟩)] 39)) P w.heap.size := heap_alloc_new w _
  have k0 := hp0.cell
  have hS0d := (hS0.below (w2 := (w.alloc (.cells #[.pointer (some ⟨P, 0, none⟩)] 39)).drew) (below_drewN (Below.refl _ _) 1)).1
  have HT := hide (tick_any P B g s _ hS0.tb hS0.ge ht)
  have H0 := hide (And.intro hS0 hp0)
  clear h hB hbb hS0 hK0 hp0 hS0d
  go_enter Try.func22, Try.ntmps22
  go_upto_region 4 with (go_at_call 45; refine (HT.out).mono ?_; rintro e w1 ⟨rfl, hS⟩; have HS := hide hS; clear hS)
  obtain ⟨g1, hS1, hK1⟩ := H0.out.1.step HS.out
  have hp1 := hK1.pbox H0.out.2
  have k1 := hp1.cell
  obtain ⟨vu, vt, vr, vo, ve, vs, fs, hx⟩ := hS1.tb
  obtain ⟨Ao, co, rfl, hco, hcom⟩ := RowZ.form (show RowZ w1 3 1 vo s.own.length (intsV s.own) from hx.own)
  have c1 := hx.cells.2.2.2.1
  have hsz0 : w.heap.size < w1.heap.size := Nat.lt_of_lt_of_le (by rw [World.size_alloc]; omega) hK1.size
  have hba := below_laid w1 (.cells #[.int .i64 (s.own.length : Nat)] 3)
  have hx2 := hx.below hba
  obtain ⟨hS2, hK2⟩ := hS1.below hba
  have hp2 := hK2.pbox hp1
  have hi2 : IBox (w1.alloc (.cells #[.int .i64 (s.own.length : Nat)] 3)) g1 w1.heap.size (s.own.length : Nat) := hx.ibox (Nat.le_refl _) (heap_alloc_new w1 _)
  have k2 := hp2.cell
  have c2 := hx2.cells.2.2.2.1
  have HX := hide (And.intro hx2 (And.intro hS2 (And.intro hp2 hi2)))
  clear hS1 hK1 hp1 hx hba hx2 hS2 hK2 hp2 hi2 HS k0
  go_upto_region 5 with (fail)
  generalize w1.alloc (.cells #[.int .i64 (s.own.length : Nat)] 3) = W at *
  clear c1 k1
  refine wp_region_chain [0, 1, 2, 3, 4, 5] [(6, true), (7, true), (8, true), (9, false), (10, false), (11, false)] (fun w' => w'.cell? ⟨w.heap.size, 0, none⟩ = some (.pointer (some ⟨P, 0, none⟩)) ∧ w'.cell? ⟨P, 3, none⟩ = some (.slice Ao s.own.length co)) (by kernel_rfl) (by kernel_rfl) (fun _ _ _ _ _ h => h) ⟨k2, c2⟩ ?_
  intro hne
  simp only [picks, picksW, List.filterMap_cons, List.filterMap_nil, List.getElem?_cons_zero, List.getElem?_cons_succ, Option.map_some]
  have hu0 : ∀ u : HoldW (fun w' => w'.cell? ⟨w.heap.size, 0, none⟩ = some (.pointer (some ⟨P, 0, none⟩)) ∧ w'.cell? ⟨P, 3, none⟩ = some (.slice Ao s.own.length co)), u.w.cell? ⟨w.heap.size, 0, none⟩ = some (.pointer (some ⟨P, 0, none⟩)) := fun u => u.ok.1
  have hu1 : ∀ u : HoldW (fun w' => w'.cell? ⟨w.heap.size, 0, none⟩ = some (.pointer (some ⟨P, 0, none⟩)) ∧ w'.cell? ⟨P, 3, none⟩ = some (.slice Ao s.own.length co)), u.w.cell? ⟨P, 3, none⟩ = some (.slice Ao s.own.length co) := fun u => u.ok.2
  repeat (refine wpHeld_step (fun K hK => ?_); go_simp; refine hK _ ?_; clear hK K)
  refine wpHeld_nil ?_
  clear hu0 hu1 hne
  have HFr := hide (fresh_any P B g1 s.tick W.drew (HX.out.2.1.below (below_drewN (Below.refl _ _) 1)).1.tb HX.out.2.1.ge (by simpa [Rw.T.tick] using hn) (by simp [Rw.T.tick]; omega))
  refine wpChain_cons fun K hK => ?_
  go_wp2_with (go_at_call 46; refine (HFr.out).mono ?_; rintro e w5 ⟨⟨rfl, hS⟩, hO⟩; have HS := hide (And.intro hS hO); clear hS hO)
  obtain ⟨hS3, hK3⟩ := HX.out.2.1.below (w2 := W.drew) (below_drewN (Below.refl _ _) 1)
  obtain ⟨g5, hS5, hK5⟩ := hS3.step HS.out.1
  have hp5 := hK5.pbox (hK3.pbox HX.out.2.2.1)
  have hi5 := hK5.ibox (hK3.ibox HX.out.2.2.2)
  have k5 := hp5.cell
  have c5 : w5.cell? ⟨P, 3, none⟩ = some (.slice Ao s.own.length co) := HS.out.2.trans c2
  obtain ⟨vu, vt, vr, vo, ve, vs, fs, hx⟩ := hS5.tb
  obtain rfl : Value.slice Ao s.own.length co = vo := by have := hx.cells.2.2.2.1; rw [c5] at this; exact Option.some.inj this
  have hlt5 : P < w5.heap.size := hx.lt
  have hb5 : w.heap.size < w5.heap.size := blk_lt hp5
  have H5 := hide (And.intro hx (And.intro hS5 (And.intro hp5 hi5)))
  clear hx hS5 hp5 hi5 hS3 hK3 hK5
  refine chainF (fun _ => ⟨k5, c5⟩) (hK _ _ ?_)
  clear hK K k2 c2
  refine wpChain_cons fun K hK => ?_
  go_wp2_with fail
  have hba := below_laid w5 (.cells #[.int .i64 (s.tick.rows.length : Nat)] 3)
  refine chainF (fun _ => ⟨(hba.cell (p := ⟨w.heap.size, 0, none⟩) hb5).trans k5, (hba.cell (p := ⟨P, 3, none⟩) hlt5).trans c5⟩) (hK _ _ ?_)
  clear hK K
  have hxa := H5.out.1.below hba
  have HA := hide (And.intro hxa (And.intro (H5.out.2.1.below hba) hba))
  clear hxa hba
  refine wpChain_cons fun K hK => ?_
  refine app_rowz rfl (.tmp 19) (.tmp 22) 78 78 rfl 3 i1 _ 1 8 Try.underlying78 hj hy0 hy1 hy2 rfl (.slice Ao s.own.length co) s.own.length (intsV s.own) rfl HA.out.1.own _ 1 [.int .i64 (s.tick.rows.length : Nat)] rfl (int_news (heap_alloc_new w5 _)) (by unfold maxLen; omega) (by omega) ?_
  intro A' c' w' hr hg hob
  have hxa := HA.out.1
  have hnb : (Value.slice A' (s.own.length + 1) c').ownBlock = (Value.slice Ao s.own.length co).ownBlock ∨ ∃ b, (Value.slice A' (s.own.length + 1) c').ownBlock = some b ∧ (w5.alloc (.cells #[.int .i64 (s.tick.rows.length : Nat)] 3)).heap.size ≤ b := hob.imp id fun e => ⟨_, e, Nat.le_refl _⟩
  have hkk : ∀ b, b < (w5.alloc (.cells #[.int .i64 (s.tick.rows.length : Nat)] 3)).heap.size → (Value.slice Ao s.own.length co).ownBlock ≠ some b → w'.heap[b]? = (w5.alloc (.cells #[.int .i64 (s.tick.rows.length : Nat)] 3)).heap[b]? := fun b hb hne => hg.block b hb fun e => hne e.symm
  have hnew := hxa.newO (l' := s.own ++ [s.rows.length]) (v' := .slice A' (s.own.length + 1) c') hg.size hkk (by rw [List.length_append, show intsV (s.own ++ [s.rows.length]) = intsV s.own ++ [.int .i64 (s.rows.length : Nat)] by simp [intsV]]; exact hr) hnb HA.out.2.1.1.ge
  have hPw : w'.heap[P]? = (w5.alloc (.cells #[.int .i64 (s.tick.rows.length : Nat)] 3)).heap[P]? := hkk P hxa.lt hxa.ne.1.2.2.2.1
  have hkp : Kp (OnB P g5) (w5.alloc (.cells #[.int .i64 (s.tick.rows.length : Nat)] 3)) (w'.setCell ⟨P, 3, none⟩ (.slice A' (s.own.length + 1) c')) :=
    ((Kp.refl _ _).grown hg fun b hb => .inl (.inr (.inr (.inr (.inr (.inl (by rw [← hxa.bl.2.2.2.1]; exact hb))))))).setCell (.inl (.inl rfl)) _
  have hgn : Gn (w5.alloc (.cells #[.int .i64 (s.tick.rows.length : Nat)] 3)) g5 { g5 with o := (Value.slice A' (s.own.length + 1) c').ownBlock } := by
    refine ⟨.inl rfl, .inl rfl, .inl rfl, ?_, .inl rfl⟩
    rcases hnb with e | ⟨b, e, hb⟩
    · exact .inl (e.trans hxa.bl.2.2.2.1)
    · exact .inr ⟨b, e, hb⟩
  obtain ⟨hS6, hK6⟩ := HA.out.2.1.1.stepG ⟨_, _, _, _, _, _, _, hnew⟩ hkp hgn
  have hp6 := hK6.pbox (HA.out.2.1.2.pbox H5.out.2.2.1)
  have hi6 := hK6.ibox (HA.out.2.1.2.ibox H5.out.2.2.2)
  have q0 : w'.cell? ⟨w.heap.size, 0, none⟩ = some (.pointer (some ⟨P, 0, none⟩)) := by
    have := HA.out.2.1.2.pbox H5.out.2.2.1
    rw [cell_block ((hkk _ (blk_lt this) (RowZ.ne_type hxa.own this (by decide))).trans this)]; rfl
  have q1 : w'.cell? ⟨P, 3, none⟩ = some (.slice Ao s.own.length co) := (World.cell?_of_block hPw).trans hxa.cells.2.2.2.1
  have q2 : w'.frozen? ⟨P, 3, none⟩ = false := (World.frozen?_of_block hPw).trans (hxa.free 3)
  have HF := hide (And.intro hS6 (And.intro hp6 hi6))
  refine chainF (fun _ => ⟨q0, q1⟩) (hK _ _ ?_)
  clear hr hg hob hxa hkk hnew hPw hkp hnb hgn hS6 hK6 hp6 hi6 k5 c5 hK K hlt5 hb5
  refine wpChain_cons fun K hK => ?_
  go_wp2_with fail
  refine chainSkip (hK _ _ ?_)
  clear hK K
  refine wpChain_cons fun K hK => ?_
  go_wp2_with fail
  refine chainSkip (hK _ _ ?_)
  clear hK K
  refine wpChain_cons fun K hK => ?_
  go_wp2_with fail
  refine chainSkip (hK _ _ ?_)
  clear hK K
  refine wpChain_nil ?_
  clear q0 q1 q2
  generalize w'.setCell ⟨P, 3, none⟩ (.slice A' (s.own.length + 1) c') = Y at *
  have y0 := HF.out.2.1.cell
  have HD := hide (did_any P B _ (.func 48) #[.pointer (some ⟨w.heap.size, 0, none⟩), .pointer (some ⟨w1.heap.size, 0, none⟩)] (.cutOwn s.own.length) _ Y HF.out.1.tb ⟨w.heap.size, w1.heap.size, rfl, HF.out.2.1, HF.out.2.2.1, HF.out.2.2.2⟩ HF.out.1.ge (by simp [Rw.T.tick, Rw.T.fresh, Rw.T.did]; omega))
  go_wp2_with (go_at_call 47; refine (HD.out).mono ?_; rintro e w6 ⟨⟨rfl, hS⟩, _⟩; obtain ⟨g7, hS7, hK7⟩ := HF.out.1.step hS; have hnl := (hK7.ibox HF.out.2.2).cell; have HE := hide hS7; clear hS hS7 hK7)
  go_ret
  exact ⟨rfl, HE.out.stp⟩
end Go.Proofs.Ythnbhcfpfbimgaa
/- The walk of stick: the table is stuck, for a reason. -/
namespace Go.Proofs.Ythnbhcfpfbimgaa
open Go.RowKit
open Rw (El At Fld Lk Eqn U T W64)

set_option maxRecDepth 100000 in
set_option maxHeartbeats 2000000 in
theorem stick_any (P B : Nat) (g : Bl) (s : T) (y : W64) (w : World) (h : Tb w B P g s) (hB : B ≤ w.heap.size) (hu : s.undo.length ≤ 1000000000) :
    Calls Try.prog 52 #[.pointer (some ⟨P, 0, none⟩), whyV y] w fun e w' => RetS (.bool false) w B P g (s.stick y) e w' := by
  have hmf := @makes Try.prog
  have hbb := below_laid w (.cells #[.pointer (some ⟨P, 0, none⟩)] 39)
  obtain ⟨hS0, hK0⟩ := (Sg.refl h hB).below hbb
  have hp0 : PBox (w.alloc (.cells #[.pointer (some ⟨P, 0, none⟩)] 39)) P w.heap.size := heap_alloc_new w _
  have k0 := hp0.cell
  obtain ⟨vu, vt, vr, vo, ve, vs, fs, hx⟩ := hS0.tb
  have c5 : (w.alloc (.cells #[.pointer (some ⟨P, 0, none⟩)] 39)).cell? ⟨P, 5, none⟩ = some (.bool s.stuck) := by rw [cell_block hx.self]; rfl
  have c6 : (w.alloc (.cells #[.pointer (some ⟨P, 0, none⟩)] 39)).cell? ⟨P, 6, none⟩ = some (whyV s.why) := by rw [cell_block hx.self]; rfl
  have f5 := hx.free 5
  have f6 := hx.free 6
  have hP : P < w.heap.size := by obtain ⟨_, _, _, _, _, _, _, hx⟩ := h; exact hx.lt
  have HX := hide (And.intro hx (And.intro hS0 hp0))
  clear h hB hbb hS0 hK0 hp0 hx
  unfold whyV at *
  go_enter Try.func52, Try.ntmps52
  cases hst : s.stuck with
  | true =>
    rw [hst] at c5
    go_wp2_with fail
    go_ret
    refine ⟨rfl, ?_⟩
    rw [show s.stick y = s by simp [Rw.T.stick, hst]]
    exact HX.out.2.1.stp
  | false =>
    rw [hst] at c5
    go_upto_region 2 with (fail)
    generalize hW : w.alloc (.cells #[.pointer (some ⟨P, 0, none⟩)] 39) = W at *
    refine wp_region_chain [0, 1, 2] [(3, true), (4, true), (5, true), (6, false), (7, false), (8, false)] (fun w' => w'.cell? ⟨w.heap.size, 0, none⟩ = some (.pointer (some ⟨P, 0, none⟩))) (by kernel_rfl) (by kernel_rfl) (fun _ _ _ _ _ h => h) k0 ?_
    intro hne
    simp only [picks, picksW, List.filterMap_cons, List.filterMap_nil, List.getElem?_cons_zero, List.getElem?_cons_succ, Option.map_some]
    have hu0 : ∀ u : HoldW (fun w' => w'.cell? ⟨w.heap.size, 0, none⟩ = some (.pointer (some ⟨P, 0, none⟩))), u.w.cell? ⟨w.heap.size, 0, none⟩ = some (.pointer (some ⟨P, 0, none⟩)) := fun u => u.ok
    repeat (refine wpHeld_step (fun K hK => ?_); go_simp; refine hK _ ?_; clear hK K)
    refine wpHeld_nil ?_
    clear hu0 hne
    have hw := (HX.out.1.setWhy true y).drew
    have hkp : Kp (OnB P g) W ((W.setCell ⟨P, 5, none⟩ (.bool true)).setCell ⟨P, 6, none⟩ (whyV y)).drew := (((Kp.refl _ _).setCell (.inl (.inl rfl)) _).setCell (.inl (.inl rfl)) _).drew
    obtain ⟨hS6, hK6⟩ := HX.out.2.1.stepG ⟨_, _, _, _, _, _, _, hw⟩ hkp (Gn.refl _ _)
    have hp6 := hK6.pbox HX.out.2.2
    have f6' : (W.drew.setCell ⟨P, 5, none⟩ (.bool true)).frozen? ⟨P, 6, none⟩ = false := by simpa using f6
    have HF := hide (And.intro hS6 hp6)
    clear hw hkp hS6 hK6 hp6
    unfold whyV at HF
    have k5 : (W.drew.setCell ⟨P, 5, none⟩ (.bool true)).cell? ⟨w.heap.size, 0, none⟩ = some (.pointer (some ⟨P, 0, none⟩)) := (World.cell?_of_block (Below.heap_setCell _ _ _ _ (show w.heap.size ≠ P by omega))).trans k0
    refine wpChain_cons fun K hK => ?_
    go_wp2_with fail
    refine chainF (fun _ => k0) (hK _ _ ?_)
    clear hK K
    refine wpChain_cons fun K hK => ?_
    go_wp2_with fail
    refine chainF (fun _ => k0) (hK _ _ ?_)
    clear hK K
    refine wpChain_cons fun K hK => ?_
    go_wp2_with fail
    refine chainF (fun _ => k5) (hK _ _ ?_)
    clear hK K k5
    repeat (refine wpChain_cons fun K hK => ?_; go_wp2_with fail; refine chainSkip (hK _ _ ?_); clear hK K)
    refine wpChain_nil ?_
    clear f5 f6 f6' k0 c5 c6
    generalize ((W.setCell ⟨P, 5, none⟩ (.bool true)).setCell ⟨P, 6, none⟩ (.int .u64 (y.toNat : Nat))).drew = Y at *
    have y0 := HF.out.2.cell
    have HD := hide (did_any P B _ (.func 74) #[.pointer (some ⟨w.heap.size, 0, none⟩)] .unstick _ Y HF.out.1.tb ⟨w.heap.size, rfl, HF.out.2⟩ HF.out.1.ge hu)
    go_wp2_with (go_at_call 47; refine (HD.out).mono ?_; rintro e w6 ⟨⟨rfl, hS⟩, _⟩; obtain ⟨g7, hS7, hK7⟩ := HF.out.1.step hS; have HE := hide hS7; clear hS hS7 hK7)
    go_ret
    refine ⟨rfl, ?_⟩
    rw [show s.stick y = ({ s with stuck := true, why := y } : T).did .unstick by simp [Rw.T.stick, hst]]
    exact HE.out.stp
end Go.Proofs.Ythnbhcfpfbimgaa
