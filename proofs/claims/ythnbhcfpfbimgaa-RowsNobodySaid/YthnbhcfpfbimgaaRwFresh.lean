/- The walk of fresh: one row more. -/
import Derived.Test.YthnbhcfpfbimgaaRwTick
namespace Go.Proofs.Ythnbhcfpfbimgaa
open Go.RowKit
open Rw (El At Fld Lk Eqn U T W64)

def row0V : Value := .agg #[.bool false, .slice none 0 0, .int .i64 (-1), .int .u64 0, .slice none 0 0]
theorem info_row : (Try.prog.info? 134).map (fun i => (i.zero, i.size, i.bytes)) = some (some (.agg #[.bool false, .slice none 0 0, .int .i64 0, .int .u64 0, .slice none 0 0]), 5, 72) := by kernel_rfl
theorem row0_news {w : World} {b : Nat} (h : w.heap[b]? = some (.cells #[.bool false, .slice none 0 0, .int .i64 (-1), .int .u64 0, .slice none 0 0] 134 (0, 0))) :
    Src Try.prog 5 81 (.slice (some ⟨b, 0, none⟩) 1 1) 1 [.bool false, .slice none 0 0, .int .i64 (-1), .int .u64 0, .slice none 0 0] w :=
  Src.ofSlice _ Try.underlying81 ⟨b, 0, none⟩ 1 1 _ rfl (World.news_of_block (cs := #[.bool false, .slice none 0 0, .int .i64 (-1), .int .u64 0, .slice none 0 0]) (t := 134) (fr := (0, 0)) h) (by simp [Value.oneCell'])
theorem rowsV_snoc (rs : List Rw.Row) (vs : List (Value × Value)) (r : Rw.Row) (v : Value × Value) (h : vs.length = rs.length) : rowsV (rs ++ [r]) (vs ++ [v]) = rowsV rs vs ++ rowV r v := by
  simp [rowsV, List.zip_append h.symm]
theorem rowAt_snoc {w : World} {B : Nat} {rs : List Rw.Row} {vs : List (Value × Value)} {r : Rw.Row} {v : Value × Value} (hl : vs.length = rs.length) (h : ∀ (k : Nat) r v, rs[k]? = some r → vs[k]? = some v → RowAt w B r v) (hr : RowAt w B r v) :
    ∀ (k : Nat) r' v', (rs ++ [r])[k]? = some r' → (vs ++ [v])[k]? = some v' → RowAt w B r' v' := fun k r' v' h1 h2 => by
  rcases Nat.lt_or_ge k rs.length with hk | hk
  · rw [List.getElem?_append_left hk] at h1
    rw [List.getElem?_append_left (by omega)] at h2
    exact h k r' v' h1 h2
  · have hk' : k = rs.length := by
      have := (List.getElem?_eq_some_iff.1 h1).1
      simp at this; omega
    subst hk'
    rw [List.getElem?_append_right (Nat.le_refl _), Nat.sub_self] at h1
    rw [List.getElem?_append_right (by omega), hl, Nat.sub_self] at h2
    simp at h1 h2
    subst h1
    subst h2
    exact hr
/-- Two boxes, laid one behind the other: the table's pointer, and a number. -/
theorem boxes2 (w : World) (P n : Nat) : Below w.heap.size w ((w.alloc (.cells #[.pointer (some ⟨P, 0, none⟩)] 39)).alloc (.cells #[.int .i64 (n : Nat)] 3)) ∧
    ((w.alloc (.cells #[.pointer (some ⟨P, 0, none⟩)] 39)).alloc (.cells #[.int .i64 (n : Nat)] 3)).heap[w.heap.size]? = some (.cells #[.pointer (some ⟨P, 0, none⟩)] 39 (0, 0)) ∧
    ((w.alloc (.cells #[.pointer (some ⟨P, 0, none⟩)] 39)).alloc (.cells #[.int .i64 (n : Nat)] 3)).heap[w.heap.size + 1]? = some (.cells #[.int .i64 (n : Nat)] 3 (0, 0)) ∧
    ((w.alloc (.cells #[.pointer (some ⟨P, 0, none⟩)] 39)).alloc (.cells #[.int .i64 (n : Nat)] 3)).heap.size = w.heap.size + 2 := by
  refine ⟨(below_laid w _).alloc (by simp) _, ?_, ?_, by simp⟩
  · rw [heap_at, if_neg (by rw [World.size_alloc]; omega), heap_at, if_pos rfl]
  · rw [heap_at, if_pos (by rw [World.size_alloc])]
theorem TbX.not_on {w : World} {B P : Nat} {g : Bl} {s : T} {vu vt vr vo ve : Value} {vs : List (Value × Value)} {fs : List Value} {b : Nat} {cs : Array Value} (h : TbX w B P g s vu vt vr vo ve vs fs) (hb : w.heap[b]? = some (.cells cs 3 (0, 0))) (hn : g.t ≠ some b ∧ g.o ≠ some b) : ¬ OnB P g b := by
  obtain ⟨h1, h2, h3, h4, h5, h6⟩ := h.off (b := b) (.inr ⟨_, _, hb, .inr (.inr (.inr (.inr (.inl ⟨rfl, hn.1, hn.2⟩))))⟩)
  obtain ⟨b1, b2, b3, b4, b5⟩ := h.bl
  rintro (e | e | e | e | e | e)
  · exact h1 e
  · exact h2 (b1.trans e)
  · exact h3 (b2.trans e)
  · exact h4 (b3.trans e)
  · exact h5 (b4.trans e)
  · exact h6 (b5.trans e)
/-- A number in a box that is none of the table's blocks is kept by a step. -/
theorem Stp.kept_int {w w' : World} {B P : Nat} {g : Bl} {s' : T} {b : Nat} {z : Int} (h : Stp w B P g s' w') (hb : w.heap[b]? = some (.cells #[.int .i64 z] 3 (0, 0))) (hn : ¬ OnB P g b) : w'.cell? ⟨b, 0, none⟩ = some (.int .i64 z) := by
  obtain ⟨g', h1, h2, h3⟩ := h.ex
  rw [cell_block ((h2.block b (blk_lt hb) hn).trans hb)]
  rfl
set_option maxRecDepth 100000 in
set_option maxHeartbeats 2000000 in
theorem fresh_any (P B : Nat) (g : Bl) (s : T) (w : World) (h : Tb w B P g s) (hB : B ≤ w.heap.size) (hn : s.rows.length ≤ 1000000000) (hu : s.undo.length ≤ 1000000000) :
    Calls Try.prog 46 #[.pointer (some ⟨P, 0, none⟩)] w fun e w' => RetK (.int .i64 (s.rows.length : Nat)) w B P g s.fresh e w' := by
  obtain ⟨i1, hj, hy0, hy1, hy2⟩ := info_parts info_row
  have hmf := @makes Try.prog
  obtain ⟨vu, vt, vr, vo, ve, vs, fs, hx⟩ := h
  obtain ⟨Ar, cr, rfl, hcr, hcrm⟩ := RowZ.form hx.rows
  obtain ⟨hb2, e0, e1, hs2⟩ := boxes2 w P s.rows.length
  have hx2 := hx.below hb2
  have c2 : (w.alloc (.cells #[.pointer (some ⟨P, 0, none⟩)] 39)).cell? ⟨P, 2, none⟩ = some (.slice Ar s.rows.length cr) := (World.cell?_alloc_lt w _ ⟨P, 2, none⟩ hx.lt).trans hx.cells.2.2.1
  have k0 : ((w.alloc (.cells #[.pointer (some ⟨P, 0, none⟩)] 39)).alloc (.cells #[.int .i64 (s.rows.length : Nat)] 3)).cell? ⟨w.heap.size, 0, none⟩ = some (.pointer (some ⟨P, 0, none⟩)) := by rw [cell_block e0]; rfl
  have k2 := hx2.cells.2.2.1
  have hlt := hx2.lt
  have hnt : g.t ≠ some (w.heap.size + 1) ∧ g.o ≠ some (w.heap.size + 1) := by
    obtain ⟨b1, b2, b3, b4, b5⟩ := hx.bl
    exact ⟨fun e => by have := RowZ.lt hx.times _ (b2.trans e); omega, fun e => by have := RowZ.lt hx.own _ (b4.trans e); omega⟩
  have HO := hide (hx.cells.2.2.2.1)
  have HX := hide (And.intro hx2 (And.intro hb2 (And.intro e0 (And.intro e1 (And.intro hs2 (And.intro hB hnt))))))
  clear hx hx2 hb2 e0 e1 hB hnt hs2
  go_enter Try.func46, Try.ntmps46
  go_upto_region 2 with (fail)
  generalize (w.alloc (.cells #[.pointer (some ⟨P, 0, none⟩)] 39)).alloc (.cells #[.int .i64 (s.rows.length : Nat)] 3) = W at *
  clear c2
  have hbsz : w.heap.size < W.heap.size := by have := HX.out.2.2.2.2.1; omega
  refine wp_region_chain [0, 1, 2, 3, 4, 5] [(6, true), (7, true), (8, false), (9, false), (10, false)] (fun w' => w'.cell? ⟨w.heap.size, 0, none⟩ = some (.pointer (some ⟨P, 0, none⟩)) ∧ w'.cell? ⟨P, 2, none⟩ = some (.slice Ar s.rows.length cr)) (by kernel_rfl) (by kernel_rfl) (fun _ _ _ _ _ h => h) ⟨k0, k2⟩ ?_
  intro hne
  simp only [picks, picksW, List.filterMap_cons, List.filterMap_nil, List.getElem?_cons_zero, List.getElem?_cons_succ, Option.map_some]
  have hu0 : ∀ u : HoldW (fun w' => w'.cell? ⟨w.heap.size, 0, none⟩ = some (.pointer (some ⟨P, 0, none⟩)) ∧ w'.cell? ⟨P, 2, none⟩ = some (.slice Ar s.rows.length cr)), u.w.cell? ⟨w.heap.size, 0, none⟩ = some (.pointer (some ⟨P, 0, none⟩)) := fun u => u.ok.1
  have hu1 : ∀ u : HoldW (fun w' => w'.cell? ⟨w.heap.size, 0, none⟩ = some (.pointer (some ⟨P, 0, none⟩)) ∧ w'.cell? ⟨P, 2, none⟩ = some (.slice Ar s.rows.length cr)), u.w.cell? ⟨P, 2, none⟩ = some (.slice Ar s.rows.length cr) := fun u => u.ok.2
  repeat (refine wpHeld_step (fun K hK => ?_); go_simp; refine hK _ ?_; clear hK K)
  refine wpHeld_nil ?_
  clear hu0 hu1 hne
  refine wpChain_cons fun K hK => ?_
  go_wp2_with fail
  have hba : Below W.drew.heap.size W.drew (W.drew.alloc (.cells #[.bool false, .slice none 0 0, .int .i64 (-1), .int .u64 0, .slice none 0 0] 134)) := below_laid W.drew _
  refine chainF (fun _ => ⟨(hba.cell (p := ⟨w.heap.size, 0, none⟩) hbsz).trans k0, (hba.cell (p := ⟨P, 2, none⟩) hlt).trans k2⟩) (hK _ _ ?_)
  clear hK K
  have hxa := HX.out.1.drew.below hba
  have HA := hide (And.intro hxa hba)
  clear hxa hba
  refine wpChain_cons fun K hK => ?_
  refine app_rowz rfl (.tmp 13) (.tmp 15) 81 81 rfl 134 i1 _ 5 72 Try.underlying81 hj hy0 hy1 hy2 rfl (.slice Ar s.rows.length cr) s.rows.length (rowsV s.rows vs) rfl HA.out.1.rows _ 1 [.bool false, .slice none 0 0, .int .i64 (-1), .int .u64 0, .slice none 0 0] rfl (row0_news (heap_alloc_new W.drew _)) (by unfold maxLen; omega) (by omega) ?_
  intro A' c' w' hr hg hob
  have hxa := HA.out.1
  have hnb : (Value.slice A' (s.rows.length + 1) c').ownBlock = (Value.slice Ar s.rows.length cr).ownBlock ∨ ∃ b, (Value.slice A' (s.rows.length + 1) c').ownBlock = some b ∧ (W.drew.alloc (.cells #[.bool false, .slice none 0 0, .int .i64 (-1), .int .u64 0, .slice none 0 0] 134)).heap.size ≤ b := hob.imp id fun e => ⟨_, e, Nat.le_refl _⟩
  have hkk : ∀ b, b < (W.drew.alloc (.cells #[.bool false, .slice none 0 0, .int .i64 (-1), .int .u64 0, .slice none 0 0] 134)).heap.size → (Value.slice Ar s.rows.length cr).ownBlock ≠ some b → w'.heap[b]? = (W.drew.alloc (.cells #[.bool false, .slice none 0 0, .int .i64 (-1), .int .u64 0, .slice none 0 0] 134)).heap[b]? := fun b hb hne => hg.block b hb fun e => hne e.symm
  have hBa : B ≤ (W.drew.alloc (.cells #[.bool false, .slice none 0 0, .int .i64 (-1), .int .u64 0, .slice none 0 0] 134)).heap.size := Nat.le_trans HX.out.2.2.2.2.2.1 (Nat.le_trans HX.out.2.1.size HA.out.2.size)
  have hrk : ∀ (k : Nat) r v, (s.rows ++ [Rw.row0])[k]? = some r → (vs ++ [(.slice none 0 0, .slice none 0 0)])[k]? = some v → RowAt w' B r v := rowAt_snoc hxa.vsl (fun k r v h1 h2 => (hxa.rowAt k r v h1 h2).keep hg.size fun b hb hc => hkk b hb (hxa.off (leans_row hc)).2.2.2.1) ⟨SlAt.nil _ _ _ _, SlAt.nil _ _ _ _⟩
  have hnew := hxa.newR (rs' := s.rows ++ [Rw.row0]) (vs' := vs ++ [(.slice none 0 0, .slice none 0 0)]) (v' := .slice A' (s.rows.length + 1) c') hg.size hkk (by rw [List.length_append, rowsV_snoc _ _ _ _ hxa.vsl]; exact hr) (by simp [hxa.vsl]) hrk hnb hBa
  have hPw : w'.heap[P]? = (W.drew.alloc (.cells #[.bool false, .slice none 0 0, .int .i64 (-1), .int .u64 0, .slice none 0 0] 134)).heap[P]? := hkk P hxa.lt hxa.ne.1.2.2.1
  have hb0 : (W.drew.alloc (.cells #[.bool false, .slice none 0 0, .int .i64 (-1), .int .u64 0, .slice none 0 0] 134)).heap[w.heap.size]? = some (.cells #[.pointer (some ⟨P, 0, none⟩)] 39 (0, 0)) := (HA.out.2.block _ hbsz).trans HX.out.2.2.1
  have hb1 : (W.drew.alloc (.cells #[.bool false, .slice none 0 0, .int .i64 (-1), .int .u64 0, .slice none 0 0] 134)).heap[w.heap.size + 1]? = some (.cells #[.int .i64 (s.rows.length : Nat)] 3 (0, 0)) := (HA.out.2.block _ (by have := HX.out.2.2.2.2.1; show _ < W.heap.size; omega)).trans HX.out.2.2.2.1
  have hbt : w'.heap[w.heap.size]? = some (.cells #[.pointer (some ⟨P, 0, none⟩)] 39 (0, 0)) := (hkk _ (blk_lt hb0) (RowZ.ne_type hxa.rows hb0 (by decide))).trans hb0
  have hbn : w'.heap[w.heap.size + 1]? = some (.cells #[.int .i64 (s.rows.length : Nat)] 3 (0, 0)) := (hkk _ (blk_lt hb1) (RowZ.ne_type hxa.rows hb1 (by decide))).trans hb1
  have hPself : w'.heap[P]? = some (.cells #[vu, vt, .slice Ar s.rows.length cr, vo, ve, .bool s.stuck, whyV s.why] 83 (0, 0)) := hPw.trans hxa.self
  have q0 : w'.cell? ⟨w.heap.size, 0, none⟩ = some (.pointer (some ⟨P, 0, none⟩)) := by rw [cell_block hbt]; rfl
  have q1 : w'.cell? ⟨P, 2, none⟩ = some (.slice Ar s.rows.length cr) := (World.cell?_of_block hPw).trans hxa.cells.2.2.1
  have q2 : w'.frozen? ⟨P, 2, none⟩ = false := (World.frozen?_of_block hPw).trans (hxa.free 2)
  have hkp : Kp (OnB P g) w (w'.setCell ⟨P, 2, none⟩ (.slice A' (s.rows.length + 1) c')) :=
    (((Kp.of_below (S := OnB P g) HX.out.2.1).trans (S' := OnB P g) (((Kp.refl _ W).drew).alloc _) (fun b h => .inl h)).grown hg fun b hb => .inl (.inr (.inr (.inr (.inl (by rw [← hxa.bl.2.2.1]; exact hb)))))).setCell (.inl (.inl rfl)) _
  have hst : (w'.setCell ⟨P, 2, none⟩ (.slice A' (s.rows.length + 1) c')).heap[w.heap.size]? = some (.cells #[.pointer (some ⟨P, 0, none⟩)] 39 (0, 0)) := (Below.heap_setCell _ _ _ _ (blocks_ne hbt hPself (by decide))).trans hbt
  have hsn : (w'.setCell ⟨P, 2, none⟩ (.slice A' (s.rows.length + 1) c')).heap[w.heap.size + 1]? = some (.cells #[.int .i64 (s.rows.length : Nat)] 3 (0, 0)) := (Below.heap_setCell _ _ _ _ (blocks_ne hbn hPself (by decide))).trans hbn
  have hgn : Gn w g { g with r := (Value.slice A' (s.rows.length + 1) c').ownBlock } := by
    refine ⟨.inl rfl, .inl rfl, ?_, .inl rfl, .inl rfl⟩
    rcases hnb with e | ⟨b, e, hb⟩
    · exact .inl (e.trans hxa.bl.2.2.1)
    · exact .inr ⟨b, e, Nat.le_trans HX.out.2.1.size (Nat.le_trans HA.out.2.size hb)⟩
  have hBs : B ≤ (w'.setCell ⟨P, 2, none⟩ (.slice A' (s.rows.length + 1) c')).heap.size := Nat.le_trans hBa (Nat.le_trans hg.size (Nat.le_of_eq (by simp)))
  have HF := hide (And.intro hnew (And.intro hkp (And.intro hst (And.intro hsn (And.intro hgn (And.intro HX.out.2.2.2.2.2.2 hBs))))))
  refine chainF (fun _ => ⟨q0, q1⟩) (hK _ _ ?_)
  clear hr hg hob hxa hkk hnew hPw hkp hnb hBa hrk hb0 hb1 hbt hbn hPself hst hsn hgn hBs k0 k2 hK K hlt hbsz
  refine wpChain_cons fun K hK => ?_
  go_wp2_with fail
  refine chainSkip (hK _ _ ?_)
  clear hK K
  refine wpChain_cons fun K hK => ?_
  go_wp2_with fail
  refine chainSkip (hK _ _ ?_)
  clear hK K
  refine wpChain_cons fun K hK => ?_
  go_wp2_with fail
  refine chainSkip (hK _ _ ?_)
  clear hK K
  refine wpChain_nil ?_
  clear q0 q1 q2
  generalize w'.setCell ⟨P, 2, none⟩ (.slice A' (s.rows.length + 1) c') = Y at *
  have y0 : Y.cell? ⟨w.heap.size, 0, none⟩ = some (.pointer (some ⟨P, 0, none⟩)) := by rw [cell_block HF.out.2.2.1]; rfl
  have hD : Tb Y B P { g with r := (Value.slice A' (s.rows.length + 1) c').ownBlock } { s with rows := s.rows ++ [Rw.row0] } := ⟨_, _, _, _, _, _, _, HF.out.1⟩
  have HD := hide (did_any P B _ (.func 71) #[.pointer (some ⟨w.heap.size, 0, none⟩), .pointer (some ⟨w.heap.size + 1, 0, none⟩)] (.cutRows s.rows.length) _ Y hD ⟨w.heap.size, w.heap.size + 1, rfl, HF.out.2.2.1, HF.out.2.2.2.1, HF.out.2.2.2.2.2.1⟩ HF.out.2.2.2.2.2.2 hu)
  clear hD
  go_wp2_with (go_at_call 47; refine (HD.out).mono ?_; rintro e w5 ⟨⟨rfl, hS⟩, hO⟩; have HO2 := hide (hO.trans (HF.out.1.cells.2.2.2.1)); clear hO; have HS := hide (Stp.trans (HF.out.2.1) HF.out.2.2.2.2.1 hS); have hnl := hS.kept_int HF.out.2.2.2.1 (TbX.not_on HF.out.1 HF.out.2.2.2.1 HF.out.2.2.2.2.2.1); clear hS)
  go_ret
  exact ⟨⟨rfl, HS.out⟩, HO2.out.trans HO.out.symm⟩
end Go.Proofs.Ythnbhcfpfbimgaa
