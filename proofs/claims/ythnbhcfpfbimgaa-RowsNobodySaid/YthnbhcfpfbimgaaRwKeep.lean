/- Stages of a walk over a table: what stays. -/
import Derived.Test.YthnbhcfpfbimgaaRwFresh
namespace Go.Proofs.Ythnbhcfpfbimgaa
open Go.RowKit
open Rw (El At Fld Lk Eqn U T W64)

/-- What a table's closures and a walk's own boxes lean on is kept. -/
structure Kept (w : World) (B : Nat) (g : Bl) (w' : World) (g' : Bl) : Prop where
  size : w.heap.size ≤ w'.heap.size
  block : ∀ b, b < w.heap.size → Leans w B g b → w'.heap[b]? = w.heap[b]?
  t : ∀ b, b < w.heap.size → g.t ≠ some b → g'.t ≠ some b
  o : ∀ b, b < w.heap.size → g.o ≠ some b → g'.o ≠ some b
  r : ∀ b, b < w.heap.size → g.r ≠ some b → g'.r ≠ some b
def PBox (w : World) (P b : Nat) : Prop := w.heap[b]? = some (.cells #[.pointer (some ⟨P, 0, none⟩)] 39 (0, 0))
def IBox (w : World) (g : Bl) (b : Nat) (z : Int) : Prop := w.heap[b]? = some (.cells #[.int .i64 z] 3 (0, 0)) ∧ g.t ≠ some b ∧ g.o ≠ some b
section
variable {w w' w1 w2 : World} {B P : Nat} {g g' g1 g2 : Bl} {s s1 s2 : T}
theorem Leans.not_on {b : Nat} (h : Tb w B P g s) (hl : Leans w B g b) : ¬ OnB P g b := by
  obtain ⟨_, _, _, _, _, _, _, hx⟩ := h
  obtain ⟨h1, h2, h3, h4, h5, h6⟩ := hx.off hl
  obtain ⟨b1, b2, b3, b4, b5⟩ := hx.bl
  rintro (e | e | e | e | e | e)
  · exact h1 e
  · exact h2 (b1.trans e)
  · exact h3 (b2.trans e)
  · exact h4 (b3.trans e)
  · exact h5 (b4.trans e)
  · exact h6 (b5.trans e)
theorem Kept.mk' (h : Tb w B P g s) (hk : Kp (OnB P g) w w') (hg : Gn w g g') : Kept w B g w' g' :=
  ⟨hk.size, fun b hb hl => hk.block b hb (hl.not_on h), fun _ hb hn => hg.t.ne hb hn, fun _ hb hn => hg.o.ne hb hn, fun _ hb hn => hg.r.ne hb hn⟩
theorem Kept.of_below (h : Below w.heap.size w w') : Kept w B g w' g := ⟨h.size, fun b hb _ => h.block b hb, fun _ _ h => h, fun _ _ h => h, fun _ _ h => h⟩
theorem Kept.drew : Kept w B g w.drew g := Kept.of_below (below_drewN (Below.refl _ _) 1)
theorem Kept.pbox {b : Nat} (h : Kept w B g w' g') (hb : PBox w P b) : PBox w' P b := (h.block b (blk_lt hb) (.inr ⟨_, _, hb, .inr (.inr (.inr (.inl rfl)))⟩)).trans hb
theorem Kept.ibox {b : Nat} {z : Int} (h : Kept w B g w' g') (hb : IBox w g b z) : IBox w' g' b z :=
  ⟨(h.block b (blk_lt hb.1) (.inr ⟨_, _, hb.1, .inr (.inr (.inr (.inr (.inl ⟨rfl, hb.2⟩))))⟩)).trans hb.1, h.t b (blk_lt hb.1) hb.2.1, h.o b (blk_lt hb.1) hb.2.2⟩
theorem Kept.func {f : Value} {u : U} (h : Kept w B g w' g') (hf : FuncIs w B P g f u) : FuncIs w' B P g' f u := hf.keep h.size h.block h.t h.o h.r
theorem Kept.fields {v : Value} {n : Nat} {xs : List Value} (h : Kept w B g w' g') (hf : SlAt w B 60 10 v n xs) : SlAt w' B 60 10 v n xs :=
  hf.keep h.size fun b hb hl => h.block b hb (hl.imp id fun ⟨cs, e⟩ => ⟨_, cs, e, .inl rfl⟩)
theorem Kept.lacks {v : Value} {n : Nat} {xs : List Value} (h : Kept w B g w' g') (hf : SlAt w B 145 2 v n xs) : SlAt w' B 145 2 v n xs :=
  hf.keep h.size fun b hb hl => h.block b hb (hl.imp id fun ⟨cs, e⟩ => ⟨_, cs, e, .inr (.inl rfl)⟩)
theorem Kept.rowAt {r : Rw.Row} {v : Value × Value} (h : Kept w B g w' g') (hf : RowAt w B r v) : RowAt w' B r v := ⟨h.fields hf.fields, h.lacks hf.lacks⟩
/-- Below B all is kept. -/
theorem Kept.low {b : Nat} {o : Obj} (h : Kept w B g w' g') (hb : w.heap[b]? = some o) (hB : b < B) : w'.heap[b]? = some o := (h.block b (blk_lt hb) (.inl hB)).trans hb
theorem PBox.cell {b : Nat} (h : PBox w P b) : w.cell? ⟨b, 0, none⟩ = some (.pointer (some ⟨P, 0, none⟩)) := by rw [cell_block h]; rfl
theorem IBox.cell {b : Nat} {z : Int} (h : IBox w g b z) : w.cell? ⟨b, 0, none⟩ = some (.int .i64 z) := by rw [cell_block h.1]; rfl
theorem TbX.ibox {vu vt vr vo ve : Value} {vs : List (Value × Value)} {fs : List Value} {b : Nat} {z : Int} (hx : TbX w B P g s vu vt vr vo ve vs fs) (hw : w.heap.size ≤ b) (h : w'.heap[b]? = some (.cells #[.int .i64 z] 3 (0, 0))) : IBox w' g b z := by
  obtain ⟨b1, b2, b3, b4, b5⟩ := hx.bl
  exact ⟨h, fun e => by have := RowZ.lt hx.times _ (b2.trans e); omega, fun e => by have := RowZ.lt hx.own _ (b4.trans e); omega⟩
/-- How far a walk has come: the table is there, with a state, and nothing else has turned. -/
structure Sg (w : World) (B P : Nat) (g : Bl) (w1 : World) (g1 : Bl) (s1 : T) : Prop where
  tb : Tb w1 B P g1 s1
  kp : Kp (OnB P g) w w1
  gn : Gn w g g1
  ge : B ≤ w1.heap.size
theorem Sg.refl (h : Tb w B P g s) (hB : B ≤ w.heap.size) : Sg w B P g w g s := ⟨h, Kp.refl _ _, Gn.refl _ _, hB⟩
theorem Sg.stp (h : Sg w B P g w1 g1 s1) : Stp w B P g s1 w1 := ⟨g1, h.tb, h.kp, h.gn⟩
theorem Sg.stepG (h : Sg w B P g w1 g1 s1) (ht : Tb w2 B P g2 s2) (hk : Kp (OnB P g1) w1 w2) (hg : Gn w1 g1 g2) : Sg w B P g w2 g2 s2 ∧ Kept w1 B g1 w2 g2 :=
  ⟨⟨ht, h.kp.trans hk h.gn.on, h.gn.trans hg h.kp.size, Nat.le_trans h.ge hk.size⟩, Kept.mk' h.tb hk hg⟩
theorem Sg.step (h : Sg w B P g w1 g1 s1) (h2 : Stp w1 B P g1 s2 w2) : ∃ g2, Sg w B P g w2 g2 s2 ∧ Kept w1 B g1 w2 g2 := by
  obtain ⟨g2, a, b, c⟩ := h2.ex
  exact ⟨g2, h.stepG a b c⟩
theorem Sg.below (h : Sg w B P g w1 g1 s1) (hb : Below w1.heap.size w1 w2) : Sg w B P g w2 g1 s1 ∧ Kept w1 B g1 w2 g1 := by
  obtain ⟨vu, vt, vr, vo, ve, vs, fs, hx⟩ := h.tb
  exact h.stepG ⟨vu, vt, vr, vo, ve, vs, fs, hx.below hb⟩ (Kp.of_below hb) (Gn.refl _ _)
end
end Go.Proofs.Ythnbhcfpfbimgaa
