/- Texts put together: RwMem2 RwDid RwTick. -/
import Derived.Deep.DeepCutAuto
import Derived.Test.YthnbhcfpfbimgaaMw02
/- A table of rows in memory: one of its parts is another one now. (Printed by rwmem.py.) -/
namespace Go.Proofs.Ythnbhcfpfbimgaa
open Go.RowKit
open Rw (El At Fld Lk Eqn U T W64)

section
variable {w w' : World} {B P : Nat} {g g' : Bl} {s : T} {vu vt vr vo ve : Value} {vs : List (Value × Value)} {fs : List Value}

theorem TbX.newU (h : TbX w B P g s vu vt vr vo ve vs fs) {v' : Value} {us' : List U} {fs' : List Value} (hs : w.heap.size ≤ w'.heap.size) (hk : ∀ b, b < w.heap.size → vu.ownBlock ≠ some b → w'.heap[b]? = w.heap[b]?) (hr : RowZ w' 1 1 v' us'.length fs') (hf : ∀ (k : Nat) f u, fs'[k]? = some f → us'[k]? = some u → FuncIs w' B P g f u) (ho : v'.ownBlock = vu.ownBlock ∨ ∃ b, v'.ownBlock = some b ∧ w.heap.size ≤ b) (hB : B ≤ w.heap.size) :
    TbX (w'.setCell ⟨P, 0, none⟩ v') B P { g with u := v'.ownBlock } { s with undo := us' } v' vt vr vo ve vs fs' := by
  obtain ⟨⟨nu, nt, nr, no, ne⟩, n1, n2, n3, n4⟩ := h.ne
  obtain ⟨b1, b2, b3, b4, b5⟩ := h.bl
  obtain ⟨g0, g1, g2, g3, g4, g5⟩ := h.ge
  have hP : w'.heap[P]? = some (.cells #[vu, vt, vr, vo, ve, .bool s.stuck, whyV s.why] 83 (0, 0)) := (hk P h.lt nu).trans h.self
  have hset : ∀ b, b ≠ P → (w'.setCell ⟨P, 0, none⟩ v').heap[b]? = w'.heap[b]? := fun b hb => Below.heap_setCell _ _ _ _ hb
  have hkk : ∀ b, b < w.heap.size → b ≠ P → vu.ownBlock ≠ some b → (w'.setCell ⟨P, 0, none⟩ v').heap[b]? = w.heap[b]? := fun b hb h1 h2 => (hset b h1).trans (hk b hb h2)
  have hss : w.heap.size ≤ (w'.setCell ⟨P, 0, none⟩ v').heap.size := by simpa using hs
  have hvP : v'.ownBlock ≠ some P := RowZ.ne_type hr hP (by decide)
  have hnew : ∀ b, b < w.heap.size → vu.ownBlock ≠ some b → v'.ownBlock ≠ some b := fun b hb hn => by
    rcases ho with e | ⟨b', e, hb'⟩
    · rw [e]; exact hn
    · rw [e]; intro e2; injection e2 with e2; omega
  have hge : ∀ b, v'.ownBlock = some b → B ≤ b := fun b hb => by
    rcases ho with e | ⟨b', e, hb'⟩
    · exact g1 b (by rw [← b1, ← e]; exact hb)
    · rw [e] at hb; injection hb with hb; omega
  have hrest := h.rest (w' := w'.setCell ⟨P, 0, none⟩ v') (g' := { g with u := v'.ownBlock }) hss (fun b hb hl => hkk b hb (h.off hl).1 (h.off hl).2.1) (fun b _ hn => hn) (fun b _ hn => hn) (fun b _ hn => hn)
  refine ⟨?_, ⟨rfl, b2, b3, b4, b5⟩, RowZ.far hr (p := ⟨P, 0, none⟩) hvP v', RowZ.keep h.times fun b hb => hkk b (RowZ.lt h.times b hb) (fun e => nt (by rw [hb, e])) (fun e => (n1 b e).1 hb), RowZ.keep h.rows fun b hb => hkk b (RowZ.lt h.rows b hb) (fun e => nr (by rw [hb, e])) (fun e => (n1 b e).2.1 hb), RowZ.keep h.own fun b hb => hkk b (RowZ.lt h.own b hb) (fun e => no (by rw [hb, e])) (fun e => (n1 b e).2.2.1 hb), RowZ.keep h.eqs fun b hb => hkk b (RowZ.lt h.eqs b hb) (fun e => ne (by rw [hb, e])) (fun e => (n1 b e).2.2.2 hb), h.vsl, hrest.1, fun k f u h1 h2 => (hf k f u h1 h2).keep (by simp) (fun b _ hl => hset b ?_) (fun b _ hn => hn) (fun b _ hn => hn) (fun b _ hn => hn), ⟨g0, hge, g2, g3, g4, g5⟩, h.apart⟩
  · rw [heap_setCell_same w' P 0 _ _ v' hP]; rfl
  · rcases hl with hl | ⟨t, cs, hc, ht⟩
    · omega
    · intro e
      subst e
      rw [hP] at hc
      injection hc with hc
      injection hc with _ hc
      subst hc
      rcases ht with h | h | h | h | ⟨h, _⟩ | ⟨h, _⟩ <;> exact absurd h (by decide)
theorem TbX.newT (h : TbX w B P g s vu vt vr vo ve vs fs) {v' : Value} {l' : List Nat} (hs : w.heap.size ≤ w'.heap.size) (hk : ∀ b, b < w.heap.size → vt.ownBlock ≠ some b → w'.heap[b]? = w.heap[b]?) (hr : RowZ w' 3 1 v' l'.length (intsV l'))  (ho : v'.ownBlock = vt.ownBlock ∨ ∃ b, v'.ownBlock = some b ∧ w.heap.size ≤ b) (hB : B ≤ w.heap.size) :
    TbX (w'.setCell ⟨P, 1, none⟩ v') B P { g with t := v'.ownBlock } { s with times := l' } vu v' vr vo ve vs fs := by
  obtain ⟨⟨nu, nt, nr, no, ne⟩, n1, n2, n3, n4⟩ := h.ne
  obtain ⟨b1, b2, b3, b4, b5⟩ := h.bl
  obtain ⟨g0, g1, g2, g3, g4, g5⟩ := h.ge
  have hP : w'.heap[P]? = some (.cells #[vu, vt, vr, vo, ve, .bool s.stuck, whyV s.why] 83 (0, 0)) := (hk P h.lt nt).trans h.self
  have hset : ∀ b, b ≠ P → (w'.setCell ⟨P, 1, none⟩ v').heap[b]? = w'.heap[b]? := fun b hb => Below.heap_setCell _ _ _ _ hb
  have hkk : ∀ b, b < w.heap.size → b ≠ P → vt.ownBlock ≠ some b → (w'.setCell ⟨P, 1, none⟩ v').heap[b]? = w.heap[b]? := fun b hb h1 h2 => (hset b h1).trans (hk b hb h2)
  have hss : w.heap.size ≤ (w'.setCell ⟨P, 1, none⟩ v').heap.size := by simpa using hs
  have hvP : v'.ownBlock ≠ some P := RowZ.ne_type hr hP (by decide)
  have hnew : ∀ b, b < w.heap.size → vt.ownBlock ≠ some b → v'.ownBlock ≠ some b := fun b hb hn => by
    rcases ho with e | ⟨b', e, hb'⟩
    · rw [e]; exact hn
    · rw [e]; intro e2; injection e2 with e2; omega
  have hge : ∀ b, v'.ownBlock = some b → B ≤ b := fun b hb => by
    rcases ho with e | ⟨b', e, hb'⟩
    · exact g2 b (by rw [← b2, ← e]; exact hb)
    · rw [e] at hb; injection hb with hb; omega
  have hrest := h.rest (w' := w'.setCell ⟨P, 1, none⟩ v') (g' := { g with t := v'.ownBlock }) hss (fun b hb hl => hkk b hb (h.off hl).1 (h.off hl).2.2.1) (fun b hb hn => by have := hnew b hb (by rw [b2]; exact hn); exact this) (fun b _ hn => hn) (fun b _ hn => hn)
  refine ⟨?_, ⟨b1, rfl, b3, b4, b5⟩, RowZ.keep h.undo fun b hb => hkk b (RowZ.lt h.undo b hb) (fun e => nu (by rw [hb, e])) ((n1 b hb).1), RowZ.far hr (p := ⟨P, 1, none⟩) hvP v', RowZ.keep h.rows fun b hb => hkk b (RowZ.lt h.rows b hb) (fun e => nr (by rw [hb, e])) (fun e => (n2 b e).1 hb), RowZ.keep h.own fun b hb => hkk b (RowZ.lt h.own b hb) (fun e => no (by rw [hb, e])) (fun e => (n2 b e).2.1 hb), RowZ.keep h.eqs fun b hb => hkk b (RowZ.lt h.eqs b hb) (fun e => ne (by rw [hb, e])) (fun e => (n2 b e).2.2 hb), h.vsl, hrest.1, hrest.2, ⟨g0, g1, hge, g3, g4, g5⟩, fun b hb e => by
    rcases ho with e2 | ⟨b', e2, hb'⟩
    · exact h.apart b (by rw [← b2, ← e2]; exact hb) e
    · have hb2 : v'.ownBlock = some b := hb
      rw [e2] at hb2; injection hb2 with hb2; have := RowZ.lt h.own b (by rw [b4]; exact e); omega⟩
  · rw [heap_setCell_same w' P 1 _ _ v' hP]; rfl
theorem TbX.newR (h : TbX w B P g s vu vt vr vo ve vs fs) {v' : Value} {rs' : List Rw.Row} {vs' : List (Value × Value)} (hs : w.heap.size ≤ w'.heap.size) (hk : ∀ b, b < w.heap.size → vr.ownBlock ≠ some b → w'.heap[b]? = w.heap[b]?) (hr : RowZ w' 134 5 v' rs'.length (rowsV rs' vs')) (hl : vs'.length = rs'.length) (hf : ∀ (k : Nat) r v, rs'[k]? = some r → vs'[k]? = some v → RowAt w' B r v) (ho : v'.ownBlock = vr.ownBlock ∨ ∃ b, v'.ownBlock = some b ∧ w.heap.size ≤ b) (hB : B ≤ w.heap.size) :
    TbX (w'.setCell ⟨P, 2, none⟩ v') B P { g with r := v'.ownBlock } { s with rows := rs' } vu vt v' vo ve vs' fs := by
  obtain ⟨⟨nu, nt, nr, no, ne⟩, n1, n2, n3, n4⟩ := h.ne
  obtain ⟨b1, b2, b3, b4, b5⟩ := h.bl
  obtain ⟨g0, g1, g2, g3, g4, g5⟩ := h.ge
  have hP : w'.heap[P]? = some (.cells #[vu, vt, vr, vo, ve, .bool s.stuck, whyV s.why] 83 (0, 0)) := (hk P h.lt nr).trans h.self
  have hset : ∀ b, b ≠ P → (w'.setCell ⟨P, 2, none⟩ v').heap[b]? = w'.heap[b]? := fun b hb => Below.heap_setCell _ _ _ _ hb
  have hkk : ∀ b, b < w.heap.size → b ≠ P → vr.ownBlock ≠ some b → (w'.setCell ⟨P, 2, none⟩ v').heap[b]? = w.heap[b]? := fun b hb h1 h2 => (hset b h1).trans (hk b hb h2)
  have hss : w.heap.size ≤ (w'.setCell ⟨P, 2, none⟩ v').heap.size := by simpa using hs
  have hvP : v'.ownBlock ≠ some P := RowZ.ne_type hr hP (by decide)
  have hnew : ∀ b, b < w.heap.size → vr.ownBlock ≠ some b → v'.ownBlock ≠ some b := fun b hb hn => by
    rcases ho with e | ⟨b', e, hb'⟩
    · rw [e]; exact hn
    · rw [e]; intro e2; injection e2 with e2; omega
  have hge : ∀ b, v'.ownBlock = some b → B ≤ b := fun b hb => by
    rcases ho with e | ⟨b', e, hb'⟩
    · exact g3 b (by rw [← b3, ← e]; exact hb)
    · rw [e] at hb; injection hb with hb; omega
  have hrest := h.rest (w' := w'.setCell ⟨P, 2, none⟩ v') (g' := { g with r := v'.ownBlock }) hss (fun b hb hl => hkk b hb (h.off hl).1 (h.off hl).2.2.2.1) (fun b _ hn => hn) (fun b _ hn => hn) (fun b hb hn => by have := hnew b hb (by rw [b3]; exact hn); exact this)
  refine ⟨?_, ⟨b1, b2, rfl, b4, b5⟩, RowZ.keep h.undo fun b hb => hkk b (RowZ.lt h.undo b hb) (fun e => nu (by rw [hb, e])) ((n1 b hb).2.1), RowZ.keep h.times fun b hb => hkk b (RowZ.lt h.times b hb) (fun e => nt (by rw [hb, e])) ((n2 b hb).1), RowZ.far hr (p := ⟨P, 2, none⟩) hvP v', RowZ.keep h.own fun b hb => hkk b (RowZ.lt h.own b hb) (fun e => no (by rw [hb, e])) (fun e => (n3 b e).1 hb), RowZ.keep h.eqs fun b hb => hkk b (RowZ.lt h.eqs b hb) (fun e => ne (by rw [hb, e])) (fun e => (n3 b e).2 hb), hl, fun k r v h1 h2 => (hf k r v h1 h2).keep (by simp) (fun b _ hl => hset b ?_), hrest.2, ⟨g0, g1, g2, hge, g4, g5⟩, h.apart⟩
  · rw [heap_setCell_same w' P 2 _ _ v' hP]; rfl
  · rcases hl with hl | ⟨t, cs, hc, ht⟩
    · omega
    · intro e
      subst e
      rw [hP] at hc
      injection hc with hc
      injection hc with _ hc
      subst hc
      rcases ht with h | h <;> exact absurd h (by decide)
theorem TbX.newO (h : TbX w B P g s vu vt vr vo ve vs fs) {v' : Value} {l' : List Nat} (hs : w.heap.size ≤ w'.heap.size) (hk : ∀ b, b < w.heap.size → vo.ownBlock ≠ some b → w'.heap[b]? = w.heap[b]?) (hr : RowZ w' 3 1 v' l'.length (intsV l'))  (ho : v'.ownBlock = vo.ownBlock ∨ ∃ b, v'.ownBlock = some b ∧ w.heap.size ≤ b) (hB : B ≤ w.heap.size) :
    TbX (w'.setCell ⟨P, 3, none⟩ v') B P { g with o := v'.ownBlock } { s with own := l' } vu vt vr v' ve vs fs := by
  obtain ⟨⟨nu, nt, nr, no, ne⟩, n1, n2, n3, n4⟩ := h.ne
  obtain ⟨b1, b2, b3, b4, b5⟩ := h.bl
  obtain ⟨g0, g1, g2, g3, g4, g5⟩ := h.ge
  have hP : w'.heap[P]? = some (.cells #[vu, vt, vr, vo, ve, .bool s.stuck, whyV s.why] 83 (0, 0)) := (hk P h.lt no).trans h.self
  have hset : ∀ b, b ≠ P → (w'.setCell ⟨P, 3, none⟩ v').heap[b]? = w'.heap[b]? := fun b hb => Below.heap_setCell _ _ _ _ hb
  have hkk : ∀ b, b < w.heap.size → b ≠ P → vo.ownBlock ≠ some b → (w'.setCell ⟨P, 3, none⟩ v').heap[b]? = w.heap[b]? := fun b hb h1 h2 => (hset b h1).trans (hk b hb h2)
  have hss : w.heap.size ≤ (w'.setCell ⟨P, 3, none⟩ v').heap.size := by simpa using hs
  have hvP : v'.ownBlock ≠ some P := RowZ.ne_type hr hP (by decide)
  have hnew : ∀ b, b < w.heap.size → vo.ownBlock ≠ some b → v'.ownBlock ≠ some b := fun b hb hn => by
    rcases ho with e | ⟨b', e, hb'⟩
    · rw [e]; exact hn
    · rw [e]; intro e2; injection e2 with e2; omega
  have hge : ∀ b, v'.ownBlock = some b → B ≤ b := fun b hb => by
    rcases ho with e | ⟨b', e, hb'⟩
    · exact g4 b (by rw [← b4, ← e]; exact hb)
    · rw [e] at hb; injection hb with hb; omega
  have hrest := h.rest (w' := w'.setCell ⟨P, 3, none⟩ v') (g' := { g with o := v'.ownBlock }) hss (fun b hb hl => hkk b hb (h.off hl).1 (h.off hl).2.2.2.2.1) (fun b _ hn => hn) (fun b hb hn => by have := hnew b hb (by rw [b4]; exact hn); exact this) (fun b _ hn => hn)
  refine ⟨?_, ⟨b1, b2, b3, rfl, b5⟩, RowZ.keep h.undo fun b hb => hkk b (RowZ.lt h.undo b hb) (fun e => nu (by rw [hb, e])) ((n1 b hb).2.2.1), RowZ.keep h.times fun b hb => hkk b (RowZ.lt h.times b hb) (fun e => nt (by rw [hb, e])) ((n2 b hb).2.1), RowZ.keep h.rows fun b hb => hkk b (RowZ.lt h.rows b hb) (fun e => nr (by rw [hb, e])) ((n3 b hb).1), RowZ.far hr (p := ⟨P, 3, none⟩) hvP v', RowZ.keep h.eqs fun b hb => hkk b (RowZ.lt h.eqs b hb) (fun e => ne (by rw [hb, e])) (fun e => (n4 b e) hb), h.vsl, hrest.1, hrest.2, ⟨g0, g1, g2, g3, hge, g5⟩, fun b hb e => by
    rcases ho with e2 | ⟨b', e2, hb'⟩
    · exact h.apart b hb (by rw [← b4, ← e2]; exact e)
    · have hb2 : v'.ownBlock = some b := e
      rw [e2] at hb2; injection hb2 with hb2; have := RowZ.lt h.times b (by rw [b2]; exact hb); omega⟩
  · rw [heap_setCell_same w' P 3 _ _ v' hP]; rfl
theorem TbX.newE (h : TbX w B P g s vu vt vr vo ve vs fs) {v' : Value} {es' : List Eqn} (hs : w.heap.size ≤ w'.heap.size) (hk : ∀ b, b < w.heap.size → ve.ownBlock ≠ some b → w'.heap[b]? = w.heap[b]?) (hr : RowZ w' 52 19 v' es'.length (eqnsV es'))  (ho : v'.ownBlock = ve.ownBlock ∨ ∃ b, v'.ownBlock = some b ∧ w.heap.size ≤ b) (hB : B ≤ w.heap.size) :
    TbX (w'.setCell ⟨P, 4, none⟩ v') B P { g with e := v'.ownBlock } { s with eqs := es' } vu vt vr vo v' vs fs := by
  obtain ⟨⟨nu, nt, nr, no, ne⟩, n1, n2, n3, n4⟩ := h.ne
  obtain ⟨b1, b2, b3, b4, b5⟩ := h.bl
  obtain ⟨g0, g1, g2, g3, g4, g5⟩ := h.ge
  have hP : w'.heap[P]? = some (.cells #[vu, vt, vr, vo, ve, .bool s.stuck, whyV s.why] 83 (0, 0)) := (hk P h.lt ne).trans h.self
  have hset : ∀ b, b ≠ P → (w'.setCell ⟨P, 4, none⟩ v').heap[b]? = w'.heap[b]? := fun b hb => Below.heap_setCell _ _ _ _ hb
  have hkk : ∀ b, b < w.heap.size → b ≠ P → ve.ownBlock ≠ some b → (w'.setCell ⟨P, 4, none⟩ v').heap[b]? = w.heap[b]? := fun b hb h1 h2 => (hset b h1).trans (hk b hb h2)
  have hss : w.heap.size ≤ (w'.setCell ⟨P, 4, none⟩ v').heap.size := by simpa using hs
  have hvP : v'.ownBlock ≠ some P := RowZ.ne_type hr hP (by decide)
  have hnew : ∀ b, b < w.heap.size → ve.ownBlock ≠ some b → v'.ownBlock ≠ some b := fun b hb hn => by
    rcases ho with e | ⟨b', e, hb'⟩
    · rw [e]; exact hn
    · rw [e]; intro e2; injection e2 with e2; omega
  have hge : ∀ b, v'.ownBlock = some b → B ≤ b := fun b hb => by
    rcases ho with e | ⟨b', e, hb'⟩
    · exact g5 b (by rw [← b5, ← e]; exact hb)
    · rw [e] at hb; injection hb with hb; omega
  have hrest := h.rest (w' := w'.setCell ⟨P, 4, none⟩ v') (g' := { g with e := v'.ownBlock }) hss (fun b hb hl => hkk b hb (h.off hl).1 (h.off hl).2.2.2.2.2) (fun b _ hn => hn) (fun b _ hn => hn) (fun b _ hn => hn)
  refine ⟨?_, ⟨b1, b2, b3, b4, rfl⟩, RowZ.keep h.undo fun b hb => hkk b (RowZ.lt h.undo b hb) (fun e => nu (by rw [hb, e])) ((n1 b hb).2.2.2), RowZ.keep h.times fun b hb => hkk b (RowZ.lt h.times b hb) (fun e => nt (by rw [hb, e])) ((n2 b hb).2.2), RowZ.keep h.rows fun b hb => hkk b (RowZ.lt h.rows b hb) (fun e => nr (by rw [hb, e])) ((n3 b hb).2), RowZ.keep h.own fun b hb => hkk b (RowZ.lt h.own b hb) (fun e => no (by rw [hb, e])) ((n4 b hb)), RowZ.far hr (p := ⟨P, 4, none⟩) hvP v', h.vsl, hrest.1, hrest.2, ⟨g0, g1, g2, g3, g4, hge⟩, h.apart⟩
  · rw [heap_setCell_same w' P 4 _ _ v' hP]; rfl
/-- The flag and its reason. -/
theorem TbX.setWhy (h : TbX w B P g s vu vt vr vo ve vs fs) (b : Bool) (x : W64) : TbX ((w.setCell ⟨P, 5, none⟩ (.bool b)).setCell ⟨P, 6, none⟩ (whyV x)) B P g { s with stuck := b, why := x } vu vt vr vo ve vs fs := by
  obtain ⟨⟨nu, nt, nr, no, ne⟩, n1, n2, n3, n4⟩ := h.ne
  have hset : ∀ b', b' ≠ P → ((w.setCell ⟨P, 5, none⟩ (.bool b)).setCell ⟨P, 6, none⟩ (whyV x)).heap[b']? = w.heap[b']? := fun b' hb => (Below.heap_setCell _ _ _ _ hb).trans (Below.heap_setCell _ _ _ _ hb)
  have hrest := h.rest (w' := (w.setCell ⟨P, 5, none⟩ (.bool b)).setCell ⟨P, 6, none⟩ (whyV x)) (g' := g) (by simp) (fun b' _ hl => hset b' (h.off hl).1) (fun _ _ => id) (fun _ _ => id) (fun _ _ => id)
  refine ⟨?_, h.bl, RowZ.keep h.undo fun b' hb => hset b' (fun e => nu (by rw [hb, e])), RowZ.keep h.times fun b' hb => hset b' (fun e => nt (by rw [hb, e])), RowZ.keep h.rows fun b' hb => hset b' (fun e => nr (by rw [hb, e])),
    RowZ.keep h.own fun b' hb => hset b' (fun e => no (by rw [hb, e])), RowZ.keep h.eqs fun b' hb => hset b' (fun e => ne (by rw [hb, e])), h.vsl, hrest.1, hrest.2, h.ge, h.apart⟩
  rw [heap_setCell_same _ P 6 _ _ _ (heap_setCell_same w P 5 _ _ _ h.self)]
  rfl
end
end Go.Proofs.Ythnbhcfpfbimgaa
/- The walks of did and tick: a change, and what undoes it; one time more. -/
namespace Go.Proofs.Ythnbhcfpfbimgaa
open Go.RowKit
open Rw (El At Fld Lk Eqn U T W64)

def NewOr (w : World) (a b : Option Nat) : Prop := b = a ∨ ∃ k, b = some k ∧ w.heap.size ≤ k
theorem NewOr.refl (w : World) (a : Option Nat) : NewOr w a a := .inl rfl
theorem NewOr.trans {w w' : World} {a b c : Option Nat} (h : NewOr w a b) (h2 : NewOr w' b c) (hs : w.heap.size ≤ w'.heap.size) : NewOr w a c := by
  rcases h2 with e | ⟨k, e, hk⟩
  · rw [e]; exact h
  · exact .inr ⟨k, e, by omega⟩
theorem NewOr.back {w w' : World} {a b : Option Nat} (h : NewOr w' a b) (hs : w.heap.size ≤ w'.heap.size) : NewOr w a b := h.imp id fun ⟨k, e, hk⟩ => ⟨k, e, by omega⟩
theorem NewOr.ne {w : World} {a b : Option Nat} (h : NewOr w a b) {k : Nat} (hk : k < w.heap.size) (hn : a ≠ some k) : b ≠ some k := by
  rcases h with e | ⟨k', e, hk'⟩
  · rw [e]; exact hn
  · rw [e]; intro e2; injection e2 with e2; omega
/-- The table's blocks. -/
def OnB (P : Nat) (g : Bl) (k : Nat) : Prop := k = P ∨ g.u = some k ∨ g.t = some k ∨ g.r = some k ∨ g.o = some k ∨ g.e = some k
structure Gn (w : World) (g g' : Bl) : Prop where
  u : NewOr w g.u g'.u
  t : NewOr w g.t g'.t
  r : NewOr w g.r g'.r
  o : NewOr w g.o g'.o
  e : NewOr w g.e g'.e
theorem Gn.refl (w : World) (g : Bl) : Gn w g g := ⟨.inl rfl, .inl rfl, .inl rfl, .inl rfl, .inl rfl⟩
theorem Gn.trans {w w' : World} {a b c : Bl} (h : Gn w a b) (h2 : Gn w' b c) (hs : w.heap.size ≤ w'.heap.size) : Gn w a c := ⟨h.u.trans h2.u hs, h.t.trans h2.t hs, h.r.trans h2.r hs, h.o.trans h2.o hs, h.e.trans h2.e hs⟩
theorem Gn.back {w w' : World} {a b : Bl} (h : Gn w' a b) (hs : w.heap.size ≤ w'.heap.size) : Gn w a b := ⟨h.u.back hs, h.t.back hs, h.r.back hs, h.o.back hs, h.e.back hs⟩
theorem Gn.on {w : World} {P : Nat} {g g' : Bl} (h : Gn w g g') : ∀ k, OnB P g' k → OnB P g k ∨ w.heap.size ≤ k := by
  have key : ∀ {a b : Option Nat} {k : Nat}, NewOr w a b → b = some k → a = some k ∨ w.heap.size ≤ k := fun {a b k} hn hb => by
    rcases hn with e | ⟨k', e, hk'⟩
    · exact .inl (by rw [← e]; exact hb)
    · rw [e] at hb; injection hb with hb; exact .inr (by omega)
  rintro k (e | e | e | e | e | e)
  · exact .inl (.inl e)
  · exact (key h.u e).imp (fun e => .inr (.inl e)) id
  · exact (key h.t e).imp (fun e => .inr (.inr (.inl e))) id
  · exact (key h.r e).imp (fun e => .inr (.inr (.inr (.inl e)))) id
  · exact (key h.o e).imp (fun e => .inr (.inr (.inr (.inr (.inl e))))) id
  · exact (key h.e e).imp (fun e => .inr (.inr (.inr (.inr (.inr e))))) id
/-- A step of the table: it is there, with the state s', and nothing else has turned but its own blocks. -/
structure Stp (w : World) (B P : Nat) (g : Bl) (s' : T) (w' : World) : Prop where
  ex : ∃ g', Tb w' B P g' s' ∧ Kp (OnB P g) w w' ∧ Gn w g g'
theorem Stp.trans {w w1 w2 : World} {B P : Nat} {g g1 : Bl} {s' : T} (hk : Kp (OnB P g) w w1) (hg : Gn w g g1) (h : Stp w1 B P g1 s' w2) : Stp w B P g s' w2 := by
  obtain ⟨g2, h1, h2, h3⟩ := h.ex
  exact ⟨g2, h1, hk.trans h2 hg.on, hg.trans h3 hk.size⟩
theorem Stp.of_below {w w' : World} {B P : Nat} {g : Bl} {s : T} (h : Tb w B P g s) (hb : Below w.heap.size w w') : Stp w B P g s w' := by
  obtain ⟨vu, vt, vr, vo, ve, vs, fs, hx⟩ := h
  exact ⟨g, ⟨vu, vt, vr, vo, ve, vs, fs, hx.below hb⟩, Kp.of_below hb, Gn.refl _ _⟩
theorem Tb.ge {w : World} {B P : Nat} {g : Bl} {s : T} (h : Tb w B P g s) : ∀ k, OnB P g k → B ≤ k := by
  obtain ⟨_, _, _, _, _, _, _, hx⟩ := h
  obtain ⟨g0, g1, g2, g3, g4, g5⟩ := hx.ge
  rintro k (e | e | e | e | e | e)
  · omega
  · exact g1 k e
  · exact g2 k e
  · exact g3 k e
  · exact g4 k e
  · exact g5 k e
theorem info_func : (Try.prog.info? 1).map (fun i => (i.zero, i.size, i.bytes)) = some (some .nilFunc, 1, 8) := by kernel_rfl
theorem info_int : (Try.prog.info? 3).map (fun i => (i.zero, i.size, i.bytes)) = some (some (.int .i64 0), 1, 8) := by kernel_rfl
theorem FuncIs.below {w w' : World} {B P : Nat} {g : Bl} {f : Value} {u : U} (h : FuncIs w B P g f u) (hb : Below w.heap.size w w') : FuncIs w' B P g f u := h.keep hb.size (fun b hlt _ => hb.block b hlt) (fun _ _ => id) (fun _ _ => id) (fun _ _ => id)
theorem fs_snoc {w : World} {B P : Nat} {g : Bl} {fs : List Value} {us : List U} {f : Value} {u : U} (hl : fs.length = us.length) (h : ∀ (k : Nat) f u, fs[k]? = some f → us[k]? = some u → FuncIs w B P g f u) (hf : FuncIs w B P g f u) :
    ∀ (k : Nat) f' u', (fs ++ [f])[k]? = some f' → (us ++ [u])[k]? = some u' → FuncIs w B P g f' u' := fun k f' u' h1 h2 => by
  rcases Nat.lt_or_ge k fs.length with hk | hk
  · rw [List.getElem?_append_left hk] at h1
    rw [List.getElem?_append_left (by omega)] at h2
    exact h k f' u' h1 h2
  · have hk' : k = fs.length := by
      have := (List.getElem?_eq_some_iff.1 h1).1
      simp at this; omega
    subst hk'
    rw [List.getElem?_append_right (Nat.le_refl _), Nat.sub_self] at h1
    rw [List.getElem?_append_right (by omega), hl, Nat.sub_self] at h2
    simp at h1 h2
    subst h1
    subst h2
    exact hf
structure RetS (v : Value) (w : World) (B P : Nat) (g : Bl) (s' : T) (e : Ending) (w' : World) : Prop where
  ret : e = .returned v
  stp : Stp w B P g s' w'
/-- The same, and the slice of the own ones is the same one. -/
structure RetK (v : Value) (w : World) (B P : Nat) (g : Bl) (s' : T) (e : Ending) (w' : World) : Prop where
  ret : RetS v w B P g s' e w'
  own : w'.cell? ⟨P, 3, none⟩ = w.cell? ⟨P, 3, none⟩
theorem RowZ.n_len {w : World} {e : TypeId} {v : Value} {n : Nat} {xs : List Value} (h : RowZ w e 1 v n xs) : xs.length = n := by have := h.len; omega
set_option maxRecDepth 100000 in
set_option maxHeartbeats 1000000 in
theorem did_any (P B : Nat) (g : Bl) (fn : Fn) (cp : Array Value) (u : U) (s : T) (w : World) (h : Tb w B P g s) (hf : FuncIs w B P g (.func fn #[] cp) u) (hB : B ≤ w.heap.size) (hn : s.undo.length ≤ 1000000000) :
    Calls Try.prog 47 #[.pointer (some ⟨P, 0, none⟩), .func fn #[] cp] w fun e w' => RetK (.tuple #[]) w B P g (s.did u) e w' := by
  obtain ⟨i1, hj, hy0, hy1, hy2⟩ := info_parts info_func
  obtain ⟨vu, vt, vr, vo, ve, vs, fs, hx⟩ := h
  obtain ⟨Au, cu, rfl, hcu, hcm⟩ := RowZ.form hx.undo
  obtain ⟨c0, _⟩ := hx.cells
  have hba := below_laid w (.cells #[.func fn #[] cp] 1)
  have HX := hide (And.intro hx (And.intro hf (And.intro (hx.below hba) (And.intro hba (heap_alloc_new w (.cells #[.func fn #[] cp] 1))))))
  have HB := hide hB
  have HO := hide hx.cells.2.2.2.1
  have hlt := hx.lt
  clear hx hf hba hB
  go_enter Try.func47, Try.ntmps47
  go_wp2_with (at_builtin; refine app_rowz rfl (.tmp 8) (.tmp 10) 77 77 rfl 1 i1 _ 1 8 Try.underlying77 hj hy0 hy1 hy2 rfl (.slice Au s.undo.length cu) s.undo.length fs rfl HX.out.2.2.1.undo _ 1 [.func fn #[] cp] rfl (Src.ofSlice _ Try.underlying77 ⟨w.heap.size, 0, none⟩ 1 1 _ rfl (World.news_of_block (cs := #[.func fn #[] cp]) (t := 1) (fr := (0, 0)) HX.out.2.2.2.2) (by simp [Value.oneCell'])) (by unfold maxLen; omega) (by omega) ?_)
  intro A' c' w' hr hg hob
  have hxa := HX.out.2.2.1
  have hsz : w.heap.size ≤ w'.heap.size := Nat.le_trans HX.out.2.2.2.1.size hg.size
  have hnb : (Value.slice A' (s.undo.length + 1) c').ownBlock = (Value.slice Au s.undo.length cu).ownBlock ∨ ∃ b, (Value.slice A' (s.undo.length + 1) c').ownBlock = some b ∧ (w.alloc (.cells #[.func fn #[] cp] 1)).heap.size ≤ b := hob.imp id fun e => ⟨_, e, by rw [World.size_alloc]; exact Nat.le_refl _⟩
  have hkk : ∀ b, b < (w.alloc (.cells #[.func fn #[] cp] 1)).heap.size → (Value.slice Au s.undo.length cu).ownBlock ≠ some b → w'.heap[b]? = (w.alloc (.cells #[.func fn #[] cp] 1)).heap[b]? := fun b hb hne => hg.block b hb fun e => hne e.symm
  have hfs : ∀ (k : Nat) f' u', (fs ++ [.func fn #[] cp])[k]? = some f' → (s.undo ++ [u])[k]? = some u' → FuncIs w' B P g f' u' := fs_snoc (RowZ.n_len hxa.undo) (fun k f' u' h1 h2 => (hxa.funcs k f' u' h1 h2).keep hg.size (fun b hb hl => hkk b hb (hxa.off hl).2.1) (fun _ _ => id) (fun _ _ => id) (fun _ _ => id))
    ((HX.out.2.1.below HX.out.2.2.2.1).keep hg.size (fun b hb hl => hkk b hb (hxa.off hl).2.1) (fun _ _ => id) (fun _ _ => id) (fun _ _ => id))
  have hnew := hxa.newU (us' := s.undo ++ [u]) (fs' := fs ++ [.func fn #[] cp]) (v' := .slice A' (s.undo.length + 1) c') hg.size hkk (by rw [List.length_append]; exact hr) hfs hnb (Nat.le_trans HB.out HX.out.2.2.2.1.size)
  have hPw : w'.heap[P]? = (w.alloc (.cells #[.func fn #[] cp] 1)).heap[P]? := hkk P hxa.lt hxa.ne.1.1
  have q0 : w'.cell? ⟨P, 0, none⟩ = some (.slice Au s.undo.length cu) := (World.cell?_of_block hPw).trans hxa.cells.1
  have q1 : w'.frozen? ⟨P, 0, none⟩ = false := (World.frozen?_of_block hPw).trans (hxa.free 0)
  have hkp : Kp (OnB P g) w (w'.setCell ⟨P, 0, none⟩ (.slice A' (s.undo.length + 1) c')) := (((Kp.refl _ w).alloc _).grown hg fun b hb => .inl (.inr (.inl (by rw [← hxa.bl.1]; exact hb)))).setCell (.inl (.inl rfl)) _
  have HF := hide (And.intro hnew (And.intro hkp (And.intro hnb hxa.bl.1)))
  clear hr hg hob hxa hkk hfs hnew hPw hkp hnb c0
  go_wp2_with fail
  go_end0
  refine ⟨⟨rfl, ⟨_, ⟨_, _, _, _, _, _, _, HF.out.1⟩, HF.out.2.1, ⟨?_, .inl rfl, .inl rfl, .inl rfl, .inl rfl⟩⟩⟩, HF.out.1.cells.2.2.2.1.trans HO.out.symm⟩
  rcases HF.out.2.2.1 with e | ⟨b, e, hb⟩
  · exact .inl (e.trans HF.out.2.2.2)
  · exact .inr ⟨b, e, by rw [World.size_alloc] at hb; omega⟩
end Go.Proofs.Ythnbhcfpfbimgaa
/- The walk of tick: one time more. -/
namespace Go.Proofs.Ythnbhcfpfbimgaa
open Go.RowKit
open Rw (El At Fld Lk Eqn U T W64)

theorem int_news {w : World} {b : Nat} {z : Int} (h : w.heap[b]? = some (.cells #[.int .i64 z] 3 (0, 0))) : Src Try.prog 1 78 (.slice (some ⟨b, 0, none⟩) 1 1) 1 [.int .i64 z] w :=
  Src.ofSlice _ Try.underlying78 ⟨b, 0, none⟩ 1 1 _ rfl (World.news_of_block (cs := #[.int .i64 z]) (t := 3) (fr := (0, 0)) h) (by simp [Value.oneCell'])
theorem TbX.drew {w : World} {B P : Nat} {g : Bl} {s : T} {vu vt vr vo ve : Value} {vs : List (Value × Value)} {fs : List Value} (h : TbX w B P g s vu vt vr vo ve vs fs) : TbX w.drew B P g s vu vt vr vo ve vs fs := h.below (below_drewN (Below.refl _ _) 1)
set_option maxRecDepth 100000 in
set_option maxHeartbeats 1000000 in
theorem tick_any (P B : Nat) (g : Bl) (s : T) (w : World) (h : Tb w B P g s) (hB : B ≤ w.heap.size) (hn : s.times.length ≤ 1000000000) :
    Calls Try.prog 45 #[.pointer (some ⟨P, 0, none⟩)] w fun e w' => RetS (.tuple #[]) w B P g s.tick e w' := by
  obtain ⟨i1, hj, hy0, hy1, hy2⟩ := info_parts info_int
  obtain ⟨vu, vt, vr, vo, ve, vs, fs, hx⟩ := h
  obtain ⟨Au, cu, rfl, hcu, hcm⟩ := RowZ.form hx.undo
  obtain ⟨At, ct, rfl, hct, hctm⟩ := RowZ.form hx.times
  obtain ⟨c0, c1, _⟩ := hx.cells
  have hlt := hx.lt
  have HX := hide hx
  have HB := hide hB
  clear hx hB
  go_enter Try.func45, Try.ntmps45
  go_upto_region 0 with (fail)
  refine wp_region_chain [0, 1, 2, 3, 4, 5, 6, 7, 8, 9] [(10, true), (11, true), (12, false), (13, false), (14, false)] (fun w' => w'.cell? ⟨P, 0, none⟩ = some (.slice Au s.undo.length cu) ∧ w'.cell? ⟨P, 1, none⟩ = some (.slice At s.times.length ct)) (by kernel_rfl) (by kernel_rfl) (fun _ _ _ _ _ h => h) ⟨c0, c1⟩ ?_
  intro hne
  simp only [picks, picksW, List.filterMap_cons, List.filterMap_nil, List.getElem?_cons_zero, List.getElem?_cons_succ, Option.map_some]
  have hu0 : ∀ u : HoldW (fun w' => w'.cell? ⟨P, 0, none⟩ = some (.slice Au s.undo.length cu) ∧ w'.cell? ⟨P, 1, none⟩ = some (.slice At s.times.length ct)), u.w.cell? ⟨P, 0, none⟩ = some (.slice Au s.undo.length cu) := fun u => u.ok.1
  have hu1 : ∀ u : HoldW (fun w' => w'.cell? ⟨P, 0, none⟩ = some (.slice Au s.undo.length cu) ∧ w'.cell? ⟨P, 1, none⟩ = some (.slice At s.times.length ct)), u.w.cell? ⟨P, 1, none⟩ = some (.slice At s.times.length ct) := fun u => u.ok.2
  repeat (refine wpHeld_step (fun K hK => ?_); go_simp; refine hK _ ?_; clear hK K)
  refine wpHeld_nil ?_
  clear hu0 hu1 hne
  refine wpChain_cons fun K hK => ?_
  go_wp2_with fail
  have hba : Below w.drew.heap.size w.drew (w.drew.alloc (.cells #[.int .i64 (s.undo.length : Nat)] 3)) := below_laid w.drew _
  refine chainF (fun _ => ⟨(hba.cell (p := ⟨P, 0, none⟩) hlt).trans c0, (hba.cell (p := ⟨P, 1, none⟩) hlt).trans c1⟩) (hK _ _ ?_)
  clear hK K
  have hxa := HX.out.drew.below hba
  have HA := hide (And.intro hxa hba)
  clear hxa hba
  refine wpChain_cons fun K hK => ?_
  refine app_rowz rfl (.tmp 6) (.tmp 12) 78 78 rfl 3 i1 _ 1 8 Try.underlying78 hj hy0 hy1 hy2 rfl (.slice At s.times.length ct) s.times.length (intsV s.times) rfl HA.out.1.times _ 1 [.int .i64 (s.undo.length : Nat)] rfl (int_news (heap_alloc_new w.drew _)) (by unfold maxLen; omega) (by omega) ?_
  intro A' c' w' hr hg hob
  have hxa := HA.out.1
  have hnb : (Value.slice A' (s.times.length + 1) c').ownBlock = (Value.slice At s.times.length ct).ownBlock ∨ ∃ b, (Value.slice A' (s.times.length + 1) c').ownBlock = some b ∧ (w.drew.alloc (.cells #[.int .i64 (s.undo.length : Nat)] 3)).heap.size ≤ b := hob.imp id fun e => ⟨_, e, Nat.le_refl _⟩
  have hkk : ∀ b, b < (w.drew.alloc (.cells #[.int .i64 (s.undo.length : Nat)] 3)).heap.size → (Value.slice At s.times.length ct).ownBlock ≠ some b → w'.heap[b]? = (w.drew.alloc (.cells #[.int .i64 (s.undo.length : Nat)] 3)).heap[b]? := fun b hb hne => hg.block b hb fun e => hne e.symm
  have hnew := hxa.newT (l' := s.times ++ [s.undo.length]) (v' := .slice A' (s.times.length + 1) c') hg.size hkk (by rw [List.length_append, show intsV (s.times ++ [s.undo.length]) = intsV s.times ++ [.int .i64 (s.undo.length : Nat)] by simp [intsV]]; exact hr) hnb (Nat.le_trans HB.out HA.out.2.size)
  have hPw : w'.heap[P]? = (w.drew.alloc (.cells #[.int .i64 (s.undo.length : Nat)] 3)).heap[P]? := hkk P hxa.lt hxa.ne.1.2.1
  have q0 : w'.cell? ⟨P, 0, none⟩ = some (.slice Au s.undo.length cu) := (World.cell?_of_block hPw).trans hxa.cells.1
  have q1 : w'.cell? ⟨P, 1, none⟩ = some (.slice At s.times.length ct) := (World.cell?_of_block hPw).trans hxa.cells.2.1
  have q2 : w'.frozen? ⟨P, 1, none⟩ = false := (World.frozen?_of_block hPw).trans (hxa.free 1)
  have hkp : Kp (OnB P g) w (w'.setCell ⟨P, 1, none⟩ (.slice A' (s.times.length + 1) c')) := ((((Kp.refl _ w).drew).alloc _).grown hg fun b hb => .inl (.inr (.inr (.inl (by rw [← hxa.bl.2.1]; exact hb))))).setCell (.inl (.inl rfl)) _
  have HF := hide (And.intro hnew (And.intro hkp (And.intro hnb hxa.bl.2.1)))
  refine chainF (fun _ => ⟨q0, q1⟩) (hK _ _ ?_)
  clear hr hg hob hxa hkk hnew hPw hkp hnb c0 c1 hK K
  refine wpChain_cons fun K hK => ?_
  go_wp2_with fail
  refine chainSkip (hK _ _ ?_)
  clear hK K
  refine wpChain_cons fun K hK => ?_
  go_wp2_with fail
  refine chainSkip (hK _ _ ?_)
  clear hK K
  refine wpChain_cons fun K hK => ?_
  go_wp2_with fail
  refine chainSkip (hK _ _ ?_)
  clear hK K
  refine wpChain_nil ?_
  go_wp2_with fail
  go_end0
  refine ⟨rfl, ⟨_, ⟨_, _, _, _, _, _, _, HF.out.1⟩, HF.out.2.1, ⟨.inl rfl, ?_, .inl rfl, .inl rfl, .inl rfl⟩⟩⟩
  rcases HF.out.2.2.1 with e | ⟨b, e, hb⟩
  · exact .inl (e.trans HF.out.2.2.2)
  · exact .inr ⟨b, e, by rw [World.size_alloc] at hb; have : w.drew.heap.size = w.heap.size := rfl; omega⟩
end Go.Proofs.Ythnbhcfpfbimgaa
