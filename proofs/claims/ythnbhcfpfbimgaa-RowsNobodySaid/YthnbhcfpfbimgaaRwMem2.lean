/- A table of rows in memory: one of its parts is another one now. (Printed by rwmem.py.) -/
import Derived.Test.YthnbhcfpfbimgaaRwMem
namespace Go.Proofs.Ythnbhcfpfbimgaa
open Go.RowKit
open Rw (El At Fld Lk Eqn U T W64)

section
variable {w w' : World} {B P : Nat} {g g' : Bl} {s : T} {vu vt vr vo ve : Value} {vs : List (Value × Value)} {fs : List Value}

theorem TbX.newU (h : TbX w B P g s vu vt vr vo ve vs fs) {v' : Value} {us' : List U} {fs' : List Value} (hs : w.heap.size ≤ w'.heap.size) (hk : ∀ b, b < w.heap.size → vu.ownBlock ≠ some b → w'.heap[b]? = w.heap[b]?) (hr : RowZ w' 1 1 v' us'.length fs') (hf : ∀ (k : Nat) f u, fs'[k]? = some f → us'[k]? = some u → FuncIs w' B P g f u) (ho : v'.ownBlock = vu.ownBlock ∨ ∃ b, v'.ownBlock = some b ∧ w.heap.size ≤ b) (hB : B ≤ w.heap.size) :
    TbX (w'.setCell ⟨P, 0, none⟩ v') B P { g with u := v'.ownBlock } { s with undo := us' } v' vt vr vo ve vs fs' := by
  obtain ⟨⟨nu, nt, nr, no, ne⟩, n1, n2, n3, n4⟩ := h.ne
  obtain ⟨b1, b2, b3, b4, b5⟩ := h.bl
  obtain ⟨g0, g1, g2, g3, g4, g5⟩ := h.ge
  have hP : w'.heap[P]? = some (.cells #[vu, vt, vr, vo, ve, .bool s.stuck, whyV s.why] 83 (0, 0)) := (hk P h.lt nu).trans h.self
  have hset : ∀ b, b ≠ P → (w'.setCell ⟨P, 0, none⟩ v').heap[b]? = w'.heap[b]? := fun b hb => Below.heap_setCell _ _ _ _ hb
  have hkk : ∀ b, b < w.heap.size → b ≠ P → vu.ownBlock ≠ some b → (w'.setCell ⟨P, 0, none⟩ v').heap[b]? = w.heap[b]? := fun b hb h1 h2 => (hset b h1).trans (hk b hb h2)
  have hss : w.heap.size ≤ (w'.setCell ⟨P, 0, none⟩ v').heap.size := by simpa using hs
  have hvP : v'.ownBlock ≠ some P := RowZ.ne_type hr hP (by decide)
  have hnew : ∀ b, b < w.heap.size → vu.ownBlock ≠ some b → v'.ownBlock ≠ some b := fun b hb hn => by
    rcases ho with e | ⟨b', e, hb'⟩
    · rw [e]; exact hn
    · rw [e]; intro e2; injection e2 with e2; omega
  have hge : ∀ b, v'.ownBlock = some b → B ≤ b := fun b hb => by
    rcases ho with e | ⟨b', e, hb'⟩
    · exact g1 b (by rw [← b1, ← e]; exact hb)
    · rw [e] at hb; injection hb with hb; omega
  have hrest := h.rest (w' := w'.setCell ⟨P, 0, none⟩ v') (g' := { g with u := v'.ownBlock }) hss (fun b hb hl => hkk b hb (h.off hl).1 (h.off hl).2.1) (fun b _ hn => hn) (fun b _ hn => hn) (fun b _ hn => hn)
  refine ⟨?_, ⟨rfl, b2, b3, b4, b5⟩, RowZ.far hr (p := ⟨P, 0, none⟩) hvP v', RowZ.keep h.times fun b hb => hkk b (RowZ.lt h.times b hb) (fun e => nt (by rw [hb, e])) (fun e => (n1 b e).1 hb), RowZ.keep h.rows fun b hb => hkk b (RowZ.lt h.rows b hb) (fun e => nr (by rw [hb, e])) (fun e => (n1 b e).2.1 hb), RowZ.keep h.own fun b hb => hkk b (RowZ.lt h.own b hb) (fun e => no (by rw [hb, e])) (fun e => (n1 b e).2.2.1 hb), RowZ.keep h.eqs fun b hb => hkk b (RowZ.lt h.eqs b hb) (fun e => ne (by rw [hb, e])) (fun e => (n1 b e).2.2.2 hb), h.vsl, hrest.1, fun k f u h1 h2 => (hf k f u h1 h2).keep (by simp) (fun b _ hl => hset b ?_) (fun b _ hn => hn) (fun b _ hn => hn) (fun b _ hn => hn), ⟨g0, hge, g2, g3, g4, g5⟩, h.apart⟩
  · rw [heap_setCell_same w' P 0 _ _ v' hP]; rfl
  · rcases hl with hl | ⟨t, cs, hc, ht⟩
    · omega
    · intro e
      subst e
      rw [hP] at hc
      injection hc with hc
      injection hc with _ hc
      subst hc
      rcases ht with h | h | h | h | ⟨h, _⟩ | ⟨h, _⟩ <;> exact absurd h (by decide)
theorem TbX.newT (h : TbX w B P g s vu vt vr vo ve vs fs) {v' : Value} {l' : List Nat} (hs : w.heap.size ≤ w'.heap.size) (hk : ∀ b, b < w.heap.size → vt.ownBlock ≠ some b → w'.heap[b]? = w.heap[b]?) (hr : RowZ w' 3 1 v' l'.length (intsV l'))  (ho : v'.ownBlock = vt.ownBlock ∨ ∃ b, v'.ownBlock = some b ∧ w.heap.size ≤ b) (hB : B ≤ w.heap.size) :
    TbX (w'.setCell ⟨P, 1, none⟩ v') B P { g with t := v'.ownBlock } { s with times := l' } vu v' vr vo ve vs fs := by
  obtain ⟨⟨nu, nt, nr, no, ne⟩, n1, n2, n3, n4⟩ := h.ne
  obtain ⟨b1, b2, b3, b4, b5⟩ := h.bl
  obtain ⟨g0, g1, g2, g3, g4, g5⟩ := h.ge
  have hP : w'.heap[P]? = some (.cells #[vu, vt, vr, vo, ve, .bool s.stuck, whyV s.why] 83 (0, 0)) := (hk P h.lt nt).trans h.self
  have hset : ∀ b, b ≠ P → (w'.setCell ⟨P, 1, none⟩ v').heap[b]? = w'.heap[b]? := fun b hb => Below.heap_setCell _ _ _ _ hb
  have hkk : ∀ b, b < w.heap.size → b ≠ P → vt.ownBlock ≠ some b → (w'.setCell ⟨P, 1, none⟩ v').heap[b]? = w.heap[b]? := fun b hb h1 h2 => (hset b h1).trans (hk b hb h2)
  have hss : w.heap.size ≤ (w'.setCell ⟨P, 1, none⟩ v').heap.size := by simpa using hs
  have hvP : v'.ownBlock ≠ some P := RowZ.ne_type hr hP (by decide)
  have hnew : ∀ b, b < w.heap.size → vt.ownBlock ≠ some b → v'.ownBlock ≠ some b := fun b hb hn => by
    rcases ho with e | ⟨b', e, hb'⟩
    · rw [e]; exact hn
    · rw [e]; intro e2; injection e2 with e2; omega
  have hge : ∀ b, v'.ownBlock = some b → B ≤ b := fun b hb => by
    rcases ho with e | ⟨b', e, hb'⟩
    · exact g2 b (by rw [← b2, ← e]; exact hb)
    · rw [e] at hb; injection hb with hb; omega
  have hrest := h.rest (w' := w'.setCell ⟨P, 1, none⟩ v') (g' := { g with t := v'.ownBlock }) hss (fun b hb hl => hkk b hb (h.off hl).1 (h.off hl).2.2.1) (fun b hb hn => by have := hnew b hb (by rw [b2]; exact hn); exact this) (fun b _ hn => hn) (fun b _ hn => hn)
  refine ⟨?_, ⟨b1, rfl, b3, b4, b5⟩, RowZ.keep h.undo fun b hb => hkk b (RowZ.lt h.undo b hb) (fun e => nu (by rw [hb, e])) ((n1 b hb).1), RowZ.far hr (p := ⟨P, 1, none⟩) hvP v', RowZ.keep h.rows fun b hb => hkk b (RowZ.lt h.rows b hb) (fun e => nr (by rw [hb, e])) (fun e => (n2 b e).1 hb), RowZ.keep h.own fun b hb => hkk b (RowZ.lt h.own b hb) (fun e => no (by rw [hb, e])) (fun e => (n2 b e).2.1 hb), RowZ.keep h.eqs fun b hb => hkk b (RowZ.lt h.eqs b hb) (fun e => ne (by rw [hb, e])) (fun e => (n2 b e).2.2 hb), h.vsl, hrest.1, hrest.2, ⟨g0, g1, hge, g3, g4, g5⟩, fun b hb e => by
    rcases ho with e2 | ⟨b', e2, hb'⟩
    · exact h.apart b (by rw [← b2, ← e2]; exact hb) e
    · have hb2 : v'.ownBlock = some b := hb
      rw [e2] at hb2; injection hb2 with hb2; have := RowZ.lt h.own b (by rw [b4]; exact e); omega⟩
  · rw [heap_setCell_same w' P 1 _ _ v' hP]; rfl
theorem TbX.newR (h : TbX w B P g s vu vt vr vo ve vs fs) {v' : Value} {rs' : List Rw.Row} {vs' : List (Value × Value)} (hs : w.heap.size ≤ w'.heap.size) (hk : ∀ b, b < w.heap.size → vr.ownBlock ≠ some b → w'.heap[b]? = w.heap[b]?) (hr : RowZ w' 134 5 v' rs'.length (rowsV rs' vs')) (hl : vs'.length = rs'.length) (hf : ∀ (k : Nat) r v, rs'[k]? = some r → vs'[k]? = some v → RowAt w' B r v) (ho : v'.ownBlock = vr.ownBlock ∨ ∃ b, v'.ownBlock = some b ∧ w.heap.size ≤ b) (hB : B ≤ w.heap.size) :
    TbX (w'.setCell ⟨P, 2, none⟩ v') B P { g with r := v'.ownBlock } { s with rows := rs' } vu vt v' vo ve vs' fs := by
  obtain ⟨⟨nu, nt, nr, no, ne⟩, n1, n2, n3, n4⟩ := h.ne
  obtain ⟨b1, b2, b3, b4, b5⟩ := h.bl
  obtain ⟨g0, g1, g2, g3, g4, g5⟩ := h.ge
  have hP : w'.heap[P]? = some (.cells #[vu, vt, vr, vo, ve, .bool s.stuck, whyV s.why] 83 (0, 0)) := (hk P h.lt nr).trans h.self
  have hset : ∀ b, b ≠ P → (w'.setCell ⟨P, 2, none⟩ v').heap[b]? = w'.heap[b]? := fun b hb => Below.heap_setCell _ _ _ _ hb
  have hkk : ∀ b, b < w.heap.size → b ≠ P → vr.ownBlock ≠ some b → (w'.setCell ⟨P, 2, none⟩ v').heap[b]? = w.heap[b]? := fun b hb h1 h2 => (hset b h1).trans (hk b hb h2)
  have hss : w.heap.size ≤ (w'.setCell ⟨P, 2, none⟩ v').heap.size := by simpa using hs
  have hvP : v'.ownBlock ≠ some P := RowZ.ne_type hr hP (by decide)
  have hnew : ∀ b, b < w.heap.size → vr.ownBlock ≠ some b → v'.ownBlock ≠ some b := fun b hb hn => by
    rcases ho with e | ⟨b', e, hb'⟩
    · rw [e]; exact hn
    · rw [e]; intro e2; injection e2 with e2; omega
  have hge : ∀ b, v'.ownBlock = some b → B ≤ b := fun b hb => by
    rcases ho with e | ⟨b', e, hb'⟩
    · exact g3 b (by rw [← b3, ← e]; exact hb)
    · rw [e] at hb; injection hb with hb; omega
  have hrest := h.rest (w' := w'.setCell ⟨P, 2, none⟩ v') (g' := { g with r := v'.ownBlock }) hss (fun b hb hl => hkk b hb (h.off hl).1 (h.off hl).2.2.2.1) (fun b _ hn => hn) (fun b _ hn => hn) (fun b hb hn => by have := hnew b hb (by rw [b3]; exact hn); exact this)
  refine ⟨?_, ⟨b1, b2, rfl, b4, b5⟩, RowZ.keep h.undo fun b hb => hkk b (RowZ.lt h.undo b hb) (fun e => nu (by rw [hb, e])) ((n1 b hb).2.1), RowZ.keep h.times fun b hb => hkk b (RowZ.lt h.times b hb) (fun e => nt (by rw [hb, e])) ((n2 b hb).1), RowZ.far hr (p := ⟨P, 2, none⟩) hvP v', RowZ.keep h.own fun b hb => hkk b (RowZ.lt h.own b hb) (fun e => no (by rw [hb, e])) (fun e => (n3 b e).1 hb), RowZ.keep h.eqs fun b hb => hkk b (RowZ.lt h.eqs b hb) (fun e => ne (by rw [hb, e])) (fun e => (n3 b e).2 hb), hl, fun k r v h1 h2 => (hf k r v h1 h2).keep (by simp) (fun b _ hl => hset b ?_), hrest.2, ⟨g0, g1, g2, hge, g4, g5⟩, h.apart⟩
  · rw [heap_setCell_same w' P 2 _ _ v' hP]; rfl
  · rcases hl with hl | ⟨t, cs, hc, ht⟩
    · omega
    · intro e
      subst e
      rw [hP] at hc
      injection hc with hc
      injection hc with _ hc
      subst hc
      rcases ht with h | h <;> exact absurd h (by decide)
theorem TbX.newO (h : TbX w B P g s vu vt vr vo ve vs fs) {v' : Value} {l' : List Nat} (hs : w.heap.size ≤ w'.heap.size) (hk : ∀ b, b < w.heap.size → vo.ownBlock ≠ some b → w'.heap[b]? = w.heap[b]?) (hr : RowZ w' 3 1 v' l'.length (intsV l'))  (ho : v'.ownBlock = vo.ownBlock ∨ ∃ b, v'.ownBlock = some b ∧ w.heap.size ≤ b) (hB : B ≤ w.heap.size) :
    TbX (w'.setCell ⟨P, 3, none⟩ v') B P { g with o := v'.ownBlock } { s with own := l' } vu vt vr v' ve vs fs := by
  obtain ⟨⟨nu, nt, nr, no, ne⟩, n1, n2, n3, n4⟩ := h.ne
  obtain ⟨b1, b2, b3, b4, b5⟩ := h.bl
  obtain ⟨g0, g1, g2, g3, g4, g5⟩ := h.ge
  have hP : w'.heap[P]? = some (.cells #[vu, vt, vr, vo, ve, .bool s.stuck, whyV s.why] 83 (0, 0)) := (hk P h.lt no).trans h.self
  have hset : ∀ b, b ≠ P → (w'.setCell ⟨P, 3, none⟩ v').heap[b]? = w'.heap[b]? := fun b hb => Below.heap_setCell _ _ _ _ hb
  have hkk : ∀ b, b < w.heap.size → b ≠ P → vo.ownBlock ≠ some b → (w'.setCell ⟨P, 3, none⟩ v').heap[b]? = w.heap[b]? := fun b hb h1 h2 => (hset b h1).trans (hk b hb h2)
  have hss : w.heap.size ≤ (w'.setCell ⟨P, 3, none⟩ v').heap.size := by simpa using hs
  have hvP : v'.ownBlock ≠ some P := RowZ.ne_type hr hP (by decide)
  have hnew : ∀ b, b < w.heap.size → vo.ownBlock ≠ some b → v'.ownBlock ≠ some b := fun b hb hn => by
    rcases ho with e | ⟨b', e, hb'⟩
    · rw [e]; exact hn
    · rw [e]; intro e2; injection e2 with e2; omega
  have hge : ∀ b, v'.ownBlock = some b → B ≤ b := fun b hb => by
    rcases ho with e | ⟨b', e, hb'⟩
    · exact g4 b (by rw [← b4, ← e]; exact hb)
    · rw [e] at hb; injection hb with hb; omega
  have hrest := h.rest (w' := w'.setCell ⟨P, 3, none⟩ v') (g' := { g with o := v'.ownBlock }) hss (fun b hb hl => hkk b hb (h.off hl).1 (h.off hl).2.2.2.2.1) (fun b _ hn => hn) (fun b hb hn => by have := hnew b hb (by rw [b4]; exact hn); exact this) (fun b _ hn => hn)
  refine ⟨?_, ⟨b1, b2, b3, rfl, b5⟩, RowZ.keep h.undo fun b hb => hkk b (RowZ.lt h.undo b hb) (fun e => nu (by rw [hb, e])) ((n1 b hb).2.2.1), RowZ.keep h.times fun b hb => hkk b (RowZ.lt h.times b hb) (fun e => nt (by rw [hb, e])) ((n2 b hb).2.1), RowZ.keep h.rows fun b hb => hkk b (RowZ.lt h.rows b hb) (fun e => nr (by rw [hb, e])) ((n3 b hb).1), RowZ.far hr (p := ⟨P, 3, none⟩) hvP v', RowZ.keep h.eqs fun b hb => hkk b (RowZ.lt h.eqs b hb) (fun e => ne (by rw [hb, e])) (fun e => (n4 b e) hb), h.vsl, hrest.1, hrest.2, ⟨g0, g1, g2, g3, hge, g5⟩, fun b hb e => by
    rcases ho with e2 | ⟨b', e2, hb'⟩
    · exact h.apart b hb (by rw [← b4, ← e2]; exact e)
    · have hb2 : v'.ownBlock = some b := e
      rw [e2] at hb2; injection hb2 with hb2; have := RowZ.lt h.times b (by rw [b2]; exact hb); omega⟩
  · rw [heap_setCell_same w' P 3 _ _ v' hP]; rfl
theorem TbX.newE (h : TbX w B P g s vu vt vr vo ve vs fs) {v' : Value} {es' : List Eqn} (hs : w.heap.size ≤ w'.heap.size) (hk : ∀ b, b < w.heap.size → ve.ownBlock ≠ some b → w'.heap[b]? = w.heap[b]?) (hr : RowZ w' 52 19 v' es'.length (eqnsV es'))  (ho : v'.ownBlock = ve.ownBlock ∨ ∃ b, v'.ownBlock = some b ∧ w.heap.size ≤ b) (hB : B ≤ w.heap.size) :
    TbX (w'.setCell ⟨P, 4, none⟩ v') B P { g with e := v'.ownBlock } { s with eqs := es' } vu vt vr vo v' vs fs := by
  obtain ⟨⟨nu, nt, nr, no, ne⟩, n1, n2, n3, n4⟩ := h.ne
  obtain ⟨b1, b2, b3, b4, b5⟩ := h.bl
  obtain ⟨g0, g1, g2, g3, g4, g5⟩ := h.ge
  have hP : w'.heap[P]? = some (.cells #[vu, vt, vr, vo, ve, .bool s.stuck, whyV s.why] 83 (0, 0)) := (hk P h.lt ne).trans h.self
  have hset : ∀ b, b ≠ P → (w'.setCell ⟨P, 4, none⟩ v').heap[b]? = w'.heap[b]? := fun b hb => Below.heap_setCell _ _ _ _ hb
  have hkk : ∀ b, b < w.heap.size → b ≠ P → ve.ownBlock ≠ some b → (w'.setCell ⟨P, 4, none⟩ v').heap[b]? = w.heap[b]? := fun b hb h1 h2 => (hset b h1).trans (hk b hb h2)
  have hss : w.heap.size ≤ (w'.setCell ⟨P, 4, none⟩ v').heap.size := by simpa using hs
  have hvP : v'.ownBlock ≠ some P := RowZ.ne_type hr hP (by decide)
  have hnew : ∀ b, b < w.heap.size → ve.ownBlock ≠ some b → v'.ownBlock ≠ some b := fun b hb hn => by
    rcases ho with e | ⟨b', e, hb'⟩
    · rw [e]; exact hn
    · rw [e]; intro e2; injection e2 with e2; omega
  have hge : ∀ b, v'.ownBlock = some b → B ≤ b := fun b hb => by
    rcases ho with e | ⟨b', e, hb'⟩
    · exact g5 b (by rw [← b5, ← e]; exact hb)
    · rw [e] at hb; injection hb with hb; omega
  have hrest := h.rest (w' := w'.setCell ⟨P, 4, none⟩ v') (g' := { g with e := v'.ownBlock }) hss (fun b hb hl => hkk b hb (h.off hl).1 (h.off hl).2.2.2.2.2) (fun b _ hn => hn) (fun b _ hn => hn) (fun b _ hn => hn)
  refine ⟨?_, ⟨b1, b2, b3, b4, rfl⟩, RowZ.keep h.undo fun b hb => hkk b (RowZ.lt h.undo b hb) (fun e => nu (by rw [hb, e])) ((n1 b hb).2.2.2), RowZ.keep h.times fun b hb => hkk b (RowZ.lt h.times b hb) (fun e => nt (by rw [hb, e])) ((n2 b hb).2.2), RowZ.keep h.rows fun b hb => hkk b (RowZ.lt h.rows b hb) (fun e => nr (by rw [hb, e])) ((n3 b hb).2), RowZ.keep h.own fun b hb => hkk b (RowZ.lt h.own b hb) (fun e => no (by rw [hb, e])) ((n4 b hb)), RowZ.far hr (p := ⟨P, 4, none⟩) hvP v', h.vsl, hrest.1, hrest.2, ⟨g0, g1, g2, g3, g4, hge⟩, h.apart⟩
  · rw [heap_setCell_same w' P 4 _ _ v' hP]; rfl
/-- The flag and its reason. -/
theorem TbX.setWhy (h : TbX w B P g s vu vt vr vo ve vs fs) (b : Bool) (x : W64) : TbX ((w.setCell ⟨P, 5, none⟩ (.bool b)).setCell ⟨P, 6, none⟩ (whyV x)) B P g { s with stuck := b, why := x } vu vt vr vo ve vs fs := by
  obtain ⟨⟨nu, nt, nr, no, ne⟩, n1, n2, n3, n4⟩ := h.ne
  have hset : ∀ b', b' ≠ P → ((w.setCell ⟨P, 5, none⟩ (.bool b)).setCell ⟨P, 6, none⟩ (whyV x)).heap[b']? = w.heap[b']? := fun b' hb => (Below.heap_setCell _ _ _ _ hb).trans (Below.heap_setCell _ _ _ _ hb)
  have hrest := h.rest (w' := (w.setCell ⟨P, 5, none⟩ (.bool b)).setCell ⟨P, 6, none⟩ (whyV x)) (g' := g) (by simp) (fun b' _ hl => hset b' (h.off hl).1) (fun _ _ => id) (fun _ _ => id) (fun _ _ => id)
  refine ⟨?_, h.bl, RowZ.keep h.undo fun b' hb => hset b' (fun e => nu (by rw [hb, e])), RowZ.keep h.times fun b' hb => hset b' (fun e => nt (by rw [hb, e])), RowZ.keep h.rows fun b' hb => hset b' (fun e => nr (by rw [hb, e])),
    RowZ.keep h.own fun b' hb => hset b' (fun e => no (by rw [hb, e])), RowZ.keep h.eqs fun b' hb => hset b' (fun e => ne (by rw [hb, e])), h.vsl, hrest.1, hrest.2, h.ge, h.apart⟩
  rw [heap_setCell_same _ P 6 _ _ _ (heap_setCell_same w P 5 _ _ _ h.self)]
  rfl
end
end Go.Proofs.Ythnbhcfpfbimgaa
