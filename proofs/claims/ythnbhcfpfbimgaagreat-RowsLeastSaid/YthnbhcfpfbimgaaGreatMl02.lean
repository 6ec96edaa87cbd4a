/- Texts put together: RwMem RwMem2. -/
import Derived.Test.YthnbhcfpfbimgaaGreatMl01
/- A table of rows in memory: its block, its five rows, the closures that undo, and what each has captured. -/
namespace Go.Proofs.YthnbhcfpfbimgaaGreat
open Go.RowKit
open Rw (El At Fld Lk Eqn U T W64)

def elV (e : El) : List Value := [.int .u64 e.e0, .int .u64 e.e1, .int .u64 e.e2, .int .u64 e.e3, .int .u64 e.e4, .int .u64 e.e5, .int .u64 e.e6, .int .u64 e.e7]
def atV (a : At) : List Value := .int .i64 a.var :: elV a.el
def fdV (f : Fld) : List Value := .string f.name :: atV f.at_
def fdsV (l : List Fld) : List Value := l.flatMap fdV
def whyV (x : W64) : Value := .int .u64 (x.toNat : Nat)
def lkV (l : Lk) : List Value := [.string l.field, whyV l.why]
def lksV (l : List Lk) : List Value := l.flatMap lkV
def eqnV (e : Eqn) : List Value := atV e.a ++ atV e.b ++ [whyV e.why]
def eqnsV (l : List Eqn) : List Value := l.flatMap eqnV
/-- A row's five cells: its two slices are told apart. -/
def rowV (r : Rw.Row) (v : Value × Value) : List Value := [.bool r.bound, v.1, .int .i64 r.tail, whyV r.why, v.2]
def rowsV (rs : List Rw.Row) (vs : List (Value × Value)) : List Value := (rs.zip vs).flatMap fun x => rowV x.1 x.2
theorem fdV_len (f : Fld) : (fdV f).length = 10 := rfl
theorem lksV_len : ∀ l : List Lk, (lksV l).length = l.length * 2
  | [] => rfl
  | f :: l => by have := lksV_len l; simp only [lksV] at this; simp only [lksV, List.flatMap_cons, List.length_append, this, List.length_cons, show (lkV f).length = 2 from rfl]; omega
theorem rowsV_len : ∀ (rs : List Rw.Row) (vs : List (Value × Value)), vs.length = rs.length → (rowsV rs vs).length = rs.length * 5
  | [], [], _ => rfl
  | r :: rs, v :: vs, h => by
    have := rowsV_len rs vs (by simpa using h)
    simp only [rowsV] at this
    simp only [rowsV, List.zip_cons_cons, List.flatMap_cons, List.length_append, this, List.length_cons, show (rowV r v).length = 5 from rfl]
    omega
  | [], _ :: _, h => by simp at h
  | _ :: _, [], h => by simp at h

/-- What a row's two slices hold. -/
structure RowAt (w : World) (B : Nat) (r : Rw.Row) (v : Value × Value) : Prop where
  fields : SlAt w B 59 10 v.1 r.fields.length (fdsV r.fields)
  lacks : SlAt w B 166 2 v.2 r.lacks.length (lksV r.lacks)
/-- The blocks of a table's five rows. -/
structure Bl where
  u : Option Nat
  t : Option Nat
  r : Option Nat
  o : Option Nat
  e : Option Nat
/-- The closure f makes the step u in the table in block P. -/
def FuncIs (w : World) (B P : Nat) (g : Bl) (f : Value) : U → Prop
  | .cutRows n => ∃ bt bn, f = .func (.func 70) #[] #[.pointer (some ⟨bt, 0, none⟩), .pointer (some ⟨bn, 0, none⟩)] ∧
      w.heap[bt]? = some (.cells #[.pointer (some ⟨P, 0, none⟩)] 38 (0, 0)) ∧ w.heap[bn]? = some (.cells #[.int .i64 (n : Nat)] 3 (0, 0)) ∧ g.t ≠ some bn ∧ g.o ≠ some bn
  | .cutOwn n => ∃ bt bn, f = .func (.func 48) #[] #[.pointer (some ⟨bt, 0, none⟩), .pointer (some ⟨bn, 0, none⟩)] ∧
      w.heap[bt]? = some (.cells #[.pointer (some ⟨P, 0, none⟩)] 38 (0, 0)) ∧ w.heap[bn]? = some (.cells #[.int .i64 (n : Nat)] 3 (0, 0)) ∧ g.t ≠ some bn ∧ g.o ≠ some bn
  | .unstick => ∃ bt, f = .func (.func 73) #[] #[.pointer (some ⟨bt, 0, none⟩)] ∧ w.heap[bt]? = some (.cells #[.pointer (some ⟨P, 0, none⟩)] 38 (0, 0))
  | .lacksBack i was => ∃ bw bt bn v, f = .func (.func 90) #[] #[.pointer (some ⟨bw, 0, none⟩), .pointer (some ⟨bt, 0, none⟩), .pointer (some ⟨bn, 0, none⟩)] ∧
      w.heap[bw]? = some (.cells #[v] 131 (0, 0)) ∧ SlAt w B 166 2 v was.length (lksV was) ∧
      w.heap[bt]? = some (.cells #[.pointer (some ⟨P, 0, none⟩)] 38 (0, 0)) ∧ w.heap[bn]? = some (.cells #[.int .i64 (i : Nat)] 3 (0, 0)) ∧ g.t ≠ some bn ∧ g.o ≠ some bn
  | .rowBack i x => ∃ bx bt bn v, f = .func (.func 99) #[] #[.pointer (some ⟨bx, 0, none⟩), .pointer (some ⟨bt, 0, none⟩), .pointer (some ⟨bn, 0, none⟩)] ∧
      w.heap[bx]? = some (.cells (rowV x v).toArray 133 (0, 0)) ∧ RowAt w B x v ∧ g.r ≠ some bx ∧
      w.heap[bt]? = some (.cells #[.pointer (some ⟨P, 0, none⟩)] 38 (0, 0)) ∧ w.heap[bn]? = some (.cells #[.int .i64 (i : Nat)] 3 (0, 0)) ∧ g.t ≠ some bn ∧ g.o ≠ some bn
  | .cutEqs n => ∃ bt bn, f = .func (.func 98) #[] #[.pointer (some ⟨bt, 0, none⟩), .pointer (some ⟨bn, 0, none⟩)] ∧
      w.heap[bt]? = some (.cells #[.pointer (some ⟨P, 0, none⟩)] 38 (0, 0)) ∧ w.heap[bn]? = some (.cells #[.int .i64 (n : Nat)] 3 (0, 0)) ∧ g.t ≠ some bn ∧ g.o ≠ some bn
structure TbX (w : World) (B P : Nat) (g : Bl) (s : T) (vu vt vr vo ve : Value) (vs : List (Value × Value)) (fs : List Value) : Prop where
  self : w.heap[P]? = some (.cells #[vu, vt, vr, vo, ve, .bool s.stuck, whyV s.why] 95 (0, 0))
  bl : vu.ownBlock = g.u ∧ vt.ownBlock = g.t ∧ vr.ownBlock = g.r ∧ vo.ownBlock = g.o ∧ ve.ownBlock = g.e
  undo : RowZ w 1 1 vu s.undo.length fs
  times : RowZ w 3 1 vt s.times.length (intsV s.times)
  rows : RowZ w 133 5 vr s.rows.length (rowsV s.rows vs)
  own : RowZ w 3 1 vo s.own.length (intsV s.own)
  eqs : RowZ w 52 19 ve s.eqs.length (eqnsV s.eqs)
  vsl : vs.length = s.rows.length
  rowAt : ∀ (k : Nat) r v, s.rows[k]? = some r → vs[k]? = some v → RowAt w B r v
  funcs : ∀ (k : Nat) f u, fs[k]? = some f → s.undo[k]? = some u → FuncIs w B P g f u
  ge : B ≤ P ∧ (∀ b, g.u = some b → B ≤ b) ∧ (∀ b, g.t = some b → B ≤ b) ∧ (∀ b, g.r = some b → B ≤ b) ∧ (∀ b, g.o = some b → B ≤ b) ∧ (∀ b, g.e = some b → B ≤ b)
  apart : ∀ b, g.t = some b → g.o ≠ some b
def Tb (w : World) (B P : Nat) (g : Bl) (s : T) : Prop := ∃ vu vt vr vo ve vs fs, TbX w B P g s vu vt vr vo ve vs fs

section
variable {w w' : World} {B P : Nat} {g g' : Bl} {s : T}
theorem RowAt.keep {r : Rw.Row} {v : Value × Value} (h : RowAt w B r v) (hs : w.heap.size ≤ w'.heap.size)
    (hk : ∀ b, b < w.heap.size → (b < B ∨ ∃ t cs, w.heap[b]? = some (.cells cs t (0, 0)) ∧ (t = 59 ∨ t = 166)) → w'.heap[b]? = w.heap[b]?) : RowAt w' B r v :=
  ⟨h.fields.keep hs fun b hb hc => hk b hb (hc.imp id fun ⟨cs, h⟩ => ⟨_, cs, h, .inl rfl⟩), h.lacks.keep hs fun b hb hc => hk b hb (hc.imp id fun ⟨cs, h⟩ => ⟨_, cs, h, .inr rfl⟩)⟩
/-- A kind of block that a closure may lean on. -/
def Leans (w : World) (B : Nat) (g : Bl) (b : Nat) : Prop :=
  b < B ∨ ∃ t cs, w.heap[b]? = some (.cells cs t (0, 0)) ∧ (t = 59 ∨ t = 166 ∨ t = 131 ∨ t = 38 ∨ (t = 3 ∧ g.t ≠ some b ∧ g.o ≠ some b) ∨ (t = 133 ∧ g.r ≠ some b))
theorem FuncIs.keep {f : Value} {u : U} (h : FuncIs w B P g f u) (hs : w.heap.size ≤ w'.heap.size) (hk : ∀ b, b < w.heap.size → Leans w B g b → w'.heap[b]? = w.heap[b]?)
    (ht : ∀ b, b < w.heap.size → g.t ≠ some b → g'.t ≠ some b) (ho : ∀ b, b < w.heap.size → g.o ≠ some b → g'.o ≠ some b) (hr : ∀ b, b < w.heap.size → g.r ≠ some b → g'.r ≠ some b) : FuncIs w' B P g' f u := by
  have kp : ∀ {b cs}, w.heap[b]? = some (Obj.cells cs 38 (0, 0)) → w'.heap[b]? = some (Obj.cells cs 38 (0, 0)) := fun {b cs} h => (hk b (blk_lt h) (.inr ⟨_, _, h, .inr (.inr (.inr (.inl rfl)))⟩)).trans h
  have kn : ∀ {b cs}, w.heap[b]? = some (Obj.cells cs 3 (0, 0)) → g.t ≠ some b → g.o ≠ some b → w'.heap[b]? = some (Obj.cells cs 3 (0, 0)) ∧ g'.t ≠ some b ∧ g'.o ≠ some b := fun {b cs} h h1 h2 =>
    ⟨(hk b (blk_lt h) (.inr ⟨_, _, h, .inr (.inr (.inr (.inr (.inl ⟨rfl, h1, h2⟩))))⟩)).trans h, ht b (blk_lt h) h1, ho b (blk_lt h) h2⟩
  match u, h with
  | .cutRows n, ⟨bt, bn, hf, h1, h2, h3, h4⟩ => exact ⟨bt, bn, hf, kp h1, kn h2 h3 h4⟩
  | .cutOwn n, ⟨bt, bn, hf, h1, h2, h3, h4⟩ => exact ⟨bt, bn, hf, kp h1, kn h2 h3 h4⟩
  | .unstick, ⟨bt, hf, h1⟩ => exact ⟨bt, hf, kp h1⟩
  | .lacksBack i was, ⟨bw, bt, bn, v, hf, h0, hl, h1, h2, h3, h4⟩ =>
    exact ⟨bw, bt, bn, v, hf, (hk bw (blk_lt h0) (.inr ⟨_, _, h0, .inr (.inr (.inl rfl))⟩)).trans h0, hl.keep hs (fun b hb hc => hk b hb (hc.imp id fun ⟨cs, h⟩ => ⟨_, cs, h, .inr (.inl rfl)⟩)), kp h1, kn h2 h3 h4⟩
  | .rowBack i x, ⟨bx, bt, bn, v, hf, h0, hl, hne, h1, h2, h3, h4⟩ =>
    exact ⟨bx, bt, bn, v, hf, (hk bx (blk_lt h0) (.inr ⟨_, _, h0, .inr (.inr (.inr (.inr (.inr ⟨rfl, hne⟩))))⟩)).trans h0,
      hl.keep hs (fun b hb hc => hk b hb (hc.imp id fun ⟨t, cs, h, ht⟩ => ⟨t, cs, h, ht.elim .inl fun e => .inr (.inl e)⟩)), hr bx (blk_lt h0) hne, kp h1, kn h2 h3 h4⟩
  | .cutEqs n, ⟨bt, bn, hf, h1, h2, h3, h4⟩ => exact ⟨bt, bn, hf, kp h1, kn h2 h3 h4⟩
variable {vu vt vr vo ve : Value} {vs : List (Value × Value)} {fs : List Value}
theorem TbX.below (h : TbX w B P g s vu vt vr vo ve vs fs) (hb : Below w.heap.size w w') : TbX w' B P g s vu vt vr vo ve vs fs :=
  ⟨(hb.block _ (blk_lt h.self)).trans h.self, h.bl, RowZ.below h.undo hb, RowZ.below h.times hb, RowZ.below h.rows hb, RowZ.below h.own hb, RowZ.below h.eqs hb, h.vsl, fun k r v hr hv => (h.rowAt k r v hr hv).keep hb.size fun b hlt _ => hb.block b hlt,
    fun k f u hf hu => (h.funcs k f u hf hu).keep hb.size (fun b hlt _ => hb.block b hlt) (fun _ _ => id) (fun _ _ => id) (fun _ _ => id), h.ge, h.apart⟩
theorem TbX.lt (h : TbX w B P g s vu vt vr vo ve vs fs) : P < w.heap.size := blk_lt h.self
theorem TbX.free (h : TbX w B P g s vu vt vr vo ve vs fs) (j : Nat) : w.frozen? ⟨P, j, none⟩ = false := frozen_of_row w P j _ _ h.self
theorem TbX.cells (h : TbX w B P g s vu vt vr vo ve vs fs) : w.cell? ⟨P, 0, none⟩ = some vu ∧ w.cell? ⟨P, 1, none⟩ = some vt ∧ w.cell? ⟨P, 2, none⟩ = some vr ∧ w.cell? ⟨P, 3, none⟩ = some vo ∧ w.cell? ⟨P, 4, none⟩ = some ve ∧
    w.cell? ⟨P, 5, none⟩ = some (.bool s.stuck) ∧ w.cell? ⟨P, 6, none⟩ = some (whyV s.why) := by
  refine ⟨?_, ?_, ?_, ?_, ?_, ?_, ?_⟩ <;> (rw [cell_block h.self]; rfl)
/-- No two of the table's blocks are one. -/
theorem TbX.ne (h : TbX w B P g s vu vt vr vo ve vs fs) : (vu.ownBlock ≠ some P ∧ vt.ownBlock ≠ some P ∧ vr.ownBlock ≠ some P ∧ vo.ownBlock ≠ some P ∧ ve.ownBlock ≠ some P) ∧
    (∀ b, vu.ownBlock = some b → vt.ownBlock ≠ some b ∧ vr.ownBlock ≠ some b ∧ vo.ownBlock ≠ some b ∧ ve.ownBlock ≠ some b) ∧ (∀ b, vt.ownBlock = some b → vr.ownBlock ≠ some b ∧ vo.ownBlock ≠ some b ∧ ve.ownBlock ≠ some b) ∧
    (∀ b, vr.ownBlock = some b → vo.ownBlock ≠ some b ∧ ve.ownBlock ≠ some b) ∧ (∀ b, vo.ownBlock = some b → ve.ownBlock ≠ some b) := by
  refine ⟨⟨RowZ.ne_type h.undo h.self (by decide), RowZ.ne_type h.times h.self (by decide), RowZ.ne_type h.rows h.self (by decide), RowZ.ne_type h.own h.self (by decide), RowZ.ne_type h.eqs h.self (by decide)⟩, ?_, ?_, ?_, ?_⟩
  · intro b hb
    obtain ⟨cur, hc⟩ := RowZ.block h.undo hb
    exact ⟨RowZ.ne_type h.times hc (by decide), RowZ.ne_type h.rows hc (by decide), RowZ.ne_type h.own hc (by decide), RowZ.ne_type h.eqs hc (by decide)⟩
  · intro b hb
    obtain ⟨cur, hc⟩ := RowZ.block h.times hb
    exact ⟨RowZ.ne_type h.rows hc (by decide), by rw [h.bl.2.2.2.1]; exact h.apart b (by rw [← h.bl.2.1]; exact hb), RowZ.ne_type h.eqs hc (by decide)⟩
  · intro b hb
    obtain ⟨cur, hc⟩ := RowZ.block h.rows hb
    exact ⟨RowZ.ne_type h.own hc (by decide), RowZ.ne_type h.eqs hc (by decide)⟩
  · intro b hb
    obtain ⟨cur, hc⟩ := RowZ.block h.own hb
    exact RowZ.ne_type h.eqs hc (by decide)
/-- Blocks of types that the table's own blocks do not have, or below B. -/
theorem TbX.off {b : Nat} (h : TbX w B P g s vu vt vr vo ve vs fs) (hl : Leans w B g b) : b ≠ P ∧ vu.ownBlock ≠ some b ∧ vt.ownBlock ≠ some b ∧ vr.ownBlock ≠ some b ∧ vo.ownBlock ≠ some b ∧ ve.ownBlock ≠ some b := by
  obtain ⟨b1, b2, b3, b4, b5⟩ := h.bl
  obtain ⟨g0, g1, g2, g3, g4, g5⟩ := h.ge
  rcases hl with hl | ⟨t, cs, hc, ht⟩
  · rw [b1, b2, b3, b4, b5]
    exact ⟨by omega, fun e => by have := g1 b e; omega, fun e => by have := g2 b e; omega, fun e => by have := g3 b e; omega, fun e => by have := g4 b e; omega, fun e => by have := g5 b e; omega⟩
  · rcases ht with rfl | rfl | rfl | rfl | ⟨rfl, h1, h2⟩ | ⟨rfl, h1⟩
    · exact ⟨blocks_ne hc h.self (by decide), RowZ.ne_type h.undo hc (by decide), RowZ.ne_type h.times hc (by decide), RowZ.ne_type h.rows hc (by decide), RowZ.ne_type h.own hc (by decide), RowZ.ne_type h.eqs hc (by decide)⟩
    · exact ⟨blocks_ne hc h.self (by decide), RowZ.ne_type h.undo hc (by decide), RowZ.ne_type h.times hc (by decide), RowZ.ne_type h.rows hc (by decide), RowZ.ne_type h.own hc (by decide), RowZ.ne_type h.eqs hc (by decide)⟩
    · exact ⟨blocks_ne hc h.self (by decide), RowZ.ne_type h.undo hc (by decide), RowZ.ne_type h.times hc (by decide), RowZ.ne_type h.rows hc (by decide), RowZ.ne_type h.own hc (by decide), RowZ.ne_type h.eqs hc (by decide)⟩
    · exact ⟨blocks_ne hc h.self (by decide), RowZ.ne_type h.undo hc (by decide), RowZ.ne_type h.times hc (by decide), RowZ.ne_type h.rows hc (by decide), RowZ.ne_type h.own hc (by decide), RowZ.ne_type h.eqs hc (by decide)⟩
    · exact ⟨blocks_ne hc h.self (by decide), RowZ.ne_type h.undo hc (by decide), by rw [b2]; exact h1, RowZ.ne_type h.rows hc (by decide), by rw [b4]; exact h2, RowZ.ne_type h.eqs hc (by decide)⟩
    · exact ⟨blocks_ne hc h.self (by decide), RowZ.ne_type h.undo hc (by decide), RowZ.ne_type h.times hc (by decide), by rw [b3]; exact h1, RowZ.ne_type h.own hc (by decide), RowZ.ne_type h.eqs hc (by decide)⟩
theorem leans_row {b : Nat} (h : b < B ∨ ∃ t cs, w.heap[b]? = some (Obj.cells cs t (0, 0)) ∧ (t = 59 ∨ t = 166)) : Leans w B g b :=
  h.imp id fun ⟨t, cs, hc, ht⟩ => ⟨t, cs, hc, ht.elim .inl fun e => .inr (.inl e)⟩
/-- What the table's other parts are when one of its rows, and its own block, turn: the blocks of S. -/
theorem TbX.rest (h : TbX w B P g s vu vt vr vo ve vs fs) (hs : w.heap.size ≤ w'.heap.size) (hk : ∀ b, b < w.heap.size → Leans w B g b → w'.heap[b]? = w.heap[b]?)
    (ht : ∀ b, b < w.heap.size → g.t ≠ some b → g'.t ≠ some b) (ho : ∀ b, b < w.heap.size → g.o ≠ some b → g'.o ≠ some b) (hr : ∀ b, b < w.heap.size → g.r ≠ some b → g'.r ≠ some b) :
    (∀ (k : Nat) r v, s.rows[k]? = some r → vs[k]? = some v → RowAt w' B r v) ∧ (∀ (k : Nat) f u, fs[k]? = some f → s.undo[k]? = some u → FuncIs w' B P g' f u) :=
  ⟨fun k r v h1 h2 => (h.rowAt k r v h1 h2).keep hs fun b hb hc => hk b hb (leans_row hc), fun k f u h1 h2 => (h.funcs k f u h1 h2).keep hs hk ht ho hr⟩
end
end Go.Proofs.YthnbhcfpfbimgaaGreat
/- A table of rows in memory: one of its parts is another one now. (Printed by rwmem.py.) -/
namespace Go.Proofs.YthnbhcfpfbimgaaGreat
open Go.RowKit
open Rw (El At Fld Lk Eqn U T W64)
section
variable {w w' : World} {B P : Nat} {g g' : Bl} {s : T} {vu vt vr vo ve : Value} {vs : List (Value × Value)} {fs : List Value}


theorem TbX.newU (h : TbX w B P g s vu vt vr vo ve vs fs) {v' : Value} {us' : List U} {fs' : List Value} (hs : w.heap.size ≤ w'.heap.size) (hk : ∀ b, b < w.heap.size → vu.ownBlock ≠ some b → w'.heap[b]? = w.heap[b]?) (hr : RowZ w' 1 1 v' us'.length fs') (hf : ∀ (k : Nat) f u, fs'[k]? = some f → us'[k]? = some u → FuncIs w' B P g f u) (ho : v'.ownBlock = vu.ownBlock ∨ ∃ b, v'.ownBlock = some b ∧ w.heap.size ≤ b) (hB : B ≤ w.heap.size) :
    TbX (w'.setCell ⟨P, 0, none⟩ v') B P { g with u := v'.ownBlock } { s with undo := us' } v' vt vr vo ve vs fs' := by
  obtain ⟨⟨nu, nt, nr, no, ne⟩, n1, n2, n3, n4⟩ := h.ne
  obtain ⟨b1, b2, b3, b4, b5⟩ := h.bl
  obtain ⟨g0, g1, g2, g3, g4, g5⟩ := h.ge
  have hP : w'.heap[P]? = some (.cells #[vu, vt, vr, vo, ve, .bool s.stuck, whyV s.why] 95 (0, 0)) := (hk P h.lt nu).trans h.self
  have hset : ∀ b, b ≠ P → (w'.setCell ⟨P, 0, none⟩ v').heap[b]? = w'.heap[b]? := fun b hb => Below.heap_setCell _ _ _ _ hb
  have hkk : ∀ b, b < w.heap.size → b ≠ P → vu.ownBlock ≠ some b → (w'.setCell ⟨P, 0, none⟩ v').heap[b]? = w.heap[b]? := fun b hb h1 h2 => (hset b h1).trans (hk b hb h2)
  have hss : w.heap.size ≤ (w'.setCell ⟨P, 0, none⟩ v').heap.size := by simpa using hs
  have hvP : v'.ownBlock ≠ some P := RowZ.ne_type hr hP (by decide)
  have hnew : ∀ b, b < w.heap.size → vu.ownBlock ≠ some b → v'.ownBlock ≠ some b := fun b hb hn => by
    rcases ho with e | ⟨b', e, hb'⟩
    · rw [e]; exact hn
    · rw [e]; intro e2; injection e2 with e2; omega
  have hge : ∀ b, v'.ownBlock = some b → B ≤ b := fun b hb => by
    rcases ho with e | ⟨b', e, hb'⟩
    · exact g1 b (by rw [← b1, ← e]; exact hb)
    · rw [e] at hb; injection hb with hb; omega
  have hrest := h.rest (w' := w'.setCell ⟨P, 0, none⟩ v') (g' := { g with u := v'.ownBlock }) hss (fun b hb hl => hkk b hb (h.off hl).1 (h.off hl).2.1) (fun b _ hn => hn) (fun b _ hn => hn) (fun b _ hn => hn)
  refine ⟨?_, ⟨rfl, b2, b3, b4, b5⟩, RowZ.far hr (p := ⟨P, 0, none⟩) hvP v', RowZ.keep h.times fun b hb => hkk b (RowZ.lt h.times b hb) (fun e => nt (by rw [hb, e])) (fun e => (n1 b e).1 hb), RowZ.keep h.rows fun b hb => hkk b (RowZ.lt h.rows b hb) (fun e => nr (by rw [hb, e])) (fun e => (n1 b e).2.1 hb), RowZ.keep h.own fun b hb => hkk b (RowZ.lt h.own b hb) (fun e => no (by rw [hb, e])) (fun e => (n1 b e).2.2.1 hb), RowZ.keep h.eqs fun b hb => hkk b (RowZ.lt h.eqs b hb) (fun e => ne (by rw [hb, e])) (fun e => (n1 b e).2.2.2 hb), h.vsl, hrest.1, fun k f u h1 h2 => (hf k f u h1 h2).keep (by simp) (fun b _ hl => hset b ?_) (fun b _ hn => hn) (fun b _ hn => hn) (fun b _ hn => hn), ⟨g0, hge, g2, g3, g4, g5⟩, h.apart⟩
  · rw [heap_setCell_same w' P 0 _ _ v' hP]; rfl
  · rcases hl with hl | ⟨t, cs, hc, ht⟩
    · omega
    · intro e
      subst e
      rw [hP] at hc
      injection hc with hc
      injection hc with _ hc
      subst hc
      rcases ht with h | h | h | h | ⟨h, _⟩ | ⟨h, _⟩ <;> exact absurd h (by decide)
theorem TbX.newT (h : TbX w B P g s vu vt vr vo ve vs fs) {v' : Value} {l' : List Nat} (hs : w.heap.size ≤ w'.heap.size) (hk : ∀ b, b < w.heap.size → vt.ownBlock ≠ some b → w'.heap[b]? = w.heap[b]?) (hr : RowZ w' 3 1 v' l'.length (intsV l'))  (ho : v'.ownBlock = vt.ownBlock ∨ ∃ b, v'.ownBlock = some b ∧ w.heap.size ≤ b) (hB : B ≤ w.heap.size) :
    TbX (w'.setCell ⟨P, 1, none⟩ v') B P { g with t := v'.ownBlock } { s with times := l' } vu v' vr vo ve vs fs := by
  obtain ⟨⟨nu, nt, nr, no, ne⟩, n1, n2, n3, n4⟩ := h.ne
  obtain ⟨b1, b2, b3, b4, b5⟩ := h.bl
  obtain ⟨g0, g1, g2, g3, g4, g5⟩ := h.ge
  have hP : w'.heap[P]? = some (.cells #[vu, vt, vr, vo, ve, .bool s.stuck, whyV s.why] 95 (0, 0)) := (hk P h.lt nt).trans h.self
  have hset : ∀ b, b ≠ P → (w'.setCell ⟨P, 1, none⟩ v').heap[b]? = w'.heap[b]? := fun b hb => Below.heap_setCell _ _ _ _ hb
  have hkk : ∀ b, b < w.heap.size → b ≠ P → vt.ownBlock ≠ some b → (w'.setCell ⟨P, 1, none⟩ v').heap[b]? = w.heap[b]? := fun b hb h1 h2 => (hset b h1).trans (hk b hb h2)
  have hss : w.heap.size ≤ (w'.setCell ⟨P, 1, none⟩ v').heap.size := by simpa using hs
  have hvP : v'.ownBlock ≠ some P := RowZ.ne_type hr hP (by decide)
  have hnew : ∀ b, b < w.heap.size → vt.ownBlock ≠ some b → v'.ownBlock ≠ some b := fun b hb hn => by
    rcases ho with e | ⟨b', e, hb'⟩
    · rw [e]; exact hn
    · rw [e]; intro e2; injection e2 with e2; omega
  have hge : ∀ b, v'.ownBlock = some b → B ≤ b := fun b hb => by
    rcases ho with e | ⟨b', e, hb'⟩
    · exact g2 b (by rw [← b2, ← e]; exact hb)
    · rw [e] at hb; injection hb with hb; omega
  have hrest := h.rest (w' := w'.setCell ⟨P, 1, none⟩ v') (g' := { g with t := v'.ownBlock }) hss (fun b hb hl => hkk b hb (h.off hl).1 (h.off hl).2.2.1) (fun b hb hn => by have := hnew b hb (by rw [b2]; exact hn); exact this) (fun b _ hn => hn) (fun b _ hn => hn)
  refine ⟨?_, ⟨b1, rfl, b3, b4, b5⟩, RowZ.keep h.undo fun b hb => hkk b (RowZ.lt h.undo b hb) (fun e => nu (by rw [hb, e])) ((n1 b hb).1), RowZ.far hr (p := ⟨P, 1, none⟩) hvP v', RowZ.keep h.rows fun b hb => hkk b (RowZ.lt h.rows b hb) (fun e => nr (by rw [hb, e])) (fun e => (n2 b e).1 hb), RowZ.keep h.own fun b hb => hkk b (RowZ.lt h.own b hb) (fun e => no (by rw [hb, e])) (fun e => (n2 b e).2.1 hb), RowZ.keep h.eqs fun b hb => hkk b (RowZ.lt h.eqs b hb) (fun e => ne (by rw [hb, e])) (fun e => (n2 b e).2.2 hb), h.vsl, hrest.1, hrest.2, ⟨g0, g1, hge, g3, g4, g5⟩, fun b hb e => by
    rcases ho with e2 | ⟨b', e2, hb'⟩
    · exact h.apart b (by rw [← b2, ← e2]; exact hb) e
    · have hb2 : v'.ownBlock = some b := hb
      rw [e2] at hb2; injection hb2 with hb2; have := RowZ.lt h.own b (by rw [b4]; exact e); omega⟩
  · rw [heap_setCell_same w' P 1 _ _ v' hP]; rfl
theorem TbX.newR (h : TbX w B P g s vu vt vr vo ve vs fs) {v' : Value} {rs' : List Rw.Row} {vs' : List (Value × Value)} (hs : w.heap.size ≤ w'.heap.size) (hk : ∀ b, b < w.heap.size → vr.ownBlock ≠ some b → w'.heap[b]? = w.heap[b]?) (hr : RowZ w' 133 5 v' rs'.length (rowsV rs' vs')) (hl : vs'.length = rs'.length) (hf : ∀ (k : Nat) r v, rs'[k]? = some r → vs'[k]? = some v → RowAt w' B r v) (ho : v'.ownBlock = vr.ownBlock ∨ ∃ b, v'.ownBlock = some b ∧ w.heap.size ≤ b) (hB : B ≤ w.heap.size) :
    TbX (w'.setCell ⟨P, 2, none⟩ v') B P { g with r := v'.ownBlock } { s with rows := rs' } vu vt v' vo ve vs' fs := by
  obtain ⟨⟨nu, nt, nr, no, ne⟩, n1, n2, n3, n4⟩ := h.ne
  obtain ⟨b1, b2, b3, b4, b5⟩ := h.bl
  obtain ⟨g0, g1, g2, g3, g4, g5⟩ := h.ge
  have hP : w'.heap[P]? = some (.cells #[vu, vt, vr, vo, ve, .bool s.stuck, whyV s.why] 95 (0, 0)) := (hk P h.lt nr).trans h.self
  have hset : ∀ b, b ≠ P → (w'.setCell ⟨P, 2, none⟩ v').heap[b]? = w'.heap[b]? := fun b hb => Below.heap_setCell _ _ _ _ hb
  have hkk : ∀ b, b < w.heap.size → b ≠ P → vr.ownBlock ≠ some b → (w'.setCell ⟨P, 2, none⟩ v').heap[b]? = w.heap[b]? := fun b hb h1 h2 => (hset b h1).trans (hk b hb h2)
  have hss : w.heap.size ≤ (w'.setCell ⟨P, 2, none⟩ v').heap.size := by simpa using hs
  have hvP : v'.ownBlock ≠ some P := RowZ.ne_type hr hP (by decide)
  have hnew : ∀ b, b < w.heap.size → vr.ownBlock ≠ some b → v'.ownBlock ≠ some b := fun b hb hn => by
    rcases ho with e | ⟨b', e, hb'⟩
    · rw [e]; exact hn
    · rw [e]; intro e2; injection e2 with e2; omega
  have hge : ∀ b, v'.ownBlock = some b → B ≤ b := fun b hb => by
    rcases ho with e | ⟨b', e, hb'⟩
    · exact g3 b (by rw [← b3, ← e]; exact hb)
    · rw [e] at hb; injection hb with hb; omega
  have hrest := h.rest (w' := w'.setCell ⟨P, 2, none⟩ v') (g' := { g with r := v'.ownBlock }) hss (fun b hb hl => hkk b hb (h.off hl).1 (h.off hl).2.2.2.1) (fun b _ hn => hn) (fun b _ hn => hn) (fun b hb hn => by have := hnew b hb (by rw [b3]; exact hn); exact this)
  refine ⟨?_, ⟨b1, b2, rfl, b4, b5⟩, RowZ.keep h.undo fun b hb => hkk b (RowZ.lt h.undo b hb) (fun e => nu (by rw [hb, e])) ((n1 b hb).2.1), RowZ.keep h.times fun b hb => hkk b (RowZ.lt h.times b hb) (fun e => nt (by rw [hb, e])) ((n2 b hb).1), RowZ.far hr (p := ⟨P, 2, none⟩) hvP v', RowZ.keep h.own fun b hb => hkk b (RowZ.lt h.own b hb) (fun e => no (by rw [hb, e])) (fun e => (n3 b e).1 hb), RowZ.keep h.eqs fun b hb => hkk b (RowZ.lt h.eqs b hb) (fun e => ne (by rw [hb, e])) (fun e => (n3 b e).2 hb), hl, fun k r v h1 h2 => (hf k r v h1 h2).keep (by simp) (fun b _ hl => hset b ?_), hrest.2, ⟨g0, g1, g2, hge, g4, g5⟩, h.apart⟩
  · rw [heap_setCell_same w' P 2 _ _ v' hP]; rfl
  · rcases hl with hl | ⟨t, cs, hc, ht⟩
    · omega
    · intro e
      subst e
      rw [hP] at hc
      injection hc with hc
      injection hc with _ hc
      subst hc
      rcases ht with h | h <;> exact absurd h (by decide)
theorem TbX.newO (h : TbX w B P g s vu vt vr vo ve vs fs) {v' : Value} {l' : List Nat} (hs : w.heap.size ≤ w'.heap.size) (hk : ∀ b, b < w.heap.size → vo.ownBlock ≠ some b → w'.heap[b]? = w.heap[b]?) (hr : RowZ w' 3 1 v' l'.length (intsV l'))  (ho : v'.ownBlock = vo.ownBlock ∨ ∃ b, v'.ownBlock = some b ∧ w.heap.size ≤ b) (hB : B ≤ w.heap.size) :
    TbX (w'.setCell ⟨P, 3, none⟩ v') B P { g with o := v'.ownBlock } { s with own := l' } vu vt vr v' ve vs fs := by
  obtain ⟨⟨nu, nt, nr, no, ne⟩, n1, n2, n3, n4⟩ := h.ne
  obtain ⟨b1, b2, b3, b4, b5⟩ := h.bl
  obtain ⟨g0, g1, g2, g3, g4, g5⟩ := h.ge
  have hP : w'.heap[P]? = some (.cells #[vu, vt, vr, vo, ve, .bool s.stuck, whyV s.why] 95 (0, 0)) := (hk P h.lt no).trans h.self
  have hset : ∀ b, b ≠ P → (w'.setCell ⟨P, 3, none⟩ v').heap[b]? = w'.heap[b]? := fun b hb => Below.heap_setCell _ _ _ _ hb
  have hkk : ∀ b, b < w.heap.size → b ≠ P → vo.ownBlock ≠ some b → (w'.setCell ⟨P, 3, none⟩ v').heap[b]? = w.heap[b]? := fun b hb h1 h2 => (hset b h1).trans (hk b hb h2)
  have hss : w.heap.size ≤ (w'.setCell ⟨P, 3, none⟩ v').heap.size := by simpa using hs
  have hvP : v'.ownBlock ≠ some P := RowZ.ne_type hr hP (by decide)
  have hnew : ∀ b, b < w.heap.size → vo.ownBlock ≠ some b → v'.ownBlock ≠ some b := fun b hb hn => by
    rcases ho with e | ⟨b', e, hb'⟩
    · rw [e]; exact hn
    · rw [e]; intro e2; injection e2 with e2; omega
  have hge : ∀ b, v'.ownBlock = some b → B ≤ b := fun b hb => by
    rcases ho with e | ⟨b', e, hb'⟩
    · exact g4 b (by rw [← b4, ← e]; exact hb)
    · rw [e] at hb; injection hb with hb; omega
  have hrest := h.rest (w' := w'.setCell ⟨P, 3, none⟩ v') (g' := { g with o := v'.ownBlock }) hss (fun b hb hl => hkk b hb (h.off hl).1 (h.off hl).2.2.2.2.1) (fun b _ hn => hn) (fun b hb hn => by have := hnew b hb (by rw [b4]; exact hn); exact this) (fun b _ hn => hn)
  refine ⟨?_, ⟨b1, b2, b3, rfl, b5⟩, RowZ.keep h.undo fun b hb => hkk b (RowZ.lt h.undo b hb) (fun e => nu (by rw [hb, e])) ((n1 b hb).2.2.1), RowZ.keep h.times fun b hb => hkk b (RowZ.lt h.times b hb) (fun e => nt (by rw [hb, e])) ((n2 b hb).2.1), RowZ.keep h.rows fun b hb => hkk b (RowZ.lt h.rows b hb) (fun e => nr (by rw [hb, e])) ((n3 b hb).1), RowZ.far hr (p := ⟨P, 3, none⟩) hvP v', RowZ.keep h.eqs fun b hb => hkk b (RowZ.lt h.eqs b hb) (fun e => ne (by rw [hb, e])) (fun e => (n4 b e) hb), h.vsl, hrest.1, hrest.2, ⟨g0, g1, g2, g3, hge, g5⟩, fun b hb e => by
    rcases ho with e2 | ⟨b', e2, hb'⟩
    · exact h.apart b hb (by rw [← b4, ← e2]; exact e)
    · have hb2 : v'.ownBlock = some b := e
      rw [e2] at hb2; injection hb2 with hb2; have := RowZ.lt h.times b (by rw [b2]; exact hb); omega⟩
  · rw [heap_setCell_same w' P 3 _ _ v' hP]; rfl
theorem TbX.newE (h : TbX w B P g s vu vt vr vo ve vs fs) {v' : Value} {es' : List Eqn} (hs : w.heap.size ≤ w'.heap.size) (hk : ∀ b, b < w.heap.size → ve.ownBlock ≠ some b → w'.heap[b]? = w.heap[b]?) (hr : RowZ w' 52 19 v' es'.length (eqnsV es'))  (ho : v'.ownBlock = ve.ownBlock ∨ ∃ b, v'.ownBlock = some b ∧ w.heap.size ≤ b) (hB : B ≤ w.heap.size) :
    TbX (w'.setCell ⟨P, 4, none⟩ v') B P { g with e := v'.ownBlock } { s with eqs := es' } vu vt vr vo v' vs fs := by
  obtain ⟨⟨nu, nt, nr, no, ne⟩, n1, n2, n3, n4⟩ := h.ne
  obtain ⟨b1, b2, b3, b4, b5⟩ := h.bl
  obtain ⟨g0, g1, g2, g3, g4, g5⟩ := h.ge
  have hP : w'.heap[P]? = some (.cells #[vu, vt, vr, vo, ve, .bool s.stuck, whyV s.why] 95 (0, 0)) := (hk P h.lt ne).trans h.self
  have hset : ∀ b, b ≠ P → (w'.setCell ⟨P, 4, none⟩ v').heap[b]? = w'.heap[b]? := fun b hb => Below.heap_setCell _ _ _ _ hb
  have hkk : ∀ b, b < w.heap.size → b ≠ P → ve.ownBlock ≠ some b → (w'.setCell ⟨P, 4, none⟩ v').heap[b]? = w.heap[b]? := fun b hb h1 h2 => (hset b h1).trans (hk b hb h2)
  have hss : w.heap.size ≤ (w'.setCell ⟨P, 4, none⟩ v').heap.size := by simpa using hs
  have hvP : v'.ownBlock ≠ some P := RowZ.ne_type hr hP (by decide)
  have hnew : ∀ b, b < w.heap.size → ve.ownBlock ≠ some b → v'.ownBlock ≠ some b := fun b hb hn => by
    rcases ho with e | ⟨b', e, hb'⟩
    · rw [e]; exact hn
    · rw [e]; intro e2; injection e2 with e2; omega
  have hge : ∀ b, v'.ownBlock = some b → B ≤ b := fun b hb => by
    rcases ho with e | ⟨b', e, hb'⟩
    · exact g5 b (by rw [← b5, ← e]; exact hb)
    · rw [e] at hb; injection hb with hb; omega
  have hrest := h.rest (w' := w'.setCell ⟨P, 4, none⟩ v') (g' := { g with e := v'.ownBlock }) hss (fun b hb hl => hkk b hb (h.off hl).1 (h.off hl).2.2.2.2.2) (fun b _ hn => hn) (fun b _ hn => hn) (fun b _ hn => hn)
  refine ⟨?_, ⟨b1, b2, b3, b4, rfl⟩, RowZ.keep h.undo fun b hb => hkk b (RowZ.lt h.undo b hb) (fun e => nu (by rw [hb, e])) ((n1 b hb).2.2.2), RowZ.keep h.times fun b hb => hkk b (RowZ.lt h.times b hb) (fun e => nt (by rw [hb, e])) ((n2 b hb).2.2), RowZ.keep h.rows fun b hb => hkk b (RowZ.lt h.rows b hb) (fun e => nr (by rw [hb, e])) ((n3 b hb).2), RowZ.keep h.own fun b hb => hkk b (RowZ.lt h.own b hb) (fun e => no (by rw [hb, e])) ((n4 b hb)), RowZ.far hr (p := ⟨P, 4, none⟩) hvP v', h.vsl, hrest.1, hrest.2, ⟨g0, g1, g2, g3, g4, hge⟩, h.apart⟩
  · rw [heap_setCell_same w' P 4 _ _ v' hP]; rfl
/-- The flag and its reason. -/
theorem TbX.setWhy (h : TbX w B P g s vu vt vr vo ve vs fs) (b : Bool) (x : W64) : TbX ((w.setCell ⟨P, 5, none⟩ (.bool b)).setCell ⟨P, 6, none⟩ (whyV x)) B P g { s with stuck := b, why := x } vu vt vr vo ve vs fs := by
  obtain ⟨⟨nu, nt, nr, no, ne⟩, n1, n2, n3, n4⟩ := h.ne
  have hset : ∀ b', b' ≠ P → ((w.setCell ⟨P, 5, none⟩ (.bool b)).setCell ⟨P, 6, none⟩ (whyV x)).heap[b']? = w.heap[b']? := fun b' hb => (Below.heap_setCell _ _ _ _ hb).trans (Below.heap_setCell _ _ _ _ hb)
  have hrest := h.rest (w' := (w.setCell ⟨P, 5, none⟩ (.bool b)).setCell ⟨P, 6, none⟩ (whyV x)) (g' := g) (by simp) (fun b' _ hl => hset b' (h.off hl).1) (fun _ _ => id) (fun _ _ => id) (fun _ _ => id)
  refine ⟨?_, h.bl, RowZ.keep h.undo fun b' hb => hset b' (fun e => nu (by rw [hb, e])), RowZ.keep h.times fun b' hb => hset b' (fun e => nt (by rw [hb, e])), RowZ.keep h.rows fun b' hb => hset b' (fun e => nr (by rw [hb, e])),
    RowZ.keep h.own fun b' hb => hset b' (fun e => no (by rw [hb, e])), RowZ.keep h.eqs fun b' hb => hset b' (fun e => ne (by rw [hb, e])), h.vsl, hrest.1, hrest.2, h.ge, h.apart⟩
  rw [heap_setCell_same _ P 6 _ _ _ (heap_setCell_same w P 5 _ _ _ h.self)]
  rfl
end
end Go.Proofs.YthnbhcfpfbimgaaGreat
