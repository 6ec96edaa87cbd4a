/- Texts put together: RwBase RwPlain RwMem. -/
import Derived.Laws.Tables
import Derived.Test.YthnbhcfpfbimgaaMw01
/- Small words on blocks and rows, without a program's types but int. -/
namespace Go.Proofs.Ythnbhcfpfbimgaa
open Go.RowKit

theorem blk_lt {w : World} {g : Nat} {o : Obj} (h : w.heap[g]? = some o) : g < w.heap.size := (Array.getElem?_eq_some_iff.1 h).1
theorem heap_at (w : World) (o : Obj) (k : Nat) : (w.alloc o).heap[k]? = if k = w.heap.size then some o else w.heap[k]? := by
  split
  · rename_i h; rw [h]; exact heap_alloc_new w o
  · rename_i h
    by_cases hk : k < w.heap.size
    · exact Below.heap_alloc w o k hk
    · rw [Array.getElem?_eq_none (by rw [World.size_alloc]; omega), Array.getElem?_eq_none (by omega)]
theorem RowZ.set {w : World} {e : TypeId} {z n g k c : Nat} {xs : List Value} (h : RowZ w e z (.slice (some ⟨g, 0, none⟩) k c) n xs) (j : Nat) (u : Value) : RowZ (w.setCell ⟨g, j, none⟩ u) e z (.slice (some ⟨g, 0, none⟩) k c) n (xs.set j u) := by
  rcases h with ⟨h0, _⟩ | ⟨g', cap, cur, h0, hh, h1, h2, h3, h4, h5⟩
  · cases h0
  · simp only [Value.slice.injEq, Option.some.injEq, Addr.mk.injEq, and_true] at h0
    obtain ⟨rfl, rfl, rfl⟩ := h0
    refine .inr ⟨g, c, _, rfl, heap_setCell_same w g j cur e u hh, h1, by simpa using h2, h3, by rw [List.length_set]; exact h4, ?_⟩
    have : (cur.setIfInBounds j u).toList = cur.toList.set j u := by simp
    rw [this, List.take_set, h5]
def intsV (l : List Nat) : List Value := l.map fun (x : Nat) => Value.int .i64 x
theorem intsV_len (l : List Nat) : (intsV l).length = l.length := by simp [intsV]
theorem intsV_get {l : List Nat} {i : Nat} (h : i < l.length) : (intsV l)[i]? = some (.int .i64 (l.getD i 0 : Nat)) := by
  simp [intsV, List.getD_eq_getElem?_getD, h]

/-- All is as it was, but for the blocks of S and new ones. -/
structure Kp (S : Nat → Prop) (w w' : World) : Prop where
  os : w'.os = w.os
  tape : w'.tape = w.tape
  output : w'.output = w.output
  size : w.heap.size ≤ w'.heap.size
  block : ∀ k, k < w.heap.size → ¬ S k → w'.heap[k]? = w.heap[k]?
section
variable {S S' : Nat → Prop} {w w' w2 : World}
theorem Kp.refl (S : Nat → Prop) (w : World) : Kp S w w := ⟨rfl, rfl, rfl, Nat.le_refl _, fun _ _ _ => rfl⟩
theorem Kp.drew (h : Kp S w w') : Kp S w w'.drew := ⟨h.os, h.tape, h.output, h.size, h.block⟩
theorem Kp.alloc (h : Kp S w w') (o : Obj) : Kp S w (w'.alloc o) :=
  ⟨h.os, h.tape, h.output, by have := h.size; rw [World.size_alloc]; omega, fun k hk hs => (Below.heap_alloc w' o k (Nat.lt_of_lt_of_le hk h.size)).trans (h.block k hk hs)⟩
theorem Kp.setCell (h : Kp S w w') {a : Addr} (ha : S a.block ∨ w.heap.size ≤ a.block) (v : Value) : Kp S w (w'.setCell a v) :=
  ⟨h.os, h.tape, h.output, by have := h.size; simp; omega, fun k hk hs => (Below.heap_setCell w' a v k (fun e => by rcases ha with h1 | h1; (· exact hs (e ▸ h1)); (· omega))).trans (h.block k hk hs)⟩
theorem Kp.grown (h : Kp S w w') {own : Option Nat} (hg : w'.grownBy w2 own) (ho : ∀ b, own = some b → S b ∨ w.heap.size ≤ b) : Kp S w w2 :=
  ⟨hg.os.trans h.os, hg.tape.trans h.tape, hg.output.trans h.output, Nat.le_trans h.size hg.size, fun k hk hs =>
    (hg.block k (Nat.lt_of_lt_of_le hk h.size) (fun e => by rcases ho k e.symm with h1 | h1; (· exact hs h1); (· omega))).trans (h.block k hk hs)⟩
/-- Two steps; the second one may turn what the first one made. -/
theorem Kp.trans (h : Kp S w w') (h2 : Kp S' w' w2) (hs : ∀ b, S' b → S b ∨ w.heap.size ≤ b) : Kp S w w2 :=
  ⟨h2.os.trans h.os, h2.tape.trans h.tape, h2.output.trans h.output, Nat.le_trans h.size h2.size, fun k hk hk2 =>
    (h2.block k (Nat.lt_of_lt_of_le hk h.size) (fun hs' => by rcases hs k hs' with h1 | h1; (· exact hk2 h1); (· omega))).trans (h.block k hk hk2)⟩
theorem Kp.below {B : Nat} (h : Kp S w w') (hB : B ≤ w.heap.size) (hS : ∀ k, S k → B ≤ k) : Below B w w' :=
  ⟨h.os, h.tape, h.output, h.size, fun k hk => h.block k (Nat.lt_of_lt_of_le hk hB) (fun hs => by have := hS k hs; omega)⟩
theorem Kp.of_below (h : Below w.heap.size w w') : Kp S w w' := ⟨h.os, h.tape, h.output, h.size, fun k hk _ => h.block k hk⟩
theorem Kp.mono (h : Kp S w w') (hs : ∀ b, S b → S' b) : Kp S' w w' := ⟨h.os, h.tape, h.output, h.size, fun k hk hn => h.block k hk fun e => hn (hs k e)⟩
end
/-- A slice that is only read from now on: in blocks below B, or of its own kind. -/
structure SlAt (w : World) (B : Nat) (e : TypeId) (z : Nat) (v : Value) (n : Nat) (xs : List Value) : Prop where
  ex : ∃ A c, v = .slice A n c ∧ n ≤ c ∧ c ≤ maxLen ∧ xs.length = n * z ∧ (0 < n → ∃ b off, A = some ⟨b, off, none⟩ ∧ (b < B ∨ ∃ cs, w.heap[b]? = some (.cells cs e (0, 0))) ∧ b < w.heap.size ∧ ∀ (i : Nat) (u : Value), xs[i]? = some u → w.cell? ⟨b, off + i, none⟩ = some u)
theorem SlAt.keep {w w' : World} {B : Nat} {e : TypeId} {z n : Nat} {v : Value} {xs : List Value} (h : SlAt w B e z v n xs) (hs : w.heap.size ≤ w'.heap.size)
    (hk : ∀ b, b < w.heap.size → (b < B ∨ ∃ cs, w.heap[b]? = some (.cells cs e (0, 0))) → w'.heap[b]? = w.heap[b]?) : SlAt w' B e z v n xs := by
  obtain ⟨A, c, h1, h2, h3, h4, h5⟩ := h.ex
  refine ⟨A, c, h1, h2, h3, h4, fun hn => ?_⟩
  obtain ⟨b, off, h6, h7, h8, h9⟩ := h5 hn
  have he := hk b h8 h7
  refine ⟨b, off, h6, ?_, by omega, fun i u hu => (World.cell?_of_block he).trans (h9 i u hu)⟩
  rcases h7 with h7 | ⟨cs, h7⟩
  · exact .inl h7
  · exact .inr ⟨cs, he.trans h7⟩
theorem SlAt.below {w w' : World} {B : Nat} {e : TypeId} {z n : Nat} {v : Value} {xs : List Value} (h : SlAt w B e z v n xs) (hb : Below w.heap.size w w') : SlAt w' B e z v n xs := h.keep hb.size fun b hlt _ => hb.block b hlt
theorem SlAt.nil (w : World) (B : Nat) (e : TypeId) (z : Nat) : SlAt w B e z (.slice none 0 0) 0 [] := ⟨⟨none, 0, rfl, Nat.le_refl _, Nat.zero_le _, by simp, fun h => by omega⟩⟩
theorem SlAt.of_row {w : World} {B : Nat} {e : TypeId} {z n : Nat} {v : Value} {xs : List Value} (h : RowZ w e z v n xs) : SlAt w B e z v n xs := by
  have hl := h.len
  obtain ⟨A, c, rfl, h1, h2⟩ := RowZ.form h
  refine ⟨A, c, rfl, h1, h2, hl, fun hn => ?_⟩
  obtain ⟨g, rfl⟩ := RowZ.addr h hn
  obtain ⟨cur, hc⟩ := RowZ.block h (g := g) rfl
  exact ⟨g, 0, rfl, .inr ⟨cur, hc⟩, blk_lt hc, fun i u hu => by rw [Nat.zero_add, RowZ.cell h (List.getElem?_eq_some_iff.1 hu).1]; exact hu⟩
theorem SlAt.src {P : Program} {w : World} {B : Nat} {e tx e' : TypeId} {z n : Nat} {v : Value} {xs : List Value} (hk : P.underlying tx = some (.slice e')) (h : SlAt w B e z v n xs) (h1 : ∀ u ∈ xs, u.oneCell' = true) : Src P z tx v n xs w := by
  obtain ⟨A, c, rfl, _, _, hl, h5⟩ := h.ex
  by_cases hn : 0 < n
  · obtain ⟨b, off, rfl, _, _, h9⟩ := h5 hn
    exact Src.ofSlice w hk _ n c xs hl (fun j u hu => by rw [add_plain]; exact h9 j u hu) h1
  · obtain rfl : n = 0 := by omega
    obtain rfl : xs = [] := List.eq_nil_of_length_eq_zero (by simpa using hl)
    cases A with
    | none => exact Src.ofNil w hk c
    | some a => exact Src.ofSlice w hk a 0 c [] (by simp) (fun j u hu => by simp at hu) h1
end Go.Proofs.Ythnbhcfpfbimgaa
/- The plain model of a table of rows. No program in sight. -/
namespace Go.Proofs.Ythnbhcfpfbimgaa.Rw

abbrev W64 := BitVec 64
/-- An element's eight words. -/
structure El where
  e0 : Int
  e1 : Int
  e2 : Int
  e3 : Int
  e4 : Int
  e5 : Int
  e6 : Int
  e7 : Int
deriving DecidableEq
structure At where
  var : Int
  el : El
deriving DecidableEq
structure Fld where
  name : ByteArray
  at_ : At
structure Lk where
  field : ByteArray
  why : W64
structure Row where
  bound : Bool
  fields : List Fld
  tail : Int
  why : W64
  lacks : List Lk
structure Eqn where
  a : At
  b : At
  why : W64
/-- What undoes a change. -/
inductive U where
  | cutRows (n : Nat)
  | cutOwn (n : Nat)
  | unstick
  | lacksBack (i : Nat) (was : List Lk)
  | rowBack (i : Nat) (x : Row)
  | cutEqs (n : Nat)
structure T where
  undo : List U
  times : List Nat
  rows : List Row
  own : List Nat
  eqs : List Eqn
  stuck : Bool
  why : W64
def T.new : T := ⟨[], [], [], [], [], false, 0⟩
def row0 : Row := ⟨false, [], -1, 0, []⟩
/-- A change undone. -/
def U.app : U → T → T
  | .cutRows n, s => { s with rows := s.rows.take n }
  | .cutOwn n, s => { s with own := s.own.take n }
  | .unstick, s => { s with stuck := false, why := 0 }
  | .lacksBack i was, s => { s with rows := s.rows.modify i fun x => { x with lacks := was } }
  | .rowBack i x, s => { s with rows := s.rows.set i x }
  | .cutEqs n, s => { s with eqs := s.eqs.take n }
def T.did (s : T) (u : U) : T := { s with undo := s.undo ++ [u] }
def T.tick (s : T) : T := { s with times := s.times ++ [s.undo.length] }
def T.fresh (s : T) : T := ({ s with rows := s.rows ++ [row0] } : T).did (.cutRows s.rows.length)
def T.var (s : T) : T := ({ s.tick.fresh with own := s.own ++ [s.rows.length] } : T).did (.cutOwn s.own.length)
def T.stick (s : T) (why : W64) : T := if s.stuck then s else ({ s with stuck := true, why := why } : T).did .unstick
/-- A row as far as it is known. -/
structure Sp where
  fields : List Fld
  fin : Int
  why : W64
def findF (fs : List Fld) (f : ByteArray) : Option Nat := fs.findIdx? fun x => x.name.toList == f.toList
def hasF (fs : List Fld) (f : ByteArray) : Bool := fs.any fun x => x.name.toList == f.toList
/-- From a row on; m: how many may come. -/
def spread (rows : List Row) : Nat → Sp → Sp
  | 0, s => s
  | m + 1, s => if s.fin < 0 then s else match rows[s.fin.toNat]? with
    | none => s
    | some x => if x.bound then spread rows m ⟨s.fields ++ x.fields, x.tail, s.why ||| x.why⟩ else s
def T.spreads (s : T) (fs : List Fld) (at_ : Int) : Sp := spread s.rows (s.rows.length + 1) ⟨fs, at_, 0⟩
def T.lacks (s : T) (at_ : Int) (f : ByteArray) (why : W64) : Bool × T :=
  let p := s.spreads [] at_
  if hasF p.fields f then (false, s.stick (why ||| p.why))
  else if p.fin < 0 then (true, s)
  else
    let was := (s.rows.getD p.fin.toNat row0).lacks
    if was.any fun l => l.field.toList == f.toList then (true, s)
    else (true, ({ s with rows := s.rows.modify p.fin.toNat fun x => { x with lacks := was ++ [⟨f, why ||| p.why⟩] } } : T).did (.lacksBack p.fin.toNat was))
/-- The first lack that meets a field. -/
def clash (ls : List Lk) (fs : List Fld) : Option Lk := ls.find? fun l => fs.any fun f => f.name.toList == l.field.toList
def T.lackAll (s : T) (tail : Int) : List (ByteArray × W64) → Bool × T
  | [] => (true, s)
  | l :: r => match s.lacks tail l.1 l.2 with
    | (false, s') => (false, s')
    | (true, s') => s'.lackAll tail r
def T.bind (s : T) (i : Nat) (fs : List Fld) (tail : Int) (why : W64) : Bool × T :=
  let x := s.rows.getD i row0
  match clash x.lacks fs with
  | some l => (false, s.stick (why ||| l.why))
  | none =>
    let s1 := ({ s with rows := s.rows.set i { x with bound := true, fields := fs, tail := tail, why := why } } : T).did (.rowBack i x)
    if tail < 0 then (true, s1)
    else s1.lackAll tail ((x.lacks.map fun l => (l.field, l.why ||| why)) ++ fs.map fun f => (f.name, why))
/-- A term's fields, one by one. -/
def T.termFields (s : T) (at_ : Int) (why : W64) (fs : List Fld) : Nat → Bool × T
  | 0 => (true, s)
  | m + 1 => match s.termFields at_ why fs m with
    | (false, s') => (false, s')
    | (true, s') => match fs[m]? with
      | none => (true, s')
      | some f => if hasF (fs.take m) f.name then (false, s'.stick why)
        else if at_ < 0 then (true, s')
        else s'.lacks at_ f.name why
structure Term where
  fields : List Fld
  tail : Int
def T.at_ (s : T) (tail : Int) : Int := if tail < 0 then -1 else (s.own.getD tail.toNat 0 : Nat)
def T.term (s : T) (x : Term) (why : W64) : Option Sp × T :=
  match s.termFields (s.at_ x.tail) why x.fields x.fields.length with
  | (false, s') => (none, s')
  | (true, s') => (some (s'.spreads x.fields (s.at_ x.tail)), s')
def T.pair (s : T) (a b : At) (why : W64) : T := ({ s with eqs := s.eqs ++ [⟨a, b, why⟩] } : T).did (.cutEqs s.eqs.length)
def T.pairs (s : T) (b : List Fld) (why : W64) : List Fld → T
  | [] => s
  | f :: r => T.pairs (match b.find? fun g => g.name.toList == f.name.toList with
    | some g => s.pair f.at_ g.at_ why
    | none => s) b why r
def without (a b : List Fld) : List Fld := a.filter fun f => !hasF b f.name
def T.meet (s : T) (a b : Sp) (why : W64) : Bool × T :=
  let s1 := s.pairs b.fields why a.fields
  let more := without b.fields a.fields
  let less := without a.fields b.fields
  if a.fin = b.fin then (if more.length + less.length > 0 then (false, s1.stick why) else (true, s1))
  else if a.fin < 0 then (if more = [] then (match s1.bind b.fin.toNat less (-1) why with
      | (true, s2) => (true, s2)
      | (false, s2) => (false, s2.stick why)) else (false, s1.stick why))
  else if b.fin < 0 then (if less = [] then (match s1.bind a.fin.toNat more (-1) why with
      | (true, s2) => (true, s2)
      | (false, s2) => (false, s2.stick why)) else (false, s1.stick why))
  else match s1.fresh.bind a.fin.toNat more (s1.rows.length : Nat) why with
    | (false, s2) => (false, s2)
    | (true, s2) => s2.bind b.fin.toNat less (s1.rows.length : Nat) why
def T.equal (s : T) (a b : Term) (why : W64) : Bool × T :=
  match s.term a why with
  | (none, s1) => (false, s1)
  | (some _, s1) => match s1.term b why with
    | (none, s2) => (false, s2)
    | (some y, s2) => match s2.term a why with
      | (none, s3) => s3.meet ⟨[], 0, 0⟩ y (why ||| y.why)
      | (some x, s3) => s3.meet x y (why ||| x.why ||| y.why)
/-- All changes from one on undone. -/
def clearTo (s : T) : Nat → T
  | 0 => s
  | m + 1 => match s.undo.getLast? with
    | none => s
    | some u => clearTo { u.app s with undo := s.undo.dropLast } m
def T.clear (s : T) (n : Nat) : T := clearTo s (s.undo.length - n)
def T.there (s : T) (tail : Int) : Bool := decide (tail < (s.own.length : Int))
def T.equate (s : T) (a b : Term) (why : W64) : Bool × T :=
  if s.stuck || !s.there a.tail || !s.there b.tail then (false, s)
  else match s.tick.equal a b why with
    | (true, s2) => (true, s2)
    | (false, s2) => (false, (s2.clear s.undo.length).stick s2.why)
def T.lacksOf (s : T) (v : Int) (f : ByteArray) (why : W64) : Bool × T :=
  if s.stuck || decide (v < 0) || !s.there v then (false, s)
  else s.tick.lacks (s.own.getD v.toNat 0 : Nat) f why
end Go.Proofs.Ythnbhcfpfbimgaa.Rw
/- A table of rows in memory: its block, its five rows, the closures that undo, and what each has captured. -/
namespace Go.Proofs.Ythnbhcfpfbimgaa
open Go.RowKit
open Rw (El At Fld Lk Eqn U T W64)

def elV (e : El) : List Value := [.int .u64 e.e0, .int .u64 e.e1, .int .u64 e.e2, .int .u64 e.e3, .int .u64 e.e4, .int .u64 e.e5, .int .u64 e.e6, .int .u64 e.e7]
def atV (a : At) : List Value := .int .i64 a.var :: elV a.el
def fdV (f : Fld) : List Value := .string f.name :: atV f.at_
def fdsV (l : List Fld) : List Value := l.flatMap fdV
def whyV (x : W64) : Value := .int .u64 (x.toNat : Nat)
def lkV (l : Lk) : List Value := [.string l.field, whyV l.why]
def lksV (l : List Lk) : List Value := l.flatMap lkV
def eqnV (e : Eqn) : List Value := atV e.a ++ atV e.b ++ [whyV e.why]
def eqnsV (l : List Eqn) : List Value := l.flatMap eqnV
/-- A row's five cells: its two slices are told apart. -/
def rowV (r : Rw.Row) (v : Value × Value) : List Value := [.bool r.bound, v.1, .int .i64 r.tail, whyV r.why, v.2]
def rowsV (rs : List Rw.Row) (vs : List (Value × Value)) : List Value := (rs.zip vs).flatMap fun x => rowV x.1 x.2
theorem fdV_len (f : Fld) : (fdV f).length = 10 := rfl
theorem fdsV_len : ∀ l : List Fld, (fdsV l).length = l.length * 10
  | [] => rfl
  | f :: l => by have := fdsV_len l; simp only [fdsV] at this; simp only [fdsV, List.flatMap_cons, List.length_append, this, fdV_len, List.length_cons]; omega
theorem lksV_len : ∀ l : List Lk, (lksV l).length = l.length * 2
  | [] => rfl
  | f :: l => by have := lksV_len l; simp only [lksV] at this; simp only [lksV, List.flatMap_cons, List.length_append, this, List.length_cons, show (lkV f).length = 2 from rfl]; omega
theorem eqnsV_len : ∀ l : List Eqn, (eqnsV l).length = l.length * 19
  | [] => rfl
  | f :: l => by have := eqnsV_len l; simp only [eqnsV] at this; simp only [eqnsV, List.flatMap_cons, List.length_append, this, List.length_cons, show (eqnV f).length = 19 from rfl]; omega
theorem rowsV_len : ∀ (rs : List Rw.Row) (vs : List (Value × Value)), vs.length = rs.length → (rowsV rs vs).length = rs.length * 5
  | [], [], _ => rfl
  | r :: rs, v :: vs, h => by
    have := rowsV_len rs vs (by simpa using h)
    simp only [rowsV] at this
    simp only [rowsV, List.zip_cons_cons, List.flatMap_cons, List.length_append, this, List.length_cons, show (rowV r v).length = 5 from rfl]
    omega
  | [], _ :: _, h => by simp at h
  | _ :: _, [], h => by simp at h

/-- What a row's two slices hold. -/
structure RowAt (w : World) (B : Nat) (r : Rw.Row) (v : Value × Value) : Prop where
  fields : SlAt w B 60 10 v.1 r.fields.length (fdsV r.fields)
  lacks : SlAt w B 145 2 v.2 r.lacks.length (lksV r.lacks)
/-- The blocks of a table's five rows. -/
structure Bl where
  u : Option Nat
  t : Option Nat
  r : Option Nat
  o : Option Nat
  e : Option Nat
/-- The closure f makes the step u in the table in block P. -/
def FuncIs (w : World) (B P : Nat) (g : Bl) (f : Value) : U → Prop
  | .cutRows n => ∃ bt bn, f = .func (.func 71) #[] #[.pointer (some ⟨bt, 0, none⟩), .pointer (some ⟨bn, 0, none⟩)] ∧
      w.heap[bt]? = some (.cells #[.pointer (some ⟨P, 0, none⟩)] 39 (0, 0)) ∧ w.heap[bn]? = some (.cells #[.int .i64 (n : Nat)] 3 (0, 0)) ∧ g.t ≠ some bn ∧ g.o ≠ some bn
  | .cutOwn n => ∃ bt bn, f = .func (.func 48) #[] #[.pointer (some ⟨bt, 0, none⟩), .pointer (some ⟨bn, 0, none⟩)] ∧
      w.heap[bt]? = some (.cells #[.pointer (some ⟨P, 0, none⟩)] 39 (0, 0)) ∧ w.heap[bn]? = some (.cells #[.int .i64 (n : Nat)] 3 (0, 0)) ∧ g.t ≠ some bn ∧ g.o ≠ some bn
  | .unstick => ∃ bt, f = .func (.func 74) #[] #[.pointer (some ⟨bt, 0, none⟩)] ∧ w.heap[bt]? = some (.cells #[.pointer (some ⟨P, 0, none⟩)] 39 (0, 0))
  | .lacksBack i was => ∃ bw bt bn v, f = .func (.func 75) #[] #[.pointer (some ⟨bw, 0, none⟩), .pointer (some ⟨bt, 0, none⟩), .pointer (some ⟨bn, 0, none⟩)] ∧
      w.heap[bw]? = some (.cells #[v] 132 (0, 0)) ∧ SlAt w B 145 2 v was.length (lksV was) ∧
      w.heap[bt]? = some (.cells #[.pointer (some ⟨P, 0, none⟩)] 39 (0, 0)) ∧ w.heap[bn]? = some (.cells #[.int .i64 (i : Nat)] 3 (0, 0)) ∧ g.t ≠ some bn ∧ g.o ≠ some bn
  | .rowBack i x => ∃ bx bt bn v, f = .func (.func 98) #[] #[.pointer (some ⟨bx, 0, none⟩), .pointer (some ⟨bt, 0, none⟩), .pointer (some ⟨bn, 0, none⟩)] ∧
      w.heap[bx]? = some (.cells (rowV x v).toArray 134 (0, 0)) ∧ RowAt w B x v ∧ g.r ≠ some bx ∧
      w.heap[bt]? = some (.cells #[.pointer (some ⟨P, 0, none⟩)] 39 (0, 0)) ∧ w.heap[bn]? = some (.cells #[.int .i64 (i : Nat)] 3 (0, 0)) ∧ g.t ≠ some bn ∧ g.o ≠ some bn
  | .cutEqs n => ∃ bt bn, f = .func (.func 97) #[] #[.pointer (some ⟨bt, 0, none⟩), .pointer (some ⟨bn, 0, none⟩)] ∧
      w.heap[bt]? = some (.cells #[.pointer (some ⟨P, 0, none⟩)] 39 (0, 0)) ∧ w.heap[bn]? = some (.cells #[.int .i64 (n : Nat)] 3 (0, 0)) ∧ g.t ≠ some bn ∧ g.o ≠ some bn
structure TbX (w : World) (B P : Nat) (g : Bl) (s : T) (vu vt vr vo ve : Value) (vs : List (Value × Value)) (fs : List Value) : Prop where
  self : w.heap[P]? = some (.cells #[vu, vt, vr, vo, ve, .bool s.stuck, whyV s.why] 83 (0, 0))
  bl : vu.ownBlock = g.u ∧ vt.ownBlock = g.t ∧ vr.ownBlock = g.r ∧ vo.ownBlock = g.o ∧ ve.ownBlock = g.e
  undo : RowZ w 1 1 vu s.undo.length fs
  times : RowZ w 3 1 vt s.times.length (intsV s.times)
  rows : RowZ w 134 5 vr s.rows.length (rowsV s.rows vs)
  own : RowZ w 3 1 vo s.own.length (intsV s.own)
  eqs : RowZ w 52 19 ve s.eqs.length (eqnsV s.eqs)
  vsl : vs.length = s.rows.length
  rowAt : ∀ (k : Nat) r v, s.rows[k]? = some r → vs[k]? = some v → RowAt w B r v
  funcs : ∀ (k : Nat) f u, fs[k]? = some f → s.undo[k]? = some u → FuncIs w B P g f u
  ge : B ≤ P ∧ (∀ b, g.u = some b → B ≤ b) ∧ (∀ b, g.t = some b → B ≤ b) ∧ (∀ b, g.r = some b → B ≤ b) ∧ (∀ b, g.o = some b → B ≤ b) ∧ (∀ b, g.e = some b → B ≤ b)
  apart : ∀ b, g.t = some b → g.o ≠ some b
def Tb (w : World) (B P : Nat) (g : Bl) (s : T) : Prop := ∃ vu vt vr vo ve vs fs, TbX w B P g s vu vt vr vo ve vs fs

section
variable {w w' : World} {B P : Nat} {g g' : Bl} {s : T}
theorem RowAt.keep {r : Rw.Row} {v : Value × Value} (h : RowAt w B r v) (hs : w.heap.size ≤ w'.heap.size)
    (hk : ∀ b, b < w.heap.size → (b < B ∨ ∃ t cs, w.heap[b]? = some (.cells cs t (0, 0)) ∧ (t = 60 ∨ t = 145)) → w'.heap[b]? = w.heap[b]?) : RowAt w' B r v :=
  ⟨h.fields.keep hs fun b hb hc => hk b hb (hc.imp id fun ⟨cs, h⟩ => ⟨_, cs, h, .inl rfl⟩), h.lacks.keep hs fun b hb hc => hk b hb (hc.imp id fun ⟨cs, h⟩ => ⟨_, cs, h, .inr rfl⟩)⟩
/-- A kind of block that a closure may lean on. -/
def Leans (w : World) (B : Nat) (g : Bl) (b : Nat) : Prop :=
  b < B ∨ ∃ t cs, w.heap[b]? = some (.cells cs t (0, 0)) ∧ (t = 60 ∨ t = 145 ∨ t = 132 ∨ t = 39 ∨ (t = 3 ∧ g.t ≠ some b ∧ g.o ≠ some b) ∨ (t = 134 ∧ g.r ≠ some b))
theorem FuncIs.keep {f : Value} {u : U} (h : FuncIs w B P g f u) (hs : w.heap.size ≤ w'.heap.size) (hk : ∀ b, b < w.heap.size → Leans w B g b → w'.heap[b]? = w.heap[b]?)
    (ht : ∀ b, b < w.heap.size → g.t ≠ some b → g'.t ≠ some b) (ho : ∀ b, b < w.heap.size → g.o ≠ some b → g'.o ≠ some b) (hr : ∀ b, b < w.heap.size → g.r ≠ some b → g'.r ≠ some b) : FuncIs w' B P g' f u := by
  have kp : ∀ {b cs}, w.heap[b]? = some (Obj.cells cs 39 (0, 0)) → w'.heap[b]? = some (Obj.cells cs 39 (0, 0)) := fun {b cs} h => (hk b (blk_lt h) (.inr ⟨_, _, h, .inr (.inr (.inr (.inl rfl)))⟩)).trans h
  have kn : ∀ {b cs}, w.heap[b]? = some (Obj.cells cs 3 (0, 0)) → g.t ≠ some b → g.o ≠ some b → w'.heap[b]? = some (Obj.cells cs 3 (0, 0)) ∧ g'.t ≠ some b ∧ g'.o ≠ some b := fun {b cs} h h1 h2 =>
    ⟨(hk b (blk_lt h) (.inr ⟨_, _, h, .inr (.inr (.inr (.inr (.inl ⟨rfl, h1, h2⟩))))⟩)).trans h, ht b (blk_lt h) h1, ho b (blk_lt h) h2⟩
  match u, h with
  | .cutRows n, ⟨bt, bn, hf, h1, h2, h3, h4⟩ => exact ⟨bt, bn, hf, kp h1, kn h2 h3 h4⟩
  | .cutOwn n, ⟨bt, bn, hf, h1, h2, h3, h4⟩ => exact ⟨bt, bn, hf, kp h1, kn h2 h3 h4⟩
  | .unstick, ⟨bt, hf, h1⟩ => exact ⟨bt, hf, kp h1⟩
  | .lacksBack i was, ⟨bw, bt, bn, v, hf, h0, hl, h1, h2, h3, h4⟩ =>
    exact ⟨bw, bt, bn, v, hf, (hk bw (blk_lt h0) (.inr ⟨_, _, h0, .inr (.inr (.inl rfl))⟩)).trans h0, hl.keep hs (fun b hb hc => hk b hb (hc.imp id fun ⟨cs, h⟩ => ⟨_, cs, h, .inr (.inl rfl)⟩)), kp h1, kn h2 h3 h4⟩
  | .rowBack i x, ⟨bx, bt, bn, v, hf, h0, hl, hne, h1, h2, h3, h4⟩ =>
    exact ⟨bx, bt, bn, v, hf, (hk bx (blk_lt h0) (.inr ⟨_, _, h0, .inr (.inr (.inr (.inr (.inr ⟨rfl, hne⟩))))⟩)).trans h0,
      hl.keep hs (fun b hb hc => hk b hb (hc.imp id fun ⟨t, cs, h, ht⟩ => ⟨t, cs, h, ht.elim .inl fun e => .inr (.inl e)⟩)), hr bx (blk_lt h0) hne, kp h1, kn h2 h3 h4⟩
  | .cutEqs n, ⟨bt, bn, hf, h1, h2, h3, h4⟩ => exact ⟨bt, bn, hf, kp h1, kn h2 h3 h4⟩
variable {vu vt vr vo ve : Value} {vs : List (Value × Value)} {fs : List Value}
theorem TbX.below (h : TbX w B P g s vu vt vr vo ve vs fs) (hb : Below w.heap.size w w') : TbX w' B P g s vu vt vr vo ve vs fs :=
  ⟨(hb.block _ (blk_lt h.self)).trans h.self, h.bl, RowZ.below h.undo hb, RowZ.below h.times hb, RowZ.below h.rows hb, RowZ.below h.own hb, RowZ.below h.eqs hb, h.vsl, fun k r v hr hv => (h.rowAt k r v hr hv).keep hb.size fun b hlt _ => hb.block b hlt,
    fun k f u hf hu => (h.funcs k f u hf hu).keep hb.size (fun b hlt _ => hb.block b hlt) (fun _ _ => id) (fun _ _ => id) (fun _ _ => id), h.ge, h.apart⟩
theorem TbX.lt (h : TbX w B P g s vu vt vr vo ve vs fs) : P < w.heap.size := blk_lt h.self
theorem TbX.free (h : TbX w B P g s vu vt vr vo ve vs fs) (j : Nat) : w.frozen? ⟨P, j, none⟩ = false := frozen_of_row w P j _ _ h.self
theorem TbX.cells (h : TbX w B P g s vu vt vr vo ve vs fs) : w.cell? ⟨P, 0, none⟩ = some vu ∧ w.cell? ⟨P, 1, none⟩ = some vt ∧ w.cell? ⟨P, 2, none⟩ = some vr ∧ w.cell? ⟨P, 3, none⟩ = some vo ∧ w.cell? ⟨P, 4, none⟩ = some ve ∧
    w.cell? ⟨P, 5, none⟩ = some (.bool s.stuck) ∧ w.cell? ⟨P, 6, none⟩ = some (whyV s.why) := by
  refine ⟨?_, ?_, ?_, ?_, ?_, ?_, ?_⟩ <;> (rw [cell_block h.self]; rfl)
/-- No two of the table's blocks are one. -/
theorem TbX.ne (h : TbX w B P g s vu vt vr vo ve vs fs) : (vu.ownBlock ≠ some P ∧ vt.ownBlock ≠ some P ∧ vr.ownBlock ≠ some P ∧ vo.ownBlock ≠ some P ∧ ve.ownBlock ≠ some P) ∧
    (∀ b, vu.ownBlock = some b → vt.ownBlock ≠ some b ∧ vr.ownBlock ≠ some b ∧ vo.ownBlock ≠ some b ∧ ve.ownBlock ≠ some b) ∧ (∀ b, vt.ownBlock = some b → vr.ownBlock ≠ some b ∧ vo.ownBlock ≠ some b ∧ ve.ownBlock ≠ some b) ∧
    (∀ b, vr.ownBlock = some b → vo.ownBlock ≠ some b ∧ ve.ownBlock ≠ some b) ∧ (∀ b, vo.ownBlock = some b → ve.ownBlock ≠ some b) := by
  refine ⟨⟨RowZ.ne_type h.undo h.self (by decide), RowZ.ne_type h.times h.self (by decide), RowZ.ne_type h.rows h.self (by decide), RowZ.ne_type h.own h.self (by decide), RowZ.ne_type h.eqs h.self (by decide)⟩, ?_, ?_, ?_, ?_⟩
  · intro b hb
    obtain ⟨cur, hc⟩ := RowZ.block h.undo hb
    exact ⟨RowZ.ne_type h.times hc (by decide), RowZ.ne_type h.rows hc (by decide), RowZ.ne_type h.own hc (by decide), RowZ.ne_type h.eqs hc (by decide)⟩
  · intro b hb
    obtain ⟨cur, hc⟩ := RowZ.block h.times hb
    exact ⟨RowZ.ne_type h.rows hc (by decide), by rw [h.bl.2.2.2.1]; exact h.apart b (by rw [← h.bl.2.1]; exact hb), RowZ.ne_type h.eqs hc (by decide)⟩
  · intro b hb
    obtain ⟨cur, hc⟩ := RowZ.block h.rows hb
    exact ⟨RowZ.ne_type h.own hc (by decide), RowZ.ne_type h.eqs hc (by decide)⟩
  · intro b hb
    obtain ⟨cur, hc⟩ := RowZ.block h.own hb
    exact RowZ.ne_type h.eqs hc (by decide)
/-- Blocks of types that the table's own blocks do not have, or below B. -/
theorem TbX.off {b : Nat} (h : TbX w B P g s vu vt vr vo ve vs fs) (hl : Leans w B g b) : b ≠ P ∧ vu.ownBlock ≠ some b ∧ vt.ownBlock ≠ some b ∧ vr.ownBlock ≠ some b ∧ vo.ownBlock ≠ some b ∧ ve.ownBlock ≠ some b := by
  obtain ⟨b1, b2, b3, b4, b5⟩ := h.bl
  obtain ⟨g0, g1, g2, g3, g4, g5⟩ := h.ge
  rcases hl with hl | ⟨t, cs, hc, ht⟩
  · rw [b1, b2, b3, b4, b5]
    exact ⟨by omega, fun e => by have := g1 b e; omega, fun e => by have := g2 b e; omega, fun e => by have := g3 b e; omega, fun e => by have := g4 b e; omega, fun e => by have := g5 b e; omega⟩
  · rcases ht with rfl | rfl | rfl | rfl | ⟨rfl, h1, h2⟩ | ⟨rfl, h1⟩
    · exact ⟨blocks_ne hc h.self (by decide), RowZ.ne_type h.undo hc (by decide), RowZ.ne_type h.times hc (by decide), RowZ.ne_type h.rows hc (by decide), RowZ.ne_type h.own hc (by decide), RowZ.ne_type h.eqs hc (by decide)⟩
    · exact ⟨blocks_ne hc h.self (by decide), RowZ.ne_type h.undo hc (by decide), RowZ.ne_type h.times hc (by decide), RowZ.ne_type h.rows hc (by decide), RowZ.ne_type h.own hc (by decide), RowZ.ne_type h.eqs hc (by decide)⟩
    · exact ⟨blocks_ne hc h.self (by decide), RowZ.ne_type h.undo hc (by decide), RowZ.ne_type h.times hc (by decide), RowZ.ne_type h.rows hc (by decide), RowZ.ne_type h.own hc (by decide), RowZ.ne_type h.eqs hc (by decide)⟩
    · exact ⟨blocks_ne hc h.self (by decide), RowZ.ne_type h.undo hc (by decide), RowZ.ne_type h.times hc (by decide), RowZ.ne_type h.rows hc (by decide), RowZ.ne_type h.own hc (by decide), RowZ.ne_type h.eqs hc (by decide)⟩
    · exact ⟨blocks_ne hc h.self (by decide), RowZ.ne_type h.undo hc (by decide), by rw [b2]; exact h1, RowZ.ne_type h.rows hc (by decide), by rw [b4]; exact h2, RowZ.ne_type h.eqs hc (by decide)⟩
    · exact ⟨blocks_ne hc h.self (by decide), RowZ.ne_type h.undo hc (by decide), RowZ.ne_type h.times hc (by decide), by rw [b3]; exact h1, RowZ.ne_type h.own hc (by decide), RowZ.ne_type h.eqs hc (by decide)⟩
theorem leans_row {b : Nat} (h : b < B ∨ ∃ t cs, w.heap[b]? = some (Obj.cells cs t (0, 0)) ∧ (t = 60 ∨ t = 145)) : Leans w B g b :=
  h.imp id fun ⟨t, cs, hc, ht⟩ => ⟨t, cs, hc, ht.elim .inl fun e => .inr (.inl e)⟩
/-- What the table's other parts are when one of its rows, and its own block, turn: the blocks of S. -/
theorem TbX.rest (h : TbX w B P g s vu vt vr vo ve vs fs) (hs : w.heap.size ≤ w'.heap.size) (hk : ∀ b, b < w.heap.size → Leans w B g b → w'.heap[b]? = w.heap[b]?)
    (ht : ∀ b, b < w.heap.size → g.t ≠ some b → g'.t ≠ some b) (ho : ∀ b, b < w.heap.size → g.o ≠ some b → g'.o ≠ some b) (hr : ∀ b, b < w.heap.size → g.r ≠ some b → g'.r ≠ some b) :
    (∀ (k : Nat) r v, s.rows[k]? = some r → vs[k]? = some v → RowAt w' B r v) ∧ (∀ (k : Nat) f u, fs[k]? = some f → s.undo[k]? = some u → FuncIs w' B P g' f u) :=
  ⟨fun k r v h1 h2 => (h.rowAt k r v h1 h2).keep hs fun b hb hc => hk b hb (leans_row hc), fun k f u h1 h2 => (h.funcs k f u h1 h2).keep hs hk ht ho hr⟩
end
end Go.Proofs.Ythnbhcfpfbimgaa
