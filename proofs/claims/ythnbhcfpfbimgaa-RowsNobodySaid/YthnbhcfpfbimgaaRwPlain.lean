/- The plain model of a table of rows. No program in sight. -/
namespace Go.Proofs.Ythnbhcfpfbimgaa.Rw

abbrev W64 := BitVec 64
/-- An element's eight words. -/
structure El where
  e0 : Int
  e1 : Int
  e2 : Int
  e3 : Int
  e4 : Int
  e5 : Int
  e6 : Int
  e7 : Int
deriving DecidableEq
structure At where
  var : Int
  el : El
deriving DecidableEq
structure Fld where
  name : ByteArray
  at_ : At
structure Lk where
  field : ByteArray
  why : W64
structure Row where
  bound : Bool
  fields : List Fld
  tail : Int
  why : W64
  lacks : List Lk
structure Eqn where
  a : At
  b : At
  why : W64
/-- What undoes a change. -/
inductive U where
  | cutRows (n : Nat)
  | cutOwn (n : Nat)
  | unstick
  | lacksBack (i : Nat) (was : List Lk)
  | rowBack (i : Nat) (x : Row)
  | cutEqs (n : Nat)
structure T where
  undo : List U
  times : List Nat
  rows : List Row
  own : List Nat
  eqs : List Eqn
  stuck : Bool
  why : W64
def T.new : T := ⟨[], [], [], [], [], false, 0⟩
def row0 : Row := ⟨false, [], -1, 0, []⟩
/-- A change undone. -/
def U.app : U → T → T
  | .cutRows n, s => { s with rows := s.rows.take n }
  | .cutOwn n, s => { s with own := s.own.take n }
  | .unstick, s => { s with stuck := false, why := 0 }
  | .lacksBack i was, s => { s with rows := s.rows.modify i fun x => { x with lacks := was } }
  | .rowBack i x, s => { s with rows := s.rows.set i x }
  | .cutEqs n, s => { s with eqs := s.eqs.take n }
def T.did (s : T) (u : U) : T := { s with undo := s.undo ++ [u] }
def T.tick (s : T) : T := { s with times := s.times ++ [s.undo.length] }
def T.fresh (s : T) : T := ({ s with rows := s.rows ++ [row0] } : T).did (.cutRows s.rows.length)
def T.var (s : T) : T := ({ s.tick.fresh with own := s.own ++ [s.rows.length] } : T).did (.cutOwn s.own.length)
def T.stick (s : T) (why : W64) : T := if s.stuck then s else ({ s with stuck := true, why := why } : T).did .unstick
/-- A row as far as it is known. -/
structure Sp where
  fields : List Fld
  fin : Int
  why : W64
def findF (fs : List Fld) (f : ByteArray) : Option Nat := fs.findIdx? fun x => x.name.toList == f.toList
def hasF (fs : List Fld) (f : ByteArray) : Bool := fs.any fun x => x.name.toList == f.toList
/-- From a row on; m: how many may come. -/
def spread (rows : List Row) : Nat → Sp → Sp
  | 0, s => s
  | m + 1, s => if s.fin < 0 then s else match rows[s.fin.toNat]? with
    | none => s
    | some x => if x.bound then spread rows m ⟨s.fields ++ x.fields, x.tail, s.why ||| x.why⟩ else s
def T.spreads (s : T) (fs : List Fld) (at_ : Int) : Sp := spread s.rows (s.rows.length + 1) ⟨fs, at_, 0⟩
def T.lacks (s : T) (at_ : Int) (f : ByteArray) (why : W64) : Bool × T :=
  let p := s.spreads [] at_
  if hasF p.fields f then (false, s.stick (why ||| p.why))
  else if p.fin < 0 then (true, s)
  else
    let was := (s.rows.getD p.fin.toNat row0).lacks
    if was.any fun l => l.field.toList == f.toList then (true, s)
    else (true, ({ s with rows := s.rows.modify p.fin.toNat fun x => { x with lacks := was ++ [⟨f, why ||| p.why⟩] } } : T).did (.lacksBack p.fin.toNat was))
/-- The first lack that meets a field. -/
def clash (ls : List Lk) (fs : List Fld) : Option Lk := ls.find? fun l => fs.any fun f => f.name.toList == l.field.toList
def T.lackAll (s : T) (tail : Int) : List (ByteArray × W64) → Bool × T
  | [] => (true, s)
  | l :: r => match s.lacks tail l.1 l.2 with
    | (false, s') => (false, s')
    | (true, s') => s'.lackAll tail r
def T.bind (s : T) (i : Nat) (fs : List Fld) (tail : Int) (why : W64) : Bool × T :=
  let x := s.rows.getD i row0
  match clash x.lacks fs with
  | some l => (false, s.stick (why ||| l.why))
  | none =>
    let s1 := ({ s with rows := s.rows.set i { x with bound := true, fields := fs, tail := tail, why := why } } : T).did (.rowBack i x)
    if tail < 0 then (true, s1)
    else s1.lackAll tail ((x.lacks.map fun l => (l.field, l.why ||| why)) ++ fs.map fun f => (f.name, why))
/-- A term's fields, one by one. -/
def T.termFields (s : T) (at_ : Int) (why : W64) (fs : List Fld) : Nat → Bool × T
  | 0 => (true, s)
  | m + 1 => match s.termFields at_ why fs m with
    | (false, s') => (false, s')
    | (true, s') => match fs[m]? with
      | none => (true, s')
      | some f => if hasF (fs.take m) f.name then (false, s'.stick why)
        else if at_ < 0 then (true, s')
        else s'.lacks at_ f.name why
structure Term where
  fields : List Fld
  tail : Int
def T.at_ (s : T) (tail : Int) : Int := if tail < 0 then -1 else (s.own.getD tail.toNat 0 : Nat)
def T.term (s : T) (x : Term) (why : W64) : Option Sp × T :=
  match s.termFields (s.at_ x.tail) why x.fields x.fields.length with
  | (false, s') => (none, s')
  | (true, s') => (some (s'.spreads x.fields (s.at_ x.tail)), s')
def T.pair (s : T) (a b : At) (why : W64) : T := ({ s with eqs := s.eqs ++ [⟨a, b, why⟩] } : T).did (.cutEqs s.eqs.length)
def T.pairs (s : T) (b : List Fld) (why : W64) : List Fld → T
  | [] => s
  | f :: r => T.pairs (match b.find? fun g => g.name.toList == f.name.toList with
    | some g => s.pair f.at_ g.at_ why
    | none => s) b why r
def without (a b : List Fld) : List Fld := a.filter fun f => !hasF b f.name
def T.meet (s : T) (a b : Sp) (why : W64) : Bool × T :=
  let s1 := s.pairs b.fields why a.fields
  let more := without b.fields a.fields
  let less := without a.fields b.fields
  if a.fin = b.fin then (if more.length + less.length > 0 then (false, s1.stick why) else (true, s1))
  else if a.fin < 0 then (if more = [] then (match s1.bind b.fin.toNat less (-1) why with
      | (true, s2) => (true, s2)
      | (false, s2) => (false, s2.stick why)) else (false, s1.stick why))
  else if b.fin < 0 then (if less = [] then (match s1.bind a.fin.toNat more (-1) why with
      | (true, s2) => (true, s2)
      | (false, s2) => (false, s2.stick why)) else (false, s1.stick why))
  else match s1.fresh.bind a.fin.toNat more (s1.rows.length : Nat) why with
    | (false, s2) => (false, s2)
    | (true, s2) => s2.bind b.fin.toNat less (s1.rows.length : Nat) why
def T.equal (s : T) (a b : Term) (why : W64) : Bool × T :=
  match s.term a why with
  | (none, s1) => (false, s1)
  | (some _, s1) => match s1.term b why with
    | (none, s2) => (false, s2)
    | (some y, s2) => match s2.term a why with
      | (none, s3) => s3.meet ⟨[], 0, 0⟩ y (why ||| y.why)
      | (some x, s3) => s3.meet x y (why ||| x.why ||| y.why)
/-- All changes from one on undone. -/
def clearTo (s : T) : Nat → T
  | 0 => s
  | m + 1 => match s.undo.getLast? with
    | none => s
    | some u => clearTo { u.app s with undo := s.undo.dropLast } m
def T.clear (s : T) (n : Nat) : T := clearTo s (s.undo.length - n)
def T.there (s : T) (tail : Int) : Bool := decide (tail < (s.own.length : Int))
def T.equate (s : T) (a b : Term) (why : W64) : Bool × T :=
  if s.stuck || !s.there a.tail || !s.there b.tail then (false, s)
  else match s.tick.equal a b why with
    | (true, s2) => (true, s2)
    | (false, s2) => (false, (s2.clear s.undo.length).stick s2.why)
def T.lacksOf (s : T) (v : Int) (f : ByteArray) (why : W64) : Bool × T :=
  if s.stuck || decide (v < 0) || !s.there v then (false, s)
  else s.tick.lacks (s.own.getD v.toNat 0 : Nat) f why
end Go.Proofs.Ythnbhcfpfbimgaa.Rw
