/- The plain law of knots: what the walk through a graph does, step by step. No program in sight. -/
namespace Go.Proofs.Ytgmppddlgbkjmaa.Kn

/-- What is known by now: the places in time, the least that is reached back, what stands on the stack (the last one first), what is under way (the innermost first, each with the next of its arcs), and the knots that are told. -/
structure St where
  order : List Nat
  low : List Nat
  on : List Bool
  stack : List Nat
  opn : List (Nat × Nat)
  time : Nat
  of : List Nat

abbrev G := List (List Int)
def arcs (g : G) (i : Nat) : List Int := g.getD i []
def St.enter (s : St) (i : Nat) : St :=
  { s with time := s.time + 1, order := s.order.set i (s.time + 1), low := s.low.set i (s.time + 1), on := s.on.set i true, stack := i :: s.stack, opn := (i, 0) :: s.opn }
/-- The knot's nodes, as they stand on the stack, the deepest first. -/
def own (st : List Nat) (i : Nat) : List Nat := i :: (st.takeWhile (fun x => decide (x ≠ i))).reverse
def rest (st : List Nat) (i : Nat) : List Nat := (st.dropWhile (fun x => decide (x ≠ i))).drop 1
def least (l : List Nat) (i : Nat) : Nat := l.foldl min i
def setAll {α : Type} (l : List α) (ks : List Nat) (v : α) : List α := ks.foldl (fun l k => l.set k v) l
def St.close (s : St) (i : Nat) : St :=
  { s with of := setAll s.of (own s.stack i) (least (own s.stack i) i), on := setAll s.on (own s.stack i) false, stack := rest s.stack i }
/-- One step: an arc looked at, or a node left. -/
def St.arc (s : St) (g : G) (at_ : Nat) (k : Int) : St :=
  if k < 0 ∨ (g.length : Int) ≤ k then s
  else if s.order.getD k.toNat 0 = 0 then s.enter k.toNat
  else if s.on.getD k.toNat false = true then { s with low := s.low.set at_ (min (s.low.getD at_ 0) (s.order.getD k.toNat 0)) }
  else s
def St.leave (s : St) (at_ : Nat) : St :=
  let s1 := if s.low.getD at_ 0 = s.order.getD at_ 0 then s.close at_ else s
  match s1.opn.tail with
  | [] => { s1 with opn := [] }
  | (up, nx) :: r => { s1 with opn := (up, nx) :: r, low := s1.low.set up (min (s1.low.getD up 0) (s1.low.getD at_ 0)) }
def St.step (s : St) (g : G) : St :=
  match s.opn with
  | [] => s
  | (at_, nx) :: r => match (arcs g at_)[nx]? with
    | some k => ({ s with opn := (at_, nx + 1) :: r } : St).arc g at_ k
    | none => s.leave at_
/-- So many steps. -/
def steps (g : G) : Nat → St → St
  | 0, s => s
  | m + 1, s => (steps g m s).step g

theorem setAll_len {α : Type} (v : α) : ∀ (ks : List Nat) (l : List α), (setAll l ks v).length = l.length
  | [], l => rfl
  | k :: ks, l => by rw [setAll, List.foldl_cons]; have := setAll_len v ks (l.set k v); rw [setAll] at this; rw [this, List.length_set]

/-- All is in order: so that each step may be made. -/
structure Ok (g : G) (s : St) : Prop where
  lo : s.order.length = g.length
  ll : s.low.length = g.length
  ln : s.on.length = g.length
  lf : s.of.length = g.length
  frames : ∀ f ∈ s.opn, f.1 < g.length ∧ f.2 ≤ (arcs g f.1).length
  stk : ∀ x ∈ s.stack, x < g.length
  met : ∀ x, x < g.length → (x ∈ s.stack ↔ s.on.getD x false = true)
  ndup : s.stack.Nodup
  bound : ∀ x ∈ s.order, x ≤ s.time
  zero : ∀ x, s.on.getD x false = true → s.order.getD x 0 ≠ 0
  count : s.time = (s.order.filter (fun x => decide (x ≠ 0))).length
  openOn : ∀ f ∈ s.opn, f.1 ∈ s.stack ∨ s.order.getD f.1 0 ≠ 0
end Go.Proofs.Ytgmppddlgbkjmaa.Kn
