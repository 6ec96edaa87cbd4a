/- The walk through a graph, in memory. -/
import Derived.Test.YtgmppddlgbkjmaaKnPlain
import Derived.Test.YtgmppddlgbkjmaaTree
import Derived.Test.YtgmppddlgbkjmaaRowZ
namespace Go.Proofs.Ytgmppddlgbkjmaa
open Go.RowKit

theorem blk_lt {w : World} {g : Nat} {o : Obj} (h : w.heap[g]? = some o) : g < w.heap.size := (Array.getElem?_eq_some_iff.1 h).1
theorem grown_new {w W w2 : World} {own : Option Nat} (hb : Below w.heap.size w W) (hg : W.grownBy w2 own) (h : ∀ g, own = some g → w.heap.size ≤ g) : Below w.heap.size w w2 :=
  ⟨hg.os.trans hb.os, hg.tape.trans hb.tape, hg.output.trans hb.output, Nat.le_trans hb.size hg.size, fun k hk =>
    (hg.block k (Nat.lt_of_lt_of_le hk hb.size) (fun e => by have := h k e.symm; omega)).trans (hb.block k hk)⟩
/-- The same, seen from a bound below. -/
theorem grown_from {B : Nat} {w W w2 : World} {own : Option Nat} (hb : Below B w W) (hB : B ≤ W.heap.size) (hg : W.grownBy w2 own) (h : ∀ g, own = some g → B ≤ g) : Below B w w2 :=
  ⟨hg.os.trans hb.os, hg.tape.trans hb.tape, hg.output.trans hb.output, Nat.le_trans hb.size hg.size, fun k hk =>
    (hg.block k (Nat.lt_of_lt_of_le hk hB) (fun e => by have := h k e.symm; omega)).trans (hb.block k hk)⟩
def intsV (l : List Nat) : List Value := l.map fun (x : Nat) => Value.int .i64 x
def boolsV (l : List Bool) : List Value := l.map fun x => Value.bool x
def framesV (l : List (Nat × Nat)) : List Value := l.flatMap fun f => [.int .i64 (f.1 : Nat), .int .i64 (f.2 : Nat)]
theorem intsV_len (l : List Nat) : (intsV l).length = l.length := by simp [intsV]
theorem boolsV_len (l : List Bool) : (boolsV l).length = l.length := by simp [boolsV]
theorem framesV_len : ∀ l : List (Nat × Nat), (framesV l).length = l.length * 2
  | [] => rfl
  | f :: l => by have := framesV_len l; simp only [framesV] at this; simp only [framesV, List.flatMap_cons, List.length_append, this, List.length_cons]; simp; omega
theorem intsV_set (l : List Nat) (i x : Nat) : intsV (l.set i x) = (intsV l).set i (.int .i64 x) := by simp [intsV, List.map_set]
theorem boolsV_set (l : List Bool) (i : Nat) (x : Bool) : boolsV (l.set i x) = (boolsV l).set i (.bool x) := by simp [boolsV, List.map_set]
theorem intsV_get {l : List Nat} {i : Nat} (h : i < l.length) : (intsV l)[i]? = some (.int .i64 (l.getD i 0 : Nat)) := by
  simp [intsV, List.getD_eq_getElem?_getD, h]
theorem boolsV_get {l : List Bool} {i : Nat} (h : i < l.length) : (boolsV l)[i]? = some (.bool (l.getD i false)) := by
  simp [boolsV, List.getD_eq_getElem?_getD, h]

/-- A graph that came in, in blocks below B. -/
def HasG (w : World) (B : Nat) (A : Option Addr) (n : Nat) (g : Kn.G) : Prop :=
  g.length = n ∧ (0 < n → ∃ b off, A = some ⟨b, off, none⟩ ∧ b < B ∧ ∀ (i : Nat) (l : List Int), g[i]? = some l → ∃ Ai ci, w.cell? ⟨b, off + i, none⟩ = some (.slice Ai l.length ci) ∧
    (0 < l.length → ∃ bi oi, Ai = some ⟨bi, oi, none⟩ ∧ bi < B ∧ ∀ (j : Nat) (x : Int), l[j]? = some x → w.cell? ⟨bi, oi + j, none⟩ = some (.int .i64 x)))
theorem HasG.below {w w' : World} {B : Nat} {A : Option Addr} {n : Nat} {g : Kn.G} (h : HasG w B A n g) (hb : Below B w w') : HasG w' B A n g := by
  refine ⟨h.1, fun hn => ?_⟩
  obtain ⟨b, off, ha, hB, hc⟩ := h.2 hn
  refine ⟨b, off, ha, hB, fun i l hl => ?_⟩
  obtain ⟨Ai, ci, h1, h2⟩ := hc i l hl
  refine ⟨Ai, ci, (hb.cell (p := ⟨b, off + i, none⟩) hB).trans h1, fun hp => ?_⟩
  obtain ⟨bi, oi, e, hbi, hx⟩ := h2 hp
  exact ⟨bi, oi, e, hbi, fun j x hj => (hb.cell (p := ⟨bi, oi + j, none⟩) hbi).trans (hx j x hj)⟩

/-- The places of the walk's parts. -/
structure At where
  P : Nat
  o : Nat
  l : Nat
  n : Nat
  f : Nat
def walkObj (a : At) (Ag : Option Addr) (n cg : Nat) (vs vo : Value) (t : Nat) : Obj :=
  .cells #[.slice Ag n cg, .slice (some ⟨a.o, 0, none⟩) n n, .slice (some ⟨a.l, 0, none⟩) n n, .slice (some ⟨a.n, 0, none⟩) n n, vs, vo, .int .i64 (t : Nat), .slice (some ⟨a.f, 0, none⟩) n n] 37 (0, 0)
structure Wk (w : World) (B : Nat) (a : At) (Ag : Option Addr) (n cg : Nat) (vs vo : Value) (s : Kn.St) : Prop where
  self : w.heap[a.P]? = some (walkObj a Ag n cg vs vo s.time)
  ho : w.heap[a.o]? = some (.cells (intsV s.order).toArray 3 (0, 0))
  hl : w.heap[a.l]? = some (.cells (intsV s.low).toArray 3 (0, 0))
  hn : w.heap[a.n]? = some (.cells (boolsV s.on).toArray 4 (0, 0))
  hf : w.heap[a.f]? = some (.cells (intsV s.of).toArray 3 (0, 0))
  st : RowZ w 3 1 vs s.stack.length (intsV s.stack.reverse)
  op : RowZ w 43 2 vo s.opn.length (framesV s.opn.reverse)
  ge : B ≤ a.P ∧ B ≤ a.o ∧ B ≤ a.l ∧ B ≤ a.n ∧ B ≤ a.f
  geS : ∀ b, vs.ownBlock = some b → B ≤ b ∧ b ≠ a.o ∧ b ≠ a.l ∧ b ≠ a.f
  geO : ∀ b, vo.ownBlock = some b → B ≤ b
  apart : a.o ≠ a.l ∧ a.o ≠ a.f ∧ a.l ≠ a.f
end Go.Proofs.Ytgmppddlgbkjmaa
