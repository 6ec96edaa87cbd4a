/- The walk of Read. -/
import Derived.Test.YtokfcnjmgnmncaaLxSmall2
import Derived.WalkMore
namespace Go.Proofs.Ytokfcnjmgnmncaa
open Go.RowKit

theorem grown_new {w W w2 : World} {own : Option Nat} (hb : Below w.heap.size w W) (hg : W.grownBy w2 own) (h : ∀ g, own = some g → w.heap.size ≤ g) : Below w.heap.size w w2 :=
  ⟨hg.os.trans hb.os, hg.tape.trans hb.tape, hg.output.trans hb.output, Nat.le_trans hb.size hg.size, fun k hk =>
    (hg.block k (Nat.lt_of_lt_of_le hk hb.size) (fun e => by have := h k e.symm; omega)).trans (hb.block k hk)⟩

theorem blk_lt {w : World} {g : Nat} {o : Obj} (h : w.heap[g]? = some o) : g < w.heap.size := (Array.getElem?_eq_some_iff.1 h).1

def tokV (t : Lx.T) : List Value := [.int .u8 t.kind, .string t.text, .int .i64 t.pos]
def toksV (l : List Lx.T) : List Value := l.flatMap tokV
theorem toksV_len (l : List Lx.T) : (toksV l).length = l.length * 3 := by
  induction l with
  | nil => rfl
  | cons t l ih => simp [toksV, tokV] at ih ⊢; omega
theorem toksV_snoc (l : List Lx.T) (t : Lx.T) : toksV (l ++ [t]) = toksV l ++ tokV t := by simp [toksV]
def TokRow (w : World) (v : Value) (l : List Lx.T) : Prop := RowZ w 35 3 v l.length (toksV l)
def faultV : Option Nat → Value
  | none => .agg #[.int .i64 0, .int .i64 0]
  | some i => .agg #[.int .i64 1, .int .i64 i]
theorem info_tok : (Try.prog.info? 35).map (fun i => (i.zero, i.size, i.bytes)) = some (some (.agg #[.int .u8 0, .string ByteArray.empty, .int .i64 0]), 3, 32) := by kernel_rfl

theorem tok_news {w : World} {b : Nat} {t : Lx.T} (h : w.heap[b]? = some (.cells #[.int .u8 t.kind, .string t.text, .int .i64 t.pos] 35 (0, 0))) : Src Try.prog 3 22 (.slice (some ⟨b, 0, none⟩) 1 1) 1 (tokV t) w :=
  Src.ofSlice _ Try.underlying22 ⟨b, 0, none⟩ 1 1 _ rfl (World.news_of_block (cs := #[.int .u8 t.kind, .string t.text, .int .i64 t.pos]) (t := 35) (fr := (0, 0)) h) (by simp [tokV, Value.oneCell'])

theorem fault_put {w : World} {b : Nat} {x0 x1 : Value} (h : w.heap[b]? = some (.cells #[x0, x1] 27 (0, 0))) (u0 u1 : Value) :
    ((w.setCell ⟨b, 0, none⟩ u0).setCell ⟨b, 1, none⟩ u1).cell? ⟨b, 0, none⟩ = some u0 ∧ ((w.setCell ⟨b, 0, none⟩ u0).setCell ⟨b, 1, none⟩ u1).cell? ⟨b, 1, none⟩ = some u1 := by
  have h1 := heap_setCell_same w b 0 _ _ u0 h
  have h2 := heap_setCell_same _ b 1 _ _ u1 h1
  constructor <;> rw [cell_block h2] <;> rfl
theorem fault_below {w wr : World} {b : Nat} (hb : Below w.heap.size w wr) (h : w.heap.size ≤ b) (u0 u1 : Value) : Below w.heap.size w ((wr.setCell ⟨b, 0, none⟩ u0).setCell ⟨b, 1, none⟩ u1) :=
  (hb.setCell (by exact h) u0).setCell (by exact h) u1
theorem fault_row {w : World} {b : Nat} {x0 x1 v : Value} {l : List Lx.T} (h : w.heap[b]? = some (.cells #[x0, x1] 27 (0, 0))) (hr : TokRow w v l) (u0 u1 : Value) : TokRow ((w.setCell ⟨b, 0, none⟩ u0).setCell ⟨b, 1, none⟩ u1) v l := by
  have hne := RowZ.ne_type hr h (by decide)
  exact (RowZ.far hr (p := ⟨b, 0, none⟩) hne u0).far (p := ⟨b, 1, none⟩) hne u1

end Go.Proofs.Ytokfcnjmgnmncaa
