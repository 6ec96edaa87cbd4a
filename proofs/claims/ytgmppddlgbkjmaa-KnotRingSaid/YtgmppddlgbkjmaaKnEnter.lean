/- The walk of enter: a node is met. -/
import Derived.Test.YtgmppddlgbkjmaaKnMem
namespace Go.Proofs.Ytgmppddlgbkjmaa
open Go.RowKit

theorem arr_set (xs : List Value) (i : Nat) (v : Value) : xs.toArray.setIfInBounds i v = (xs.set i v).toArray := by simp
section
variable {w : World} {B : Nat} {a : At} {Ag : Option Addr} {n cg : Nat} {vs vo : Value} {s : Kn.St}
/-- The cells of the walk itself. -/
theorem Wk.cells (h : Wk w B a Ag n cg vs vo s) : w.cell? ⟨a.P, 0, none⟩ = some (.slice Ag n cg) ∧ w.cell? ⟨a.P, 1, none⟩ = some (.slice (some ⟨a.o, 0, none⟩) n n) ∧ w.cell? ⟨a.P, 2, none⟩ = some (.slice (some ⟨a.l, 0, none⟩) n n) ∧
    w.cell? ⟨a.P, 3, none⟩ = some (.slice (some ⟨a.n, 0, none⟩) n n) ∧ w.cell? ⟨a.P, 4, none⟩ = some vs ∧ w.cell? ⟨a.P, 5, none⟩ = some vo ∧ w.cell? ⟨a.P, 6, none⟩ = some (.int .i64 (s.time : Nat)) ∧ w.cell? ⟨a.P, 7, none⟩ = some (.slice (some ⟨a.f, 0, none⟩) n n) := by
  have h0 := h.self
  unfold walkObj at h0
  refine ⟨?_, ?_, ?_, ?_, ?_, ?_, ?_, ?_⟩ <;> (rw [cell_block h0]; rfl)
theorem Wk.free (h : Wk w B a Ag n cg vs vo s) (j : Nat) : w.frozen? ⟨a.P, j, none⟩ = false := by
  have h0 := h.self
  unfold walkObj at h0
  exact frozen_of_row _ a.P j _ _ h0
theorem Wk.order (h : Wk w B a Ag n cg vs vo s) {i : Nat} (hi : i < s.order.length) : w.cell? ⟨a.o, i, none⟩ = some (.int .i64 (s.order.getD i 0 : Nat)) := by
  rw [cell_block h.ho, List.getElem?_toArray]; exact intsV_get hi
theorem Wk.low (h : Wk w B a Ag n cg vs vo s) {i : Nat} (hi : i < s.low.length) : w.cell? ⟨a.l, i, none⟩ = some (.int .i64 (s.low.getD i 0 : Nat)) := by
  rw [cell_block h.hl, List.getElem?_toArray]; exact intsV_get hi
theorem Wk.onn (h : Wk w B a Ag n cg vs vo s) {i : Nat} (hi : i < s.on.length) : w.cell? ⟨a.n, i, none⟩ = some (.bool (s.on.getD i false)) := by
  rw [cell_block h.hn, List.getElem?_toArray]; exact boolsV_get hi
/-- Blocks of unlike kinds are not one. -/
theorem Wk.ne (h : Wk w B a Ag n cg vs vo s) : a.P ≠ a.o ∧ a.P ≠ a.l ∧ a.P ≠ a.n ∧ a.P ≠ a.f ∧ a.n ≠ a.o ∧ a.n ≠ a.l ∧ a.n ≠ a.f := by
  have h0 := h.self
  unfold walkObj at h0
  exact ⟨blocks_ne h0 h.ho (by decide), blocks_ne h0 h.hl (by decide), blocks_ne h0 h.hn (by decide), blocks_ne h0 h.hf (by decide), blocks_ne h.hn h.ho (by decide), blocks_ne h.hn h.hl (by decide), blocks_ne h.hn h.hf (by decide)⟩
theorem Wk.neS (h : Wk w B a Ag n cg vs vo s) : vs.ownBlock ≠ some a.P ∧ vs.ownBlock ≠ some a.n := by
  have h0 := h.self
  unfold walkObj at h0
  exact ⟨RowZ.ne_type h.st h0 (by decide), RowZ.ne_type h.st h.hn (by decide)⟩
theorem Wk.neO (h : Wk w B a Ag n cg vs vo s) : vo.ownBlock ≠ some a.P ∧ vo.ownBlock ≠ some a.n ∧ vo.ownBlock ≠ some a.o ∧ vo.ownBlock ≠ some a.l ∧ vo.ownBlock ≠ some a.f := by
  have h0 := h.self
  unfold walkObj at h0
  exact ⟨RowZ.ne_type h.op h0 (by decide), RowZ.ne_type h.op h.hn (by decide), RowZ.ne_type h.op h.ho (by decide), RowZ.ne_type h.op h.hl (by decide), RowZ.ne_type h.op h.hf (by decide)⟩
theorem Wk.neSO (h : Wk w B a Ag n cg vs vo s) : ∀ b, vs.ownBlock = some b → vo.ownBlock ≠ some b := fun b hb he => by
  obtain ⟨cur, hc⟩ := RowZ.block h.op he
  exact RowZ.ne_type h.st hc (by decide) hb
theorem Wk.below {w' : World} (h : Wk w B a Ag n cg vs vo s) (hb : Below w.heap.size w w') : Wk w' B a Ag n cg vs vo s :=
  ⟨(hb.block _ (blk_lt h.self)).trans h.self, (hb.block _ (blk_lt h.ho)).trans h.ho, (hb.block _ (blk_lt h.hl)).trans h.hl, (hb.block _ (blk_lt h.hn)).trans h.hn, (hb.block _ (blk_lt h.hf)).trans h.hf,
    RowZ.below h.st hb, RowZ.below h.op hb, h.ge, h.geS, h.geO, h.apart⟩

/-- A field of the walk itself is set. -/
theorem Wk.setTime (h : Wk w B a Ag n cg vs vo s) (t : Nat) : Wk (w.setCell ⟨a.P, 6, none⟩ (.int .i64 (t : Nat))) B a Ag n cg vs vo { s with time := t } := by
  obtain ⟨n1, n2, n3, n4, _⟩ := h.ne
  have h0 := h.self
  unfold walkObj at h0
  refine ⟨?_, ?_, ?_, ?_, ?_, RowZ.far h.st (p := ⟨a.P, 6, none⟩) h.neS.1 _, RowZ.far h.op (p := ⟨a.P, 6, none⟩) h.neO.1 _, h.ge, h.geS, h.geO, h.apart⟩
  · rw [heap_setCell_same w a.P 6 _ _ _ h0]; rfl
  · rw [Below.heap_setCell w ⟨a.P, 6, none⟩ _ a.o (fun e => n1 e.symm)]; exact h.ho
  · rw [Below.heap_setCell w ⟨a.P, 6, none⟩ _ a.l (fun e => n2 e.symm)]; exact h.hl
  · rw [Below.heap_setCell w ⟨a.P, 6, none⟩ _ a.n (fun e => n3 e.symm)]; exact h.hn
  · rw [Below.heap_setCell w ⟨a.P, 6, none⟩ _ a.f (fun e => n4 e.symm)]; exact h.hf
theorem Wk.setOrder (h : Wk w B a Ag n cg vs vo s) (i x : Nat) : Wk (w.setCell ⟨a.o, i, none⟩ (.int .i64 (x : Nat))) B a Ag n cg vs vo { s with order := s.order.set i x } := by
  obtain ⟨n1, n2, n3, n4, n5, n6, n7⟩ := h.ne
  obtain ⟨a1, a2, a3⟩ := h.apart
  refine ⟨?_, ?_, ?_, ?_, ?_, RowZ.far h.st (p := ⟨a.o, i, none⟩) (fun e => (h.geS _ e).2.1 rfl) _, RowZ.far h.op (p := ⟨a.o, i, none⟩) h.neO.2.2.1 _, h.ge, h.geS, h.geO, h.apart⟩
  · rw [Below.heap_setCell w ⟨a.o, i, none⟩ _ a.P n1]; exact h.self
  · rw [heap_setCell_same w a.o i _ _ _ h.ho, intsV_set]; simp
  · rw [Below.heap_setCell w ⟨a.o, i, none⟩ _ a.l (fun e => a1 e.symm)]; exact h.hl
  · rw [Below.heap_setCell w ⟨a.o, i, none⟩ _ a.n n5]; exact h.hn
  · rw [Below.heap_setCell w ⟨a.o, i, none⟩ _ a.f (fun e => a2 e.symm)]; exact h.hf
theorem Wk.setLow (h : Wk w B a Ag n cg vs vo s) (i x : Nat) : Wk (w.setCell ⟨a.l, i, none⟩ (.int .i64 (x : Nat))) B a Ag n cg vs vo { s with low := s.low.set i x } := by
  obtain ⟨n1, n2, n3, n4, n5, n6, n7⟩ := h.ne
  obtain ⟨a1, a2, a3⟩ := h.apart
  refine ⟨?_, ?_, ?_, ?_, ?_, RowZ.far h.st (p := ⟨a.l, i, none⟩) (fun e => (h.geS _ e).2.2.1 rfl) _, RowZ.far h.op (p := ⟨a.l, i, none⟩) h.neO.2.2.2.1 _, h.ge, h.geS, h.geO, h.apart⟩
  · rw [Below.heap_setCell w ⟨a.l, i, none⟩ _ a.P n2]; exact h.self
  · rw [Below.heap_setCell w ⟨a.l, i, none⟩ _ a.o a1]; exact h.ho
  · rw [heap_setCell_same w a.l i _ _ _ h.hl, intsV_set]; simp
  · rw [Below.heap_setCell w ⟨a.l, i, none⟩ _ a.n n6]; exact h.hn
  · rw [Below.heap_setCell w ⟨a.l, i, none⟩ _ a.f (fun e => a3 e.symm)]; exact h.hf
theorem Wk.setOf (h : Wk w B a Ag n cg vs vo s) (i x : Nat) : Wk (w.setCell ⟨a.f, i, none⟩ (.int .i64 (x : Nat))) B a Ag n cg vs vo { s with of := s.of.set i x } := by
  obtain ⟨n1, n2, n3, n4, n5, n6, n7⟩ := h.ne
  obtain ⟨a1, a2, a3⟩ := h.apart
  refine ⟨?_, ?_, ?_, ?_, ?_, RowZ.far h.st (p := ⟨a.f, i, none⟩) (fun e => (h.geS _ e).2.2.2 rfl) _, RowZ.far h.op (p := ⟨a.f, i, none⟩) h.neO.2.2.2.2 _, h.ge, h.geS, h.geO, h.apart⟩
  · rw [Below.heap_setCell w ⟨a.f, i, none⟩ _ a.P n4]; exact h.self
  · rw [Below.heap_setCell w ⟨a.f, i, none⟩ _ a.o a2]; exact h.ho
  · rw [Below.heap_setCell w ⟨a.f, i, none⟩ _ a.l a3]; exact h.hl
  · rw [Below.heap_setCell w ⟨a.f, i, none⟩ _ a.n n7]; exact h.hn
  · rw [heap_setCell_same w a.f i _ _ _ h.hf, intsV_set]; simp
theorem Wk.setOn (h : Wk w B a Ag n cg vs vo s) (i : Nat) (x : Bool) : Wk (w.setCell ⟨a.n, i, none⟩ (.bool x)) B a Ag n cg vs vo { s with on := s.on.set i x } := by
  obtain ⟨n1, n2, n3, n4, n5, n6, n7⟩ := h.ne
  refine ⟨?_, ?_, ?_, ?_, ?_, RowZ.far h.st (p := ⟨a.n, i, none⟩) h.neS.2 _, RowZ.far h.op (p := ⟨a.n, i, none⟩) h.neO.2.1 _, h.ge, h.geS, h.geO, h.apart⟩
  · rw [Below.heap_setCell w ⟨a.n, i, none⟩ _ a.P n3]; exact h.self
  · rw [Below.heap_setCell w ⟨a.n, i, none⟩ _ a.o (fun e => n5 e.symm)]; exact h.ho
  · rw [Below.heap_setCell w ⟨a.n, i, none⟩ _ a.l (fun e => n6 e.symm)]; exact h.hl
  · rw [heap_setCell_same w a.n i _ _ _ h.hn, boolsV_set]; simp
  · rw [Below.heap_setCell w ⟨a.n, i, none⟩ _ a.f (fun e => n7 e.symm)]; exact h.hf
/-- Another stack, or another row of frames: the field is set, and the row stands in memory. -/
theorem Wk.newStack {w' : World} {vs' : Value} {st : List Nat} (h : Wk w B a Ag n cg vs vo s) (hgr : w.grownBy w' vs.ownBlock) (hr : RowZ w' 3 1 vs' st.length (intsV st.reverse))
    (hob : ∀ b, vs'.ownBlock = some b → vs.ownBlock = some b ∨ b = w.heap.size) (hB : B ≤ w.heap.size) : Wk (w'.setCell ⟨a.P, 4, none⟩ vs') B a Ag n cg vs' vo { s with stack := st } := by
  obtain ⟨n1, n2, n3, n4, n5, n6, n7⟩ := h.ne
  have hk : ∀ b, b < w.heap.size → vs.ownBlock ≠ some b → w'.heap[b]? = w.heap[b]? := fun b hb hne => hgr.block b hb (fun e => hne e.symm)
  have hP := (hk a.P (blk_lt h.self) h.neS.1).trans h.self
  unfold walkObj at hP
  have hset : ∀ b, b ≠ a.P → (w'.setCell ⟨a.P, 4, none⟩ vs').heap[b]? = w'.heap[b]? := fun b hb => Below.heap_setCell _ _ _ _ hb
  have hvs : vs'.ownBlock ≠ some a.P := RowZ.ne_type hr hP (by decide)
  refine ⟨?_, ?_, ?_, ?_, ?_, RowZ.far hr (p := ⟨a.P, 4, none⟩) hvs _, ?_, h.ge, fun b hb => ?_, h.geO, h.apart⟩
  · rw [heap_setCell_same w' a.P 4 _ _ _ hP]; rfl
  · rw [hset _ n1.symm, hk _ (blk_lt h.ho) (fun e => (h.geS _ e).2.1 rfl)]; exact h.ho
  · rw [hset _ n2.symm, hk _ (blk_lt h.hl) (fun e => (h.geS _ e).2.2.1 rfl)]; exact h.hl
  · rw [hset _ n3.symm, hk _ (blk_lt h.hn) h.neS.2]; exact h.hn
  · rw [hset _ n4.symm, hk _ (blk_lt h.hf) (fun e => (h.geS _ e).2.2.2 rfl)]; exact h.hf
  · refine h.op.keep fun b hb => ?_
    rw [hset _ (fun e => h.neO.1 (by rw [hb, e])), hk _ (RowZ.lt h.op b hb) (fun e => h.neSO b e hb)]
  · rcases hob b hb with e | e
    · exact h.geS b e
    · subst e
      exact ⟨hB, fun e => absurd (blk_lt h.ho) (by omega), fun e => absurd (blk_lt h.hl) (by omega), fun e => absurd (blk_lt h.hf) (by omega)⟩
theorem Wk.newOpen {w' : World} {vo' : Value} {op : List (Nat × Nat)} (h : Wk w B a Ag n cg vs vo s) (hgr : w.grownBy w' vo.ownBlock) (hr : RowZ w' 43 2 vo' op.length (framesV op.reverse))
    (hob : ∀ b, vo'.ownBlock = some b → vo.ownBlock = some b ∨ b = w.heap.size) (hB : B ≤ w.heap.size) : Wk (w'.setCell ⟨a.P, 5, none⟩ vo') B a Ag n cg vs vo' { s with opn := op } := by
  obtain ⟨n1, n2, n3, n4, n5, n6, n7⟩ := h.ne
  obtain ⟨o1, o2, o3, o4, o5⟩ := h.neO
  have hk : ∀ b, b < w.heap.size → vo.ownBlock ≠ some b → w'.heap[b]? = w.heap[b]? := fun b hb hne => hgr.block b hb (fun e => hne e.symm)
  have hP := (hk a.P (blk_lt h.self) o1).trans h.self
  unfold walkObj at hP
  have hset : ∀ b, b ≠ a.P → (w'.setCell ⟨a.P, 5, none⟩ vo').heap[b]? = w'.heap[b]? := fun b hb => Below.heap_setCell _ _ _ _ hb
  have hvo : vo'.ownBlock ≠ some a.P := RowZ.ne_type hr hP (by decide)
  refine ⟨?_, ?_, ?_, ?_, ?_, ?_, RowZ.far hr (p := ⟨a.P, 5, none⟩) hvo _, h.ge, h.geS, fun b hb => ?_, h.apart⟩
  · rw [heap_setCell_same w' a.P 5 _ _ _ hP]; rfl
  · rw [hset _ n1.symm, hk _ (blk_lt h.ho) o3]; exact h.ho
  · rw [hset _ n2.symm, hk _ (blk_lt h.hl) o4]; exact h.hl
  · rw [hset _ n3.symm, hk _ (blk_lt h.hn) o2]; exact h.hn
  · rw [hset _ n4.symm, hk _ (blk_lt h.hf) o5]; exact h.hf
  · refine h.st.keep fun b hb => ?_
    rw [hset _ (fun e => h.neS.1 (by rw [hb, e])), hk _ (RowZ.lt h.st b hb) (h.neSO b hb)]
  · rcases hob b hb with e | e
    · exact h.geO b e
    · subst e; exact hB
end
end Go.Proofs.Ytgmppddlgbkjmaa
