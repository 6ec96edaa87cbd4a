/- Cells in memory: the struct's block, the row of words, the row of closures that undo, and what each closure has captured. -/
import Derived.Test.YtkhhofokhjbnbaaRow
import Derived.Test.YtkhhofokhjbnbaaClPlain
namespace Go.Proofs.Ytkhhofokhjbnbaa
open Go.RowKit

def wordsV (ws : List Int) : List Value := ws.map (Value.int .u64)

/-- The closure f undoes the change u of the cells in block P, whose words lie in block gw. -/
def FuncIs (w : World) (P : Nat) (gw : Option Nat) (f : Value) (u : Cl.U) : Prop :=
  match u with
  | .inl n => ∃ bc bn, f = .func (.func 24) #[] #[.pointer (some ⟨bc, 0, none⟩), .pointer (some ⟨bn, 0, none⟩)] ∧
      w.heap[bc]? = some (.cells #[.pointer (some ⟨P, 0, none⟩)] 24 (0, 0)) ∧ w.heap[bn]? = some (.cells #[.int .i64 n] 3 (0, 0))
  | .inr (i, x) => ∃ bw bc bi, f = .func (.func 25) #[] #[.pointer (some ⟨bw, 0, none⟩), .pointer (some ⟨bc, 0, none⟩), .pointer (some ⟨bi, 0, none⟩)] ∧
      w.heap[bw]? = some (.cells #[.int .u64 x] 30 (0, 0)) ∧ gw ≠ some bw ∧
      w.heap[bc]? = some (.cells #[.pointer (some ⟨P, 0, none⟩)] 24 (0, 0)) ∧ w.heap[bi]? = some (.cells #[.int .i64 i] 3 (0, 0))

/-- A block that is there is below the heap's end. -/
theorem blk_lt {w : World} {g : Nat} {o : Obj} (h : w.heap[g]? = some o) : g < w.heap.size := (Array.getElem?_eq_some_iff.1 h).1

theorem FuncIs.keep {w w' : World} {P : Nat} {gw gw' : Option Nat} {f : Value} {u : Cl.U} (h : FuncIs w P gw f u)
    (hk : ∀ k t cs, w.heap[k]? = some (.cells cs t (0, 0)) → (t = 24 ∨ t = 3 ∨ (t = 30 ∧ gw ≠ some k)) → w'.heap[k]? = w.heap[k]?)
    (hn : ∀ k, k < w.heap.size → gw ≠ some k → gw' ≠ some k) : FuncIs w' P gw' f u := by
  match u, h with
  | .inl n, ⟨bc, bn, hf, h1, h2⟩ => exact ⟨bc, bn, hf, (hk _ _ _ h1 (.inl rfl)).trans h1, (hk _ _ _ h2 (.inr (.inl rfl))).trans h2⟩
  | .inr (i, x), ⟨bw, bc, bi, hf, h1, hne, h2, h3⟩ =>
    exact ⟨bw, bc, bi, hf, (hk _ _ _ h1 (.inr (.inr ⟨rfl, hne⟩))).trans h1, hn _ (blk_lt h1) hne, (hk _ _ _ h2 (.inl rfl)).trans h2, (hk _ _ _ h3 (.inr (.inl rfl))).trans h3⟩

/-- The cells in block P: their words, and the closures. -/
structure Cel (w : World) (P : Nat) (vw vu : Value) (ws : List Int) (fs : List Value) (us : List Cl.U) : Prop where
  blk : w.heap[P]? = some (.cells #[vw, vu] 48 (0, 0))
  words : Row w 30 vw (wordsV ws)
  undo : Row w 1 vu fs
  len : fs.length = us.length
  funcs : ∀ (k : Nat) f u, fs[k]? = some f → us[k]? = some u → FuncIs w P vw.ownBlock f u

section
variable {w w2 : World} {P : Nat} {vw vu : Value} {ws : List Int} {fs : List Value} {us : List Cl.U}
theorem Cel.lt (h : Cel w P vw vu ws fs us) : P < w.heap.size := blk_lt h.blk
theorem Cel.cell0 (h : Cel w P vw vu ws fs us) : w.cell? ⟨P, 0, none⟩ = some vw := by rw [cell_block h.blk]; rfl
theorem Cel.cell1 (h : Cel w P vw vu ws fs us) : w.cell? ⟨P, 1, none⟩ = some vu := by rw [cell_block h.blk]; rfl
theorem Cel.free (h : Cel w P vw vu ws fs us) (j : Nat) : w.frozen? ⟨P, j, none⟩ = false := frozen_of_row w P j _ _ h.blk
theorem Cel.neW (h : Cel w P vw vu ws fs us) : vw.ownBlock ≠ some P := h.words.ne_type h.blk (by decide)
theorem Cel.neU (h : Cel w P vw vu ws fs us) : vu.ownBlock ≠ some P := h.undo.ne_type h.blk (by decide)
theorem Cel.neWU (h : Cel w P vw vu ws fs us) : ∀ g, vw.ownBlock = some g → vu.ownBlock ≠ some g := fun g hg => by
  obtain ⟨cur, hc⟩ := h.words.block hg
  exact h.undo.ne_type hc (by decide)
/-- New blocks alone. -/
theorem Cel.below (h : Cel w P vw vu ws fs us) (hb : Below w.heap.size w w2) : Cel w2 P vw vu ws fs us where
  blk := (hb.block P h.lt).trans h.blk
  words := h.words.below hb
  undo := h.undo.below hb
  len := h.len
  funcs := fun k f u h1 h2 => (h.funcs k f u h1 h2).keep (fun k _ _ hk _ => hb.block k (blk_lt hk)) fun _ _ hne => hne

/-- The words lie in another row now: its value goes into the struct. -/
theorem Cel.newWords (h : Cel w P vw vu ws fs us) {v' : Value} {ws' : List Int} (hk : ∀ k, k < w.heap.size → vw.ownBlock ≠ some k → w2.heap[k]? = w.heap[k]?)
    (hr : Row w2 30 v' (Go.Proofs.Ytkhhofokhjbnbaa.wordsV ws')) (ho : v'.ownBlock = vw.ownBlock ∨ ∃ g, v'.ownBlock = some g ∧ w.heap.size ≤ g) : Cel (w2.setCell ⟨P, 0, none⟩ v') P v' vu ws' fs us := by
  have hP : w2.heap[P]? = some (.cells #[vw, vu] 48 (0, 0)) := (hk P h.lt h.neW).trans h.blk
  have hne : v'.ownBlock ≠ some P := hr.ne_type hP (by decide)
  have hU : Row w2 1 vu fs := h.undo.keep fun g hg => hk g (h.undo.lt g hg) fun he => h.neWU g he hg
  have hset : ∀ k, k ≠ P → (w2.setCell ⟨P, 0, none⟩ v').heap[k]? = w2.heap[k]? := fun k hk => Below.heap_setCell _ _ _ _ hk
  refine ⟨?_, hr.far (p := ⟨P, 0, none⟩) hne v', hU.far (p := ⟨P, 0, none⟩) h.neU v', h.len, fun k f u h1 h2 => (h.funcs k f u h1 h2).keep (fun k t cs hc ht => ?_) fun k hk' hn => ?_⟩
  · rw [heap_setCell_same w2 P 0 _ _ v' hP]; rfl
  · have hkP : k ≠ P := fun e => by
      subst e
      have hb := h.blk
      rw [hc] at hb
      simp only [Option.some.injEq, Obj.cells.injEq] at hb
      rcases ht with h | h | h
      · rw [h] at hb; exact absurd hb.2.1 (by decide)
      · rw [h] at hb; exact absurd hb.2.1 (by decide)
      · rw [h.1] at hb; exact absurd hb.2.1 (by decide)
    rw [hset k hkP]
    refine hk k (blk_lt hc) fun he => ?_
    obtain ⟨cur, hcur⟩ := h.words.block he
    rw [hc] at hcur
    simp only [Option.some.injEq, Obj.cells.injEq] at hcur
    rcases ht with h | h | h
    · rw [h] at hcur; exact absurd hcur.2.1 (by decide)
    · rw [h] at hcur; exact absurd hcur.2.1 (by decide)
    · exact h.2 he
  · rcases ho with ho | ⟨g, ho, hg⟩
    · rw [ho]; exact hn
    · rw [ho]; intro he; simp only [Option.some.injEq] at he; omega

/-- The closures lie in another row now. -/
theorem Cel.newUndo (h : Cel w P vw vu ws fs us) {v' : Value} {fs' : List Value} {us' : List Cl.U} (hk : ∀ k, k < w.heap.size → vu.ownBlock ≠ some k → w2.heap[k]? = w.heap[k]?)
    (hr : Row w2 1 v' fs') (hl : fs'.length = us'.length) (hf : ∀ (k : Nat) f u, fs'[k]? = some f → us'[k]? = some u → FuncIs w P vw.ownBlock f u) :
    Cel (w2.setCell ⟨P, 1, none⟩ v') P vw v' ws fs' us' := by
  have hP : w2.heap[P]? = some (.cells #[vw, vu] 48 (0, 0)) := (hk P h.lt h.neU).trans h.blk
  have hne : v'.ownBlock ≠ some P := hr.ne_type hP (by decide)
  have hW : Row w2 30 vw (Go.Proofs.Ytkhhofokhjbnbaa.wordsV ws) := h.words.keep fun g hg => hk g (h.words.lt g hg) (h.neWU g hg)
  have hset : ∀ k, k ≠ P → (w2.setCell ⟨P, 1, none⟩ v').heap[k]? = w2.heap[k]? := fun k hk => Below.heap_setCell _ _ _ _ hk
  refine ⟨?_, hW.far (p := ⟨P, 1, none⟩) h.neW v', hr.far (p := ⟨P, 1, none⟩) hne v', hl, fun k f u h1 h2 => (hf k f u h1 h2).keep (fun k t cs hc ht => ?_) fun k hk' hn => hn⟩
  · rw [heap_setCell_same w2 P 1 _ _ v' hP]; rfl
  · have hkP : k ≠ P := fun e => by
      subst e
      have hb := h.blk
      rw [hc] at hb
      simp only [Option.some.injEq, Obj.cells.injEq] at hb
      rcases ht with h | h | h
      · rw [h] at hb; exact absurd hb.2.1 (by decide)
      · rw [h] at hb; exact absurd hb.2.1 (by decide)
      · rw [h.1] at hb; exact absurd hb.2.1 (by decide)
    rw [hset k hkP]
    refine hk k (blk_lt hc) fun he => ?_
    obtain ⟨cur, hcur⟩ := h.undo.block he
    rw [hc] at hcur
    simp only [Option.some.injEq, Obj.cells.injEq] at hcur
    rcases ht with h | h | h
    · rw [h] at hcur; exact absurd hcur.2.1 (by decide)
    · rw [h] at hcur; exact absurd hcur.2.1 (by decide)
    · rw [h.1] at hcur; exact absurd hcur.2.1 (by decide)

/-- A word is written. -/
theorem Cel.putWord {g c : Nat} (h : Cel w P (.slice (some ⟨g, 0, none⟩) ws.length c) vu ws fs us) (i : Nat) (x : Int) :
    Cel (w.setCell ⟨g, i, none⟩ (.int .u64 x)) P (.slice (some ⟨g, 0, none⟩) ws.length c) vu (ws.set i x) fs us := by
  have hset : ∀ k, k ≠ g → (w.setCell ⟨g, i, none⟩ (.int .u64 x)).heap[k]? = w.heap[k]? := fun k hk => Below.heap_setCell _ _ _ _ hk
  have hg : (Value.slice (some ⟨g, 0, none⟩) ws.length c).ownBlock = some g := rfl
  have hPg : P ≠ g := fun e => h.neW (by rw [e]; rfl)
  have hrow : Row w 30 (.slice (some ⟨g, 0, none⟩) (wordsV ws).length c) (wordsV ws) := by simpa [Go.Proofs.Ytkhhofokhjbnbaa.wordsV] using h.words
  refine ⟨(hset P hPg).trans h.blk, ?_, h.undo.far (p := ⟨g, i, none⟩) (h.neWU g hg) _, h.len, fun k f u h1 h2 => (h.funcs k f u h1 h2).keep (fun k t cs hc ht => hset k fun e => ?_) fun _ _ hn => hn⟩
  · have := hrow.set i (.int .u64 x)
    simpa [Go.Proofs.Ytkhhofokhjbnbaa.wordsV, List.map_set] using this
  · subst e
    obtain ⟨cur, hcur⟩ := h.words.block hg
    rw [hc] at hcur
    simp only [Option.some.injEq, Obj.cells.injEq] at hcur
    rcases ht with h | h | h
    · rw [h] at hcur; exact absurd hcur.2.1 (by decide)
    · rw [h] at hcur; exact absurd hcur.2.1 (by decide)
    · exact h.2 hg
end

/-- Only the block P, the rows gw and gu, and new blocks have turned. -/
structure Fr (w w' : World) (P : Nat) (gw gu : Option Nat) : Prop where
  os : w'.os = w.os
  tape : w'.tape = w.tape
  output : w'.output = w.output
  size : w.heap.size ≤ w'.heap.size
  block : ∀ k, k < w.heap.size → k ≠ P → gw ≠ some k → gu ≠ some k → w'.heap[k]? = w.heap[k]?
def NewOr (w : World) (g g' : Option Nat) : Prop := g' = g ∨ ∃ k, g' = some k ∧ w.heap.size ≤ k

section
variable {a b c : World} {P : Nat} {gw gu gw' gu' gw'' : Option Nat}
theorem NewOr.refl (w : World) (g : Option Nat) : NewOr w g g := .inl rfl
theorem NewOr.trans (h : NewOr a gw gw') (hs : a.heap.size ≤ b.heap.size) (k : NewOr b gw' gw'') : NewOr a gw gw'' := by
  rcases k with k | ⟨g, k, hg⟩
  · rw [k]; exact h
  · exact .inr ⟨g, k, by omega⟩
theorem NewOr.ne (h : NewOr a gw gw') {k : Nat} (hk : k < a.heap.size) (hn : gw ≠ some k) : gw' ≠ some k := by
  rcases h with h | ⟨g, h, hg⟩
  · rw [h]; exact hn
  · rw [h]; intro e; simp only [Option.some.injEq] at e; omega
theorem Fr.refl (w : World) : Fr w w P gw gu := ⟨rfl, rfl, rfl, Nat.le_refl _, fun _ _ _ _ _ => rfl⟩
theorem Fr.of_below (h : Below a.heap.size a b) : Fr a b P gw gu := ⟨h.os, h.tape, h.output, h.size, fun k hk _ _ _ => h.block k hk⟩
theorem Fr.trans (h : Fr a b P gw gu) (h1 : NewOr a gw gw') (h2 : NewOr a gu gu') (k : Fr b c P gw' gu') : Fr a c P gw gu :=
  ⟨k.os.trans h.os, k.tape.trans h.tape, k.output.trans h.output, Nat.le_trans h.size k.size, fun i hi h3 h4 h5 =>
    (k.block i (Nat.lt_of_lt_of_le hi h.size) h3 (h1.ne hi h4) (h2.ne hi h5)).trans (h.block i hi h3 h4 h5)⟩
theorem Fr.setP (h : Fr a b P gw gu) (j : Nat) (u : Value) : Fr a (b.setCell ⟨P, j, none⟩ u) P gw gu :=
  ⟨h.os, h.tape, h.output, by simpa [World.setCell] using h.size, fun i hi h3 h4 h5 => (Below.heap_setCell _ _ _ _ h3).trans (h.block i hi h3 h4 h5)⟩
theorem Fr.below {B : Nat} (h : Fr a b P gw gu) (hP : B ≤ P) (hw : ∀ g, gw = some g → B ≤ g) (hu : ∀ g, gu = some g → B ≤ g) (hB : B ≤ a.heap.size) : Below B a b :=
  ⟨h.os, h.tape, h.output, h.size, fun k hk => h.block k (by omega) (by omega) (fun e => by have := hw k e; omega) (fun e => by have := hu k e; omega)⟩
end

/-- Cells, with their rows' blocks; what was done can be undone. -/
def CelP (w : World) (P : Nat) (gw gu : Option Nat) (ws : List Int) (us : List Cl.U) : Prop :=
  ∃ vw vu fs, Cel w P vw vu ws fs us ∧ vw.ownBlock = gw ∧ vu.ownBlock = gu ∧ Cl.Ok us ws
/-- One call more. -/
def Step (w w' : World) (P : Nat) (gw gu : Option Nat) (ws : List Int) (us : List Cl.U) : Prop :=
  ∃ gw' gu', CelP w' P gw' gu' ws us ∧ Fr w w' P gw gu ∧ NewOr w gw gw' ∧ NewOr w gu gu'
end Go.Proofs.Ytkhhofokhjbnbaa
