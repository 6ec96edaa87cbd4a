/- Small words on blocks and rows, without a program's types but int. -/
import Derived.Test.YthnbhcfpfbimgaaRowZ
import Derived.Test.YthnbhcfpfbimgaaTree
import Derived.Laws.Tables
namespace Go.Proofs.Ythnbhcfpfbimgaa
open Go.RowKit

theorem blk_lt {w : World} {g : Nat} {o : Obj} (h : w.heap[g]? = some o) : g < w.heap.size := (Array.getElem?_eq_some_iff.1 h).1
theorem heap_at (w : World) (o : Obj) (k : Nat) : (w.alloc o).heap[k]? = if k = w.heap.size then some o else w.heap[k]? := by
  split
  · rename_i h; rw [h]; exact heap_alloc_new w o
  · rename_i h
    by_cases hk : k < w.heap.size
    · exact Below.heap_alloc w o k hk
    · rw [Array.getElem?_eq_none (by rw [World.size_alloc]; omega), Array.getElem?_eq_none (by omega)]
theorem RowZ.set {w : World} {e : TypeId} {z n g k c : Nat} {xs : List Value} (h : RowZ w e z (.slice (some ⟨g, 0, none⟩) k c) n xs) (j : Nat) (u : Value) : RowZ (w.setCell ⟨g, j, none⟩ u) e z (.slice (some ⟨g, 0, none⟩) k c) n (xs.set j u) := by
  rcases h with ⟨h0, _⟩ | ⟨g', cap, cur, h0, hh, h1, h2, h3, h4, h5⟩
  · cases h0
  · simp only [Value.slice.injEq, Option.some.injEq, Addr.mk.injEq, and_true] at h0
    obtain ⟨rfl, rfl, rfl⟩ := h0
    refine .inr ⟨g, c, _, rfl, heap_setCell_same w g j cur e u hh, h1, by simpa using h2, h3, by rw [List.length_set]; exact h4, ?_⟩
    have : (cur.setIfInBounds j u).toList = cur.toList.set j u := by simp
    rw [this, List.take_set, h5]
def intsV (l : List Nat) : List Value := l.map fun (x : Nat) => Value.int .i64 x
theorem intsV_len (l : List Nat) : (intsV l).length = l.length := by simp [intsV]
theorem intsV_get {l : List Nat} {i : Nat} (h : i < l.length) : (intsV l)[i]? = some (.int .i64 (l.getD i 0 : Nat)) := by
  simp [intsV, List.getD_eq_getElem?_getD, h]

/-- All is as it was, but for the blocks of S and new ones. -/
structure Kp (S : Nat → Prop) (w w' : World) : Prop where
  os : w'.os = w.os
  tape : w'.tape = w.tape
  output : w'.output = w.output
  size : w.heap.size ≤ w'.heap.size
  block : ∀ k, k < w.heap.size → ¬ S k → w'.heap[k]? = w.heap[k]?
section
variable {S S' : Nat → Prop} {w w' w2 : World}
theorem Kp.refl (S : Nat → Prop) (w : World) : Kp S w w := ⟨rfl, rfl, rfl, Nat.le_refl _, fun _ _ _ => rfl⟩
theorem Kp.drew (h : Kp S w w') : Kp S w w'.drew := ⟨h.os, h.tape, h.output, h.size, h.block⟩
theorem Kp.alloc (h : Kp S w w') (o : Obj) : Kp S w (w'.alloc o) :=
  ⟨h.os, h.tape, h.output, by have := h.size; rw [World.size_alloc]; omega, fun k hk hs => (Below.heap_alloc w' o k (Nat.lt_of_lt_of_le hk h.size)).trans (h.block k hk hs)⟩
theorem Kp.setCell (h : Kp S w w') {a : Addr} (ha : S a.block ∨ w.heap.size ≤ a.block) (v : Value) : Kp S w (w'.setCell a v) :=
  ⟨h.os, h.tape, h.output, by have := h.size; simp; omega, fun k hk hs => (Below.heap_setCell w' a v k (fun e => by rcases ha with h1 | h1; (· exact hs (e ▸ h1)); (· omega))).trans (h.block k hk hs)⟩
theorem Kp.grown (h : Kp S w w') {own : Option Nat} (hg : w'.grownBy w2 own) (ho : ∀ b, own = some b → S b ∨ w.heap.size ≤ b) : Kp S w w2 :=
  ⟨hg.os.trans h.os, hg.tape.trans h.tape, hg.output.trans h.output, Nat.le_trans h.size hg.size, fun k hk hs =>
    (hg.block k (Nat.lt_of_lt_of_le hk h.size) (fun e => by rcases ho k e.symm with h1 | h1; (· exact hs h1); (· omega))).trans (h.block k hk hs)⟩
/-- Two steps; the second one may turn what the first one made. -/
theorem Kp.trans (h : Kp S w w') (h2 : Kp S' w' w2) (hs : ∀ b, S' b → S b ∨ w.heap.size ≤ b) : Kp S w w2 :=
  ⟨h2.os.trans h.os, h2.tape.trans h.tape, h2.output.trans h.output, Nat.le_trans h.size h2.size, fun k hk hk2 =>
    (h2.block k (Nat.lt_of_lt_of_le hk h.size) (fun hs' => by rcases hs k hs' with h1 | h1; (· exact hk2 h1); (· omega))).trans (h.block k hk hk2)⟩
theorem Kp.below {B : Nat} (h : Kp S w w') (hB : B ≤ w.heap.size) (hS : ∀ k, S k → B ≤ k) : Below B w w' :=
  ⟨h.os, h.tape, h.output, h.size, fun k hk => h.block k (Nat.lt_of_lt_of_le hk hB) (fun hs => by have := hS k hs; omega)⟩
theorem Kp.of_below (h : Below w.heap.size w w') : Kp S w w' := ⟨h.os, h.tape, h.output, h.size, fun k hk _ => h.block k hk⟩
theorem Kp.mono (h : Kp S w w') (hs : ∀ b, S b → S' b) : Kp S' w w' := ⟨h.os, h.tape, h.output, h.size, fun k hk hn => h.block k hk fun e => hn (hs k e)⟩
end
/-- A slice that is only read from now on: in blocks below B, or of its own kind. -/
structure SlAt (w : World) (B : Nat) (e : TypeId) (z : Nat) (v : Value) (n : Nat) (xs : List Value) : Prop where
  ex : ∃ A c, v = .slice A n c ∧ n ≤ c ∧ c ≤ maxLen ∧ xs.length = n * z ∧ (0 < n → ∃ b off, A = some ⟨b, off, none⟩ ∧ (b < B ∨ ∃ cs, w.heap[b]? = some (.cells cs e (0, 0))) ∧ b < w.heap.size ∧ ∀ (i : Nat) (u : Value), xs[i]? = some u → w.cell? ⟨b, off + i, none⟩ = some u)
theorem SlAt.keep {w w' : World} {B : Nat} {e : TypeId} {z n : Nat} {v : Value} {xs : List Value} (h : SlAt w B e z v n xs) (hs : w.heap.size ≤ w'.heap.size)
    (hk : ∀ b, b < w.heap.size → (b < B ∨ ∃ cs, w.heap[b]? = some (.cells cs e (0, 0))) → w'.heap[b]? = w.heap[b]?) : SlAt w' B e z v n xs := by
  obtain ⟨A, c, h1, h2, h3, h4, h5⟩ := h.ex
  refine ⟨A, c, h1, h2, h3, h4, fun hn => ?_⟩
  obtain ⟨b, off, h6, h7, h8, h9⟩ := h5 hn
  have he := hk b h8 h7
  refine ⟨b, off, h6, ?_, by omega, fun i u hu => (World.cell?_of_block he).trans (h9 i u hu)⟩
  rcases h7 with h7 | ⟨cs, h7⟩
  · exact .inl h7
  · exact .inr ⟨cs, he.trans h7⟩
theorem SlAt.below {w w' : World} {B : Nat} {e : TypeId} {z n : Nat} {v : Value} {xs : List Value} (h : SlAt w B e z v n xs) (hb : Below w.heap.size w w') : SlAt w' B e z v n xs := h.keep hb.size fun b hlt _ => hb.block b hlt
theorem SlAt.nil (w : World) (B : Nat) (e : TypeId) (z : Nat) : SlAt w B e z (.slice none 0 0) 0 [] := ⟨⟨none, 0, rfl, Nat.le_refl _, Nat.zero_le _, by simp, fun h => by omega⟩⟩
theorem SlAt.of_row {w : World} {B : Nat} {e : TypeId} {z n : Nat} {v : Value} {xs : List Value} (h : RowZ w e z v n xs) : SlAt w B e z v n xs := by
  have hl := h.len
  obtain ⟨A, c, rfl, h1, h2⟩ := RowZ.form h
  refine ⟨A, c, rfl, h1, h2, hl, fun hn => ?_⟩
  obtain ⟨g, rfl⟩ := RowZ.addr h hn
  obtain ⟨cur, hc⟩ := RowZ.block h (g := g) rfl
  exact ⟨g, 0, rfl, .inr ⟨cur, hc⟩, blk_lt hc, fun i u hu => by rw [Nat.zero_add, RowZ.cell h (List.getElem?_eq_some_iff.1 hu).1]; exact hu⟩
theorem SlAt.src {P : Program} {w : World} {B : Nat} {e tx e' : TypeId} {z n : Nat} {v : Value} {xs : List Value} (hk : P.underlying tx = some (.slice e')) (h : SlAt w B e z v n xs) (h1 : ∀ u ∈ xs, u.oneCell' = true) : Src P z tx v n xs w := by
  obtain ⟨A, c, rfl, _, _, hl, h5⟩ := h.ex
  by_cases hn : 0 < n
  · obtain ⟨b, off, rfl, _, _, h9⟩ := h5 hn
    exact Src.ofSlice w hk _ n c xs hl (fun j u hu => by rw [add_plain]; exact h9 j u hu) h1
  · obtain rfl : n = 0 := by omega
    obtain rfl : xs = [] := List.eq_nil_of_length_eq_zero (by simpa using hl)
    cases A with
    | none => exact Src.ofNil w hk c
    | some a => exact Src.ofSlice w hk a 0 c [] (by simp) (fun j u hu => by simp at hu) h1
end Go.Proofs.Ythnbhcfpfbimgaa
