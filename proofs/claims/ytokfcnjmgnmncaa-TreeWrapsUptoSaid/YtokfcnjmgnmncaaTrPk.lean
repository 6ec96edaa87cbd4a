/- What the statement that wraps pieces in a bracket has made by now, in whatever order. -/
import Derived.Test.YtokfcnjmgnmncaaTrFlatR
import Derived.Test.YtokfcnjmgnmncaaTrWrapLaw
import Derived.Test.YtokfcnjmgnmncaaTrReads
import Derived.Test.YtokfcnjmgnmncaaTree
import Derived.Deep.DeepCutAuto
namespace Go.Proofs.Ytokfcnjmgnmncaa
open Go.RowKit

def tkO : Lx.T := ⟨123, ⟨#[123]⟩, -5⟩
def tkE : Lx.T := ⟨125, ⟨#[125]⟩, 7⟩
def cellsO : Obj := .cells #[.int .u8 123, .string ⟨#[123]⟩, .int .i64 (-5)] 35 (0, 0)
def cellsE : Obj := .cells #[.int .u8 125, .string ⟨#[125]⟩, .int .i64 7] 35 (0, 0)
def cellsZ : Obj := .cells #[.int .i64 0, .int .i64 0] 27 (0, 0)
structure Pk (wB x : World) (l : List Lx.T) (n : Nat) (b1 b5 b11 : Option Nat) (s58 s61 : Option (Option Addr × Nat)) : Prop where
  below : Below wB.heap.size wB x
  f1 : ∀ b, b1 = some b → wB.heap.size ≤ b ∧ x.heap[b]? = some cellsO
  f5 : ∀ b, b5 = some b → wB.heap.size ≤ b ∧ x.heap[b]? = some cellsE
  f11 : ∀ b, b11 = some b → wB.heap.size ≤ b ∧ x.heap[b]? = some cellsZ
  apart : ∀ b b', b1 = some b → b5 = some b' → b ≠ b'
  f58 : ∀ A c, s58 = some (A, c) → RowZ x 35 3 (.slice A (1 + n) c) (1 + n) (toksV (tkO :: l)) ∧ ∀ g, (Value.slice A (1 + n) c).ownBlock = some g → wB.heap.size ≤ g ∧ ∀ b', b5 = some b' → g ≠ b'
  f61 : ∀ A c, s61 = some (A, c) → RowZ x 35 3 (.slice A (1 + n + 1) c) (1 + n + 1) (toksV (tkO :: l ++ [tkE])) ∧ ∀ g, (Value.slice A (1 + n + 1) c).ownBlock = some g → wB.heap.size ≤ g

section
variable {wB x x' : World} {l : List Lx.T} {n : Nat} {b1 b5 b11 : Option Nat} {s58 s61 : Option (Option Addr × Nat)}
theorem Pk.start (wB : World) (l : List Lx.T) (n : Nat) : Pk wB wB.drew l n none none none none none :=
  ⟨below_drewN (Below.refl _ _) 1, fun b h => by (cases h), fun b h => by (cases h), fun b h => by (cases h), fun b b' h => by (cases h), fun A c h => by (cases h), fun A c h => by (cases h)⟩
theorem Pk.step (h : Pk wB x l n b1 b5 b11 s58 s61) (hb : Below x.heap.size x x') : Pk wB x' l n b1 b5 b11 s58 s61 :=
  ⟨h.below.trans (hb.mono h.below.size), fun b e => ⟨(h.f1 b e).1, (hb.block b (blk_lt (h.f1 b e).2)).trans (h.f1 b e).2⟩, fun b e => ⟨(h.f5 b e).1, (hb.block b (blk_lt (h.f5 b e).2)).trans (h.f5 b e).2⟩,
    fun b e => ⟨(h.f11 b e).1, (hb.block b (blk_lt (h.f11 b e).2)).trans (h.f11 b e).2⟩, h.apart, fun A c e => ⟨RowZ.below (h.f58 A c e).1 hb, (h.f58 A c e).2⟩, fun A c e => ⟨RowZ.below (h.f61 A c e).1 hb, (h.f61 A c e).2⟩⟩
theorem Pk.one (h : Pk wB x l n none b5 b11 s58 s61) : Pk wB (x.alloc cellsO) l n (some x.heap.size) b5 b11 s58 s61 := by
  have k := h.step (below_laid x cellsO)
  refine ⟨k.below, fun b e => ?_, k.f5, k.f11, fun b b' e e' => ?_, k.f58, k.f61⟩
  · cases e; exact ⟨h.below.size, heap_alloc_new x _⟩
  · cases e
    have := blk_lt (h.f5 b' e').2
    omega
theorem Pk.five (h : Pk wB x l n b1 none b11 s58 s61) : Pk wB (x.alloc cellsE) l n b1 (some x.heap.size) b11 s58 s61 := by
  have k := h.step (below_laid x cellsE)
  refine ⟨k.below, k.f1, fun b e => ?_, k.f11, fun b b' e e' => ?_, fun A c e => ⟨(k.f58 A c e).1, fun g hg => ⟨((k.f58 A c e).2 g hg).1, fun b' e' => ?_⟩⟩, k.f61⟩
  · cases e; exact ⟨h.below.size, heap_alloc_new x _⟩
  · cases e'
    have := blk_lt (h.f1 b e).2
    omega
  · cases e'
    have := RowZ.lt (h.f58 A c e).1 g hg
    omega
theorem Pk.eleven (h : Pk wB x l n b1 b5 none s58 s61) : Pk wB (x.alloc cellsZ) l n b1 b5 (some x.heap.size) s58 s61 := by
  have k := h.step (below_laid x cellsZ)
  refine ⟨k.below, k.f1, k.f5, fun b e => ?_, k.apart, k.f58, k.f61⟩
  cases e
  exact ⟨h.below.size, heap_alloc_new x _⟩
theorem Pk.row1 {b : Nat} (h : Pk wB x l n (some b) b5 b11 s58 s61) : RowZ x 35 3 (.slice (some ⟨b, 0, none⟩) 1 1) 1 (tokV tkO) :=
  .inr ⟨b, 1, _, rfl, (h.f1 b rfl).2, Nat.le_refl _, by simp, by decide, rfl, rfl⟩
theorem Pk.src5 {b : Nat} (h : Pk wB x l n b1 (some b) b11 s58 s61) : Src Try.prog 3 22 (.slice (some ⟨b, 0, none⟩) 1 1) 1 (tokV tkE) x := tok_news (t := tkE) (h.f5 b rfl).2
theorem toks_ne_fault {v : Value} {m : Nat} {xs : List Value} (h : RowZ x 35 3 v m xs) {b : Nat} (hb : x.heap[b]? = some cellsZ) : v.ownBlock ≠ some b := RowZ.ne_type h hb (by decide)
theorem Pk.three {b c : Nat} {A : Option Addr} (h : Pk wB x l n (some b) b5 b11 none none) (hrow : RowZ x' 35 3 (.slice A (1 + n) c) (1 + n) (tokV tkO ++ toksV l))
    (hgr : x.grownBy x' (Value.slice (some ⟨b, 0, none⟩) 1 1).ownBlock) (hob : (Value.slice A (1 + n) c).ownBlock = (Value.slice (some ⟨b, 0, none⟩) 1 1).ownBlock ∨ (Value.slice A (1 + n) c).ownBlock = some x.heap.size) :
    Pk wB x' l n none b5 b11 (some (A, c)) none := by
  have hself : (Value.slice (some ⟨b, 0, none⟩) 1 1).ownBlock = some b := rfl
  refine ⟨grown_new h.below hgr (fun g hg => by rw [hself] at hg; cases hg; exact (h.f1 b rfl).1), fun b' e => by (cases e), fun b' e => ⟨(h.f5 b' e).1, ?_⟩, fun b' e => ⟨(h.f11 b' e).1, ?_⟩, fun b' b'' e => by (cases e), fun A' c' e => ?_, fun A' c' e => by (cases e)⟩
  · rw [hgr.block b' (blk_lt (h.f5 b' e).2) (fun he => h.apart b b' rfl e (by rw [hself] at he; cases he; rfl))]
    exact (h.f5 b' e).2
  · rw [hgr.block b' (blk_lt (h.f11 b' e).2) (fun he => toks_ne_fault h.row1 (h.f11 b' e).2 he.symm)]
    exact (h.f11 b' e).2
  · simp only [Option.some.injEq, Prod.mk.injEq] at e
    obtain ⟨rfl, rfl⟩ := e
    refine ⟨by rw [show toksV (tkO :: l) = tokV tkO ++ toksV l by simp [toksV]]; exact hrow, fun g hg => ?_⟩
    rcases hob with h' | h'
    · rw [h', hself] at hg
      cases hg
      exact ⟨(h.f1 b rfl).1, fun b' e' => h.apart b b' rfl e'⟩
    · rw [h'] at hg
      cases hg
      exact ⟨h.below.size, fun b' e' => by have := blk_lt (h.f5 b' e').2; omega⟩
theorem Pk.six {b c c' : Nat} {A A' : Option Addr} (h : Pk wB x l n none (some b) b11 (some (A, c)) none) (hrow : RowZ x' 35 3 (.slice A' (1 + n + 1) c') (1 + n + 1) (toksV (tkO :: l) ++ tokV tkE))
    (hgr : x.grownBy x' (Value.slice A (1 + n) c).ownBlock) (hob : (Value.slice A' (1 + n + 1) c').ownBlock = (Value.slice A (1 + n) c).ownBlock ∨ (Value.slice A' (1 + n + 1) c').ownBlock = some x.heap.size) :
    Pk wB x' l n none none b11 none (some (A', c')) := by
  obtain ⟨h1, h2⟩ := h.f58 A c rfl
  refine ⟨grown_new h.below hgr (fun g hg => (h2 g hg).1), fun b' e => by (cases e), fun b' e => by (cases e), fun b' e => ⟨(h.f11 b' e).1, ?_⟩, fun b' b'' e => by (cases e), fun A' c' e => by (cases e), fun A2 c2 e => ?_⟩
  · rw [hgr.block b' (blk_lt (h.f11 b' e).2) (fun he => toks_ne_fault h1 (h.f11 b' e).2 he.symm)]
    exact (h.f11 b' e).2
  · simp only [Option.some.injEq, Prod.mk.injEq] at e
    obtain ⟨rfl, rfl⟩ := e
    refine ⟨by rw [show toksV (tkO :: l ++ [tkE]) = toksV (tkO :: l) ++ tokV tkE by simp [toksV]]; exact hrow, fun g hg => ?_⟩
    rcases hob with h' | h'
    · rw [h'] at hg; exact (h2 g hg).1
    · rw [h'] at hg
      cases hg
      exact h.below.size
theorem Pk.row58 {A : Option Addr} {c : Nat} (h : Pk wB x l n b1 b5 b11 (some (A, c)) s61) : RowZ x 35 3 (.slice A (1 + n) c) (1 + n) (toksV (tkO :: l)) := (h.f58 A c rfl).1
theorem Pk.has61 {A : Option Addr} {c : Nat} (h : Pk wB x l n b1 b5 b11 s58 (some (A, c))) (hn : l.length = n) : HasT x x.heap.size A (1 + n + 1) (tkO :: l ++ [tkE]) := by
  have := (h.f61 A c rfl).1
  have e : (tkO :: l ++ [tkE]).length = 1 + n + 1 := by simp; omega
  rw [← e] at this ⊢
  exact HasT.of_row this
theorem Pk.old {p : Nat} {ob : Obj} (h : Pk wB x l n b1 b5 b11 s58 s61) (hp : wB.heap[p]? = some ob) : x.heap[p]? = some ob := (h.below.block p (blk_lt hp)).trans hp
end
end Go.Proofs.Ytokfcnjmgnmncaa
