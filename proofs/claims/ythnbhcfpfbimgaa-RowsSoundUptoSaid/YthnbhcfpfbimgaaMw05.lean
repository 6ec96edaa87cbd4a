/- Texts put together: RwPair RwFind. -/
import Derived.Test.YthnbhcfpfbimgaaMw04
/- The walk of pair: one equation more. -/
namespace Go.Proofs.Ythnbhcfpfbimgaa
open Go.RowKit
open Rw (El At Fld Lk Eqn U T W64)

def atC (a : At) : Array Value := #[.int .i64 a.var, .int .u64 a.el.e0, .int .u64 a.el.e1, .int .u64 a.el.e2, .int .u64 a.el.e3, .int .u64 a.el.e4, .int .u64 a.el.e5, .int .u64 a.el.e6, .int .u64 a.el.e7]
theorem info_eq : (Try.prog.info? 52).map (fun i => (i.zero, i.size, i.bytes)) = some (some (.agg #[.int .i64 0, .int .u64 0, .int .u64 0, .int .u64 0, .int .u64 0, .int .u64 0, .int .u64 0, .int .u64 0, .int .u64 0, .int .i64 0, .int .u64 0, .int .u64 0, .int .u64 0, .int .u64 0, .int .u64 0, .int .u64 0, .int .u64 0, .int .u64 0, .int .u64 0]), 19, 152) := by kernel_rfl
theorem eq_news {w : World} {g : Nat} {a b : At} {y : W64} (h : w.heap[g]? = some (.cells #[.int .i64 a.var, .int .u64 a.el.e0, .int .u64 a.el.e1, .int .u64 a.el.e2, .int .u64 a.el.e3, .int .u64 a.el.e4, .int .u64 a.el.e5, .int .u64 a.el.e6, .int .u64 a.el.e7, .int .i64 b.var, .int .u64 b.el.e0, .int .u64 b.el.e1, .int .u64 b.el.e2, .int .u64 b.el.e3, .int .u64 b.el.e4, .int .u64 b.el.e5, .int .u64 b.el.e6, .int .u64 b.el.e7, .int .u64 (y.toNat : Nat)] 52 (0, 0))) :
    Src Try.prog 19 45 (.slice (some ⟨g, 0, none⟩) 1 1) 1 [.int .i64 a.var, .int .u64 a.el.e0, .int .u64 a.el.e1, .int .u64 a.el.e2, .int .u64 a.el.e3, .int .u64 a.el.e4, .int .u64 a.el.e5, .int .u64 a.el.e6, .int .u64 a.el.e7, .int .i64 b.var, .int .u64 b.el.e0, .int .u64 b.el.e1, .int .u64 b.el.e2, .int .u64 b.el.e3, .int .u64 b.el.e4, .int .u64 b.el.e5, .int .u64 b.el.e6, .int .u64 b.el.e7, .int .u64 (y.toNat : Nat)] w :=
  Src.ofSlice _ Try.underlying45 ⟨g, 0, none⟩ 1 1 _ rfl (World.news_of_block (cs := #[.int .i64 a.var, .int .u64 a.el.e0, .int .u64 a.el.e1, .int .u64 a.el.e2, .int .u64 a.el.e3, .int .u64 a.el.e4, .int .u64 a.el.e5, .int .u64 a.el.e6, .int .u64 a.el.e7, .int .i64 b.var, .int .u64 b.el.e0, .int .u64 b.el.e1, .int .u64 b.el.e2, .int .u64 b.el.e3, .int .u64 b.el.e4, .int .u64 b.el.e5, .int .u64 b.el.e6, .int .u64 b.el.e7, .int .u64 (y.toNat : Nat)]) (t := 52) (fr := (0, 0)) h) (by simp [Value.oneCell'])
theorem eqnsV_snoc (l : List Eqn) (e : Eqn) : eqnsV (l ++ [e]) = eqnsV l ++ eqnV e := by simp [eqnsV]
theorem boxes3 (w : World) (o1 o2 o3 : Obj) : Below w.heap.size w (((w.alloc o1).alloc o2).alloc o3) ∧
    (((w.alloc o1).alloc o2).alloc o3).heap[w.heap.size]? = some o1 ∧ (((w.alloc o1).alloc o2).alloc o3).heap[w.heap.size + 1]? = some o2 ∧ (((w.alloc o1).alloc o2).alloc o3).heap[w.heap.size + 1 + 1]? = some o3 ∧
    (((w.alloc o1).alloc o2).alloc o3).heap.size = w.heap.size + 3 := by
  refine ⟨((below_laid w _).alloc (by simp) _).alloc (by simp; omega) _, ?_, ?_, ?_, by simp⟩
  · rw [heap_at, if_neg (by simp; omega), heap_at, if_neg (by rw [World.size_alloc]; omega), heap_at, if_pos rfl]
  · rw [heap_at, if_neg (by simp), heap_at, if_pos (by rw [World.size_alloc])]
  · rw [heap_at, if_pos (by simp)]
/-- All that the pair's region needs. -/
structure PairF (w' : World) (P n0 : Nat) (a b : At) (v : Value) : Prop where
  box : w'.cell? ⟨n0, 0, none⟩ = some (.pointer (some ⟨P, 0, none⟩))
  eqs : w'.cell? ⟨P, 4, none⟩ = some v
  a : ∀ j : Nat, j < 9 → w'.cell? ⟨n0 + 1, j, none⟩ = (atC a)[j]?
  b : ∀ j : Nat, j < 9 → w'.cell? ⟨n0 + 1 + 1, j, none⟩ = (atC b)[j]?
set_option maxRecDepth 100000 in
set_option maxHeartbeats 4000000 in
theorem pair_any (P B : Nat) (g : Bl) (s : T) (a b : At) (y : W64) (w : World) (h : Tb w B P g s) (hB : B ≤ w.heap.size) (hn : s.eqs.length ≤ 1000000000) (hu : s.undo.length ≤ 1000000000) :
    Calls Try.prog 86 #[.pointer (some ⟨P, 0, none⟩), .agg (atC a), .agg (atC b), whyV y] w fun e w' => RetS (.tuple #[]) w B P g (s.pair a b y) e w' := by
  have hmf := @makes Try.prog
  obtain ⟨i1, hj, hy0, hy1, hy2⟩ := info_parts info_eq
  obtain ⟨hb3, e0, e1, e2, hs3⟩ := boxes3 w (.cells #[.pointer (some ⟨P, 0, none⟩)] 39) (.cells (atC a) 50) (.cells (atC b) 50)
  obtain ⟨hS0, hK0⟩ := (Sg.refl h hB).below hb3
  have hp0 : PBox _ P w.heap.size := e0
  have k0 := hp0.cell
  obtain ⟨vu, vt, vr, vo, ve, vs, fs, hx⟩ := hS0.tb
  obtain ⟨Ae, ce, rfl, hce, hcem⟩ := RowZ.form hx.eqs
  have c4 := hx.cells.2.2.2.2.1
  have hba := below_laid (((w.alloc (.cells #[.pointer (some ⟨P, 0, none⟩)] 39)).alloc (.cells (atC a) 50)).alloc (.cells (atC b) 50)) (.cells #[.int .i64 (s.eqs.length : Nat)] 3)
  obtain ⟨hS4, hK4⟩ := hS0.below hba
  have hx4 := hx.below hba
  have hp4 := hK4.pbox hp0
  have hi4 := hx.ibox (Nat.le_refl _) (heap_alloc_new _ (.cells #[.int .i64 (s.eqs.length : Nat)] 3))
  rw [World.size_alloc, World.size_alloc, World.size_alloc] at hi4
  have e14 := (hba.block _ (blk_lt e1)).trans e1
  have e24 := (hba.block _ (blk_lt e2)).trans e2
  have HX := hide (And.intro hx4 (And.intro hS4 (And.intro hp4 (And.intro hi4 (And.intro e14 e24)))))
  clear h hB hb3 hS0 hK0 hp0 hx e0 e1 e2 hs3 hba hS4 hK4 hx4 hp4 hi4 e14 e24
  unfold atC whyV at *
  go_enter Try.func86, Try.ntmps86
  go_upto_region 2 with (fail)
  generalize hW : (((w.alloc (.cells #[.pointer (some ⟨P, 0, none⟩)] 39)).alloc (.cells #[.int .i64 a.var, .int .u64 a.el.e0, .int .u64 a.el.e1, .int .u64 a.el.e2, .int .u64 a.el.e3, .int .u64 a.el.e4, .int .u64 a.el.e5, .int .u64 a.el.e6, .int .u64 a.el.e7] 50)).alloc (.cells #[.int .i64 b.var, .int .u64 b.el.e0, .int .u64 b.el.e1, .int .u64 b.el.e2, .int .u64 b.el.e3, .int .u64 b.el.e4, .int .u64 b.el.e5, .int .u64 b.el.e6, .int .u64 b.el.e7] 50)).alloc (.cells #[.int .i64 (s.eqs.length : Nat)] 3) = W at *
  clear c4 k0 hW
  obtain ⟨F, hF, hFF⟩ : ∃ F : World → Prop, (∀ w', F w' ↔ w'.cell? ⟨w.heap.size, 0, none⟩ = some (.pointer (some ⟨P, 0, none⟩)) ∧ w'.cell? ⟨P, 4, none⟩ = some (.slice Ae s.eqs.length ce) ∧ w'.cell? ⟨w.heap.size + 1, 0, none⟩ = some (.int .i64 a.var) ∧ w'.cell? ⟨w.heap.size + 1, 1, none⟩ = some (.int .u64 a.el.e0) ∧ w'.cell? ⟨w.heap.size + 1, 2, none⟩ = some (.int .u64 a.el.e1) ∧ w'.cell? ⟨w.heap.size + 1, 3, none⟩ = some (.int .u64 a.el.e2) ∧ w'.cell? ⟨w.heap.size + 1, 4, none⟩ = some (.int .u64 a.el.e3) ∧ w'.cell? ⟨w.heap.size + 1, 5, none⟩ = some (.int .u64 a.el.e4) ∧ w'.cell? ⟨w.heap.size + 1, 6, none⟩ = some (.int .u64 a.el.e5) ∧ w'.cell? ⟨w.heap.size + 1, 7, none⟩ = some (.int .u64 a.el.e6) ∧ w'.cell? ⟨w.heap.size + 1, 8, none⟩ = some (.int .u64 a.el.e7) ∧ w'.cell? ⟨w.heap.size + 1 + 1, 0, none⟩ = some (.int .i64 b.var) ∧ w'.cell? ⟨w.heap.size + 1 + 1, 1, none⟩ = some (.int .u64 b.el.e0) ∧ w'.cell? ⟨w.heap.size + 1 + 1, 2, none⟩ = some (.int .u64 b.el.e1) ∧ w'.cell? ⟨w.heap.size + 1 + 1, 3, none⟩ = some (.int .u64 b.el.e2) ∧ w'.cell? ⟨w.heap.size + 1 + 1, 4, none⟩ = some (.int .u64 b.el.e3) ∧ w'.cell? ⟨w.heap.size + 1 + 1, 5, none⟩ = some (.int .u64 b.el.e4) ∧ w'.cell? ⟨w.heap.size + 1 + 1, 6, none⟩ = some (.int .u64 b.el.e5) ∧ w'.cell? ⟨w.heap.size + 1 + 1, 7, none⟩ = some (.int .u64 b.el.e6) ∧ w'.cell? ⟨w.heap.size + 1 + 1, 8, none⟩ = some (.int .u64 b.el.e7)) ∧ ∀ u : HoldW F, u.w.cell? ⟨w.heap.size, 0, none⟩ = some (.pointer (some ⟨P, 0, none⟩)) ∧ u.w.cell? ⟨P, 4, none⟩ = some (.slice Ae s.eqs.length ce) ∧ u.w.cell? ⟨w.heap.size + 1, 0, none⟩ = some (.int .i64 a.var) ∧ u.w.cell? ⟨w.heap.size + 1, 1, none⟩ = some (.int .u64 a.el.e0) ∧ u.w.cell? ⟨w.heap.size + 1, 2, none⟩ = some (.int .u64 a.el.e1) ∧ u.w.cell? ⟨w.heap.size + 1, 3, none⟩ = some (.int .u64 a.el.e2) ∧ u.w.cell? ⟨w.heap.size + 1, 4, none⟩ = some (.int .u64 a.el.e3) ∧ u.w.cell? ⟨w.heap.size + 1, 5, none⟩ = some (.int .u64 a.el.e4) ∧ u.w.cell? ⟨w.heap.size + 1, 6, none⟩ = some (.int .u64 a.el.e5) ∧ u.w.cell? ⟨w.heap.size + 1, 7, none⟩ = some (.int .u64 a.el.e6) ∧ u.w.cell? ⟨w.heap.size + 1, 8, none⟩ = some (.int .u64 a.el.e7) ∧ u.w.cell? ⟨w.heap.size + 1 + 1, 0, none⟩ = some (.int .i64 b.var) ∧ u.w.cell? ⟨w.heap.size + 1 + 1, 1, none⟩ = some (.int .u64 b.el.e0) ∧ u.w.cell? ⟨w.heap.size + 1 + 1, 2, none⟩ = some (.int .u64 b.el.e1) ∧ u.w.cell? ⟨w.heap.size + 1 + 1, 3, none⟩ = some (.int .u64 b.el.e2) ∧ u.w.cell? ⟨w.heap.size + 1 + 1, 4, none⟩ = some (.int .u64 b.el.e3) ∧ u.w.cell? ⟨w.heap.size + 1 + 1, 5, none⟩ = some (.int .u64 b.el.e4) ∧ u.w.cell? ⟨w.heap.size + 1 + 1, 6, none⟩ = some (.int .u64 b.el.e5) ∧ u.w.cell? ⟨w.heap.size + 1 + 1, 7, none⟩ = some (.int .u64 b.el.e6) ∧ u.w.cell? ⟨w.heap.size + 1 + 1, 8, none⟩ = some (.int .u64 b.el.e7) := ⟨fun w' => w'.cell? ⟨w.heap.size, 0, none⟩ = some (.pointer (some ⟨P, 0, none⟩)) ∧ w'.cell? ⟨P, 4, none⟩ = some (.slice Ae s.eqs.length ce) ∧ w'.cell? ⟨w.heap.size + 1, 0, none⟩ = some (.int .i64 a.var) ∧ w'.cell? ⟨w.heap.size + 1, 1, none⟩ = some (.int .u64 a.el.e0) ∧ w'.cell? ⟨w.heap.size + 1, 2, none⟩ = some (.int .u64 a.el.e1) ∧ w'.cell? ⟨w.heap.size + 1, 3, none⟩ = some (.int .u64 a.el.e2) ∧ w'.cell? ⟨w.heap.size + 1, 4, none⟩ = some (.int .u64 a.el.e3) ∧ w'.cell? ⟨w.heap.size + 1, 5, none⟩ = some (.int .u64 a.el.e4) ∧ w'.cell? ⟨w.heap.size + 1, 6, none⟩ = some (.int .u64 a.el.e5) ∧ w'.cell? ⟨w.heap.size + 1, 7, none⟩ = some (.int .u64 a.el.e6) ∧ w'.cell? ⟨w.heap.size + 1, 8, none⟩ = some (.int .u64 a.el.e7) ∧ w'.cell? ⟨w.heap.size + 1 + 1, 0, none⟩ = some (.int .i64 b.var) ∧ w'.cell? ⟨w.heap.size + 1 + 1, 1, none⟩ = some (.int .u64 b.el.e0) ∧ w'.cell? ⟨w.heap.size + 1 + 1, 2, none⟩ = some (.int .u64 b.el.e1) ∧ w'.cell? ⟨w.heap.size + 1 + 1, 3, none⟩ = some (.int .u64 b.el.e2) ∧ w'.cell? ⟨w.heap.size + 1 + 1, 4, none⟩ = some (.int .u64 b.el.e3) ∧ w'.cell? ⟨w.heap.size + 1 + 1, 5, none⟩ = some (.int .u64 b.el.e4) ∧ w'.cell? ⟨w.heap.size + 1 + 1, 6, none⟩ = some (.int .u64 b.el.e5) ∧ w'.cell? ⟨w.heap.size + 1 + 1, 7, none⟩ = some (.int .u64 b.el.e6) ∧ w'.cell? ⟨w.heap.size + 1 + 1, 8, none⟩ = some (.int .u64 b.el.e7), fun _ => Iff.rfl, fun u => u.ok⟩
  have hu0 : ∀ u : HoldW F, u.w.cell? ⟨w.heap.size, 0, none⟩ = some (.pointer (some ⟨P, 0, none⟩)) := fun u => (hFF u).1
  have hu1 : ∀ u : HoldW F, u.w.cell? ⟨P, 4, none⟩ = some (.slice Ae s.eqs.length ce) := fun u => (hFF u).2.1
  have hu2 : ∀ u : HoldW F, u.w.cell? ⟨w.heap.size + 1, 0, none⟩ = some (.int .i64 a.var) := fun u => (hFF u).2.2.1
  have hu3 : ∀ u : HoldW F, u.w.cell? ⟨w.heap.size + 1, 1, none⟩ = some (.int .u64 a.el.e0) := fun u => (hFF u).2.2.2.1
  have hu4 : ∀ u : HoldW F, u.w.cell? ⟨w.heap.size + 1, 2, none⟩ = some (.int .u64 a.el.e1) := fun u => (hFF u).2.2.2.2.1
  have hu5 : ∀ u : HoldW F, u.w.cell? ⟨w.heap.size + 1, 3, none⟩ = some (.int .u64 a.el.e2) := fun u => (hFF u).2.2.2.2.2.1
  have hu6 : ∀ u : HoldW F, u.w.cell? ⟨w.heap.size + 1, 4, none⟩ = some (.int .u64 a.el.e3) := fun u => (hFF u).2.2.2.2.2.2.1
  have hu7 : ∀ u : HoldW F, u.w.cell? ⟨w.heap.size + 1, 5, none⟩ = some (.int .u64 a.el.e4) := fun u => (hFF u).2.2.2.2.2.2.2.1
  have hu8 : ∀ u : HoldW F, u.w.cell? ⟨w.heap.size + 1, 6, none⟩ = some (.int .u64 a.el.e5) := fun u => (hFF u).2.2.2.2.2.2.2.2.1
  have hu9 : ∀ u : HoldW F, u.w.cell? ⟨w.heap.size + 1, 7, none⟩ = some (.int .u64 a.el.e6) := fun u => (hFF u).2.2.2.2.2.2.2.2.2.1
  have hu10 : ∀ u : HoldW F, u.w.cell? ⟨w.heap.size + 1, 8, none⟩ = some (.int .u64 a.el.e7) := fun u => (hFF u).2.2.2.2.2.2.2.2.2.2.1
  have hu11 : ∀ u : HoldW F, u.w.cell? ⟨w.heap.size + 1 + 1, 0, none⟩ = some (.int .i64 b.var) := fun u => (hFF u).2.2.2.2.2.2.2.2.2.2.2.1
  have hu12 : ∀ u : HoldW F, u.w.cell? ⟨w.heap.size + 1 + 1, 1, none⟩ = some (.int .u64 b.el.e0) := fun u => (hFF u).2.2.2.2.2.2.2.2.2.2.2.2.1
  have hu13 : ∀ u : HoldW F, u.w.cell? ⟨w.heap.size + 1 + 1, 2, none⟩ = some (.int .u64 b.el.e1) := fun u => (hFF u).2.2.2.2.2.2.2.2.2.2.2.2.2.1
  have hu14 : ∀ u : HoldW F, u.w.cell? ⟨w.heap.size + 1 + 1, 3, none⟩ = some (.int .u64 b.el.e2) := fun u => (hFF u).2.2.2.2.2.2.2.2.2.2.2.2.2.2.1
  have hu15 : ∀ u : HoldW F, u.w.cell? ⟨w.heap.size + 1 + 1, 4, none⟩ = some (.int .u64 b.el.e3) := fun u => (hFF u).2.2.2.2.2.2.2.2.2.2.2.2.2.2.2.1
  have hu16 : ∀ u : HoldW F, u.w.cell? ⟨w.heap.size + 1 + 1, 5, none⟩ = some (.int .u64 b.el.e4) := fun u => (hFF u).2.2.2.2.2.2.2.2.2.2.2.2.2.2.2.2.1
  have hu17 : ∀ u : HoldW F, u.w.cell? ⟨w.heap.size + 1 + 1, 6, none⟩ = some (.int .u64 b.el.e5) := fun u => (hFF u).2.2.2.2.2.2.2.2.2.2.2.2.2.2.2.2.2.1
  have hu18 : ∀ u : HoldW F, u.w.cell? ⟨w.heap.size + 1 + 1, 7, none⟩ = some (.int .u64 b.el.e6) := fun u => (hFF u).2.2.2.2.2.2.2.2.2.2.2.2.2.2.2.2.2.2.1
  have hu19 : ∀ u : HoldW F, u.w.cell? ⟨w.heap.size + 1 + 1, 8, none⟩ = some (.int .u64 b.el.e7) := fun u => (hFF u).2.2.2.2.2.2.2.2.2.2.2.2.2.2.2.2.2.2.2
  have hFk : ∀ w', w'.heap[w.heap.size]? = W.heap[w.heap.size]? → w'.heap[P]? = W.heap[P]? → w'.heap[w.heap.size + 1]? = W.heap[w.heap.size + 1]? → w'.heap[w.heap.size + 1 + 1]? = W.heap[w.heap.size + 1 + 1]? → F w' := fun w' h0 h1 h2 h3 => by
    have xa := h2.trans HX.out.2.2.2.2.1
    have xb := h3.trans HX.out.2.2.2.2.2
    rw [hF]
    refine ⟨(World.cell?_of_block h0).trans HX.out.2.2.1.cell, (World.cell?_of_block h1).trans HX.out.1.cells.2.2.2.2.1, ?_⟩
    simp only [cell_block xa, cell_block xb]
    simp
  refine wp_region_chain [0, 1, 2, 3, 4, 5, 6, 7, 8] [(9, true), (10, true), (11, false), (12, false), (13, false)] F (by kernel_rfl) (by kernel_rfl) (fun _ _ _ _ _ h => h) (hFk _ rfl rfl rfl rfl) ?_
  intro hne
  simp only [picks, picksW, List.filterMap_cons, List.filterMap_nil, List.getElem?_cons_zero, List.getElem?_cons_succ, Option.map_some]
  repeat (refine wpHeld_step (fun K hK => ?_); go_simp; refine hK _ ?_; clear hK K)
  refine wpHeld_nil ?_
  clear hu0 hu1 hu2 hu3 hu4 hu5 hu6 hu7 hu8 hu9 hu10 hu11 hu12 hu13 hu14 hu15 hu16 hu17 hu18 hu19 hne hFF
  have HK := hide (And.intro hFk hF)
  clear hFk hF
  have hlt := HX.out.1.lt
  have hl0 := blk_lt HX.out.2.2.1
  have hl1 := blk_lt HX.out.2.2.2.2.1
  have hl2 := blk_lt HX.out.2.2.2.2.2
  have HL := hide (And.intro hlt (And.intro hl0 (And.intro hl1 hl2)))
  clear hlt hl0 hl1 hl2
  refine wpChain_cons fun K hK => ?_
  go_wp2_with fail
  have hba : Below W.drew.heap.size W.drew (W.drew.alloc (.cells #[.int .i64 a.var, .int .u64 a.el.e0, .int .u64 a.el.e1, .int .u64 a.el.e2, .int .u64 a.el.e3, .int .u64 a.el.e4, .int .u64 a.el.e5, .int .u64 a.el.e6, .int .u64 a.el.e7, .int .i64 b.var, .int .u64 b.el.e0, .int .u64 b.el.e1, .int .u64 b.el.e2, .int .u64 b.el.e3, .int .u64 b.el.e4, .int .u64 b.el.e5, .int .u64 b.el.e6, .int .u64 b.el.e7, .int .u64 (y.toNat : Nat)] 52)) := below_laid W.drew _
  refine chainF (fun _ => HK.out.1 _ (hba.block _ HL.out.2.1) (hba.block _ HL.out.1) (hba.block _ HL.out.2.2.1) (hba.block _ HL.out.2.2.2)) (hK _ _ ?_)
  clear hK K
  have hxa := HX.out.1.drew.below hba
  have hsd := HX.out.2.1.below (w2 := W.drew) (below_drewN (Below.refl _ _) 1)
  have hsa := hsd.1.below hba
  have HA := hide (And.intro hxa (And.intro hsa (And.intro hsd.2 hba)))
  clear hxa hba hsd hsa
  refine wpChain_cons fun K hK => ?_
  refine app_rowz rfl (.tmp 18) (.tmp 23) 45 45 rfl 52 i1 _ 19 152 Try.underlying45 hj hy0 hy1 hy2 rfl (.slice Ae s.eqs.length ce) s.eqs.length (eqnsV s.eqs) rfl HA.out.1.eqs _ 1 [.int .i64 a.var, .int .u64 a.el.e0, .int .u64 a.el.e1, .int .u64 a.el.e2, .int .u64 a.el.e3, .int .u64 a.el.e4, .int .u64 a.el.e5, .int .u64 a.el.e6, .int .u64 a.el.e7, .int .i64 b.var, .int .u64 b.el.e0, .int .u64 b.el.e1, .int .u64 b.el.e2, .int .u64 b.el.e3, .int .u64 b.el.e4, .int .u64 b.el.e5, .int .u64 b.el.e6, .int .u64 b.el.e7, .int .u64 (y.toNat : Nat)] rfl (eq_news (heap_alloc_new W.drew _)) (by unfold maxLen; omega) (by omega) ?_
  intro A' c' w' hr hg hob
  have hxa := HA.out.1
  have hnb : (Value.slice A' (s.eqs.length + 1) c').ownBlock = (Value.slice Ae s.eqs.length ce).ownBlock ∨ ∃ k, (Value.slice A' (s.eqs.length + 1) c').ownBlock = some k ∧ (W.drew.alloc (.cells #[.int .i64 a.var, .int .u64 a.el.e0, .int .u64 a.el.e1, .int .u64 a.el.e2, .int .u64 a.el.e3, .int .u64 a.el.e4, .int .u64 a.el.e5, .int .u64 a.el.e6, .int .u64 a.el.e7, .int .i64 b.var, .int .u64 b.el.e0, .int .u64 b.el.e1, .int .u64 b.el.e2, .int .u64 b.el.e3, .int .u64 b.el.e4, .int .u64 b.el.e5, .int .u64 b.el.e6, .int .u64 b.el.e7, .int .u64 (y.toNat : Nat)] 52)).heap.size ≤ k := hob.imp id fun e => ⟨_, e, Nat.le_refl _⟩
  have hkk : ∀ k, k < (W.drew.alloc (.cells #[.int .i64 a.var, .int .u64 a.el.e0, .int .u64 a.el.e1, .int .u64 a.el.e2, .int .u64 a.el.e3, .int .u64 a.el.e4, .int .u64 a.el.e5, .int .u64 a.el.e6, .int .u64 a.el.e7, .int .i64 b.var, .int .u64 b.el.e0, .int .u64 b.el.e1, .int .u64 b.el.e2, .int .u64 b.el.e3, .int .u64 b.el.e4, .int .u64 b.el.e5, .int .u64 b.el.e6, .int .u64 b.el.e7, .int .u64 (y.toNat : Nat)] 52)).heap.size → (Value.slice Ae s.eqs.length ce).ownBlock ≠ some k → w'.heap[k]? = (W.drew.alloc (.cells #[.int .i64 a.var, .int .u64 a.el.e0, .int .u64 a.el.e1, .int .u64 a.el.e2, .int .u64 a.el.e3, .int .u64 a.el.e4, .int .u64 a.el.e5, .int .u64 a.el.e6, .int .u64 a.el.e7, .int .i64 b.var, .int .u64 b.el.e0, .int .u64 b.el.e1, .int .u64 b.el.e2, .int .u64 b.el.e3, .int .u64 b.el.e4, .int .u64 b.el.e5, .int .u64 b.el.e6, .int .u64 b.el.e7, .int .u64 (y.toNat : Nat)] 52)).heap[k]? := fun k hb hne => hg.block k hb fun e => hne e.symm
  have hnew := hxa.newE (es' := s.eqs ++ [⟨a, b, y⟩]) (v' := .slice A' (s.eqs.length + 1) c') hg.size hkk (by rw [List.length_append, eqnsV_snoc]; exact hr) hnb HA.out.2.1.1.ge
  have hPw : w'.heap[P]? = (W.drew.alloc (.cells #[.int .i64 a.var, .int .u64 a.el.e0, .int .u64 a.el.e1, .int .u64 a.el.e2, .int .u64 a.el.e3, .int .u64 a.el.e4, .int .u64 a.el.e5, .int .u64 a.el.e6, .int .u64 a.el.e7, .int .i64 b.var, .int .u64 b.el.e0, .int .u64 b.el.e1, .int .u64 b.el.e2, .int .u64 b.el.e3, .int .u64 b.el.e4, .int .u64 b.el.e5, .int .u64 b.el.e6, .int .u64 b.el.e7, .int .u64 (y.toNat : Nat)] 52)).heap[P]? := hkk P hxa.lt hxa.ne.1.2.2.2.2
  have hkp : Kp (OnB P g) (W.drew.alloc (.cells #[.int .i64 a.var, .int .u64 a.el.e0, .int .u64 a.el.e1, .int .u64 a.el.e2, .int .u64 a.el.e3, .int .u64 a.el.e4, .int .u64 a.el.e5, .int .u64 a.el.e6, .int .u64 a.el.e7, .int .i64 b.var, .int .u64 b.el.e0, .int .u64 b.el.e1, .int .u64 b.el.e2, .int .u64 b.el.e3, .int .u64 b.el.e4, .int .u64 b.el.e5, .int .u64 b.el.e6, .int .u64 b.el.e7, .int .u64 (y.toNat : Nat)] 52)) (w'.setCell ⟨P, 4, none⟩ (.slice A' (s.eqs.length + 1) c')) :=
    ((Kp.refl _ _).grown hg fun k hb => .inl (.inr (.inr (.inr (.inr (.inr (by rw [← hxa.bl.2.2.2.2]; exact hb))))))).setCell (.inl (.inl rfl)) _
  have hgn : Gn (W.drew.alloc (.cells #[.int .i64 a.var, .int .u64 a.el.e0, .int .u64 a.el.e1, .int .u64 a.el.e2, .int .u64 a.el.e3, .int .u64 a.el.e4, .int .u64 a.el.e5, .int .u64 a.el.e6, .int .u64 a.el.e7, .int .i64 b.var, .int .u64 b.el.e0, .int .u64 b.el.e1, .int .u64 b.el.e2, .int .u64 b.el.e3, .int .u64 b.el.e4, .int .u64 b.el.e5, .int .u64 b.el.e6, .int .u64 b.el.e7, .int .u64 (y.toNat : Nat)] 52)) g { g with e := (Value.slice A' (s.eqs.length + 1) c').ownBlock } := by
    refine ⟨.inl rfl, .inl rfl, .inl rfl, .inl rfl, ?_⟩
    rcases hnb with e | ⟨k, e, hb⟩
    · exact .inl (e.trans hxa.bl.2.2.2.2)
    · exact .inr ⟨k, e, hb⟩
  obtain ⟨hS6, hK6⟩ := HA.out.2.1.1.stepG ⟨_, _, _, _, _, _, _, hnew⟩ hkp hgn
  have hpp := HA.out.2.1.2.pbox (HA.out.2.2.1.pbox HX.out.2.2.1)
  have hp6 := hK6.pbox hpp
  have hi6 := hK6.ibox (HA.out.2.1.2.ibox (HA.out.2.2.1.ibox HX.out.2.2.2.1))
  have hF6 : F w' := by
    have ga := (HA.out.2.2.2.block _ HL.out.2.2.1).trans HX.out.2.2.2.2.1
    have gb := (HA.out.2.2.2.block _ HL.out.2.2.2).trans HX.out.2.2.2.2.2
    exact HK.out.1 _ ((hkk _ (blk_lt hpp) (RowZ.ne_type hxa.eqs hpp (by decide))).trans (HA.out.2.2.2.block _ HL.out.2.1)) (hPw.trans (HA.out.2.2.2.block _ HL.out.1))
      ((hkk _ (blk_lt ga) (RowZ.ne_type hxa.eqs ga (by decide))).trans (HA.out.2.2.2.block _ HL.out.2.2.1)) ((hkk _ (blk_lt gb) (RowZ.ne_type hxa.eqs gb (by decide))).trans (HA.out.2.2.2.block _ HL.out.2.2.2))
  have q1 : w'.cell? ⟨P, 4, none⟩ = some (.slice Ae s.eqs.length ce) := (World.cell?_of_block hPw).trans hxa.cells.2.2.2.2.1
  have q2 : w'.frozen? ⟨P, 4, none⟩ = false := (World.frozen?_of_block hPw).trans (hxa.free 4)
  have HF := hide (And.intro hS6 (And.intro hp6 hi6))
  refine chainF (fun _ => hF6) (hK _ _ ?_)
  clear hr hg hob hxa hkk hnew hPw hkp hnb hgn hS6 hK6 hp6 hi6 hF6 hpp hK K
  refine wpChain_cons fun K hK => ?_
  go_wp2_with fail
  refine chainSkip (hK _ _ ?_)
  clear hK K
  refine wpChain_cons fun K hK => ?_
  go_wp2_with fail
  refine chainSkip (hK _ _ ?_)
  clear hK K
  refine wpChain_cons fun K hK => ?_
  go_wp2_with fail
  refine chainSkip (hK _ _ ?_)
  clear hK K
  refine wpChain_nil ?_
  clear q1 q2
  generalize w'.setCell ⟨P, 4, none⟩ (.slice A' (s.eqs.length + 1) c') = Y at *
  have y0 := HF.out.2.1.cell
  have HD := hide (did_any P B _ (.func 97) #[.pointer (some ⟨w.heap.size, 0, none⟩), .pointer (some ⟨w.heap.size + 1 + 1 + 1, 0, none⟩)] (.cutEqs s.eqs.length) _ Y HF.out.1.tb ⟨w.heap.size, w.heap.size + 1 + 1 + 1, rfl, HF.out.2.1, HF.out.2.2.1, HF.out.2.2.2⟩ HF.out.1.ge hu)
  go_wp2_with (go_at_call 47; refine (HD.out).mono ?_; rintro e w6 ⟨⟨rfl, hS⟩, _⟩; obtain ⟨g7, hS7, hK7⟩ := HF.out.1.step hS; have HE := hide hS7; clear hS hS7 hK7)
  go_end0
  exact ⟨rfl, HE.out.stp⟩
end Go.Proofs.Ythnbhcfpfbimgaa
/- The walk of find: a field's place. -/
namespace Go.Proofs.Ythnbhcfpfbimgaa
open Go.RowKit
open Rw (El At Fld Lk Eqn U T W64)

theorem flat_get {α : Type} {c : Nat} (f : α → List Value) (hc : ∀ x, (f x).length = c) : ∀ (l : List α) (k j : Nat) (x : α), l[k]? = some x → j < c → (l.flatMap f)[k * c + j]? = (f x)[j]?
  | [], k, j, x, h, _ => by simp at h
  | a :: l, 0, j, x, h, hj => by
    simp at h; subst h
    rw [List.flatMap_cons, List.getElem?_append_left (by rw [hc]; omega)]
    simp
  | a :: l, k + 1, j, x, h, hj => by
    have hk := flat_get f hc l k j x (by simpa using h) hj
    rw [List.flatMap_cons, List.getElem?_append_right (by rw [hc, Nat.add_mul]; omega), hc, show (k + 1) * c + j - c = k * c + j by rw [Nat.add_mul]; omega]
    exact hk
theorem fdsV_get {l : List Fld} {k j : Nat} {f : Fld} (h : l[k]? = some f) (hj : j < 10) : (fdsV l)[k * 10 + j]? = (fdV f)[j]? := flat_get fdV fdV_len l k j f h hj
theorem lksV_get {l : List Lk} {k j : Nat} {f : Lk} (h : l[k]? = some f) (hj : j < 2) : (lksV l)[k * 2 + j]? = (lkV f)[j]? := flat_get lkV (fun _ => rfl) l k j f h hj
namespace Rw
def findI (fs : List Fld) (f : ByteArray) : Int := match findF fs f with
  | some i => i
  | none => -1
theorem findI_hit {fs : List Fld} {f : ByteArray} {k : Nat} {x : Fld} (h : ∀ (j : Nat) y, j < k → fs[j]? = some y → (y.name.toList == f.toList) = false) (hx : fs[k]? = some x) (he : (x.name.toList == f.toList) = true) : findI fs f = k := by
  have : findF fs f = some k := by
    unfold findF
    rw [List.findIdx?_eq_some_iff_getElem]
    obtain ⟨hk, hxe⟩ := List.getElem?_eq_some_iff.1 hx
    exact ⟨hk, by rw [hxe]; exact he, fun j hj => by simp [h j _ hj (List.getElem?_eq_getElem (by omega))]⟩
  unfold findI
  rw [this]
theorem findI_none {fs : List Fld} {f : ByteArray} (h : ∀ (j : Nat) y, fs[j]? = some y → (y.name.toList == f.toList) = false) : findI fs f = -1 := by
  have : findF fs f = none := by
    unfold findF
    rw [List.findIdx?_eq_none_iff]
    intro x hx
    obtain ⟨j, hj⟩ := List.mem_iff_getElem?.1 hx
    exact h j x hj
  unfold findI
  rw [this]
end Rw
def spC (v : Value) (fin : Int) (y : W64) : Array Value := #[v, .int .i64 fin, .int .u64 (y.toNat : Nat)]
set_option maxRecDepth 100000 in
set_option maxHeartbeats 1000000 in
theorem find_any (B : Nat) (fs : List Fld) (v : Value) (fin : Int) (y : W64) (f : ByteArray) (w : World) (hv : SlAt w B 60 10 v fs.length (fdsV fs)) :
    Calls Try.prog 38 #[.agg (spC v fin y), .string f] w fun e w' => e = .returned (.int .i64 (Rw.findI fs f)) ∧ Below w.heap.size w w' := by
  obtain ⟨A, c, rfl, h1, h2, h3, _⟩ := hv.ex
  have hba := below_laid w (.cells (spC (.slice A fs.length c) fin y) 101)
  have k0 : (w.alloc (.cells (spC (.slice A fs.length c) fin y) 101)).cell? ⟨w.heap.size, 0, none⟩ = some (.slice A fs.length c) := by rw [cell_block (heap_alloc_new w _)]; rfl
  have hlt : w.heap.size < (w.alloc (.cells (spC (.slice A fs.length c) fin y) 101)).heap.size := by rw [World.size_alloc]; omega
  have HX := hide (And.intro (hv.below hba) hba)
  clear hv hba
  have hmx : fs.length ≤ 9223372036854775807 := by unfold maxLen at h2; omega
  unfold spC at *
  go_enter Try.func38, Try.ntmps38
  go_wp2_with fail
  generalize w.alloc (.cells #[.slice A fs.length c, .int .i64 fin, .int .u64 (y.toNat : Nat)] 101) = W at *
  go_loopw [9] (fun i wr => ∃ k : Nat, k ≤ fs.length ∧ i = .int .i64 k ∧ (∀ (j : Nat) x, j < k → fs[j]? = some x → (x.name.toList == f.toList) = false) ∧ Below W.heap.size W wr) (fun i _ => fs.length - (intOf i).toNat)
  case atStart => exact ⟨0, Nat.zero_le _, rfl, fun j x hj => by omega, Below.refl _ _⟩
  case round =>
    obtain ⟨k, hk, rfl, heq, hd⟩ := hrel
    have k1 := (hd.cell (p := ⟨w.heap.size, 0, none⟩) hlt).trans k0
    by_cases hl : k < fs.length
    · obtain ⟨x, hx⟩ : ∃ x, fs[k]? = some x := ⟨fs[k], List.getElem?_eq_getElem hl⟩
      obtain ⟨A', c', e1, _, _, _, hc⟩ := (HX.out.1.below hd).ex
      cases e1
      obtain ⟨b, off, rfl, _, _, hcell⟩ := hc (by omega)
      have hcx := hcell (k * 10 + 0) (.string x.name) ((fdsV_get hx (by omega)).trans rfl)
      rw [show off + (k * 10 + 0) = off + k * 10 by omega] at hcx
      have hk0 : (k : Int) < fs.length := by omega
      have hk1 : (0 : Int) ≤ k := by omega
      have HE := hide (And.intro heq (And.intro hx hd))
      clear heq hx hd hcell hc
      cases hq : x.name.toList == f.toList
      · have HQ := hide hq
        go_wp2_with fail
        refine ⟨⟨k + 1, by omega, rfl, fun j z hj hz => ?_, HE.out.2.2⟩, by simp [intOf]; omega⟩
        rcases Nat.lt_or_ge j k with h | h
        · exact HE.out.1 j z h hz
        · obtain rfl : j = k := by omega
          rw [HE.out.2.1] at hz
          cases hz
          exact HQ.out
      · have HQ := hide hq
        go_wp2_with fail
        go_ret
        exact ⟨by rw [Rw.findI_hit HE.out.1 HE.out.2.1 HQ.out]; rfl, HX.out.2.trans (HE.out.2.2.mono (Nat.le_of_lt hlt))⟩
    · obtain rfl : k = fs.length := by omega
      have hF : Rw.findI fs f = -1 := Rw.findI_none fun j x hx => heq j x (List.getElem?_eq_some_iff.1 hx).1 hx
      have HE := hide (And.intro hF hd)
      clear hF heq hd
      go_wp2_with fail
      go_ret
      exact ⟨by rw [HE.out.1]; rfl, HX.out.2.trans (HE.out.2.mono (Nat.le_of_lt hlt))⟩
end Go.Proofs.Ythnbhcfpfbimgaa
