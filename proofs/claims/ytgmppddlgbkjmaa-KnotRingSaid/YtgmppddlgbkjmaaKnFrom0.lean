/- The walk of from: what its steps do in memory. -/
import Derived.Test.YtgmppddlgbkjmaaKnClose
import Derived.Test.YtgmppddlgbkjmaaKnPlain2
namespace Go.Proofs.Ytgmppddlgbkjmaa
open Go.RowKit
open Kn (Sd mu)

theorem RowZ.set {w : World} {e : TypeId} {z n g k c : Nat} {xs : List Value} (h : RowZ w e z (.slice (some ⟨g, 0, none⟩) k c) n xs) (j : Nat) (u : Value) : RowZ (w.setCell ⟨g, j, none⟩ u) e z (.slice (some ⟨g, 0, none⟩) k c) n (xs.set j u) := by
  rcases h with ⟨h0, _⟩ | ⟨g', cap, cur, h0, hh, h1, h2, h3, h4, h5⟩
  · cases h0
  · simp only [Value.slice.injEq, Option.some.injEq, Addr.mk.injEq, and_true] at h0
    obtain ⟨rfl, rfl, rfl⟩ := h0
    refine .inr ⟨g, c, _, rfl, heap_setCell_same w g j cur e u hh, h1, by simpa using h2, h3, by rw [List.length_set]; exact h4, ?_⟩
    have : (cur.setIfInBounds j u).toList = cur.toList.set j u := by simp
    rw [this, List.take_set, h5]
theorem framesV_get : ∀ (l : List (Nat × Nat)) (k : Nat) (f : Nat × Nat), l[k]? = some f → (framesV l)[k * 2]? = some (.int .i64 (f.1 : Nat)) ∧ (framesV l)[k * 2 + 1]? = some (.int .i64 (f.2 : Nat))
  | [], k, f, h => by simp at h
  | a :: l, 0, f, h => by
    simp at h
    subst h
    exact ⟨rfl, rfl⟩
  | a :: l, k + 1, f, h => by
    have := framesV_get l k f (by simpa using h)
    rw [show (k + 1) * 2 = k * 2 + 2 by omega, show k * 2 + 2 + 1 = k * 2 + 1 + 2 by omega]
    exact this
theorem framesV_set : ∀ (l : List (Nat × Nat)) (k n x : Nat) , l[k]? = some (n, x) → ∀ y : Nat, framesV (l.set k (n, y)) = (framesV l).set (k * 2 + 1) (.int .i64 (y : Nat))
  | [], k, n, x, h, y => by simp at h
  | a :: l, 0, n, x, h, y => by
    simp at h
    subst h
    rfl
  | a :: l, k + 1, n, x, h, y => by
    have := framesV_set l k n x (by simpa using h) y
    rw [show (k + 1) * 2 + 1 = k * 2 + 1 + 2 by omega]
    show framesV (a :: l.set k (n, y)) = _
    simp only [framesV, List.flatMap_cons] at this ⊢
    rw [this]
    rfl
/-- One row of the graph, in memory. -/
theorem HasG.row {w : World} {B n bg og : Nat} {g : Kn.G} (h : HasG w B (some ⟨bg, og, none⟩) n g) {i : Nat} (hi : i < n) : bg < B ∧ ∃ Ai ci, w.cell? ⟨bg, og + i, none⟩ = some (.slice Ai (Kn.arcs g i).length ci) ∧
    (0 < (Kn.arcs g i).length → ∃ bi oi, Ai = some ⟨bi, oi, none⟩ ∧ bi < B ∧ ∀ (j : Nat) (x : Int), (Kn.arcs g i)[j]? = some x → w.cell? ⟨bi, oi + j, none⟩ = some (.int .i64 x)) := by
  obtain ⟨b, off, ha, hB, hc⟩ := h.2 (by omega)
  simp only [Option.some.injEq, Addr.mk.injEq, and_true] at ha
  obtain ⟨rfl, rfl⟩ := ha
  have hl : g[i]? = some (Kn.arcs g i) := by
    unfold Kn.arcs
    rw [List.getD_eq_getElem?_getD, List.getElem?_eq_getElem (by have := h.1; omega)]
    rfl
  exact ⟨hB, hc i _ hl⟩
section
variable {w : World} {B : Nat} {a : At} {Ag : Option Addr} {n cg : Nat} {vs vo : Value} {s : Kn.St}
/-- The innermost frame, in memory. -/
theorem Wk.top {g c : Nat} {L : Nat} (h : Wk w B a Ag n cg vs (.slice (some ⟨g, 0, none⟩) L c) s) {f : Nat × Nat} {r : List (Nat × Nat)} (ho : s.opn = f :: r) :
    w.cell? ⟨g, r.length * 2, none⟩ = some (.int .i64 (f.1 : Nat)) ∧ w.cell? ⟨g, r.length * 2 + 1, none⟩ = some (.int .i64 (f.2 : Nat)) := by
  have h1 : s.opn.reverse[r.length]? = some f := by rw [ho, List.reverse_cons, List.getElem?_append_right (by simp)]; simp
  obtain ⟨h2, h3⟩ := framesV_get _ _ _ h1
  have hl : (framesV s.opn.reverse).length = r.length * 2 + 2 := by rw [framesV_len, ho]; simp; omega
  exact ⟨by rw [RowZ.cell h.op (by omega), h2], by rw [RowZ.cell h.op (by omega), h3]⟩
theorem Wk.setNext {g c : Nat} {L : Nat} (h : Wk w B a Ag n cg vs (.slice (some ⟨g, 0, none⟩) L c) s) {at_ nx : Nat} {r : List (Nat × Nat)} (ho : s.opn = (at_, nx) :: r) (y : Nat) :
    Wk (w.setCell ⟨g, r.length * 2 + 1, none⟩ (.int .i64 (y : Nat))) B a Ag n cg vs (.slice (some ⟨g, 0, none⟩) L c) { s with opn := (at_, y) :: r } := by
  have h1 : s.opn.reverse[r.length]? = some (at_, nx) := by rw [ho, List.reverse_cons, List.getElem?_append_right (by simp)]; simp
  have h2 := framesV_set _ _ _ _ h1 y
  have h3 : s.opn.reverse.set r.length (at_, y) = ((at_, y) :: r).reverse := by
    rw [ho, List.reverse_cons, List.reverse_cons, List.set_append_right _ _ (by simp)]; simp
  rw [h3] at h2
  have hl : s.opn.length = ((at_, y) :: r).length := by rw [ho]; rfl
  obtain ⟨o1, o2, o3, o4, o5⟩ := h.neO
  have hne : ∀ b, some g ≠ some b → b ≠ g := fun b hb e => hb (by rw [e])
  have hset : ∀ b, b ≠ g → (w.setCell ⟨g, r.length * 2 + 1, none⟩ (.int .i64 (y : Nat))).heap[b]? = w.heap[b]? := fun b hb => Below.heap_setCell _ _ _ _ hb
  have hop := RowZ.set h.op (r.length * 2 + 1) (.int .i64 (y : Nat))
  rw [← h2] at hop
  rw [hl] at hop
  refine ⟨?_, ?_, ?_, ?_, ?_, ?_, hop, h.ge, h.geS, h.geO, h.apart⟩
  · rw [hset _ (hne _ o1)]; exact h.self
  · rw [hset _ (hne _ o3)]; exact h.ho
  · rw [hset _ (hne _ o4)]; exact h.hl
  · rw [hset _ (hne _ o2)]; exact h.hn
  · rw [hset _ (hne _ o5)]; exact h.hf
  · exact RowZ.far h.st (p := ⟨g, r.length * 2 + 1, none⟩) (fun e => h.neSO g e rfl) _
end
/-- Before the frame goes. -/
def midS (s : Kn.St) (i : Nat) : Kn.St := if s.low.getD i 0 = s.order.getD i 0 then s.close i else s
theorem midS_low (s : Kn.St) (i : Nat) : (midS s i).low = s.low ∧ (midS s i).order = s.order ∧ (midS s i).opn = s.opn := by
  unfold midS
  split <;> exact ⟨rfl, rfl, rfl⟩
theorem leave_nil {s : Kn.St} {i nx : Nat} (ho : s.opn = [(i, nx)]) : s.leave i = { midS s i with opn := [] } := by
  have h := (midS_low s i).2.2
  rw [ho] at h
  show (match (midS s i).opn.tail with
    | [] => ({ midS s i with opn := [] } : Kn.St)
    | (up, nx) :: r => { midS s i with opn := (up, nx) :: r, low := (midS s i).low.set up (min ((midS s i).low.getD up 0) ((midS s i).low.getD i 0)) }) = _
  rw [h]; rfl
theorem leave_cons {s : Kn.St} {i nx up nx' : Nat} {r : List (Nat × Nat)} (ho : s.opn = (i, nx) :: (up, nx') :: r) : s.leave i = { midS s i with opn := (up, nx') :: r, low := s.low.set up (min (s.low.getD up 0) (s.low.getD i 0)) } := by
  obtain ⟨h1, h2, h⟩ := midS_low s i
  rw [ho] at h
  show (match (midS s i).opn.tail with
    | [] => ({ midS s i with opn := [] } : Kn.St)
    | (up, nx) :: r => { midS s i with opn := (up, nx) :: r, low := (midS s i).low.set up (min ((midS s i).low.getD up 0) ((midS s i).low.getD i 0)) }) = _
  rw [h, h1]; rfl
theorem step_arc {g : Kn.G} {s : Kn.St} {i nx : Nat} {r : List (Nat × Nat)} {k : Int} (ho : s.opn = (i, nx) :: r) (hk : (Kn.arcs g i)[nx]? = some k) : s.step g = ({ s with opn := (i, nx + 1) :: r } : Kn.St).arc g i k := by
  unfold Kn.St.step
  simp only [ho, hk]
theorem step_leave {g : Kn.G} {s : Kn.St} {i nx : Nat} {r : List (Nat × Nat)} (ho : s.opn = (i, nx) :: r) (hk : (Kn.arcs g i)[nx]? = none) : s.step g = s.leave i := by
  unfold Kn.St.step
  simp only [ho, hk]
end Go.Proofs.Ytgmppddlgbkjmaa
