/- Arguments opened: a graph. -/
import Derived.Test.YtgmppddlgbkjmaaKnMem
import Derived.ProofKit
import Derived.OpenShut
import Derived.ShutString
import Derived.ChangeOld
import Derived.Deep.Slices
import Derived.Deep.Fields
import Derived.ChangeSame
import Derived.Lib.SmallJoins
namespace Go.Proofs.Ytgmppddlgbkjmaa
open Go.ChangeShapes Go.WideShapes Go.ChangeAt Go.RowKit Go.Deep Go.Joins

theorem add0 (a : Addr) : a.add 0 = a := by simp [Addr.add]
section
variable {H : Type} {enc : TypeId × Value → H} {W : World} {r : Reach} {b0 : Nat} {v : Value} {d : DataW H} {p : List MemPlace}
theorem int_cell {n : Nat} {t : TypeId} {v : Value} {y : DataW H × List MemPlace} (ht : Try.prog.underlying t = some (.int .i64)) (h : DataW.trod enc Try.prog W 0 (fun _ => true) true n t [v] = some y) : ∃ z : Int, v = .int .i64 z := by
  obtain ⟨z, h1, _, _⟩ := DataW.trod_int ht h
  simp at h1
  exact ⟨z, h1⟩
/-- One row of the graph. -/
theorem open_row1 {n : Nat} {cs : List Value} {y : DataW H × List MemPlace} (h : DataW.trod enc Try.prog W 0 (fun _ => true) true n 26 cs = some y) :
    ∃ (A : Option Addr) (c : Nat) (l : List Int), cs = [.slice A l.length c] ∧ l.length ≤ maxLen ∧ (0 < l.length → ∃ bi oi, A = some ⟨bi, oi, none⟩ ∧ bi < W.heap.size ∧ ∀ (j : Nat) (x : Int), l[j]? = some x → W.cell? ⟨bi, oi + j, none⟩ = some (.int .i64 x)) := by
  rcases open_slice Try.underlying26 h with ⟨h0, _⟩ | ⟨a, len, cap, m, n', D, Pl, hcs, hb, hl, hm, hmm, hx, hi⟩
  · exact ⟨none, 0, [], h0, Nat.zero_le _, fun h => by simp at h⟩
  · have hC : Try.prog.cellsOf 3 = 1 := by kernel_rfl
    have hlm : len ≤ m := by rw [hmm]; split <;> omega
    have hc : ∀ i, i < len → ∃ z : Int, W.cell? (a.add i) = some (.int .i64 z) := fun i hi' => by
      obtain ⟨cs', h1, h2⟩ := hi i (by omega)
      rw [hC, Nat.mul_one] at h1
      obtain ⟨_, hcl, hat⟩ := World.cells?_some h1
      match cs', hcl with
      | [v], _ =>
        have h3 := hat 0 (by simp)
        obtain ⟨z, rfl⟩ := int_cell Try.underlying3 h2
        refine ⟨z, ?_⟩
        rw [add0] at h3
        simpa using h3
    classical
    let f : Nat → Int := fun i => if h : i < len then (hc i h).choose else 0
    have hf : ∀ i, i < len → W.cell? (a.add i) = some (.int .i64 (f i)) := fun i hi => by
      simp only [f, hi, dite_true]
      exact (hc i hi).choose_spec
    refine ⟨some a, cap, (List.range len).map f, by simpa using hcs, by simp; omega, fun h0 => ?_⟩
    have hp : 0 < len := by simpa using h0
    obtain ⟨b, off, spot⟩ := a
    have h1 := hf 0 hp
    have hspot : spot = none := by simpa [Addr.add] using World.cell?_spot h1
    subst hspot
    refine ⟨b, off, rfl, World.block_lt_of_cell? W _ h1, fun j x hj => ?_⟩
    rw [List.getElem?_map] at hj
    have hjl : j < len := by
      rcases Nat.lt_or_ge j len with h | h
      · exact h
      · rw [List.getElem?_eq_none (by simpa using h)] at hj; simp at hj
    rw [List.getElem?_range hjl] at hj
    simp at hj
    have := hf j hjl
    rw [hj, add_plain] at this
    exact this
theorem open_graph (hv : Value.okWide Try.prog W r b0 22 v) (h : DataW.Trod enc Try.prog W 0 (fun _ => true) true 22 v d p) :
    ∃ A n c g, v = .slice A n c ∧ HasG W W.heap.size A n g ∧ n ≤ maxLen ∧ ∀ i, (Kn.arcs g i).length ≤ maxLen := by
  obtain ⟨a0, len, cap, rfl⟩ := okWide_slice Try.underlying22 hv
  obtain ⟨fuel, hf⟩ := h
  rcases open_slice Try.underlying22 hf with ⟨hcs, _⟩ | ⟨a, l, c, m, n', D, Pl, hcs, hb, hl, hm, hmm, hx, hi⟩
  · simp [Value.cells] at hcs
    obtain ⟨rfl, rfl, rfl⟩ := hcs
    exact ⟨none, 0, 0, [], rfl, ⟨rfl, fun h => by omega⟩, Nat.zero_le _, fun i => by simp [Kn.arcs]⟩
  · simp [Value.cells] at hcs
    obtain ⟨rfl, rfl, rfl⟩ := hcs
    have hC : Try.prog.cellsOf 26 = 1 := by kernel_rfl
    have hlm : len ≤ m := by rw [hmm]; split <;> omega
    have hc : ∀ i, i < len → ∃ q : Option Addr × Nat × List Int, W.cell? (a.add i) = some (.slice q.1 q.2.2.length q.2.1) ∧ q.2.2.length ≤ maxLen ∧ (0 < q.2.2.length → ∃ bi oi, q.1 = some ⟨bi, oi, none⟩ ∧ bi < W.heap.size ∧ ∀ (j : Nat) (x : Int), q.2.2[j]? = some x → W.cell? ⟨bi, oi + j, none⟩ = some (.int .i64 x)) := fun i hi' => by
      obtain ⟨cs', h1, h2⟩ := hi i (by omega)
      rw [hC, Nat.mul_one] at h1
      obtain ⟨_, hcl, hat⟩ := World.cells?_some h1
      obtain ⟨A, c, l, rfl, h3, h4⟩ := open_row1 h2
      have h5 := hat 0 (by simp)
      rw [add0] at h5
      exact ⟨(A, c, l), by simpa using h5, h3, h4⟩
    classical
    let f : Nat → Option Addr × Nat × List Int := fun i => if h : i < len then (hc i h).choose else (none, 0, [])
    have hf : ∀ i, i < len → W.cell? (a.add i) = some (.slice (f i).1 (f i).2.2.length (f i).2.1) ∧ (f i).2.2.length ≤ maxLen ∧ (0 < (f i).2.2.length → ∃ bi oi, (f i).1 = some ⟨bi, oi, none⟩ ∧ bi < W.heap.size ∧ ∀ (j : Nat) (x : Int), (f i).2.2[j]? = some x → W.cell? ⟨bi, oi + j, none⟩ = some (.int .i64 x)) := fun i hi => by
      simp only [f, hi, dite_true]
      exact (hc i hi).choose_spec
    refine ⟨_, _, _, (List.range len).map fun i => (f i).2.2, rfl, ⟨by simp, fun h0 => ?_⟩, by omega, fun i => ?_⟩
    · obtain ⟨b, off, spot⟩ := a
      have h1 := (hf 0 h0).1
      have hspot : spot = none := by simpa [Addr.add] using World.cell?_spot h1
      subst hspot
      refine ⟨b, off, rfl, World.block_lt_of_cell? W _ h1, fun j l hj => ?_⟩
      rw [List.getElem?_map] at hj
      have hjl : j < len := by
        rcases Nat.lt_or_ge j len with h | h
        · exact h
        · rw [List.getElem?_eq_none (by simpa using h)] at hj; simp at hj
      rw [List.getElem?_range hjl] at hj
      simp at hj
      obtain ⟨h2, _, h4⟩ := hf j hjl
      rw [hj, add_plain] at h2
      rw [hj] at h4
      exact ⟨_, _, h2, h4⟩
    · unfold Kn.arcs
      rw [List.getD_eq_getElem?_getD, List.getElem?_map]
      by_cases hi : i < len
      · rw [List.getElem?_range hi]
        exact (hf i hi).2.1
      · rw [List.getElem?_eq_none (by simpa using hi)]
        exact Nat.zero_le _
end
end Go.Proofs.Ytgmppddlgbkjmaa
