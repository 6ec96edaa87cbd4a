/- Arguments opened: a call, and a slice of calls. -/
import Derived.Test.YtkhhofokhjbnbaaClLike
import Derived.ProofKit
import Derived.OpenShut
import Derived.ShutString
import Derived.ChangeOld
import Derived.Deep.Slices
import Derived.Deep.Fields
import Derived.ChangeSame
import Derived.Lib.SmallJoins
namespace Go.Proofs.Ytkhhofokhjbnbaa
open Go.ChangeShapes Go.WideShapes Go.ChangeAt Go.RowKit Go.Deep Go.Joins

section
variable {H : Type} {enc : TypeId × Value → H} {P : Program} {w : World} {base : Nat} {spare : Nat → Bool} {held : Bool}
/-- A slice of structs of one-cell fields: each field of each element, by its cell. (The kit's extra-structs shows the way.) -/
theorem open_rows {t e : TypeId} {fs : Array Field} {fuel : Nat} {cs : List Value} {x : DataW H × List MemPlace} (ht : P.underlying t = some (.slice e)) (he : P.underlying e = some (.struct fs))
    (hone : oneCellFields P fs = true) (hC : P.cellsOf e = fs.size) (h : DataW.trod enc P w base spare held fuel t cs = some x) :
    (cs = [.slice none 0 0]) ∨
    ∃ (a : Addr) (len cap m : Nat), cs = [.slice (some a) len cap] ∧ len ≤ cap ∧ cap ≤ maxLen ∧ m = (if spare a.block then cap else len) ∧
      ∀ i, i < m → ∀ (j : Nat) (f : Field), fs[j]? = some f → ∃ (n : Nat) (v : Value) (y : DataW H × List MemPlace), w.cell? (a.add (i * fs.size + j)) = some v ∧ DataW.trod enc P w base spare held n f.type [v] = some y := by
  rcases open_slice ht h with h0 | ⟨a, len, cap, m, n, D, Pl, hcs, hb, hl, hm, hmm, hx, hi⟩
  · exact .inl h0.1
  · refine .inr ⟨a, len, cap, m, hcs, hl, hm, hmm, fun i him j f hj => ?_⟩
    obtain ⟨cs', hc, ht'⟩ := hi i him
    rw [hC] at hc
    obtain ⟨ys, n', hn', hy, hlen, hyl, hf⟩ := DataW.trod_struct he ht'
    obtain ⟨_, hcl, hat⟩ := World.cells?_some hc
    obtain ⟨ho, hk⟩ := hone_of hone j f hj
    have hjl : j < fs.size := (Array.getElem?_eq_some_iff.1 hj).1
    have hcell := hat j hjl
    have hv : cs'[j]? = some (cs'[j]'(by omega)) := List.getElem?_eq_getElem (by omega)
    have h1 := hf j f hj
    rw [ho, hk] at h1
    have hone' : (cs'.drop j).take 1 = [cs'[j]'(by omega)] := by
      rw [List.drop_eq_getElem_cons (by omega)]
      rfl
    rw [hone'] at h1
    have hys : ys[j]? = some (ys[j]'(by omega)) := List.getElem?_eq_getElem (by omega)
    refine ⟨_, _, _, ?_, h1.trans hys⟩
    rw [← Go.Deep.add_add, hcell, hv]
end

abbrev Op3 := Int × Int × Int
/-- The slice of calls that came in. -/
def HasOp (w : World) (B : Nat) (A : Option Addr) (n : Nat) (os : List Op3) : Prop :=
  os.length = n ∧ (0 < n → ∃ b off, A = some ⟨b, off, none⟩ ∧ b < B ∧ ∀ (j : Nat) k m x, os[j]? = some (k, m, x) → w.cell? ⟨b, off + j * 3, none⟩ = some (.int .i64 k) ∧ w.cell? ⟨b, off + j * 3 + 1, none⟩ = some (.int .i64 m) ∧ w.cell? ⟨b, off + j * 3 + 2, none⟩ = some (.int .u64 x))
theorem HasOp.below {w w' : World} {B : Nat} {A : Option Addr} {n : Nat} {os : List Op3} (h : HasOp w B A n os) (hb : Below B w w') : HasOp w' B A n os := by
  refine ⟨h.1, fun hn => ?_⟩
  obtain ⟨b, off, ha, hB, hc⟩ := h.2 hn
  refine ⟨b, off, ha, hB, fun j k m x hj => ?_⟩
  obtain ⟨h1, h2, h3⟩ := hc j k m x hj
  exact ⟨(hb.cell (by exact hB)).trans h1, (hb.cell (by exact hB)).trans h2, (hb.cell (by exact hB)).trans h3⟩

section
variable {H : Type} {enc : TypeId × Value → H} {W : World} {r : Reach} {b0 : Nat} {v : Value} {d : DataW H} {p : List MemPlace}
theorem int_cell {n : Nat} {t : TypeId} {k : IntKind} {v : Value} {y : DataW H × List MemPlace} (ht : Try.prog.underlying t = some (.int k)) (h : DataW.trod enc Try.prog W 0 (fun _ => true) true n t [v] = some y) : ∃ z, v = .int k z := by
  obtain ⟨z, h1, _⟩ := DataW.trod_int ht h
  simp at h1
  exact ⟨z, h1⟩

theorem open_op (hv : Value.okWide Try.prog W r b0 32 v) (h : DataW.Trod enc Try.prog W 0 (fun _ => true) true 32 v d p) :
    ∃ k n x, v = .agg #[.int .i64 k, .int .i64 n, .int .u64 x] := by
  obtain ⟨v0, v1, v2, y0, y1, y2, m, rfl, _, _, h0, h1, h2⟩ := open_agg3 (P := Try.prog) Try.underlying32 (by kernel_rfl) (by kernel_rfl) hv h
  obtain ⟨k, rfl⟩ := int_cell Try.underlying3 h0
  obtain ⟨n, rfl⟩ := int_cell Try.underlying3 h1
  obtain ⟨x, rfl⟩ := int_cell Try.underlying30 h2
  exact ⟨k, n, x, rfl⟩

theorem open_ops (hv : Value.okWide Try.prog W r b0 22 v) (h : DataW.Trod enc Try.prog W 0 (fun _ => true) true 22 v d p) :
    ∃ A n c os, v = .slice A n c ∧ HasOp W W.heap.size A n os ∧ n ≤ c ∧ c ≤ maxLen := by
  obtain ⟨a0, len, cap, rfl⟩ := okWide_slice Try.underlying22 hv
  obtain ⟨fuel, hf⟩ := h
  rcases open_rows Try.underlying22 Try.underlying32 (by kernel_rfl) (by kernel_rfl) hf with hcs | ⟨a, l, c, m, hcs, hl, hm, hmm, hcell⟩
  · simp [Value.cells] at hcs
    obtain ⟨rfl, rfl, rfl⟩ := hcs
    exact ⟨none, 0, 0, [], rfl, ⟨rfl, fun h => by omega⟩, Nat.le_refl _, Nat.zero_le _⟩
  · simp [Value.cells] at hcs
    obtain ⟨rfl, rfl, rfl⟩ := hcs
    have hmc : m = cap := by simpa using hmm
    subst hmc
    have hc3 : ∀ i, i < m → ∃ q : Op3, W.cell? (a.add (i * 3)) = some (.int .i64 q.1) ∧ W.cell? (a.add (i * 3 + 1)) = some (.int .i64 q.2.1) ∧ W.cell? (a.add (i * 3 + 2)) = some (.int .u64 q.2.2) := fun i hi => by
      obtain ⟨n0, v0, y0, c0, t0⟩ := hcell i hi 0 _ rfl
      obtain ⟨n1, v1, y1, c1, t1⟩ := hcell i hi 1 _ rfl
      obtain ⟨n2, v2, y2, c2, t2⟩ := hcell i hi 2 _ rfl
      obtain ⟨k, rfl⟩ := int_cell Try.underlying3 t0
      obtain ⟨n, rfl⟩ := int_cell Try.underlying3 t1
      obtain ⟨x, rfl⟩ := int_cell Try.underlying30 t2
      exact ⟨(k, n, x), c0, c1, c2⟩
    classical
    let g : Nat → Op3 := fun i => if hi : i < m then (hc3 i hi).choose else (0, 0, 0)
    have hg : ∀ i, i < m → W.cell? (a.add (i * 3)) = some (.int .i64 (g i).1) ∧ W.cell? (a.add (i * 3 + 1)) = some (.int .i64 (g i).2.1) ∧ W.cell? (a.add (i * 3 + 2)) = some (.int .u64 (g i).2.2) := fun i hi => by
      simp only [g, hi, dite_true]
      exact (hc3 i hi).choose_spec
    refine ⟨_, _, _, (List.range len).map g, rfl, ⟨by simp, fun h0 => ?_⟩, hl, hm⟩
    obtain ⟨b, off, spot⟩ := a
    have hc := (hg 0 (by omega)).1
    have hspot : spot = none := by simpa [Addr.add] using World.cell?_spot hc
    subst hspot
    refine ⟨b, off, rfl, World.block_lt_of_cell? W _ hc, fun j k n x hj => ?_⟩
    rw [List.getElem?_map] at hj
    have hjl : j < len := by
      rcases Nat.lt_or_ge j len with h | h
      · exact h
      · rw [List.getElem?_eq_none (by simpa using h)] at hj; simp at hj
    rw [List.getElem?_range hjl] at hj
    simp at hj
    have := hg j (by omega)
    rw [hj, add_plain, add_plain, add_plain] at this
    simpa [Nat.add_assoc] using this
end
end Go.Proofs.Ytkhhofokhjbnbaa
