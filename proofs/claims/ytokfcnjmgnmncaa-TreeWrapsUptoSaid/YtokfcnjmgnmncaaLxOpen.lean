/- Arguments opened: a slice of pieces. -/
import Derived.Test.YtokfcnjmgnmncaaLxTok
import Derived.ProofKit
import Derived.OpenShut
import Derived.ShutString
import Derived.ChangeOld
import Derived.Deep.Slices
import Derived.Deep.Fields
import Derived.ChangeSame
import Derived.Lib.SmallJoins
namespace Go.Proofs.Ytokfcnjmgnmncaa
open Go.ChangeShapes Go.WideShapes Go.ChangeAt Go.RowKit Go.Deep Go.Joins
section
variable {H : Type} {enc : TypeId × Value → H} {P : Program} {w : World} {base : Nat} {spare : Nat → Bool} {held : Bool}

/-- A slice of structs of one-cell fields: each field of each element, by its cell. (The kit's extra-structs shows the way.) -/
theorem open_rows {t e : TypeId} {fs : Array Field} {fuel : Nat} {cs : List Value} {x : DataW H × List MemPlace} (ht : P.underlying t = some (.slice e)) (he : P.underlying e = some (.struct fs))
    (hone : oneCellFields P fs = true) (hC : P.cellsOf e = fs.size) (h : DataW.trod enc P w base spare held fuel t cs = some x) :
    (cs = [.slice none 0 0]) ∨
    ∃ (a : Addr) (len cap m : Nat), cs = [.slice (some a) len cap] ∧ len ≤ cap ∧ cap ≤ maxLen ∧ m = (if spare a.block then cap else len) ∧
      ∀ i, i < m → ∀ (j : Nat) (f : Field), fs[j]? = some f → ∃ (n : Nat) (v : Value) (y : DataW H × List MemPlace), w.cell? (a.add (i * fs.size + j)) = some v ∧ DataW.trod enc P w base spare held n f.type [v] = some y := by
  rcases open_slice ht h with h0 | ⟨a, len, cap, m, n, D, Pl, hcs, hb, hl, hm, hmm, hx, hi⟩
  · exact .inl h0.1
  · refine .inr ⟨a, len, cap, m, hcs, hl, hm, hmm, fun i him j f hj => ?_⟩
    obtain ⟨cs', hc, ht'⟩ := hi i him
    rw [hC] at hc
    obtain ⟨ys, n', hn', hy, hlen, hyl, hf⟩ := DataW.trod_struct he ht'
    obtain ⟨_, hcl, hat⟩ := World.cells?_some hc
    obtain ⟨ho, hk⟩ := hone_of hone j f hj
    have hjl : j < fs.size := (Array.getElem?_eq_some_iff.1 hj).1
    have hcell := hat j hjl
    have hv : cs'[j]? = some (cs'[j]'(by omega)) := List.getElem?_eq_getElem (by omega)
    have h1 := hf j f hj
    rw [ho, hk] at h1
    have hone' : (cs'.drop j).take 1 = [cs'[j]'(by omega)] := by
      rw [List.drop_eq_getElem_cons (by omega)]
      rfl
    rw [hone'] at h1
    have hys : ys[j]? = some (ys[j]'(by omega)) := List.getElem?_eq_getElem (by omega)
    refine ⟨_, _, _, ?_, h1.trans hys⟩
    rw [← Go.Deep.add_add, hcell, hv]
end

/-- What a piece's parts are in Go. -/
def Lx.Fit (t : Lx.T) : Prop := t.kind ≤ 255 ∧ t.text.size ≤ maxLen ∧ -9223372036854775808 ≤ t.pos ∧ t.pos ≤ 9223372036854775807
section
variable {H : Type} {enc : TypeId × Value → H} {W : World} {r : Reach} {b0 : Nat} {v : Value} {d : DataW H} {p : List MemPlace}
theorem i64_cell {n : Nat} {t : TypeId} {v : Value} {y : DataW H × List MemPlace} (ht : Try.prog.underlying t = some (.int .i64)) (h : DataW.trod enc Try.prog W 0 (fun _ => true) true n t [v] = some y) :
    ∃ z : Int, v = .int .i64 z ∧ -9223372036854775808 ≤ z ∧ z ≤ 9223372036854775807 := by
  obtain ⟨z, h1, _, hw⟩ := DataW.trod_int ht h
  simp at h1
  simp [Lit.wf, IntKind.min, IntKind.max, IntKind.signed, IntKind.bits] at hw
  exact ⟨z, h1, by omega, by omega⟩
theorem u8_cell {n : Nat} {t : TypeId} {v : Value} {y : DataW H × List MemPlace} (ht : Try.prog.underlying t = some (.int .u8)) (h : DataW.trod enc Try.prog W 0 (fun _ => true) true n t [v] = some y) :
    ∃ z : Nat, v = .int .u8 z ∧ z ≤ 255 := by
  obtain ⟨z, h1, _, hw⟩ := DataW.trod_int ht h
  simp at h1
  simp [Lit.wf, IntKind.min, IntKind.max, IntKind.signed, IntKind.bits] at hw
  exact ⟨z.toNat, by rw [h1]; congr 1; omega, by omega⟩
theorem str_cell {n : Nat} {t : TypeId} {v : Value} {y : DataW H × List MemPlace} (ht : Try.prog.underlying t = some .string) (h : DataW.trod enc Try.prog W 0 (fun _ => true) true n t [v] = some y) :
    ∃ s : ByteArray, v = .string s ∧ s.size ≤ maxLen := by
  obtain ⟨z, h1, _, hw⟩ := DataW.trod_string ht h
  simp at h1
  exact ⟨z, h1, hw⟩

theorem open_toks (hv : Value.okWide Try.prog W r b0 22 v) (h : DataW.Trod enc Try.prog W 0 (fun _ => true) true 22 v d p) :
    ∃ A n c l, v = .slice A n c ∧ HasT W W.heap.size A n l ∧ n ≤ c ∧ c ≤ maxLen ∧ ∀ t ∈ l, Lx.Fit t := by
  obtain ⟨a0, len, cap, rfl⟩ := okWide_slice Try.underlying22 hv
  obtain ⟨fuel, hf⟩ := h
  rcases open_rows Try.underlying22 Try.underlying35 (by kernel_rfl) (by kernel_rfl) hf with hcs | ⟨a, l, c, m, hcs, hl, hm, hmm, hcell⟩
  · simp [Value.cells] at hcs
    obtain ⟨rfl, rfl, rfl⟩ := hcs
    exact ⟨none, 0, 0, [], rfl, ⟨rfl, fun h => by omega⟩, Nat.le_refl _, Nat.zero_le _, by simp⟩
  · simp [Value.cells] at hcs
    obtain ⟨rfl, rfl, rfl⟩ := hcs
    have hmc : m = cap := by simpa using hmm
    subst hmc
    have hc3 : ∀ i, i < m → ∃ q : Lx.T, Lx.Fit q ∧ W.cell? (a.add (i * 3)) = some (.int .u8 q.kind) ∧ W.cell? (a.add (i * 3 + 1)) = some (.string q.text) ∧ W.cell? (a.add (i * 3 + 2)) = some (.int .i64 q.pos) := fun i hi => by
      obtain ⟨n0, v0, y0, c0, t0⟩ := hcell i hi 0 _ rfl
      obtain ⟨n1, v1, y1, c1, t1⟩ := hcell i hi 1 _ rfl
      obtain ⟨n2, v2, y2, c2, t2⟩ := hcell i hi 2 _ rfl
      obtain ⟨k, rfl, hk⟩ := u8_cell Try.underlying5 t0
      obtain ⟨s, rfl, hs⟩ := str_cell Try.underlying9 t1
      obtain ⟨x, rfl, hx1, hx2⟩ := i64_cell Try.underlying3 t2
      exact ⟨⟨k, s, x⟩, ⟨hk, hs, hx1, hx2⟩, c0, c1, c2⟩
    classical
    let g : Nat → Lx.T := fun i => if hi : i < m then (hc3 i hi).choose else ⟨0, ByteArray.empty, 0⟩
    have hg : ∀ i, i < m → Lx.Fit (g i) ∧ W.cell? (a.add (i * 3)) = some (.int .u8 (g i).kind) ∧ W.cell? (a.add (i * 3 + 1)) = some (.string (g i).text) ∧ W.cell? (a.add (i * 3 + 2)) = some (.int .i64 (g i).pos) := fun i hi => by
      simp only [g, hi, dite_true]
      exact (hc3 i hi).choose_spec
    refine ⟨_, _, _, (List.range len).map g, rfl, ⟨by simp, fun h0 => ?_⟩, hl, hm, fun t ht => ?_⟩
    · obtain ⟨b, off, spot⟩ := a
      have hc := (hg 0 (by omega)).2.1
      have hspot : spot = none := by simpa [Addr.add] using World.cell?_spot hc
      subst hspot
      refine ⟨b, off, rfl, World.block_lt_of_cell? W _ hc, fun j t hj => ?_⟩
      rw [List.getElem?_map] at hj
      have hjl : j < len := by
        rcases Nat.lt_or_ge j len with h | h
        · exact h
        · rw [List.getElem?_eq_none (by simpa using h)] at hj; simp at hj
      rw [List.getElem?_range hjl] at hj
      simp at hj
      have := (hg j (by omega)).2
      rw [hj, add_plain, add_plain, add_plain] at this
      simpa [Nat.add_assoc] using this
    · obtain ⟨j, hj, rfl⟩ := List.mem_map.1 ht
      exact (hg j (by have := List.mem_range.1 hj; omega)).1
end
end Go.Proofs.Ytokfcnjmgnmncaa
