/- Plain: how a table grows; its rows still lead onwards. -/
import Derived.Test.YthnbhcfpfbimgaaRwLacks
namespace Go.Proofs.Ythnbhcfpfbimgaa
namespace Rw

/-- The table's lists are no longer than n. -/
structure Sz (s : T) (n : Nat) : Prop where
  tot : tot s.rows ≤ n
  lacks : ∀ (k : Nat) r, s.rows[k]? = some r → r.lacks.length ≤ n
  undo : s.undo.length ≤ n
  rows : s.rows.length ≤ n
  own : s.own.length ≤ n
  eqs : s.eqs.length ≤ n
  times : s.times.length ≤ n
theorem Sz.mono {s : T} {n m : Nat} (h : Sz s n) (hm : n ≤ m) : Sz s m :=
  ⟨Nat.le_trans h.tot hm, fun k r hr => Nat.le_trans (h.lacks k r hr) hm, Nat.le_trans h.undo hm, Nat.le_trans h.rows hm, Nat.le_trans h.own hm, Nat.le_trans h.eqs hm, Nat.le_trans h.times hm⟩
theorem Sz.did {s : T} {n : Nat} (h : Sz s n) (u : U) : Sz (s.did u) (n + 1) :=
  ⟨Nat.le_succ_of_le h.tot, fun k r hr => Nat.le_succ_of_le (h.lacks k r hr), by have := h.undo; simp [T.did]; omega, Nat.le_succ_of_le h.rows, Nat.le_succ_of_le h.own, Nat.le_succ_of_le h.eqs, Nat.le_succ_of_le h.times⟩
theorem Sz.stick {s : T} {n : Nat} (h : Sz s n) (w : W64) : Sz (s.stick w) (n + 1) := by
  unfold T.stick
  split
  · exact h.mono (by omega)
  · exact Sz.did (s := { s with stuck := true, why := w }) ⟨h.tot, h.lacks, h.undo, h.rows, h.own, h.eqs, h.times⟩ _
theorem stick_rows (s : T) (w : W64) : (s.stick w).rows = s.rows ∧ (s.stick w).own = s.own := by
  unfold T.stick
  split <;> exact ⟨rfl, rfl⟩
theorem tot_modify (l : List Row) (k : Nat) (q : Row → Row) (hq : ∀ r, (q r).fields = r.fields) : tot (l.modify k q) = tot l := by
  unfold tot
  congr 1
  refine List.ext_getElem? fun i => ?_
  rw [List.getElem?_map, List.getElem?_map, List.getElem?_modify]
  cases l[i]? with
  | none => rfl
  | some a => by_cases h : k = i <;> simp [h, hq]
theorem modify_get {l : List Row} {k i : Nat} {q : Row → Row} {r : Row} (h : (l.modify k q)[i]? = some r) : ∃ r0, l[i]? = some r0 ∧ r = if k = i then q r0 else r0 := by
  rw [List.getElem?_modify] at h
  cases hl : l[i]? with
  | none => rw [hl] at h; simp at h
  | some a =>
    rw [hl] at h
    refine ⟨a, rfl, ?_⟩
    by_cases hk : k = i <;> simp [hk] at h ⊢ <;> exact h.symm
/-- What lacks leaves: the same bound rows, no more rows; one step more at most. -/
structure Nx (s s' : T) : Prop where
  len : s'.rows.length = s.rows.length
  own : s'.own = s.own
  row : ∀ (i : Nat) r, s'.rows[i]? = some r → ∃ r0, s.rows[i]? = some r0 ∧ r.bound = r0.bound ∧ r.tail = r0.tail ∧ r.fields = r0.fields ∧ r.why = r0.why
theorem Nx.refl (s : T) : Nx s s := ⟨rfl, rfl, fun _ r h => ⟨r, h, rfl, rfl, rfl, rfl⟩⟩
theorem Nx.wf {s s' : T} (h : Nx s s') (hw : Wf s.rows) : Wf s'.rows := ⟨fun i r hr hb => by
  obtain ⟨r0, h1, h2, h3, _⟩ := h.row i r hr
  rw [h3, h.len]
  exact hw.tail i r0 h1 (by rw [← h2]; exact hb)⟩
theorem Nx.trans {a b c : T} (h : Nx a b) (k : Nx b c) : Nx a c := ⟨k.len.trans h.len, k.own.trans h.own, fun i r hr => by
  obtain ⟨r1, h1, h2, h3, h4, h5⟩ := k.row i r hr
  obtain ⟨r0, g1, g2, g3, g4, g5⟩ := h.row i r1 h1
  exact ⟨r0, g1, h2.trans g2, h3.trans g3, h4.trans g4, h5.trans g5⟩⟩
theorem Nx.stick (s : T) (w : W64) : Nx s (s.stick w) := by
  obtain ⟨h1, h2⟩ := stick_rows s w
  exact ⟨by rw [h1], h2, fun i r h => ⟨r, by rw [← h1]; exact h, rfl, rfl, rfl, rfl⟩⟩
theorem lacks_nx (s : T) (at_ : Int) (f : ByteArray) (w : W64) {n : Nat} (h : Sz s n) : Nx s (s.lacks at_ f w).2 ∧ Sz (s.lacks at_ f w).2 (n + 1) := by
  unfold T.lacks
  simp only []
  split
  · exact ⟨Nx.stick _ _, h.stick _⟩
  split
  · exact ⟨Nx.refl _, h.mono (by omega)⟩
  split
  · exact ⟨Nx.refl _, h.mono (by omega)⟩
  · generalize hk : (s.spreads [] at_).fin.toNat = k
    generalize w ||| (s.spreads [] at_).why = y
    refine ⟨⟨by simp [T.did], rfl, fun i r hr => ?_⟩, ?_⟩
    · obtain ⟨r0, h1, h2⟩ := modify_get (show (s.rows.modify k _)[i]? = some r from hr)
      refine ⟨r0, h1, ?_⟩
      rw [h2]
      split <;> exact ⟨rfl, rfl, rfl, rfl⟩
    · refine ⟨Nat.le_succ_of_le (Nat.le_trans (Nat.le_of_eq (tot_modify s.rows k _ (by intro _; rfl))) h.tot), fun i r hr => ?_, by have := h.undo; simp [T.did]; omega, by simpa [T.did] using Nat.le_succ_of_le h.rows, Nat.le_succ_of_le h.own, Nat.le_succ_of_le h.eqs, Nat.le_succ_of_le h.times⟩
      obtain ⟨r0, h1, h2⟩ := modify_get (show (s.rows.modify k _)[i]? = some r from hr)
      have hr0 := h.lacks i r0 h1
      rw [h2]
      split
      · rename_i hki
        subst hki
        have hg : s.rows.getD k row0 = r0 := by rw [List.getD_eq_getElem?_getD, h1]; rfl
        simp only [hg, List.length_append, List.length_singleton]
        omega
      · omega
end Rw
end Go.Proofs.Ythnbhcfpfbimgaa
