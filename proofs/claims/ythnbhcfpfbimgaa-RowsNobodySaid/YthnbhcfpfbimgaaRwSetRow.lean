/- One cell of one row of the table turned. -/
import Derived.Test.YthnbhcfpfbimgaaRwApp
namespace Go.Proofs.Ythnbhcfpfbimgaa
open Go.RowKit
open Rw (El At Fld Lk Eqn U T W64)

theorem rowsV_set {rs : List Rw.Row} {vs : List (Value × Value)} {k j : Nat} {r r' : Rw.Row} {v v' : Value × Value} {u : Value} (hl : vs.length = rs.length) (hr : rs[k]? = some r) (hv : vs[k]? = some v) (hj : j < 5)
    (hu : (rowV r' v')[j]? = some u) (hne : ∀ i, i ≠ j → (rowV r' v')[i]? = (rowV r v)[i]?) : (rowsV rs vs).set (k * 5 + j) u = rowsV (rs.set k r') (vs.set k v') := by
  have hk := (List.getElem?_eq_some_iff.1 hr).1
  have hlen : (rowsV rs vs).length = rs.length * 5 := rowsV_len _ _ hl
  have hlen' : (rowsV (rs.set k r') (vs.set k v')).length = rs.length * 5 := by rw [rowsV_len _ _ (by simp [hl]), List.length_set]
  refine List.ext_getElem? fun q => ?_
  rcases Nat.lt_or_ge q (rs.length * 5) with hq | hq
  · obtain ⟨i, t, ht, rfl⟩ : ∃ i t, t < 5 ∧ q = i * 5 + t := ⟨q / 5, q % 5, Nat.mod_lt _ (by omega), by omega⟩
    have hi : i < rs.length := by omega
    obtain ⟨x, hx⟩ : ∃ x, rs[i]? = some x := ⟨rs[i], List.getElem?_eq_getElem hi⟩
    obtain ⟨y, hy⟩ : ∃ y, vs[i]? = some y := ⟨vs[i]'(by omega), List.getElem?_eq_getElem _⟩
    by_cases hik : i = k
    · subst hik
      rw [hr] at hx
      rw [hv] at hy
      cases hx
      cases hy
      rw [rowsV_get (r := r') (v := v') (by rw [List.getElem?_set_self hi]) (by rw [List.getElem?_set_self (by omega)]) ht]
      by_cases htj : t = j
      · subst htj
        rw [List.getElem?_set_self (by rw [hlen]; omega), hu]
      · rw [List.getElem?_set_ne (by omega), rowsV_get hr hv ht, hne t htj]
    · rw [rowsV_get (r := x) (v := y) (by rw [List.getElem?_set_ne (fun e => hik e.symm)]; exact hx) (by rw [List.getElem?_set_ne (fun e => hik e.symm)]; exact hy) ht,
        List.getElem?_set_ne (by omega), rowsV_get hx hy ht]
  · rw [List.getElem?_eq_none (by rw [List.length_set, hlen]; omega), List.getElem?_eq_none (by rw [hlen']; omega)]
theorem TbX.setRow {w : World} {B P b c : Nat} {g : Bl} {s : T} {vu vt vo ve : Value} {vs : List (Value × Value)} {fs : List Value} (h : TbX w B P g s vu vt (.slice (some ⟨b, 0, none⟩) s.rows.length c) vo ve vs fs) {k j : Nat} {r r' : Rw.Row} {v v' : Value × Value} {u : Value} (hr : s.rows[k]? = some r) (hv : vs[k]? = some v) (hj : j < 5)
    (hu : (rowV r' v')[j]? = some u) (hne : ∀ i, i ≠ j → (rowV r' v')[i]? = (rowV r v)[i]?) (hra : RowAt w B r' v') :
    TbX (w.setCell ⟨b, k * 5 + j, none⟩ u) B P g { s with rows := s.rows.set k r' } vu vt (.slice (some ⟨b, 0, none⟩) s.rows.length c) vo ve (vs.set k v') fs ∧ Kp (OnB P g) w (w.setCell ⟨b, k * 5 + j, none⟩ u) := by
  obtain ⟨⟨nu, nt, nr, no, ne⟩, n1, n2, n3, n4⟩ := h.ne
  have hgb : g.r = some b := h.bl.2.2.1.symm
  have hset : ∀ q, q ≠ b → (w.setCell ⟨b, k * 5 + j, none⟩ u).heap[q]? = w.heap[q]? := fun q hq => Below.heap_setCell _ _ _ _ hq
  have hbP : b ≠ P := fun e => nr (by rw [← e]; rfl)
  have hrest := h.rest (w' := w.setCell ⟨b, k * 5 + j, none⟩ u) (g' := g) (by simp) (fun q _ hl => hset q (fun e => (h.off hl).2.2.2.1 (by rw [e]; rfl))) (fun _ _ => id) (fun _ _ => id) (fun _ _ => id)
  have hrow := RowZ.set h.rows (k * 5 + j) u
  rw [rowsV_set h.vsl hr hv hj hu hne] at hrow
  obtain ⟨cur, hcb⟩ := RowZ.block h.rows (g := b) rfl
  refine ⟨⟨?_, h.bl, RowZ.keep h.undo fun q hq => hset q (fun e => by subst e; exact (n1 q hq).2.1 rfl), RowZ.keep h.times fun q hq => hset q (fun e => by subst e; exact (n2 q hq).1 rfl), by rw [List.length_set]; exact hrow,
    RowZ.keep h.own fun q hq => hset q (fun e => by subst e; exact (n3 q rfl).1 hq), RowZ.keep h.eqs fun q hq => hset q (fun e => by subst e; exact (n3 q rfl).2 hq), by simp [h.vsl], fun i x y hx hy => ?_, hrest.2, h.ge, h.apart⟩, (Kp.refl _ _).setCell (.inl (.inr (.inr (.inr (.inl hgb))))) _⟩
  · exact (hset P (fun e => hbP e.symm)).trans h.self
  · by_cases hik : i = k
    · subst hik
      have hi := (List.getElem?_eq_some_iff.1 hr).1
      rw [List.getElem?_set_self hi] at hx
      rw [List.getElem?_set_self (by rw [h.vsl]; exact hi)] at hy
      cases hx
      cases hy
      exact hra.keep (by simp) fun q _ hq => hset q (fun e => by
        subst e
        rcases hq with hq | ⟨t, cs, hc, ht⟩
        · have := h.ge.2.2.2.1 q hgb; omega
        · rw [hcb] at hc
          injection hc with hc
          injection hc with _ hc
          subst hc
          rcases ht with e | e <;> exact absurd e (by decide))
    · exact hrest.1 i x y (by rw [List.getElem?_set_ne (fun e => hik e.symm)] at hx; exact hx) (by rw [List.getElem?_set_ne (fun e => hik e.symm)] at hy; exact hy)
end Go.Proofs.Ythnbhcfpfbimgaa
