/- The plain law of cells: what undoes each change, and the words at each time. -/
import Derived.Below
namespace Go.Proofs.Ytkhhofokhjbnbaa.Cl

/-- What undoes a change: a cut to so many words, or a word put back. -/
abbrev U := Nat ⊕ (Nat × Int)
def app : U → List Int → List Int
  | .inl n, s => s.take n
  | .inr (i, x), s => s.set i x
def valid : U → List Int → Prop
  | .inl n, s => n ≤ s.length
  | .inr (i, _), s => i < s.length
/-- The words at time k. -/
def at_ (us : List U) (ws : List Int) (k : Nat) : List Int := (us.drop k).foldr app ws
def Ok (us : List U) (ws : List Int) : Prop := ∀ k u, us[k]? = some u → valid u (at_ us ws (k + 1))

theorem at_len (us : List U) (ws : List Int) : at_ us ws us.length = ws := by simp [at_]
theorem at_snoc {us : List U} {u : U} {ws : List Int} {k : Nat} (hk : k ≤ us.length) : at_ (us ++ [u]) ws k = at_ us (app u ws) k := by
  unfold at_
  rw [List.drop_append_of_le_length hk, List.foldr_append]
  rfl
theorem ok_nil (ws : List Int) : Ok [] ws := fun k u h => by simp at h
theorem ok_snoc {us : List U} {u : U} {ws ws' : List Int} (h : Ok us ws) (ha : app u ws' = ws) (hv : valid u ws') : Ok (us ++ [u]) ws' := by
  intro k x hx
  rcases Nat.lt_or_ge k us.length with hk | hk
  · rw [List.getElem?_append_left hk] at hx
    rw [at_snoc (by omega), ha]
    exact h k x hx
  · have hk' : k = us.length := by
      have := (List.getElem?_eq_some_iff.1 hx).1
      simp at this; omega
    subst hk'
    simp at hx
    subst hx
    have hl : at_ (us ++ [u]) ws' (us.length + 1) = ws' := by
      have := at_len (us ++ [u]) ws'
      simpa using this
    rw [hl]
    exact hv
theorem app_add (ws : List Int) (x : Int) : app (.inl ws.length) (ws ++ [x]) = ws := by simp [app]
theorem ok_add {us : List U} {ws : List Int} (h : Ok us ws) (x : Int) : Ok (us ++ [.inl ws.length]) (ws ++ [x]) := ok_snoc h (app_add ws x) (by simp [valid])
theorem app_set (ws : List Int) (i : Nat) (x : Int) (hi : i < ws.length) : app (.inr (i, ws.getD i 0)) (ws.set i x) = ws := by
  simp only [app, List.set_set]
  rw [List.getD_eq_getElem?_getD, List.getElem?_eq_getElem hi]
  exact List.set_getElem_self hi
theorem ok_set {us : List U} {ws : List Int} (h : Ok us ws) {i : Nat} (x : Int) (hi : i < ws.length) : Ok (us ++ [.inr (i, ws.getD i 0)]) (ws.set i x) := ok_snoc h (app_set ws i x hi) (by simp [valid, hi])

/-- The last change undone. -/
theorem at_last {us : List U} {u : U} {ws : List Int} : at_ (us ++ [u]) ws us.length = app u ws := by rw [at_snoc (Nat.le_refl _), at_len]
theorem ok_last {us : List U} {u : U} {ws : List Int} (h : Ok (us ++ [u]) ws) : valid u ws ∧ Ok us (app u ws) := by
  refine ⟨?_, fun k x hx => ?_⟩
  · have := h us.length u (by simp)
    have hl : at_ (us ++ [u]) ws (us.length + 1) = ws := by
      have := at_len (us ++ [u]) ws
      simpa using this
    rwa [hl] at this
  · have hk := (List.getElem?_eq_some_iff.1 hx).1
    have := h k x (by rw [List.getElem?_append_left hk]; exact hx)
    rwa [at_snoc (by omega)] at this

theorem at_take {us : List U} {ws : List Int} {j k : Nat} (hj : j ≤ k) : at_ (us.take k) (at_ us ws k) j = at_ us ws j := by
  unfold at_
  rw [← List.foldr_append, List.drop_take]
  congr 1
  rw [← List.take_append_drop (k - j) (us.drop j)]
  congr 1
  · rw [List.take_append_drop]
  · rw [List.drop_drop]; congr 1; omega

/-- The last one is there. -/
theorem snoc_of {us : List U} {k : Nat} (h : us.length = k + 1) : ∃ u, us[k]? = some u ∧ us = us.take k ++ [u] := by
  refine ⟨us[k], List.getElem?_eq_getElem (by omega), ?_⟩
  rw [← List.take_succ_eq_append_getElem (by omega), List.take_of_length_le (by omega)]

/-- The words at each time, from 0 on. -/
def hist (us : List U) (ws : List Int) : List (List Int) := (List.range (us.length + 1)).map (at_ us ws)
theorem hist_length (us : List U) (ws : List Int) : (hist us ws).length = us.length + 1 := by simp [hist]
theorem hist_get {us : List U} {ws : List Int} {k : Nat} (hk : k ≤ us.length) : (hist us ws)[k]? = some (at_ us ws k) := by
  simp [hist, List.getElem?_range (show k < us.length + 1 by omega)]
theorem hist_snoc {us : List U} {u : U} {ws ws' : List Int} (ha : app u ws' = ws) : hist (us ++ [u]) ws' = hist us ws ++ [ws'] := by
  unfold hist
  rw [List.length_append, List.length_singleton, List.range_succ, List.map_append]
  congr 1
  · apply List.map_congr_left
    intro k hk
    rw [List.mem_range] at hk
    rw [at_snoc (by omega), ha]
  · have := at_len (us ++ [u]) ws'
    simpa using this
theorem hist_take {us : List U} {ws : List Int} {k : Nat} (hk : k ≤ us.length) : (hist us ws).take (k + 1) = hist (us.take k) (at_ us ws k) := by
  unfold hist
  rw [List.length_take, Nat.min_eq_left hk, ← List.map_take, List.take_range, Nat.min_eq_left (by omega)]
  apply List.map_congr_left
  intro j hj
  rw [List.mem_range] at hj
  exact (at_take (by omega)).symm
theorem hist_nil (ws : List Int) : hist [] ws = [ws] := by simp [hist, at_]
end Go.Proofs.Ytkhhofokhjbnbaa.Cl
