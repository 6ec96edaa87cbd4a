/- The plain law of the order of knots. No program in sight. -/
import Derived.Test.YtgmppddlgbkjmaaKnIR
import Derived.Test.YtgmppddlgbkjmaaKnROf
namespace Go.Proofs.Ytgmppddlgbkjmaa.Kn

/-- Does no arc lead to a knot from one that is not there yet, but from its own nodes? -/
def Free (g : G) (of out : List Nat) (k : Nat) : Prop := ∀ i, i < g.length → ∀ j ∈ outs g i, of.getD j 0 = k → of.getD i 0 ≠ k → of.getD i 0 ∈ out
def freeB (g : G) (of out : List Nat) (k : Nat) : Bool := (List.range g.length).all fun i => (outs g i).all fun j => !(of.getD j 0 == k) || (of.getD i 0 == k) || out.contains (of.getD i 0)
theorem freeB_iff {g : G} {of out : List Nat} {k : Nat} : freeB g of out k = true ↔ Free g of out k := by
  simp only [freeB, Free, List.all_eq_true, List.mem_range, Bool.or_eq_true, Bool.not_eq_true', beq_eq_false_iff_ne, beq_iff_eq, List.contains_iff_mem]
  constructor
  · intro h i hi j hj h1 h2
    rcases h i hi j hj with (h3 | h3) | h3
    · exact absurd h1 h3
    · exact absurd h3 h2
    · exact h3
  · intro h i hi j hj
    by_cases h1 : of.getD j 0 = k
    · by_cases h2 : of.getD i 0 = k
      · exact .inl (.inr h2)
      · exact .inr (h i hi j hj h1 h2)
    · exact .inl (.inl h1)
/-- May a knot come next? -/
def candB (g : G) (of out : List Nat) (k : Nat) : Bool := of.getD k 0 == k && !out.contains k && freeB g of out k
def Cand (g : G) (of out : List Nat) (k : Nat) : Prop := k < g.length ∧ of.getD k 0 = k ∧ k ∉ out ∧ Free g of out k
theorem candB_iff {g : G} {of out : List Nat} {k : Nat} : candB g of out k = true ↔ of.getD k 0 = k ∧ k ∉ out ∧ Free g of out k := by
  simp only [candB, Bool.and_eq_true, beq_iff_eq, Bool.not_eq_true', freeB_iff, and_assoc]
  rw [← Bool.not_eq_true, List.contains_iff_mem]
def next (g : G) (of out : List Nat) : Option Nat := (List.range g.length).find? (candB g of out)
theorem find_first {p : Nat → Bool} : ∀ (n : Nat) {k : Nat}, k < n → p k = true → (∀ j, j < k → p j = false) → (List.range n).find? p = some k
  | 0, _, h, _, _ => by omega
  | n + 1, k, h, hp, hj => by
    rw [List.range_succ, List.find?_append]
    by_cases hk : k < n
    · rw [find_first n hk hp hj]; rfl
    · obtain rfl : k = n := by omega
      rw [show (List.range k).find? p = none from List.find?_eq_none.2 fun x hx => by rw [hj x (List.mem_range.1 hx)]; simp]
      simp [hp]
theorem next_some {g : G} {of out : List Nat} {k : Nat} (h : Cand g of out k) (hl : ∀ j, j < k → ¬ Cand g of out j) : next g of out = some k := by
  refine find_first _ h.1 (candB_iff.2 h.2) fun j hj => ?_
  cases hh : candB g of out j with
  | false => rfl
  | true => exact absurd ⟨Nat.lt_trans hj h.1, candB_iff.1 hh⟩ (hl j hj)
theorem next_none {g : G} {of out : List Nat} (h : ∀ j, ¬ Cand g of out j) : next g of out = none :=
  List.find?_eq_none.2 fun x hx hh => h x ⟨List.mem_range.1 hx, candB_iff.1 hh⟩
theorem next_cand {g : G} {of out : List Nat} {k : Nat} (h : next g of out = some k) : Cand g of out k :=
  ⟨List.mem_range.1 (List.mem_of_find?_eq_some h), candB_iff.1 (List.find?_some h)⟩
theorem next_nocand {g : G} {of out : List Nat} (h : next g of out = none) (k : Nat) : ¬ Cand g of out k := fun hc =>
  List.find?_eq_none.1 h k (List.mem_range.2 hc.1) (candB_iff.2 hc.2)
/-- One more, if there is one. -/
def more (g : G) (of out : List Nat) : List Nat := match next g of out with
  | some k => out ++ [k]
  | none => out
def gr (g : G) (of : List Nat) : Nat → List Nat
  | 0 => []
  | m + 1 => more g of (gr g of m)
theorem more_some {g : G} {of out : List Nat} {k : Nat} (h : next g of out = some k) : more g of out = out ++ [k] := by unfold more; rw [h]
theorem more_none {g : G} {of out : List Nat} (h : next g of out = none) : more g of out = out := by unfold more; rw [h]
/-- What is known of a list so made. -/
structure Gr (g : G) (of out : List Nat) : Prop where
  nd : out.Nodup
  lt : ∀ k ∈ out, k < g.length ∧ of.getD k 0 = k
  free : ∀ (p k : Nat), out[p]? = some k → Free g of (out.take p) k
theorem Gr.nil (g : G) (of : List Nat) : Gr g of [] := ⟨by simp, by simp, fun p k h => by simp at h⟩
theorem Gr.snoc {g : G} {of out : List Nat} {k : Nat} (h : Gr g of out) (hc : Cand g of out k) : Gr g of (out ++ [k]) := by
  refine ⟨?_, fun x hx => ?_, fun p x hp => ?_⟩
  · rw [List.nodup_append]
    exact ⟨h.nd, by simp, fun a ha b hb e => by simp at hb; subst hb; subst e; exact hc.2.2.1 ha⟩
  · rcases List.mem_append.1 hx with hx | hx
    · exact h.lt x hx
    · simp at hx; subst hx; exact ⟨hc.1, hc.2.1⟩
  · by_cases hpl : p < out.length
    · rw [List.getElem?_append_left hpl] at hp
      rw [List.take_append_of_le_length (by omega)]
      exact h.free p x hp
    · rw [List.getElem?_append_right (by omega)] at hp
      have h0 : p - out.length = 0 := by have := (List.getElem?_eq_some_iff.1 hp).1; simp at this; omega
      rw [h0] at hp
      simp at hp
      subst hp
      rw [List.take_append_of_le_length (by omega), List.take_of_length_le (by omega)]
      exact hc.2.2.2
theorem gr_ok (g : G) (of : List Nat) : ∀ m, Gr g of (gr g of m)
  | 0 => Gr.nil g of
  | m + 1 => by
    show Gr g of (more g of (gr g of m))
    cases h : next g of (gr g of m) with
    | none => rw [more_none h]; exact gr_ok g of m
    | some k => rw [more_some h]; exact (gr_ok g of m).snoc (next_cand h)
theorem Gr.len {g : G} {of out : List Nat} (h : Gr g of out) : out.length ≤ g.length := nodup_len _ _ h.nd fun x hx => (h.lt x hx).1
theorem gr_stop {g : G} {of : List Nat} {m : Nat} (h : next g of (gr g of m) = none) : ∀ r, gr g of (m + r) = gr g of m
  | 0 => rfl
  | r + 1 => by
    show more g of (gr g of (m + r)) = _
    rw [gr_stop h r, more_none h]
/-- As long as it goes on, each round gives one. -/
theorem gr_len {g : G} {of : List Nat} : ∀ m, next g of (gr g of m) ≠ none → (gr g of m).length = m
  | 0, _ => rfl
  | m + 1, h => by
    have h0 : next g of (gr g of m) ≠ none := fun e => h (by show next g of (more g of (gr g of m)) = none; rw [more_none e]; exact e)
    have h1 := gr_len m h0
    obtain ⟨k, hk⟩ := Option.ne_none_iff_exists'.1 h0
    show (more g of (gr g of m)).length = _
    rw [more_some hk]
    simp [h1]
theorem gr_end (g : G) (of : List Nat) : next g of (gr g of g.length) = none := by
  cases h : next g of (gr g of g.length) with
  | none => rfl
  | some k =>
    exfalso
    have h1 := gr_len (g := g) (of := of) g.length (by rw [h]; simp)
    have h2 := ((gr_ok g of g.length).snoc (next_cand h)).len
    simp at h2
    omega
/-- A list that grows one by one, to its end. -/
theorem gr_whole {g : G} {of out : List Nat} (h : out = gr g of out.length) (hn : next g of out = none) : out = gr g of g.length := by
  have hl : out.length ≤ g.length := by rw [h]; exact (gr_ok g of _).len
  have h1 : next g of (gr g of out.length) = none := by rw [← h]; exact hn
  have h2 := gr_stop h1 (g.length - out.length)
  rw [show out.length + (g.length - out.length) = g.length by omega] at h2
  rw [h2]
  exact h
theorem gr_step {g : G} {of out : List Nat} {k : Nat} (h : out = gr g of out.length) (hn : next g of out = some k) : out ++ [k] = gr g of (out ++ [k]).length := by
  rw [List.length_append]
  show out ++ [k] = more g of (gr g of out.length)
  rw [← h, more_some hn]

/-- How many arcs lead to a knot from those not there yet. -/
def cntRow (of : List Nat) (k : Nat) (l : List Nat) : Nat := l.countP fun j => of.getD j 0 == k
def cntAt (g : G) (of out : List Nat) (k i : Nat) : Nat := if of.getD i 0 = k ∨ of.getD i 0 ∈ out then 0 else cntRow of k (outs g i)
def cnt (g : G) (of out : List Nat) (k : Nat) : Nat := ((List.range g.length).map (cntAt g of out k)).sum
theorem sum_zero {l : List Nat} : l.sum = 0 ↔ ∀ x ∈ l, x = 0 := by
  induction l with
  | nil => simp
  | cons a l ih => simp [ih]
theorem cnt_zero {g : G} {of out : List Nat} {k : Nat} : cnt g of out k = 0 ↔ Free g of out k := by
  unfold cnt
  rw [sum_zero]
  simp only [List.mem_map, List.mem_range, forall_exists_index, and_imp, forall_apply_eq_imp_iff₂, Free]
  constructor
  · intro h i hi j hj h1 h2
    have := h i hi
    unfold cntAt at this
    split at this
    · rename_i h3
      rcases h3 with h3 | h3
      · exact absurd h3 h2
      · exact h3
    · have h3 := List.countP_eq_zero.1 this j hj
      simp at h3
      exact absurd h1 h3
  · intro h i hi
    unfold cntAt
    split
    · rfl
    · rename_i h3
      rw [not_or] at h3
      refine List.countP_eq_zero.2 fun j hj => ?_
      simp only [beq_iff_eq]
      intro h1
      exact h3.2 (h i hi j hj h1 h3.1)
end Go.Proofs.Ytgmppddlgbkjmaa.Kn
