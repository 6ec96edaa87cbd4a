/- The plain law of knots, part 2: each step may be made, and the steps come to an end. No program in sight. -/
import Derived.Test.YtgmppddlgbkjmaaKnPlain
namespace Go.Proofs.Ytgmppddlgbkjmaa.Kn

theorem nodup_len : ∀ (n : Nat) (l : List Nat), l.Nodup → (∀ x ∈ l, x < n) → l.length ≤ n
  | 0, l, _, h => by
    cases l with
    | nil => simp
    | cons x l => exact absurd (h x (by simp)) (by omega)
  | n + 1, l, hn, h => by
    have h1 := nodup_len n (l.erase n) (hn.erase n) (fun x hx => by
      have := h x (List.mem_of_mem_erase hx)
      have hne : x ≠ n := fun e => by
        subst e
        exact absurd hx hn.not_mem_erase
      omega)
    rw [List.length_erase] at h1
    split at h1 <;> omega
theorem split_at {st : List Nat} {i : Nat} (h : i ∈ st) : ∃ suf pre, st = suf ++ i :: pre ∧ i ∉ suf := by
  induction st with
  | nil => simp at h
  | cons x st ih =>
    by_cases hx : x = i
    · exact ⟨[], st, by rw [hx]; rfl, by simp⟩
    · obtain ⟨suf, pre, h1, h2⟩ := ih (by rcases List.mem_cons.1 h with e | e; (· exact absurd e.symm hx); (· exact e))
      exact ⟨x :: suf, pre, by rw [h1]; rfl, by simp [h2]; exact fun e => hx e.symm⟩
theorem own_split {suf pre : List Nat} {i : Nat} (h : i ∉ suf) : own (suf ++ i :: pre) i = i :: suf.reverse ∧ rest (suf ++ i :: pre) i = pre := by
  unfold own rest
  have h1 : (suf ++ i :: pre).takeWhile (fun x => decide (x ≠ i)) = suf := by
    rw [List.takeWhile_append_of_pos (by intro x hx; simp; rintro rfl; exact h hx)]
    simp
  have h2 : (suf ++ i :: pre).dropWhile (fun x => decide (x ≠ i)) = i :: pre := by
    rw [List.dropWhile_append_of_pos (by intro x hx; simp; rintro rfl; exact h hx)]
    simp
  rw [h1, h2]
  exact ⟨rfl, rfl⟩
theorem getD_set {α : Type} (l : List α) (i j : Nat) (v d : α) : (l.set i v).getD j d = if i = j ∧ j < l.length then v else l.getD j d := by
  simp only [List.getD_eq_getElem?_getD, List.getElem?_set]
  by_cases h1 : i = j
  · subst h1
    by_cases h2 : i < l.length
    · simp [h2]
    · simp [h2]
  · simp [h1]
theorem setAll_get {α : Type} (v d : α) (x : Nat) : ∀ (ks : List Nat) (l : List α), (setAll l ks v).getD x d = if x ∈ ks ∧ x < l.length then v else l.getD x d
  | [], l => by simp [setAll]
  | k :: ks, l => by
    have := setAll_get v d x ks (l.set k v)
    rw [setAll] at this
    rw [setAll, List.foldl_cons, this, getD_set, List.length_set]
    by_cases h1 : x ∈ ks
    · by_cases h2 : x < l.length
      · simp [h1, h2]
      · simp [h2]
    · by_cases h2 : k = x
      · subst h2
        simp [h1]
      · have : ¬ x = k := fun e => h2 e.symm
        simp [h1, h2, this]

/-- All is so that each step may be made. -/
structure Sd (g : G) (s : St) : Prop where
  lo : s.order.length = g.length
  ll : s.low.length = g.length
  ln : s.on.length = g.length
  lf : s.of.length = g.length
  frames : ∀ f ∈ s.opn, f.2 ≤ (arcs g f.1).length
  stk : ∀ x ∈ s.stack, x < g.length
  met : ∀ x, x ∈ s.stack ↔ s.on.getD x false = true
  ndup : s.stack.Nodup
  sub : (s.opn.map (·.1)).Sublist s.stack
  zero : ∀ x ∈ s.stack, s.order.getD x 0 ≠ 0
  count : s.time = s.order.countP (fun x => decide (x ≠ 0))
variable {g : G} {s : St}
theorem Sd.stack_le (h : Sd g s) : s.stack.length ≤ g.length := nodup_len _ _ h.ndup h.stk
theorem Sd.opn_le (h : Sd g s) : s.opn.length ≤ g.length := by
  have := h.sub.length_le
  rw [List.length_map] at this
  exact Nat.le_trans this h.stack_le
theorem Sd.time_le (h : Sd g s) : s.time ≤ g.length := by
  rw [h.count, ← h.lo]; exact List.countP_le_length
theorem Sd.open_lt (h : Sd g s) {f : Nat × Nat} (hf : f ∈ s.opn) : f.1 ∈ s.stack ∧ f.1 < g.length := by
  have h1 := h.sub.subset (List.mem_map_of_mem hf)
  exact ⟨h1, h.stk _ h1⟩
theorem Sd.enter (h : Sd g s) {i : Nat} (hi : i < g.length) (h0 : s.order.getD i 0 = 0) : Sd g (s.enter i) := by
  have hni : i ∉ s.stack := fun e => h.zero i e h0
  refine ⟨by simp [St.enter, h.lo], by simp [St.enter, h.ll], by simp [St.enter, h.ln], h.lf, ?_, ?_, ?_, ?_, ?_, ?_, ?_⟩
  · intro f hf
    rcases List.mem_cons.1 hf with rfl | hf
    · exact Nat.zero_le _
    · exact h.frames f hf
  · intro x hx
    rcases List.mem_cons.1 hx with rfl | hx
    · exact hi
    · exact h.stk x hx
  · intro x
    show x ∈ i :: s.stack ↔ (s.on.set i true).getD x false = true
    rw [getD_set, List.mem_cons, h.met x]
    by_cases hx : i = x
    · subst hx
      simp [h.ln, hi]
    · have : ¬ x = i := fun e => hx e.symm
      simp [hx, this]
  · exact List.nodup_cons.2 ⟨hni, h.ndup⟩
  · exact h.sub.cons_cons i
  · intro x hx
    show (s.order.set i (s.time + 1)).getD x 0 ≠ 0
    rw [getD_set]
    rcases List.mem_cons.1 hx with rfl | hx
    · simp [h.lo, hi]
    · split
      · omega
      · exact h.zero x hx
  · show s.time + 1 = (s.order.set i (s.time + 1)).countP (fun x => decide (x ≠ 0))
    have hil : i < s.order.length := by rw [h.lo]; exact hi
    have h00 : s.order[i] = 0 := by
      rw [List.getD_eq_getElem?_getD, List.getElem?_eq_getElem hil] at h0
      exact h0
    rw [List.countP_set hil, ← h.count]
    simp [h00]
theorem Sd.close (h : Sd g s) {i : Nat} {nx : Nat} {r : List (Nat × Nat)} (ho : s.opn = (i, nx) :: r) : Sd g { s.close i with opn := r } := by
  have hm : i ∈ s.stack := (h.open_lt (f := (i, nx)) (by rw [ho]; simp)).1
  obtain ⟨suf, pre, hst, hns⟩ := split_at hm
  obtain ⟨h1, h2⟩ := own_split (pre := pre) hns
  have hnd := h.ndup
  rw [hst] at hnd
  have hsub := h.sub
  rw [ho, hst, List.map_cons] at hsub
  have hd := List.nodup_append.1 hnd
  refine ⟨h.lo, h.ll, by simp [St.close, setAll_len, h.ln], by simp [St.close, setAll_len, h.lf], ?_, ?_, ?_, ?_, ?_, ?_, h.count⟩
  · intro f hf
    exact h.frames f (by rw [ho]; exact List.mem_cons_of_mem _ hf)
  · intro x hx
    simp only [St.close] at hx
    rw [hst, h2] at hx
    exact h.stk x (by rw [hst]; simp [hx])
  · intro x
    simp only [St.close]
    rw [hst, h1, h2, setAll_get]
    have hmx := h.met x
    rw [hst] at hmx
    by_cases hx : x ∈ i :: suf.reverse
    · have hlt : x < s.on.length := by rw [h.ln]; exact h.stk x (by rw [hst]; simp at hx ⊢; rcases hx with rfl | hx; (· exact .inr (.inl rfl)); (· exact .inl hx))
      simp only [hx, hlt, and_self, if_true]
      constructor
      · intro hp
        rcases List.mem_cons.1 hx with rfl | hx
        · exact absurd hp (List.nodup_cons.1 hd.2.1).1
        · exact absurd rfl (hd.2.2 x (List.mem_reverse.1 hx) x (List.mem_cons_of_mem _ hp))
      · intro hp; exact absurd hp (by decide)
    · simp only [hx, false_and, if_false]
      rw [← hmx]
      simp only [List.mem_cons, List.mem_reverse, not_or] at hx
      simp [hx.1, hx.2]
  · simp only [St.close]
    rw [hst, h2]
    exact (List.nodup_cons.1 hd.2.1).2
  · simp only [St.close]
    rw [hst, h2]
    have : ∀ (l : List Nat), i ∉ l → (i :: r.map (·.1)).Sublist (l ++ i :: pre) → (r.map (·.1)).Sublist pre := by
      intro l
      induction l with
      | nil => intro _ hs; exact List.cons_sublist_cons.1 hs
      | cons y l ih =>
        intro hl hs
        simp only [List.mem_cons, not_or] at hl
        cases hs with
        | cons _ hs => exact ih hl.2 hs
        | cons_cons _ hs => exact absurd rfl hl.1
    exact this suf hns hsub
  · intro x hx
    simp only [St.close] at hx
    rw [hst, h2] at hx
    exact h.zero x (by rw [hst]; simp [hx])
theorem Sd.pop (h : Sd g s) {f : Nat × Nat} {r : List (Nat × Nat)} (ho : s.opn = f :: r) : Sd g { s with opn := r } := by
  refine ⟨h.lo, h.ll, h.ln, h.lf, fun f hf => h.frames f (by rw [ho]; exact List.mem_cons_of_mem _ hf), h.stk, h.met, h.ndup, ?_, h.zero, h.count⟩
  have := h.sub
  rw [ho, List.map_cons] at this
  exact (List.sublist_cons_self _ _).trans this
theorem Sd.setLow (h : Sd g s) (i x : Nat) : Sd g { s with low := s.low.set i x } :=
  ⟨h.lo, by simp [h.ll], h.ln, h.lf, h.frames, h.stk, h.met, h.ndup, h.sub, h.zero, h.count⟩
theorem Sd.leave (h : Sd g s) {i nx : Nat} {r : List (Nat × Nat)} (ho : s.opn = (i, nx) :: r) : Sd g (s.leave i) ∧ (s.leave i).opn = r ∧ (s.leave i).time = s.time := by
  unfold St.leave
  split
  · have h1 := h.close ho
    have ho1 : (s.close i).opn = (i, nx) :: r := ho
    simp only [ho1, List.tail_cons]
    cases r with
    | nil => exact ⟨h1, rfl, rfl⟩
    | cons f r => exact ⟨h1.setLow _ _, rfl, rfl⟩
  · have h1 := h.pop ho
    simp only [ho, List.tail_cons]
    cases r with
    | nil => exact ⟨h1, rfl, rfl⟩
    | cons f r => exact ⟨h1.setLow _ _, rfl, rfl⟩
/-- How many steps may come yet. -/
def big (g : G) : Nat := (g.map List.length).sum + 2
def mu (g : G) (s : St) : Nat := (g.length - s.time) * big g + (s.opn.map fun f => (arcs g f.1).length - f.2 + 1).sum
theorem arcs_le (g : G) (i : Nat) : (arcs g i).length + 2 ≤ big g := by
  unfold arcs big
  have : ∀ (g : G) (i : Nat), (g.getD i []).length ≤ (g.map List.length).sum := by
    intro g
    induction g with
    | nil => intro i; simp
    | cons l g ih =>
      intro i
      cases i with
      | zero => simp
      | succ i => have := ih i; simp at this ⊢; omega
  have := this g i
  omega
theorem mu_enter (h : Sd g s) {i : Nat} (hi : i < g.length) (h0 : s.order.getD i 0 = 0) : mu g (s.enter i) < mu g s := by
  have h1 := (h.enter hi h0).time_le
  have h2 := arcs_le g i
  simp only [St.enter] at h1
  unfold mu
  simp only [St.enter, List.map_cons, List.sum_cons]
  rw [show g.length - s.time = (g.length - (s.time + 1)) + 1 by omega, Nat.add_mul]
  omega
theorem Sd.arc (h : Sd g s) (at_ : Nat) (k : Int) : Sd g (s.arc g at_ k) ∧ mu g (s.arc g at_ k) ≤ mu g s := by
  unfold St.arc
  split
  · exact ⟨h, Nat.le_refl _⟩
  · rename_i hk
    split
    · rename_i h0
      exact ⟨h.enter (by omega) h0, Nat.le_of_lt (mu_enter h (by omega) h0)⟩
    · split
      · exact ⟨h.setLow _ _, Nat.le_refl _⟩
      · exact ⟨h, Nat.le_refl _⟩
theorem Sd.next (h : Sd g s) {i nx : Nat} {r : List (Nat × Nat)} (ho : s.opn = (i, nx) :: r) (hn : nx < (arcs g i).length) : Sd g { s with opn := (i, nx + 1) :: r } ∧ mu g { s with opn := (i, nx + 1) :: r } < mu g s := by
  refine ⟨⟨h.lo, h.ll, h.ln, h.lf, ?_, h.stk, h.met, h.ndup, ?_, h.zero, h.count⟩, ?_⟩
  · intro f hf
    rcases List.mem_cons.1 hf with rfl | hf
    · exact hn
    · exact h.frames f (by rw [ho]; exact List.mem_cons_of_mem _ hf)
  · have := h.sub
    rw [ho] at this
    exact this
  · unfold mu
    simp only [ho, List.map_cons, List.sum_cons]
    omega
theorem mu_leave (h : Sd g s) {i nx : Nat} {r : List (Nat × Nat)} (ho : s.opn = (i, nx) :: r) : mu g (s.leave i) < mu g s := by
  obtain ⟨_, h1, h2⟩ := h.leave ho
  unfold mu
  rw [h1, h2, ho]
  simp only [List.map_cons, List.sum_cons]
  omega
end Go.Proofs.Ytgmppddlgbkjmaa.Kn
