/- The plain law of knots, part 3: what the walk through a graph finds: the least node of each knot. No program in sight. -/
import Derived.Test.YtgmppddlgbkjmaaKnPlain2
namespace Go.Proofs.Ytgmppddlgbkjmaa.Kn

def Arc (g : G) (i j : Nat) : Prop := (j : Int) ∈ arcs g i ∧ j < g.length
inductive Reach (g : G) : Nat → Nat → Prop
  | refl (i : Nat) : Reach g i i
  | tail {i j k : Nat} : Reach g i j → Arc g j k → Reach g i k
theorem Reach.trans {g : G} {i j k : Nat} (h : Reach g i j) (h2 : Reach g j k) : Reach g i k := by
  induction h2 with
  | refl => exact h
  | tail _ ha ih => exact ih.tail ha
theorem Reach.one {g : G} {i j : Nat} (h : Arc g i j) : Reach g i j := (Reach.refl i).tail h
theorem Reach.closed {g : G} {C : Nat → Prop} (hC : ∀ x y, C x → Arc g x y → C y) {i j : Nat} (h : Reach g i j) (hi : C i) : C j := by
  induction h with
  | refl => exact hi
  | tail _ ha ih => exact hC _ _ ih ha
theorem Reach.lt {g : G} {i j : Nat} (h : Reach g i j) (hi : i < g.length) : j < g.length := h.closed (C := fun x => x < g.length) (fun _ _ _ ha => ha.2) hi
def Mut (g : G) (i j : Nat) : Prop := Reach g i j ∧ Reach g j i
theorem Mut.symm {g : G} {i j : Nat} (h : Mut g i j) : Mut g j i := ⟨h.2, h.1⟩
theorem Mut.trans {g : G} {i j k : Nat} (h : Mut g i j) (h2 : Mut g j k) : Mut g i k := ⟨h.1.trans h2.1, h2.2.trans h.2⟩
/-- The least node of a node's knot. -/
def IsLeast (g : G) (i m : Nat) : Prop := Mut g i m ∧ ∀ z, Mut g i z → m ≤ z
theorem IsLeast.uniq {g : G} {i m m' : Nat} (h : IsLeast g i m) (h' : IsLeast g i m') : m = m' := Nat.le_antisymm (h.2 _ h'.1) (h'.2 _ h.1)

abbrev ord (s : St) (x : Nat) : Nat := s.order.getD x 0
abbrev lw (s : St) (x : Nat) : Nat := s.low.getD x 0
structure Inv (g : G) (s : St) : Prop where
  sd : Sd g s
  sorted : s.stack.Pairwise (fun x y => ord s y < ord s x)
  le : ∀ x ∈ s.stack, ord s x ≤ s.time
  lowle : ∀ x ∈ s.stack, lw s x ≤ ord s x
  lowreach : ∀ x ∈ s.stack, ∃ w ∈ s.stack, ord s w = lw s x ∧ Reach g x w
  fin : ∀ x ∈ s.stack, x ∉ s.opn.map (·.1) → lw s x < ord s x
  seg : ∀ f ∈ s.opn.map (·.1), ∀ x ∈ s.stack, ord s f ≤ ord s x → (∀ f' ∈ s.opn.map (·.1), ord s f' ≤ ord s f ∨ ord s x < ord s f') → lw s f ≤ lw s x
  down : ∀ f ∈ s.opn.map (·.1), ∀ x ∈ s.stack, ord s f ≤ ord s x → Reach g f x
  arcsP : ∀ x ∈ s.stack, ∀ (j y : Nat), (arcs g x)[j]? = some (y : Int) → y < g.length → (∀ nx, (x, nx) ∈ s.opn → j < nx) → ord s y ≠ 0 ∧ (y ∈ s.stack → lw s x ≤ ord s y ∨ ord s x < ord s y)
  done : ∀ x, x < g.length → ord s x ≠ 0 → x ∉ s.stack → ∀ y, Arc g x y → ord s y ≠ 0 ∧ y ∉ s.stack
  ofOk : ∀ x, x < g.length → ord s x ≠ 0 → x ∉ s.stack → IsLeast g x (s.of.getD x 0)
variable {g : G} {s : St}
theorem sorted_inj {R : Nat → Nat} : ∀ {l : List Nat}, l.Pairwise (fun x y => R y < R x) → ∀ {x y : Nat}, x ∈ l → y ∈ l → R x = R y → x = y
  | [], _, _, _, hx, _, _ => absurd hx (by simp)
  | a :: l, h, x, y, hx, hy, he => by
    obtain ⟨h1, h2⟩ := List.pairwise_cons.1 h
    rcases List.mem_cons.1 hx with e | hx' <;> rcases List.mem_cons.1 hy with e' | hy'
    · rw [e, e']
    · subst e; have := h1 _ hy'; omega
    · subst e'; have := h1 _ hx'; omega
    · exact sorted_inj h2 hx' hy' he
theorem Inv.inj (h : Inv g s) {x y : Nat} (hx : x ∈ s.stack) (hy : y ∈ s.stack) (he : ord s x = ord s y) : x = y := sorted_inj (R := ord s) h.sorted hx hy he
theorem Inv.opS (h : Inv g s) {f : Nat} (hf : f ∈ s.opn.map (·.1)) : f ∈ s.stack := h.sd.sub.subset hf
/-- The innermost frame stands above all others. -/
theorem Inv.top (h : Inv g s) {f : Nat × Nat} {r : List (Nat × Nat)} (ho : s.opn = f :: r) : ∀ f' ∈ r.map (·.1), ord s f' < ord s f.1 := by
  have h1 := h.sorted.sublist h.sd.sub
  rw [ho, List.map_cons] at h1
  exact (List.pairwise_cons.1 h1).1
theorem Inv.sortedOpn (h : Inv g s) : (s.opn.map (·.1)).Pairwise (fun x y => ord s y < ord s x) := h.sorted.sublist h.sd.sub
theorem Inv.adv (h : Inv g s) {pre r : List (Nat × Nat)} {a nx : Nat} (ho : s.opn = pre ++ (a, nx) :: r) (hsd : Sd g { s with opn := pre ++ (a, nx + 1) :: r })
    (hy : ∀ y : Nat, (arcs g a)[nx]? = some (y : Int) → y < g.length → ord s y ≠ 0 ∧ (y ∈ s.stack → lw s a ≤ ord s y ∨ ord s a < ord s y)) : Inv g { s with opn := pre ++ (a, nx + 1) :: r } := by
  have hm : (pre ++ (a, nx + 1) :: r).map (·.1) = s.opn.map (·.1) := by rw [ho]; simp
  have hnd : (s.opn.map (·.1)).Nodup := h.sd.ndup.sublist h.sd.sub
  refine ⟨hsd, h.sorted, h.le, h.lowle, h.lowreach, ?_, ?_, ?_, ?_, h.done, h.ofOk⟩
  · intro x hx hn; exact h.fin x hx (by rw [← hm]; exact hn)
  · intro f hf x hx h1 h2; exact h.seg f (by rw [← hm]; exact hf) x hx h1 (by rw [← hm]; exact h2)
  · intro f hf x hx h1; exact h.down f (by rw [← hm]; exact hf) x hx h1
  · intro x hx j y hj hl hnx
    by_cases hxa : x = a ∧ j = nx
    · obtain ⟨rfl, rfl⟩ := hxa
      exact hy y hj hl
    · refine h.arcsP x hx j y hj hl fun m hmm => ?_
      rw [ho, List.mem_append, List.mem_cons] at hmm
      rcases hmm with hp | he | hr
      · exact hnx m (List.mem_append_left _ hp)
      · obtain ⟨rfl, rfl⟩ := Prod.mk.injEq .. ▸ he
        have := hnx (m + 1) (List.mem_append_right _ List.mem_cons_self)
        have : j ≠ m := fun e => hxa ⟨rfl, e⟩
        omega
      · exact hnx m (List.mem_append_right _ (List.mem_cons_of_mem _ hr))
theorem getD_len {l : List Nat} {i v : Nat} (hi : i < l.length) (x : Nat) : (l.set i v).getD x 0 = if i = x then v else l.getD x 0 := by
  rw [getD_set]
  by_cases h : i = x
  · subst h; simp [hi]
  · simp [h]
theorem Inv.lower (h : Inv g s) {a q : Nat} (ha : a ∈ s.opn.map (·.1)) (hq : ∃ w ∈ s.stack, ord s w = q ∧ Reach g a w) : Inv g { s with low := s.low.set a (min (lw s a) q) } := by
  have haS := h.opS ha
  have hl : ∀ x, lw { s with low := s.low.set a (min (lw s a) q) } x = if a = x then min (lw s a) q else lw s x := fun x => getD_len (by rw [h.sd.ll]; exact h.sd.stk a haS) x
  have hle : ∀ x, lw { s with low := s.low.set a (min (lw s a) q) } x ≤ lw s x := fun x => by
    rw [hl]; split
    · rename_i e; subst e; exact Nat.min_le_left _ _
    · exact Nat.le_refl _
  refine ⟨h.sd.setLow _ _, h.sorted, h.le, fun x hx => Nat.le_trans (hle x) (h.lowle x hx), ?_, fun x hx hn => Nat.lt_of_le_of_lt (hle x) (h.fin x hx hn), ?_, h.down, ?_, h.done, h.ofOk⟩
  · intro x hx
    rw [hl]
    split
    · rename_i e
      subst e
      by_cases hc : lw s a ≤ q
      · rw [Nat.min_eq_left hc]; exact h.lowreach a hx
      · rw [Nat.min_eq_right (by omega)]; exact hq
    · exact h.lowreach x hx
  · intro f hf x hx h1 h2
    have h0 := h.seg f hf x hx h1 h2
    rw [hl x]
    split
    · rename_i e
      subst e
      have : f = a := by
        refine h.inj (h.opS hf) haS ?_
        rcases h2 a ha with h3 | h3
        · exact Nat.le_antisymm h1 h3
        · exact absurd h3 (Nat.lt_irrefl _)
      subst this
      rw [hl, if_pos rfl]
      exact Nat.le_refl _
    · exact Nat.le_trans (hle f) h0
  · intro x hx j y hj hlt hnx
    obtain ⟨h1, h2⟩ := h.arcsP x hx j y hj hlt hnx
    exact ⟨h1, fun hy => (h2 hy).imp (Nat.le_trans (hle x)) id⟩
theorem Inv.pop (h : Inv g s) {r : List (Nat × Nat)} {a nx : Nat} (ho : s.opn = (a, nx) :: r) (hn : (arcs g a).length ≤ nx) (hlt : lw s a < ord s a) (hup : ∀ up nx' r', r = (up, nx') :: r' → lw s up ≤ lw s a) : Inv g { s with opn := r } := by
  have ham : a ∈ s.opn.map (·.1) := by rw [ho]; simp
  have hsub : ∀ f, f ∈ r.map (·.1) → f ∈ s.opn.map (·.1) := fun f hf => by rw [ho]; exact List.mem_cons_of_mem _ hf
  have hnd : (s.opn.map (·.1)).Nodup := h.sd.ndup.sublist h.sd.sub
  refine ⟨h.sd.pop ho, h.sorted, h.le, h.lowle, h.lowreach, ?_, ?_, fun f hf => h.down f (hsub f hf), ?_, h.done, h.ofOk⟩
  · intro x hx hnx
    by_cases hxa : x = a
    · subst hxa; exact hlt
    · refine h.fin x hx fun hm => ?_
      rw [ho, List.map_cons, List.mem_cons] at hm
      rcases hm with e | hm
      · exact hxa e
      · exact hnx hm
  · intro f hf x hx h1 h2
    by_cases hxa : ord s x < ord s a
    · refine h.seg f (hsub f hf) x hx h1 fun f' hf' => ?_
      rw [ho, List.map_cons, List.mem_cons] at hf'
      rcases hf' with e | hf'
      · rw [e]; exact .inr hxa
      · exact h2 f' hf'
    · have h3 : lw s a ≤ lw s x := by
        refine h.seg a ham x hx (by omega) fun f' hf' => .inl ?_
        rw [ho, List.map_cons, List.mem_cons] at hf'
        rcases hf' with e | hf'
        · rw [e]; exact Nat.le_refl _
        · exact Nat.le_of_lt (h.top ho f' hf')
      cases r with
      | nil => simp at hf
      | cons u r' =>
        have h4 := hup u.1 u.2 r' rfl
        have : f = u.1 := by
          have hso := h.sortedOpn
          rw [ho, List.map_cons, List.map_cons] at hso
          have hso2 := (List.pairwise_cons.1 (List.pairwise_cons.1 hso).2).1
          rw [List.map_cons, List.mem_cons] at hf
          rcases hf with e | hf'
          · exact e
          · have h5 := hso2 f hf'
            have h6 : ord s u.1 < ord s a := h.top ho u.1 (by simp)
            have h5' : ord s f < ord s u.1 := h5
            rcases h2 u.1 (by simp) with h7 | h7
            · have h8 : ord s u.1 ≤ ord s f := h7
              omega
            · have h8 : ord s x < ord s u.1 := h7
              omega
        subst this
        exact Nat.le_trans h4 h3
  · intro x hx j y hj hl hnx
    refine h.arcsP x hx j y hj hl fun m hm => ?_
    rw [ho, List.mem_cons] at hm
    rcases hm with e | hm
    · obtain ⟨rfl, rfl⟩ := Prod.mk.injEq .. ▸ e
      exact Nat.lt_of_lt_of_le (List.getElem?_eq_some_iff.1 hj).1 hn
    · exact hnx m hm
theorem Inv.enter (h : Inv g s) {k : Nat} (hk : k < g.length) (h0 : ord s k = 0) (hr : ∀ f nx r, s.opn = (f, nx) :: r → Reach g f k) : Inv g (s.enter k) := by
  have hkS : k ∉ s.stack := fun e => h.sd.zero k e h0
  have ho : ∀ x, ord (s.enter k) x = if k = x then s.time + 1 else ord s x := fun x => getD_len (by rw [h.sd.lo]; exact hk) x
  have hl : ∀ x, lw (s.enter k) x = if k = x then s.time + 1 else lw s x := fun x => getD_len (by rw [h.sd.ll]; exact hk) x
  have hok : ord (s.enter k) k = s.time + 1 := by rw [ho, if_pos rfl]
  have hlk : lw (s.enter k) k = s.time + 1 := by rw [hl, if_pos rfl]
  have hne : ∀ x ∈ s.stack, k ≠ x := fun x hx e => hkS (by rw [e]; exact hx)
  have hoS : ∀ x ∈ s.stack, ord (s.enter k) x = ord s x := fun x hx => by rw [ho, if_neg (hne x hx)]
  have hlS : ∀ x ∈ s.stack, lw (s.enter k) x = lw s x := fun x hx => by rw [hl, if_neg (hne x hx)]
  have hst : (s.enter k).stack = k :: s.stack := rfl
  have hop : (s.enter k).opn.map (·.1) = k :: s.opn.map (·.1) := rfl
  have hge : ∀ x ∈ (s.enter k).stack, s.time + 1 ≤ ord (s.enter k) x → x = k := fun x hx hx1 => by
    rcases List.mem_cons.1 hx with e | hx
    · exact e
    · have := h.le x hx
      rw [hoS x hx] at hx1
      omega
  refine ⟨h.sd.enter hk h0, ?_, ?_, ?_, ?_, ?_, ?_, ?_, ?_, ?_, ?_⟩
  · rw [hst]
    refine List.pairwise_cons.2 ⟨fun y hy => ?_, ?_⟩
    · rw [hoS y hy, hok]; have := h.le y hy; omega
    · exact h.sorted.imp_of_mem fun {x y} hx hy hxy => by rw [hoS x hx, hoS y hy]; exact hxy
  · intro x hx
    show _ ≤ s.time + 1
    rcases List.mem_cons.1 hx with e | hx
    · rw [e, hok]; exact Nat.le_refl _
    · rw [hoS x hx]; have := h.le x hx; omega
  · intro x hx
    rcases List.mem_cons.1 hx with e | hx
    · rw [e, hok, hlk]; exact Nat.le_refl _
    · rw [hoS x hx, hlS x hx]; exact h.lowle x hx
  · intro x hx
    rcases List.mem_cons.1 hx with e | hx
    · exact ⟨k, by simp [hst], by rw [e, hok, hlk], by rw [e]; exact Reach.refl _⟩
    · obtain ⟨w, hw, h1, h2⟩ := h.lowreach x hx
      exact ⟨w, List.mem_cons_of_mem _ hw, by rw [hoS w hw, hlS x hx, h1], h2⟩
  · intro x hx hn
    rw [hop, List.mem_cons, not_or] at hn
    rcases List.mem_cons.1 hx with e | hx
    · exact absurd e hn.1
    · rw [hoS x hx, hlS x hx]; exact h.fin x hx hn.2
  · intro f hf x hx h1 h2
    rw [hop, List.mem_cons] at hf
    rcases hf with e | hf
    · rw [e, hok] at h1
      rw [hge x hx h1, e]
      exact Nat.le_refl _
    · have hfS := h.opS hf
      rcases List.mem_cons.1 hx with e | hx
      · exfalso
        rcases h2 k (by rw [hop]; simp) with h3 | h3
        · rw [hok, hoS f hfS] at h3; have := h.le f hfS; omega
        · rw [e] at h3; exact Nat.lt_irrefl _ h3
      · rw [hlS f hfS, hlS x hx]
        rw [hoS f hfS, hoS x hx] at h1
        refine h.seg f hf x hx h1 fun f' hf' => ?_
        have := h2 f' (by rw [hop]; exact List.mem_cons_of_mem _ hf')
        rw [hoS f hfS, hoS x hx, hoS f' (h.opS hf')] at this
        exact this
  · intro f hf x hx h1
    rw [hop, List.mem_cons] at hf
    rcases hf with e | hf
    · rw [e, hok] at h1
      rw [hge x hx h1, e]
      exact Reach.refl _
    · have hfS := h.opS hf
      rcases List.mem_cons.1 hx with e | hx
      · rw [e]
        cases hopn : s.opn with
        | nil => rw [hopn] at hf; simp at hf
        | cons t r =>
          have h3 := hr t.1 t.2 r hopn
          have htm : t.1 ∈ s.opn.map (·.1) := by rw [hopn]; simp
          refine (h.down f hf t.1 (h.opS htm) ?_).trans h3
          rw [hopn, List.map_cons, List.mem_cons] at hf
          rcases hf with e | hf
          · rw [e]; exact Nat.le_refl _
          · exact Nat.le_of_lt (h.top hopn f hf)
      · rw [hoS f hfS, hoS x hx] at h1
        exact h.down f hf x hx h1
  · intro x hx j y hj hlt hnx
    rcases List.mem_cons.1 hx with e | hx
    · subst e
      exact absurd (hnx 0 List.mem_cons_self) (Nat.not_lt_zero _)
    · obtain ⟨h1, h2⟩ := h.arcsP x hx j y hj hlt fun m hm => hnx m (List.mem_cons_of_mem _ hm)
      have hyk : k ≠ y := fun e => h1 (by rw [← e]; exact h0)
      refine ⟨by rw [ho, if_neg hyk]; exact h1, fun hy => ?_⟩
      rcases List.mem_cons.1 hy with e | hy
      · exact absurd e.symm hyk
      · rw [hoS x hx, hlS x hx, hoS y hy]; exact h2 hy
  · intro x hxl hx hxs y hy
    rw [hst, List.mem_cons, not_or] at hxs
    rw [ho, if_neg (fun e => hxs.1 e.symm)] at hx
    obtain ⟨h1, h2⟩ := h.done x hxl hx hxs.2 y hy
    have hyk : k ≠ y := fun e => h1 (by rw [← e]; exact h0)
    refine ⟨by rw [ho, if_neg hyk]; exact h1, ?_⟩
    rw [hst, List.mem_cons, not_or]
    exact ⟨fun e => hyk e.symm, h2⟩
  · intro x hxl hx hxs
    rw [hst, List.mem_cons, not_or] at hxs
    rw [ho, if_neg (fun e => hxs.1 e.symm)] at hx
    exact h.ofOk x hxl hx hxs.2
end Go.Proofs.Ytgmppddlgbkjmaa.Kn
