/- The plain law of the order of knots, part 2: each knot occurs, and each arc leads on. No program in sight. -/
import Derived.Test.YtgmppddlgbkjmaaKnOrd
namespace Go.Proofs.Ytgmppddlgbkjmaa.Kn

variable {g : G} {of : List Nat}
theorem Mut.least {i j m m' : Nat} (h : Mut g i j) (hi : IsLeast g i m) (hj : IsLeast g j m') : m = m' :=
  Nat.le_antisymm (hi.2 _ (h.trans hj.1)) (hj.2 _ (h.symm.trans hi.1))
theorem Ofs.lt (h : Ofs g of) {i : Nat} (hi : i < g.length) : of.getD i 0 ≤ i := (h.2 i hi).2 i ⟨Reach.refl _, Reach.refl _⟩
theorem Ofs.idem (h : Ofs g of) {i : Nat} (hi : i < g.length) : of.getD (of.getD i 0) 0 = of.getD i 0 := by
  have h1 := h.2 i hi
  have h2 := h.2 (of.getD i 0) (h1.1.1.lt hi)
  exact (h1.1.least h1 h2).symm
theorem Ofs.same (h : Ofs g of) {i j : Nat} (hi : i < g.length) (hj : j < g.length) : of.getD i 0 = of.getD j 0 ↔ Mut g i j := by
  constructor
  · intro e
    have h1 := (h.2 i hi).1
    have h2 := (h.2 j hj).1
    rw [e] at h1
    exact h1.trans h2.symm
  · exact fun hm => hm.least (h.2 i hi) (h.2 j hj)
/-- Of the knots that are missing one has none before it that is missing: by the number of nodes that lead to it. -/
theorem count_lt {p q : Nat → Bool} {x : Nat} : ∀ {l : List Nat}, (∀ y, p y = true → q y = true) → x ∈ l → q x = true → p x = false → l.countP p < l.countP q
  | a :: l, h, hx, hq, hp => by
    have hle : l.countP p ≤ l.countP q := List.countP_mono_left fun y _ hy => h y hy
    rcases List.mem_cons.1 hx with e | hx
    · subst e
      rw [List.countP_cons, List.countP_cons, hq, hp]
      simp
      omega
    · have ih := count_lt h hx hq hp
      rw [List.countP_cons, List.countP_cons]
      have := h a
      cases h1 : p a <;> cases h2 : q a <;> simp_all <;> omega
theorem least_missing {μ : Nat → Nat} {M : Nat → Prop} (h : ∀ k, M k → ∃ k', M k' ∧ μ k' < μ k) (k : Nat) : ¬ M k := by
  have : ∀ n k, μ k ≤ n → ¬ M k := by
    intro n
    induction n with
    | zero => intro k hk hm; obtain ⟨k', _, h2⟩ := h k hm; omega
    | succ n ih => intro k hk hm; obtain ⟨k', h1, h2⟩ := h k hm; exact ih k' (by omega) h1
  exact this _ k (Nat.le_refl _)
open Classical in
theorem gr_all (h : Ofs g of) {out : List Nat} (hn : next g of out = none) {k : Nat} (hk : k < g.length) (hof : of.getD k 0 = k) : k ∈ out := by
  refine Classical.byContradiction fun hno => ?_
  refine least_missing (μ := fun k => (List.range g.length).countP fun y => decide (Reach g y k)) (M := fun k => k < g.length ∧ of.getD k 0 = k ∧ k ∉ out) (fun k hM => ?_) k ⟨hk, hof, hno⟩
  obtain ⟨hk, hof, hno⟩ := hM
  have hnf : ¬ Free g of out k := fun hf => next_nocand hn k ⟨hk, hof, hno, hf⟩
  have : ∃ i, i < g.length ∧ ∃ j ∈ outs g i, of.getD j 0 = k ∧ of.getD i 0 ≠ k ∧ of.getD i 0 ∉ out := by
    refine Classical.byContradiction fun hne => hnf fun i hi j hj h1 h2 => ?_
    refine Classical.byContradiction fun h3 => hne ⟨i, hi, j, hj, h1, h2, h3⟩
  obtain ⟨i, hi, j, hj, h1, h2, h3⟩ := this
  have harc := outs_arc.1 hj
  have hli := (h.2 i hi).1
  have hlj := (h.2 j harc.2).1
  rw [h1] at hlj
  have hr : Reach g (of.getD i 0) k := (hli.2.trans (Reach.one harc)).trans hlj.1
  refine ⟨of.getD i 0, ⟨hli.1.lt hi, h.idem hi, h3⟩, ?_⟩
  refine count_lt (x := k) (fun y hy => ?_) (List.mem_range.2 hk) ?_ ?_
  · exact decide_eq_true ((of_decide_eq_true hy).trans hr)
  · exact decide_eq_true (Reach.refl _)
  · refine decide_eq_false fun hb => h2 ?_
    have hm : Mut g (of.getD i 0) k := ⟨hr, hb⟩
    have h4 := (h.same (hli.1.lt hi) hk).2 hm
    rw [h.idem hi, hof] at h4
    exact h4
/-- An arc between knots leads from an earlier one to a later one. -/
theorem gr_arc {out : List Nat} (hg : Gr g of out) {i j p q : Nat} (hi : i < g.length) (hj : j ∈ outs g i) (hp : out[p]? = some (of.getD i 0)) (hq : out[q]? = some (of.getD j 0)) : p ≤ q := by
  by_cases he : of.getD i 0 = of.getD j 0
  · have h1 := (List.getElem?_eq_some_iff.1 hp).1
    have h2 := hg.nd
    rw [he] at hp
    have : p = q := (List.getElem?_inj h1 h2).1 (hp.trans hq.symm)
    omega
  · have h1 := hg.free q _ hq i hi j hj rfl he
    obtain ⟨r, hr⟩ := List.mem_iff_getElem?.1 h1
    rw [List.getElem?_take] at hr
    split at hr
    · rename_i hrq
      have : r = p := (List.getElem?_inj (List.getElem?_eq_some_iff.1 hr).1 hg.nd).1 (hr.trans hp.symm)
      omega
    · cases hr
end Go.Proofs.Ytgmppddlgbkjmaa.Kn
