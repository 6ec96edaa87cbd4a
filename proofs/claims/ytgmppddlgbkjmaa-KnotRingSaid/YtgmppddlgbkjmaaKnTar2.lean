/- The plain law of knots, part 4: a knot is closed, a node is left; what is found at the end. No program in sight. -/
import Derived.Test.YtgmppddlgbkjmaaKnTar
namespace Go.Proofs.Ytgmppddlgbkjmaa.Kn

variable {g : G} {s : St}
theorem least_mem : ∀ (l : List Nat) (i : Nat), least l i ∈ i :: l
  | [], i => by simp [least]
  | k :: l, i => by
    have h := least_mem l (min i k)
    have h2 : least (k :: l) i = least l (min i k) := rfl
    rw [h2]
    rcases List.mem_cons.1 h with e | h
    · rw [e]
      by_cases hik : i ≤ k
      · rw [Nat.min_eq_left hik]; simp
      · rw [Nat.min_eq_right (by omega)]; simp
    · simp [h]
theorem least_le' : ∀ (l : List Nat) (i x : Nat), x ∈ i :: l → least l i ≤ x
  | [], i, x, h => by simp at h; subst h; exact Nat.le_refl _
  | k :: l, i, x, h => by
    have h2 : least (k :: l) i = least l (min i k) := rfl
    rw [h2]
    have h0 := least_le' l (min i k)
    rcases List.mem_cons.1 h with e | h
    · exact Nat.le_trans (h0 _ List.mem_cons_self) (by rw [e]; exact Nat.min_le_left _ _)
    · rcases List.mem_cons.1 h with e | h
      · exact Nat.le_trans (h0 _ List.mem_cons_self) (by rw [e]; exact Nat.min_le_right _ _)
      · exact h0 _ (List.mem_cons_of_mem _ h)
theorem Inv.close (h : Inv g s) {r : List (Nat × Nat)} {a nx : Nat} (ho : s.opn = (a, nx) :: r) (hn : (arcs g a).length ≤ nx) (heq : lw s a = ord s a) : Inv g { s.close a with opn := r } := by
  have ham : a ∈ s.opn.map (·.1) := by rw [ho]; simp
  have haS := h.opS ham
  obtain ⟨suf, pre, hst, hns⟩ := split_at haS
  obtain ⟨hown, hrest⟩ := own_split (pre := pre) hns
  have hso := h.sorted
  rw [hst] at hso
  have hp := List.pairwise_append.1 hso
  have hp2 := List.pairwise_cons.1 hp.2.1
  have p1 : ∀ x ∈ a :: suf.reverse, x ∈ s.stack ∧ ord s a ≤ ord s x := fun x hx => by
    rcases List.mem_cons.1 hx with e | hx
    · rw [e]; exact ⟨haS, Nat.le_refl _⟩
    · rw [List.mem_reverse] at hx
      exact ⟨by rw [hst]; exact List.mem_append_left _ hx, Nat.le_of_lt (hp.2.2 x hx a List.mem_cons_self)⟩
  have p1b : ∀ x ∈ pre, x ∈ s.stack ∧ ord s x < ord s a := fun x hx => ⟨by rw [hst]; simp [hx], hp2.1 x hx⟩
  have p1c : ∀ x ∈ s.stack, x ∈ pre ∨ x ∈ a :: suf.reverse := fun x hx => by
    rw [hst] at hx
    simp at hx ⊢
    rcases hx with hx | hx | hx
    · exact .inr (.inr hx)
    · exact .inr (.inl hx)
    · exact .inl hx
  have p1d : ∀ x ∈ s.stack, ord s a ≤ ord s x → x ∈ a :: suf.reverse := fun x hx hle => (p1c x hx).resolve_left fun hp => by have := (p1b x hp).2; omega
  have p1e : ∀ x ∈ s.stack, ord s x < ord s a → x ∈ pre := fun x hx hle => (p1c x hx).resolve_right fun hp => by have := (p1 x hp).2; omega
  have hopa : ∀ x m, (x, m) ∈ s.opn → ord s a ≤ ord s x → x = a ∧ m = nx := fun x m hm hle => by
    rw [ho, List.mem_cons] at hm
    rcases hm with e | hm
    · exact Prod.mk.injEq .. ▸ e
    · have := h.top ho x (List.mem_map_of_mem (f := (·.1)) hm)
      simp only at this
      omega
  have p2 : ∀ x ∈ a :: suf.reverse, ord s a ≤ lw s x := fun x hx => by
    rw [← heq]
    refine h.seg a ham x (p1 x hx).1 (p1 x hx).2 fun f' hf' => .inl ?_
    rw [ho, List.map_cons, List.mem_cons] at hf'
    rcases hf' with e | hf'
    · rw [e]; exact Nat.le_refl _
    · exact Nat.le_of_lt (h.top ho f' hf')
  have p3 : ∀ m x, ord s x ≤ m → x ∈ a :: suf.reverse → Reach g x a := by
    intro m
    induction m with
    | zero =>
      intro x hx hm
      exact absurd (Nat.le_zero.1 hx) (h.sd.zero x (p1 x hm).1)
    | succ m ih =>
      intro x hx hm
      by_cases hxa : x = a
      · rw [hxa]; exact Reach.refl _
      · obtain ⟨hxS, hxo⟩ := p1 x hm
        have hxn : x ∉ s.opn.map (·.1) := fun hmm => by
          obtain ⟨⟨y, k⟩, hyk, rfl⟩ := List.mem_map.1 hmm
          exact hxa (hopa y k hyk hxo).1
        have hlt := h.fin x hxS hxn
        obtain ⟨w, hw, h1, h2⟩ := h.lowreach x hxS
        have h3 := p2 x hm
        exact h2.trans (ih w (by omega) (p1d w hw (by omega)))
  have p4 : ∀ x ∈ a :: suf.reverse, ∀ y, Arc g x y → ord s y ≠ 0 ∧ (y ∈ s.stack → y ∈ a :: suf.reverse) := fun x hx y hy => by
    obtain ⟨j, hj⟩ := List.mem_iff_getElem?.1 hy.1
    obtain ⟨h1, h2⟩ := h.arcsP x (p1 x hx).1 j y hj hy.2 fun m hm => by
      obtain ⟨rfl, rfl⟩ := hopa x m hm (p1 x hx).2
      exact Nat.lt_of_lt_of_le (List.getElem?_eq_some_iff.1 hj).1 hn
    refine ⟨h1, fun hys => p1d y hys ?_⟩
    have := (p1 x hx).2
    have := p2 x hx
    rcases h2 hys with h3 | h3 <;> omega
  have p5 : ∀ x ∈ a :: suf.reverse, ∀ z, Mut g x z → z ∈ a :: suf.reverse := fun x hx z hz => by
    have hC : z ∈ a :: suf.reverse ∨ (z < g.length ∧ ord s z ≠ 0 ∧ z ∉ s.stack) := hz.1.closed (C := fun z => z ∈ a :: suf.reverse ∨ (z < g.length ∧ ord s z ≠ 0 ∧ z ∉ s.stack)) (fun u v hu ha => by
      rcases hu with hu | ⟨h1, h2, h3⟩
      · obtain ⟨h4, h5⟩ := p4 u hu v ha
        by_cases hv : v ∈ s.stack
        · exact .inl (h5 hv)
        · exact .inr ⟨ha.2, h4, hv⟩
      · exact .inr ⟨ha.2, h.done u h1 h2 h3 v ha⟩) (.inl hx)
    rcases hC with hC | ⟨h1, h2, h3⟩
    · exact hC
    · exfalso
      have : x < g.length ∧ ord s x ≠ 0 ∧ x ∉ s.stack := hz.2.closed (C := fun z => z < g.length ∧ ord s z ≠ 0 ∧ z ∉ s.stack) (fun u v hu ha => ⟨ha.2, h.done u hu.1 hu.2.1 hu.2.2 v ha⟩) ⟨h1, h2, h3⟩
      exact this.2.2 (p1 x hx).1
  have hmut : ∀ x ∈ a :: suf.reverse, ∀ y ∈ a :: suf.reverse, Mut g x y := fun x hx y hy =>
    ⟨(p3 _ x (Nat.le_refl _) hx).trans (h.down a ham y (p1 y hy).1 (p1 y hy).2), (p3 _ y (Nat.le_refl _) hy).trans (h.down a ham x (p1 x hx).1 (p1 x hx).2)⟩
  have e1 : (s.close a).stack = pre := by simp only [St.close]; rw [hst, hrest]
  have e2 : (s.close a).of = setAll s.of (a :: suf.reverse) (least (a :: suf.reverse) a) := by simp only [St.close]; rw [hst, hown]
  have hra : ∀ f ∈ r.map (·.1), f ∈ s.opn.map (·.1) := fun f hf => by rw [ho]; exact List.mem_cons_of_mem _ hf
  refine ⟨h.sd.close ho, ?_, ?_, ?_, ?_, ?_, ?_, ?_, ?_, ?_, ?_⟩
  · show List.Pairwise _ (s.close a).stack; rw [e1]; exact hp2.2
  · show ∀ x ∈ (s.close a).stack, _; rw [e1]; exact fun x hx => h.le x (p1b x hx).1
  · show ∀ x ∈ (s.close a).stack, _; rw [e1]; exact fun x hx => h.lowle x (p1b x hx).1
  · show ∀ x ∈ (s.close a).stack, ∃ w ∈ (s.close a).stack, _
    rw [e1]
    intro x hx
    obtain ⟨hxS, hxa⟩ := p1b x hx
    obtain ⟨w, hw, h1, h2⟩ := h.lowreach x hxS
    have h3 := h.lowle x hxS
    exact ⟨w, p1e w hw (by omega), h1, h2⟩
  · show ∀ x ∈ (s.close a).stack, _
    rw [e1]
    intro x hx hxn
    obtain ⟨hxS, hxa⟩ := p1b x hx
    refine h.fin x hxS fun hm => ?_
    rw [ho, List.map_cons, List.mem_cons] at hm
    rcases hm with e | hm
    · rw [e] at hxa; exact Nat.lt_irrefl _ hxa
    · exact hxn hm
  · show ∀ f ∈ r.map (·.1), ∀ x ∈ (s.close a).stack, _
    rw [e1]
    intro f hf x hx h1 h2
    obtain ⟨hxS, hxa⟩ := p1b x hx
    refine h.seg f (hra f hf) x hxS h1 fun f' hf' => ?_
    rw [ho, List.map_cons, List.mem_cons] at hf'
    rcases hf' with e | hf'
    · rw [e]; exact .inr hxa
    · exact h2 f' hf'
  · show ∀ f ∈ r.map (·.1), ∀ x ∈ (s.close a).stack, _
    rw [e1]
    exact fun f hf x hx => h.down f (hra f hf) x (p1b x hx).1
  · show ∀ x ∈ (s.close a).stack, ∀ (j y : Nat), _ → _ → (∀ m, (x, m) ∈ r → _) → ord s y ≠ 0 ∧ (y ∈ (s.close a).stack → _)
    rw [e1]
    intro x hx j y hj hl hnx
    obtain ⟨hxS, hxa⟩ := p1b x hx
    obtain ⟨h1, h2⟩ := h.arcsP x hxS j y hj hl fun m hm => by
      rw [ho, List.mem_cons] at hm
      rcases hm with e | hm
      · obtain ⟨rfl, rfl⟩ := Prod.mk.injEq .. ▸ e
        exact absurd hxa (Nat.lt_irrefl _)
      · exact hnx m hm
    exact ⟨h1, fun hy => h2 (p1b y hy).1⟩
  · show ∀ x, x < g.length → ord s x ≠ 0 → x ∉ (s.close a).stack → ∀ y, Arc g x y → ord s y ≠ 0 ∧ y ∉ (s.close a).stack
    rw [e1]
    intro x hxl hx hxp y hy
    by_cases hxS : x ∈ s.stack
    · have hxo := (p1c x hxS).resolve_left hxp
      obtain ⟨h1, h2⟩ := p4 x hxo y hy
      refine ⟨h1, fun hyp => ?_⟩
      have h3 := p1b y hyp
      have h4 := (p1 y (h2 h3.1)).2
      omega
    · obtain ⟨h1, h2⟩ := h.done x hxl hx hxS y hy
      exact ⟨h1, fun hyp => h2 (p1b y hyp).1⟩
  · show ∀ x, x < g.length → ord s x ≠ 0 → x ∉ (s.close a).stack → IsLeast g x ((s.close a).of.getD x 0)
    rw [e1, e2]
    intro x hxl hx hxp
    rw [setAll_get]
    by_cases hxS : x ∈ s.stack
    · have hxo := (p1c x hxS).resolve_left hxp
      rw [if_pos ⟨hxo, by rw [h.sd.lf]; exact hxl⟩]
      have hm : least (a :: suf.reverse) a ∈ a :: suf.reverse := by
        rcases List.mem_cons.1 (least_mem (a :: suf.reverse) a) with e | e
        · rw [e]; simp
        · exact e
      exact ⟨hmut x hxo _ hm, fun z hz => least_le' _ _ _ (List.mem_cons_of_mem _ (p5 x hxo z hz))⟩
    · rw [if_neg (fun hh => hxS (p1 x hh.1).1)]
      exact h.ofOk x hxl hx hxS
theorem set_self (l : List Nat) (i : Nat) : l.set i (l.getD i 0) = l := by
  refine List.ext_getElem? fun j => ?_
  rw [List.getElem?_set]
  split
  · rename_i e
    subst e
    split
    · rename_i hl
      rw [List.getD_eq_getElem?_getD, List.getElem?_eq_getElem hl]; rfl
    · rename_i hl
      rw [List.getElem?_eq_none (by omega)]
  · rfl
theorem Inv.leave (h : Inv g s) {r : List (Nat × Nat)} {a nx : Nat} (ho : s.opn = (a, nx) :: r) (hn : (arcs g a).length ≤ nx) : Inv g (s.leave a) := by
  have ham : a ∈ s.opn.map (·.1) := by rw [ho]; simp
  have haS := h.opS ham
  unfold St.leave
  split
  · rename_i heq
    have h1 := h.close ho hn heq
    have ho1 : (s.close a).opn = (a, nx) :: r := ho
    simp only [ho1, List.tail_cons]
    cases r with
    | nil => exact h1
    | cons f r =>
      have hupm : f.1 ∈ s.opn.map (·.1) := by rw [ho]; simp
      have h2 := h.lowle f.1 (h.opS hupm)
      have h3 : ord s f.1 < ord s a := h.top ho f.1 (by simp)
      have h4 : lw s a = ord s a := heq
      show Inv g { s.close a with opn := f :: r, low := s.low.set f.1 (min (lw s f.1) (lw s a)) }
      rw [Nat.min_eq_left (by omega), set_self]
      exact h1
  · rename_i hne
    have hlt : lw s a < ord s a := Nat.lt_of_le_of_ne (h.lowle a haS) hne
    simp only [ho, List.tail_cons]
    cases r with
    | nil => exact h.pop ho hn hlt (fun _ _ _ e => by cases e)
    | cons f r =>
      have hupm : f.1 ∈ s.opn.map (·.1) := by rw [ho]; simp
      have h3 : ord s f.1 < ord s a := h.top ho f.1 (by simp)
      obtain ⟨w, hw, h5, h6⟩ := h.lowreach a haS
      have h7 := h.lower hupm (q := lw s a) ⟨w, hw, h5, (h.down f.1 hupm a haS (Nat.le_of_lt h3)).trans h6⟩
      have hfl : f.1 < s.low.length := by rw [h.sd.ll]; exact h.sd.stk _ (h.opS hupm)
      have hal : lw { s with low := s.low.set f.1 (min (lw s f.1) (lw s a)) } a = lw s a := by
        refine (getD_len hfl a).trans (if_neg fun e => ?_)
        rw [e] at h3
        exact Nat.lt_irrefl _ h3
      exact h7.pop (a := a) (nx := nx) (r := f :: r) ho hn (by rw [hal]; exact hlt) fun up nx' r' e => by
        obtain ⟨rfl, rfl⟩ := List.cons.inj e
        rw [hal]
        refine Nat.le_trans (Nat.le_of_eq ((getD_len hfl _).trans (if_pos rfl))) (Nat.min_le_right _ _)
theorem Inv.step (h : Inv g s) : Inv g (s.step g) := by
  unfold St.step
  cases ho : s.opn with
  | nil => exact h
  | cons f r =>
    obtain ⟨a, nx⟩ := f
    simp only
    cases hk : (arcs g a)[nx]? with
    | none => exact h.leave ho (List.getElem?_eq_none_iff.1 hk)
    | some k =>
      simp only
      have hnx := (List.getElem?_eq_some_iff.1 hk).1
      have hsd := (h.sd.next ho hnx).1
      have haS := h.opS (f := a) (by rw [ho]; simp)
      have hkm := List.mem_of_getElem? hk
      unfold St.arc
      split
      · rename_i hbad
        refine h.adv (pre := []) ho hsd fun y hy hl => ?_
        rw [hk] at hy
        injection hy with hy
        omega
      · rename_i hok
        obtain ⟨j, rfl⟩ : ∃ j : Nat, k = j := ⟨k.toNat, by omega⟩
        have hj : j < g.length := by omega
        have harc : Arc g a j := ⟨hkm, hj⟩
        have hyj : ∀ y : Nat, (arcs g a)[nx]? = some (y : Int) → y = j := fun y hy => by
          rw [hk] at hy; injection hy with hy; omega
        simp only [Int.toNat_natCast]
        split
        · rename_i h0
          have h1 := h.enter hj h0 fun f m r' e => by
            rw [ho] at e
            obtain ⟨e1, _⟩ := List.cons.inj e
            obtain ⟨rfl, rfl⟩ := Prod.mk.injEq .. ▸ e1
            exact Reach.one harc
          refine h1.adv (pre := [(j, 0)]) (r := r) (a := a) (nx := nx) (by show (j, 0) :: s.opn = _; rw [ho]; rfl) (hsd.enter hj h0) fun y hy hl => ?_
          obtain rfl := hyj y hy
          have e1 : ord (s.enter y) y = s.time + 1 := (getD_len (by rw [h.sd.lo]; exact hj) y).trans (if_pos rfl)
          have e2 : ord (s.enter y) a ≤ s.time := by
            refine Nat.le_trans (Nat.le_of_eq ((getD_len (by rw [h.sd.lo]; exact hj) a).trans (if_neg fun e => ?_))) (h.le a haS)
            subst e
            exact h.sd.zero _ haS h0
          rw [e1]
          exact ⟨by omega, fun _ => .inr (by omega)⟩
        · rename_i h0
          split
          · rename_i hon
            have hjS := (h.sd.met j).2 hon
            have ham : a ∈ s.opn.map (·.1) := by rw [ho]; simp
            have h1 := h.lower ham (q := ord s j) ⟨j, hjS, rfl, Reach.one harc⟩
            refine h1.adv (pre := []) ho (hsd.setLow _ _) fun y hy hl => ?_
            obtain rfl := hyj y hy
            exact ⟨h0, fun _ => .inl (Nat.le_trans (Nat.le_of_eq ((getD_len (by rw [h.sd.ll]; exact h.sd.stk a haS) a).trans (if_pos rfl))) (Nat.min_le_right _ _))⟩
          · rename_i hoff
            refine h.adv (pre := []) ho hsd fun y hy hl => ?_
            obtain rfl := hyj y hy
            exact ⟨h0, fun hys => absurd ((h.sd.met _).1 hys) hoff⟩
theorem Inv.steps (h : Inv g s) : ∀ m, Inv g (steps g m s)
  | 0 => h
  | m + 1 => (h.steps m).step
/-- What was met stays met. -/
theorem ord_leave (s : St) (a x : Nat) : ord (s.leave a) x = ord s x := by
  unfold St.leave
  simp only
  split <;> split <;> rfl
theorem ord_arc (s : St) (g : G) (a : Nat) (k : Int) (x : Nat) (h : ord s x ≠ 0) : ord (s.arc g a k) x ≠ 0 := by
  unfold St.arc
  split
  · exact h
  · split
    · show (s.order.set k.toNat (s.time + 1)).getD x 0 ≠ 0
      rw [getD_set]
      split
      · omega
      · exact h
    · split <;> exact h
theorem ord_step (s : St) (g : G) (x : Nat) (h : ord s x ≠ 0) : ord (s.step g) x ≠ 0 := by
  unfold St.step
  split
  · exact h
  · split
    · exact ord_arc _ _ _ _ _ h
    · rw [ord_leave]; exact h
theorem ord_steps (g : G) (s : St) (x : Nat) (h : ord s x ≠ 0) : ∀ m, ord (steps g m s) x ≠ 0
  | 0 => h
  | m + 1 => ord_step _ _ _ (ord_steps g s x h m)
/-- With nothing under way, nothing stands on the stack. -/
theorem Inv.empty (h : Inv g s) (ho : s.opn = []) : s.stack = [] := by
  have key : ∀ m x, ord s x ≤ m → x ∉ s.stack := by
    intro m
    induction m with
    | zero => exact fun x hx hm => h.sd.zero x hm (Nat.le_zero.1 hx)
    | succ m ih =>
      intro x hx hm
      have h1 := h.fin x hm (by rw [ho]; simp)
      obtain ⟨w, hw, h2, _⟩ := h.lowreach x hm
      exact ih w (by omega) hw
  exact List.eq_nil_iff_forall_not_mem.2 fun x => key _ x (Nat.le_refl _)
def St.start (n : Nat) : St := ⟨List.replicate n 0, List.replicate n 0, List.replicate n false, [], [], 0, List.replicate n 0⟩
theorem rep0 (n x : Nat) : (List.replicate n 0).getD x 0 = 0 := by
  rw [List.getD_eq_getElem?_getD, List.getElem?_replicate]; split <;> rfl
theorem repF (n x : Nat) : (List.replicate n false).getD x false = false := by
  rw [List.getD_eq_getElem?_getD, List.getElem?_replicate]; split <;> rfl
theorem Inv.start (g : G) : Inv g (St.start g.length) := by
  have hz : ∀ x, ord (St.start g.length) x = 0 := rep0 _
  have hs : (St.start g.length).stack = [] := rfl
  have hp : (St.start g.length).opn = [] := rfl
  refine ⟨⟨by simp [St.start], by simp [St.start], by simp [St.start], by simp [St.start], by simp [hp], by simp [hs], fun x => ?_, by simp [hs], by simp [hs, hp], by simp [hs], by simp [St.start, List.countP_replicate]⟩, by simp [hs], by simp [hs], by simp [hs], by simp [hs], by simp [hs], by simp [hs], by simp [hs], by simp [hs], fun x _ hx => absurd (hz x) hx, fun x _ hx => absurd (hz x) hx⟩
  have : (St.start g.length).on.getD x false = false := repF _ _
  rw [this, hs]
  simp
/-- One node and all that it leads to. -/
theorem Inv.from (h : Inv g s) (ho : s.opn = []) {i m : Nat} (hi : i < g.length) (h0 : ord s i = 0) : Inv g (Kn.steps g m (s.enter i)) ∧ ord (Kn.steps g m (s.enter i)) i ≠ 0 ∧ ∀ x, ord s x ≠ 0 → ord (Kn.steps g m (s.enter i)) x ≠ 0 := by
  have h1 := h.enter hi h0 fun f nx r e => by rw [ho] at e; cases e
  refine ⟨h1.steps m, ord_steps _ _ _ ?_ _, fun x hx => ord_steps _ _ _ ?_ _⟩
  · rw [show ord (s.enter i) i = s.time + 1 from (getD_len (by rw [h.sd.lo]; exact hi) i).trans (if_pos rfl)]
    omega
  · have : ord (s.enter i) x = if i = x then s.time + 1 else ord s x := getD_len (by rw [h.sd.lo]; exact hi) x
    rw [this]
    split
    · omega
    · exact hx
/-- All that has been met, nothing under way: the least node of each knot is told. -/
theorem Inv.all (h : Inv g s) (ho : s.opn = []) {x : Nat} (hx : x < g.length) (h0 : ord s x ≠ 0) : IsLeast g x (s.of.getD x 0) :=
  h.ofOk x hx h0 (by rw [h.empty ho]; simp)
end Go.Proofs.Ytgmppddlgbkjmaa.Kn
