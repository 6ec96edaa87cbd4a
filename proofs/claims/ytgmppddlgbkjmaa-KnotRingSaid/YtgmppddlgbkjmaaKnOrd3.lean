/- The plain law of the order of knots, part 3: how the program finds the next knot. No program in sight. -/
import Derived.Test.YtgmppddlgbkjmaaKnOrd2
import Derived.Test.YtgmppddlgbkjmaaKnBlk
namespace Go.Proofs.Ytgmppddlgbkjmaa.Kn

/-- Falling. -/
abbrev Desc (l : List Nat) : Prop := l.Pairwise (fun x y => y < x)
theorem desc_ins {l : List Nat} {q k : Nat} (h : Desc l) (hk : k ∉ l) (h1 : ∀ x, 0 < q → l[q - 1]? = some x → k ≤ x) (h2 : ∀ (p x : Nat), q ≤ p → l[p]? = some x → x < k) (hq : q ≤ l.length) : Desc (l.take q ++ k :: l.drop q) := by
  have hs : Desc (l.take q ++ l.drop q) := by rw [List.take_append_drop]; exact h
  obtain ⟨a1, a2, a3⟩ := List.pairwise_append.1 hs
  have hd : ∀ x ∈ l.drop q, x < k := fun x hx => by
    obtain ⟨j, hj⟩ := List.mem_iff_getElem?.1 hx
    rw [List.getElem?_drop] at hj
    exact h2 _ x (by omega) hj
  have ht : ∀ x ∈ l.take q, k < x := fun x hx => by
    obtain ⟨j, hj⟩ := List.mem_iff_getElem?.1 hx
    rw [List.getElem?_take] at hj
    split at hj
    · rename_i hjq
      have hne : k ≠ x := fun e => hk (by rw [e]; exact List.mem_of_getElem? hj)
      obtain ⟨y, hy⟩ : ∃ y, l[q - 1]? = some y := ⟨_, List.getElem?_eq_getElem (by omega)⟩
      have h3 := h1 y (by omega) hy
      by_cases hjl : j = q - 1
      · subst hjl
        rw [hy] at hj
        injection hj with hj
        omega
      · have hjn := (List.getElem?_eq_some_iff.1 hj)
        have hyn := (List.getElem?_eq_some_iff.1 hy)
        obtain ⟨u1, rfl⟩ := hjn
        obtain ⟨u2, rfl⟩ := hyn
        have := List.pairwise_iff_getElem.1 h j (q - 1) u1 u2 (by omega)
        omega
    · cases hj
  refine List.pairwise_append.2 ⟨a1, List.pairwise_cons.2 ⟨fun x hx => hd x hx, a2⟩, fun x hx y hy => ?_⟩
  rcases List.mem_cons.1 hy with e | hy
  · rw [e]; exact ht x hx
  · exact a3 x hx y hy
theorem mem_ins {l : List Nat} {q k x : Nat} : x ∈ l.take q ++ k :: l.drop q ↔ x = k ∨ x ∈ l := by
  rw [List.mem_append, List.mem_cons]
  have : x ∈ l ↔ x ∈ l.take q ∨ x ∈ l.drop q := by
    rw [← List.mem_append, List.take_append_drop]
  rw [this]
  constructor
  · rintro (h | h | h)
    · exact .inr (.inl h)
    · exact .inl h
    · exact .inr (.inr h)
  · rintro (h | h | h)
    · exact .inr (.inl h)
    · exact .inl h
    · exact .inr (.inr h)
theorem desc_len {l : List Nat} {n : Nat} (h : Desc l) (hl : ∀ x ∈ l, x < n) : l.length ≤ n := nodup_len _ _ (h.imp (fun {a b} hab e => by omega)) hl
theorem desc_last {l : List Nat} {a : Nat} (h : Desc (l ++ [a])) : Desc l ∧ (∀ x ∈ l, a < x) ∧ a ∉ l := by
  obtain ⟨h1, _, h3⟩ := List.pairwise_append.1 h
  have : ∀ x ∈ l, a < x := fun x hx => h3 x hx a (by simp)
  exact ⟨h1, this, fun hm => Nat.lt_irrefl _ (this a hm)⟩

def memb (g : G) (of : List Nat) (a : Nat) : List Nat := (List.range g.length).filter fun i => of.getD i 0 == a
def membK (of : List Nat) (k a : Nat) : List Nat := (List.range k).filter fun i => of.getD i 0 == a
theorem membK_succ (of : List Nat) (k a : Nat) : membK of (k + 1) a = membK of k a ++ if of.getD k 0 = a then [k] else [] := by
  simp only [membK, List.range_succ, List.filter_append]
  by_cases h : of.getD k 0 = a
  · rw [if_pos h, List.filter_cons_of_pos (by rw [h]; exact beq_self_eq_true a)]; rfl
  · rw [if_neg h, List.filter_cons_of_neg (by rw [beq_iff_eq]; exact h)]; rfl
theorem membK_le (of : List Nat) (k a : Nat) : (membK of k a).length ≤ k := by
  have := List.length_filter_le (fun i => of.getD i 0 == a) (List.range k)
  rw [List.length_range] at this
  exact this
theorem memb_iff {g : G} {of : List Nat} {a i : Nat} : i ∈ memb g of a ↔ i < g.length ∧ of.getD i 0 = a := by simp [memb]
def restM (g : G) (of : List Nat) (x : Nat) (l : List Nat) : Nat := (l.map fun i => cntRow of x (outs g i)).sum
theorem cntAt_split (g : G) (of out : List Nat) (a x i : Nat) (hx : x ≠ a) (ha : a ∉ out) : cntAt g of out x i = cntAt g of (out ++ [a]) x i + if of.getD i 0 = a then cntRow of x (outs g i) else 0 := by
  unfold cntAt
  generalize of.getD i 0 = o
  by_cases h1 : o = x
  · subst h1
    simp [hx]
  · by_cases h2 : o = a
    · subst h2
      simp [h1, ha]
    · by_cases h3 : o ∈ out
      · simp [h1, h2, h3]
      · simp [h1, h2, h3]
theorem sum_split (g : G) (of out : List Nat) (a x : Nat) (hx : x ≠ a) (ha : a ∉ out) : ∀ l : List Nat,
    (l.map (cntAt g of out x)).sum = (l.map (cntAt g of (out ++ [a]) x)).sum + restM g of x (l.filter fun i => of.getD i 0 == a)
  | [] => by simp [restM]
  | i :: l => by
    have ih := sum_split g of out a x hx ha l
    rw [List.map_cons, List.sum_cons, List.map_cons, List.sum_cons, ih, cntAt_split g of out a x i hx ha]
    by_cases h : of.getD i 0 = a
    · rw [if_pos h, List.filter_cons_of_pos (by rw [h]; exact beq_self_eq_true a)]
      simp only [restM, List.map_cons, List.sum_cons]
      omega
    · rw [if_neg h, List.filter_cons_of_neg (by rw [beq_iff_eq]; exact h)]
      omega
theorem cnt_more {g : G} {of out : List Nat} {a x : Nat} (hx : x ≠ a) (ha : a ∉ out) : cnt g of out x = cnt g of (out ++ [a]) x + restM g of x (memb g of a) := sum_split g of out a x hx ha _
theorem Free.mono {g : G} {of out out' : List Nat} {k : Nat} (h : Free g of out k) (hs : ∀ x ∈ out, x ∈ out') : Free g of out' k := fun i hi j hj h1 h2 => hs _ (h i hi j hj h1 h2)
/-- What stands there already has no arc from a knot that does not. -/
theorem Gr.closed {g : G} {of out : List Nat} (h : Gr g of out) {a i j : Nat} (ha : a ∉ out) (hi : i < g.length) (hia : of.getD i 0 = a) (hj : j ∈ outs g i) (hne : of.getD j 0 ≠ a) : of.getD j 0 ∉ out := fun hm => by
  obtain ⟨p, hp⟩ := List.mem_iff_getElem?.1 hm
  have := h.free p _ hp i hi j hj rfl (by rw [hia]; exact fun e => hne e.symm)
  rw [hia] at this
  exact ha (List.mem_of_mem_take this)
/-- The arcs of a node from the j-th on. -/
def outsD (g : G) (i j : Nat) : List Nat := (((arcs g i).drop j).filter (Kn.okB g)).map Int.toNat
theorem outsD_zero (g : G) (i : Nat) : outsD g i 0 = outs g i := rfl
theorem outsD_end {g : G} {i j : Nat} (h : (arcs g i).length ≤ j) : outsD g i j = [] := by simp [outsD, List.drop_of_length_le h]
theorem outsD_yes {g : G} {i j : Nat} {x : Int} (h : (arcs g i)[j]? = some x) (hx : 0 ≤ x) (hn : x < g.length) : outsD g i j = x.toNat :: outsD g i (j + 1) := by
  obtain ⟨hk, rfl⟩ := List.getElem?_eq_some_iff.1 h
  simp only [outsD]
  rw [List.drop_eq_getElem_cons hk, List.filter_cons_of_pos (by simp [Kn.okB, hx, hn])]
  rfl
theorem outsD_no {g : G} {i j : Nat} {x : Int} (h : (arcs g i)[j]? = some x) (hx : ¬ (0 ≤ x ∧ x < g.length)) : outsD g i j = outsD g i (j + 1) := by
  obtain ⟨hk, rfl⟩ := List.getElem?_eq_some_iff.1 h
  simp only [outsD]
  rw [List.drop_eq_getElem_cons hk, List.filter_cons_of_neg (by simpa [Kn.okB] using hx)]
theorem cntRow_cons (of : List Nat) (k : Nat) (l : List Nat) (x : Nat) : cntRow of k (x :: l) = cntRow of k l + if of.getD x 0 = k then 1 else 0 := by
  simp [cntRow, List.countP_cons]

/-- All is told: what stands there, what is ready, what is left. -/
structure Ks (g : G) (of out ready left : List Nat) : Prop where
  whole : out = gr g of out.length
  desc : Desc ready
  mem : ∀ x, x ∈ ready ↔ x < g.length ∧ of.getD x 0 = x ∧ x ∉ out ∧ left.getD x 0 = 0
  lft : ∀ x, x < g.length → left.getD x 0 = cnt g of out x
theorem Ks.start {g : G} {of ready left : List Nat} (hd : Desc ready) (hm : ∀ x, x ∈ ready ↔ x < g.length ∧ of.getD x 0 = x ∧ left.getD x 0 = 0) (hl : ∀ x, x < g.length → left.getD x 0 = cnt g of [] x) : Ks g of [] ready left :=
  ⟨rfl, hd, fun x => by rw [hm]; simp, hl⟩
theorem Ks.gr {g : G} {of out ready left : List Nat} (h : Ks g of out ready left) : Gr g of out := by rw [h.whole]; exact gr_ok g of _
theorem Ks.next {g : G} {of out r left : List Nat} {a : Nat} (h : Ks g of out (r ++ [a]) left) : Kn.next g of out = some a := by
  have hc : ∀ x, Cand g of out x ↔ x ∈ r ++ [a] := fun x => by
    rw [h.mem]
    constructor
    · intro hc; exact ⟨hc.1, hc.2.1, hc.2.2.1, by rw [h.lft x hc.1]; exact cnt_zero.2 hc.2.2.2⟩
    · intro hc; exact ⟨hc.1, hc.2.1, hc.2.2.1, by rw [h.lft x hc.1] at hc; exact cnt_zero.1 hc.2.2.2⟩
  refine next_some ((hc a).2 (by simp)) fun j hj hcj => ?_
  have := (hc j).1 hcj
  obtain ⟨_, h2, _⟩ := desc_last h.desc
  rcases List.mem_append.1 this with hm | hm
  · have := h2 j hm; omega
  · simp at hm; omega
theorem Ks.stop {g : G} {of out left : List Nat} (h : Ks g of out [] left) : out = Kn.gr g of g.length := by
  refine gr_whole h.whole (next_none fun j hc => ?_)
  have : j ∈ ([] : List Nat) := (h.mem j).2 ⟨hc.1, hc.2.1, hc.2.2.1, by rw [h.lft j hc.1]; exact cnt_zero.2 hc.2.2.2⟩
  simp at this
/-- On the way: a knot stands there, its members are looked through; i is under way, ms are still to come. -/
structure Kw (g : G) (of out : List Nat) (a : Nat) (ready left : List Nat) (cur ms : List Nat) : Prop where
  whole : out ++ [a] = Kn.gr g of (out.length + 1)
  gr : Gr g of out
  cand : Cand g of out a
  desc : Desc ready
  mem : ∀ x, x ∈ ready ↔ x < g.length ∧ of.getD x 0 = x ∧ x ∉ out ++ [a] ∧ left.getD x 0 = 0
  lft : ∀ x, x < g.length → x ≠ a → left.getD x 0 = cnt g of (out ++ [a]) x + cntRow of x cur + restM g of x ms
  lefta : left.getD a 0 = 0
theorem Ks.pop {g : G} {of out r left : List Nat} {a : Nat} (h : Ks g of out (r ++ [a]) left) : Kw g of out a r left [] (memb g of a) := by
  have hn := h.next
  have hc := next_cand hn
  obtain ⟨h1, h2, h3⟩ := desc_last h.desc
  refine ⟨?_, h.gr, hc, h1, fun x => ?_, fun x hx hxa => ?_, ?_⟩
  · have := gr_step h.whole hn
    rw [List.length_append] at this
    exact this
  · have := h.mem x
    rw [List.mem_append, List.mem_singleton] at this
    rw [List.mem_append, List.mem_singleton, not_or]
    constructor
    · intro hx
      have h4 := this.1 (.inl hx)
      exact ⟨h4.1, h4.2.1, ⟨h4.2.2.1, fun e => h3 (by rw [← e]; exact hx)⟩, h4.2.2.2⟩
    · rintro ⟨h4, h5, ⟨h6, h7⟩, h8⟩
      rcases this.2 ⟨h4, h5, h6, h8⟩ with h9 | h9
      · exact h9
      · exact absurd h9 h7
  · rw [h.lft x hx, cnt_more hxa hc.2.2.1]
    simp [cntRow]
  · exact ((h.mem a).1 (by simp)).2.2.2
theorem Kw.take {g : G} {of out ready left ms : List Nat} {a i : Nat} (h : Kw g of out a ready left [] (i :: ms)) : Kw g of out a ready left (outsD g i 0) ms := by
  refine ⟨h.whole, h.gr, h.cand, h.desc, h.mem, fun x hx hxa => ?_, h.lefta⟩
  rw [h.lft x hx hxa, outsD_zero]
  simp [cntRow, restM]
  omega
theorem Kw.skip {g : G} {of out ready left cur ms : List Nat} {a j : Nat} (h : Kw g of out a ready left (j :: cur) ms) (hj : of.getD j 0 = a) : Kw g of out a ready left cur ms := by
  refine ⟨h.whole, h.gr, h.cand, h.desc, h.mem, fun x hx hxa => ?_, h.lefta⟩
  rw [h.lft x hx hxa, cntRow_cons, if_neg (by rw [hj]; exact fun e => hxa e.symm)]
  omega
theorem Kw.pos {g : G} {of out ready left cur ms : List Nat} {a j : Nat} (h : Kw g of out a ready left (j :: cur) ms) (hj : of.getD j 0 ≠ a) (hl : of.getD j 0 < g.length) : 1 ≤ left.getD (of.getD j 0) 0 := by
  rw [h.lft _ hl hj, cntRow_cons, if_pos rfl]
  omega
theorem Kw.down {g : G} {of out ready left cur ms : List Nat} {a j : Nat} (h : Kw g of out a ready left (j :: cur) ms) (hj : of.getD j 0 ≠ a) (hl : of.getD j 0 < g.length) (hlen : left.length = g.length) (h2 : 2 ≤ left.getD (of.getD j 0) 0) :
    Kw g of out a ready (left.set (of.getD j 0) (left.getD (of.getD j 0) 0 - 1)) cur ms := by
  have hs : ∀ x, (left.set (of.getD j 0) (left.getD (of.getD j 0) 0 - 1)).getD x 0 = if of.getD j 0 = x then left.getD (of.getD j 0) 0 - 1 else left.getD x 0 := fun x => getD_len (by omega) x
  refine ⟨h.whole, h.gr, h.cand, h.desc, fun x => ?_, fun x hx hxa => ?_, ?_⟩
  · rw [h.mem x, hs]
    split
    · rename_i e; subst e
      constructor
      · rintro ⟨_, _, _, h5⟩; omega
      · rintro ⟨_, _, _, h5⟩; omega
    · rfl
  · rw [hs]
    have := h.lft x hx hxa
    rw [cntRow_cons] at this
    split
    · rename_i e; subst e
      rw [if_pos rfl] at this
      omega
    · rename_i e
      rw [if_neg e] at this
      omega
  · rw [hs, if_neg hj]; exact h.lefta
theorem Kw.put {g : G} {of out ready left cur ms : List Nat} {a j q : Nat} (h : Kw g of out a ready left (j :: cur) ms) (hof : Ofs g of) (hj : of.getD j 0 ≠ a) (hjl : j < g.length) (hlen : left.length = g.length) (h2 : left.getD (of.getD j 0) 0 = 1)
    (hi : ∃ i, i < g.length ∧ of.getD i 0 = a ∧ j ∈ outs g i) (hq : q ≤ ready.length)
    (h3 : ∀ x, 0 < q → ready[q - 1]? = some x → of.getD j 0 ≤ x) (h4 : ∀ (p x : Nat), q ≤ p → ready[p]? = some x → x < of.getD j 0) :
    Kw g of out a (ready.take q ++ of.getD j 0 :: ready.drop q) (left.set (of.getD j 0) 0) cur ms := by
  have hl : of.getD j 0 < g.length := Nat.lt_of_le_of_lt (hof.lt hjl) hjl
  have hs : ∀ x, (left.set (of.getD j 0) 0).getD x 0 = if of.getD j 0 = x then 0 else left.getD x 0 := fun x => getD_len (by omega) x
  obtain ⟨i, hil, hia, hij⟩ := hi
  have hno : of.getD j 0 ∉ out := h.gr.closed h.cand.2.2.1 hil hia hij hj
  have hnr : of.getD j 0 ∉ ready := fun hm => by have := ((h.mem _).1 hm).2.2.2; omega
  refine ⟨h.whole, h.gr, h.cand, desc_ins h.desc hnr h3 h4 hq, fun x => ?_, fun x hx hxa => ?_, ?_⟩
  · rw [mem_ins, h.mem x, hs]
    constructor
    · rintro (e | ⟨h5, h6, h7, h8⟩)
      · subst e
        refine ⟨hl, hof.idem hjl, ?_, by rw [if_pos rfl]⟩
        rw [List.mem_append, List.mem_singleton, not_or]
        exact ⟨hno, hj⟩
      · refine ⟨h5, h6, h7, ?_⟩
        split
        · rfl
        · exact h8
    · rintro ⟨h5, h6, h7, h8⟩
      by_cases e : of.getD j 0 = x
      · exact .inl e.symm
      · rw [if_neg e] at h8
        exact .inr ⟨h5, h6, h7, h8⟩
  · rw [hs]
    have := h.lft x hx hxa
    rw [cntRow_cons] at this
    split
    · rename_i e; subst e
      rw [if_pos rfl] at this
      omega
    · rename_i e
      rw [if_neg e] at this
      omega
  · rw [hs, if_neg hj]; exact h.lefta
theorem Kw.done {g : G} {of out ready left : List Nat} {a : Nat} (h : Kw g of out a ready left [] []) : Ks g of (out ++ [a]) ready left := by
  refine ⟨by rw [List.length_append]; exact h.whole, h.desc, h.mem, fun x hx => ?_⟩
  by_cases hxa : x = a
  · subst hxa
    rw [h.lefta]
    exact (cnt_zero.2 (h.cand.2.2.2.mono fun y hy => by simp [hy])).symm
  · rw [h.lft x hx hxa]
    simp [cntRow, restM]
end Go.Proofs.Ytgmppddlgbkjmaa.Kn
