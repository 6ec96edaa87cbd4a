/- The plain law of sorting: the program's insertions and the reference's selections both end in the one strictly rising list with the texts of the given list. -/
import Derived.Test.YthnbhcfpfbimgaaNmPlain
namespace Go.Proofs.Ythnbhcfpfbimgaa.Nm

/-- Does a stand ahead of b? As the model asks it. -/
def ls (a b : ByteArray) : Bool := Op.bytesLess a.toList b.toList
theorem ls_iff {a b : ByteArray} : ls a b = true ↔ a.data.toList < b.data.toList := by
  unfold ls
  rw [bytesLess_eq, Lib.toList_data, Lib.toList_data, decide_eq_true_eq]
theorem data_inj {a b : ByteArray} (h : a.data.toList = b.data.toList) : a = b := ByteArray.ext (Array.ext' h)
theorem ls_irrefl (a : ByteArray) : ls a a = false := by
  rw [← Bool.not_eq_true, ls_iff]; exact List.lt_irrefl _
theorem ls_trans {a b c : ByteArray} (h : ls a b = true) (k : ls b c = true) : ls a c = true := by
  rw [ls_iff] at *; exact List.lt_trans h k
theorem ls_asymm {a b : ByteArray} (h : ls a b = true) : ls b a = false := by
  rw [← Bool.not_eq_true]; intro k
  have := ls_trans h k
  rw [ls_irrefl] at this; cases this
theorem ls_total {a b : ByteArray} (h : ls a b = false) : ls b a = true ∨ a = b := by
  rw [← Bool.not_eq_true, ls_iff, List.not_lt] at h
  rcases List.le_iff_lt_or_eq.1 h with h | h
  · exact .inl (ls_iff.2 h)
  · exact .inr (data_inj h.symm)

/-- Strictly rising. -/
def Up (l : List ByteArray) : Prop := l.Pairwise fun a b => ls a b = true

theorem Up.nodup {l : List ByteArray} (h : Up l) : l.Nodup := h.imp fun h e => by subst e; rw [ls_irrefl] at h; cases h

/-- A strictly rising list is known by its texts. -/
theorem Up.unique : ∀ {l m : List ByteArray}, Up l → Up m → (∀ x, x ∈ l ↔ x ∈ m) → l = m
  | [], [], _, _, _ => rfl
  | [], b :: m, _, _, h => absurd ((h b).2 (by simp)) (by simp)
  | a :: l, [], _, _, h => absurd ((h a).1 (by simp)) (by simp)
  | a :: l, b :: m, ha, hb, h => by
    obtain ⟨ha1, ha2⟩ := List.pairwise_cons.1 ha
    obtain ⟨hb1, hb2⟩ := List.pairwise_cons.1 hb
    have hab : a = b := by
      rcases List.mem_cons.1 ((h a).1 (by simp)) with e | e
      · exact e
      · rcases List.mem_cons.1 ((h b).2 (by simp)) with f | f
        · exact f.symm
        · have := ls_asymm (hb1 a e)
          rw [ha1 b f] at this; cases this
    subst hab
    have hna : a ∉ l := fun e => by have := ha1 a e; rw [ls_irrefl] at this; cases this
    have hnb : a ∉ m := fun e => by have := hb1 a e; rw [ls_irrefl] at this; cases this
    rw [Up.unique ha2 hb2 fun x => ?_]
    constructor
    · intro hx
      rcases List.mem_cons.1 ((h x).1 (by simp [hx])) with e | e
      · subst e; exact absurd hx hna
      · exact e
    · intro hx
      rcases List.mem_cons.1 ((h x).2 (by simp [hx])) with e | e
      · subst e; exact absurd hx hnb
      · exact e

/-- l is sorted as m: strictly rising, with the texts of m. -/
def Sorts (m l : List ByteArray) : Prop := Up l ∧ ∀ x, x ∈ l ↔ x ∈ m

/-- Where a text goes in name.Sort. -/
def place (out : List ByteArray) (x : ByteArray) : Int := first (fun k => !ls (at_ out k) x) 0 out.length

theorem up_insert {l r : List ByteArray} {x : ByteArray} (h : Up (l ++ r)) (hl : ∀ y ∈ l, ls y x = true) (hr : ∀ y ∈ r, ls x y = true) : Up (l ++ x :: r) := by
  obtain ⟨h1, h2, h3⟩ := List.pairwise_append.1 h
  refine List.pairwise_append.2 ⟨h1, List.pairwise_cons.2 ⟨hr, h2⟩, fun a ha b hb => ?_⟩
  rcases List.mem_cons.1 hb with rfl | hb
  · exact hl a ha
  · exact h3 a ha b hb

theorem at_mem {l : List ByteArray} {k : Nat} (h : k < l.length) : at_ l k = l[k] := by simp [at_, h]

/-- The text goes to the end. -/
theorem insert_end {out m : List ByteArray} {x : ByteArray} (h : Sorts m out) (hp : place out x < 0) : Sorts (m ++ [x]) (out ++ [x]) := by
  obtain ⟨h1, h2⟩ := h
  refine ⟨?_, fun y => by simp [h2]⟩
  have : Up (out ++ x :: []) := by
    refine up_insert (by simpa using h1) (fun y hy => ?_) (by simp)
    obtain ⟨i, hi, rfl⟩ := List.getElem_of_mem hy
    rcases first_cases (fun k => !ls (at_ out k) x) out.length 0 with ⟨_, a⟩ | ⟨k, a, _⟩
    · have := a i (by omega) (by omega)
      rw [at_mem hi] at this
      simpa using this
    · unfold place at hp; omega
  exact this

/-- It is there already. -/
theorem insert_there {out m : List ByteArray} {x : ByteArray} {k : Nat} (h : Sorts m out) (hk : k < out.length) (he : at_ out k = x) : Sorts (m ++ [x]) out := by
  refine ⟨h.1, fun y => ?_⟩
  rw [List.mem_append, List.mem_singleton, ← h.2]
  constructor
  · exact .inl
  · rintro (a | rfl)
    · exact a
    · rw [← he, at_mem hk]; exact List.getElem_mem hk

/-- It goes in between. -/
theorem insert_mid {out m : List ByteArray} {x : ByteArray} {k : Nat} (h : Sorts m out) (hp : place out x = k) (he : at_ out k ≠ x) :
    k < out.length ∧ Sorts (m ++ [x]) (out.take k ++ x :: out.drop k) := by
  obtain ⟨h1, h2⟩ := h
  unfold place at hp
  rcases first_cases (fun k => !ls (at_ out k) x) out.length 0 with ⟨a, _⟩ | ⟨k', a, a2, _, a4, a5⟩
  · omega
  · obtain rfl : k' = k := by omega
    have hk : k' < out.length := by omega
    refine ⟨hk, up_insert (by rw [List.take_append_drop]; exact h1) (fun y hy => ?_) (fun y hy => ?_), fun y => ?_⟩
    · obtain ⟨i, hi, rfl⟩ := List.mem_take_iff_getElem.1 hy
      have := a5 i (by omega) (by omega)
      rw [at_mem (by omega)] at this
      simpa using this
    · have hx : ls x (at_ out k') = true := by
        rcases ls_total (by simpa using a2 : ls (at_ out k') x = false) with q | q
        · exact q
        · exact absurd q he
      obtain ⟨i, hi, rfl⟩ := List.mem_drop_iff_getElem.1 hy
      rcases Nat.eq_zero_or_pos i with rfl | hpos
      · rw [at_mem hk] at hx; simpa using hx
      · rw [at_mem hk] at hx
        exact ls_trans hx (List.pairwise_iff_getElem.1 h1 k' (k' + i) hk (by omega) (by omega))
    · rw [List.mem_append, List.mem_cons, List.mem_append, List.mem_singleton, ← h2]
      conv => rhs; rw [← List.take_append_drop k' out, List.mem_append]
      constructor
      · rintro (p | p | p)
        · exact .inl (.inl p)
        · exact .inr p
        · exact .inl (.inr p)
      · rintro ((p | p) | p)
        · exact .inl p
        · exact .inr (.inr p)
        · exact .inr (.inl p)

theorem sorts_nil : Sorts [] [] := ⟨List.Pairwise.nil, fun _ => Iff.rfl⟩

theorem Sorts.length_le {m l : List ByteArray} (h : Up l) (hs : ∀ x ∈ l, x ∈ m) : l.length ≤ m.length :=
  h.nodup.length_le_of_subset fun _ hx => hs _ hx

theorem Sorts.eq {m l l' : List ByteArray} (h : Sorts m l) (h' : Sorts m l') : l = l' :=
  Up.unique h.1 h'.1 fun x => (h.2 x).trans (h'.2 x).symm

/-- What is sorted is sorted already. -/
theorem Sorts.again {m l l' : List ByteArray} (h : Sorts m l) (h' : Sorts l l') : l' = l :=
  Up.unique h'.1 h.1 h'.2

/-- The reference: what is there is the least of the list, in order. -/
def Part (m out : List ByteArray) : Prop := Up out ∧ (∀ x ∈ out, x ∈ m) ∧ ∀ y ∈ m, y ∉ out → ∀ x ∈ out, ls x y = true
theorem part_nil (m : List ByteArray) : Part m [] := ⟨List.Pairwise.nil, by simp, by simp⟩
theorem Part.len {m out : List ByteArray} (h : Part m out) : out.length ≤ m.length := Sorts.length_le h.1 h.2.1
theorem Part.done {m out : List ByteArray} (h : Part m out) (hd : ∀ y ∈ m, y ∈ out) : Sorts m out := ⟨h.1, fun x => ⟨h.2.1 x, hd x⟩⟩
theorem Part.next {m out : List ByteArray} {b : ByteArray} (h : Part m out) (hb : b ∈ m) (hn : b ∉ out) (hl : ∀ y ∈ m, y ∉ out → ls y b = false) : Part m (out ++ [b]) := by
  obtain ⟨h1, h2, h3⟩ := h
  refine ⟨?_, ?_, ?_⟩
  · have : Up (out ++ b :: []) := up_insert (by simpa using h1) (fun y hy => h3 b hb hn y hy) (by simp)
    exact this
  · intro x hx
    rcases List.mem_append.1 hx with hx | hx
    · exact h2 x hx
    · rw [List.mem_singleton.1 hx]; exact hb
  · intro y hy hny x hx
    have hny' : y ∉ out ∧ y ≠ b := by
      constructor
      · exact fun e => hny (List.mem_append.2 (.inl e))
      · exact fun e => hny (List.mem_append.2 (.inr (List.mem_singleton.2 e)))
    rcases List.mem_append.1 hx with hx | hx
    · exact h3 y hy hny'.1 x hx
    · rw [List.mem_singleton.1 hx]
      rcases ls_total (hl y hy hny'.1) with q | q
      · exact q
      · exact absurd q hny'.2

end Go.Proofs.Ythnbhcfpfbimgaa.Nm
