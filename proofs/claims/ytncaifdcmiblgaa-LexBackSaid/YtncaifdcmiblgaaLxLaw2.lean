/- The plain law of lines: the text of pieces that might be a line's is read as these pieces. -/
import Derived.Test.YtncaifdcmiblgaaLxLaw
namespace Go.Proofs.Ytncaifdcmiblgaa.Lx

/-- Does a blank stand between a piece and the one ahead of it? -/
def gap (l : List T) (k : Nat) : Bool := match l[k]? with
  | some t => decide (0 < k ∧ t.kind = 97 ∧ (match l[k - 1]? with | some u => u.kind | none => 0) = 97)
  | none => false
theorem tx_next {l : List T} {k : Nat} {t : T} (h : l[k]? = some t) : tx l (k + 1) = tx l k ++ (if gap l k then [32] else []) ++ t.text.data.toList := by
  simp only [tx, h, gap, decide_eq_true_eq]
  rw [List.append_assoc]
  rfl
theorem tx_more (l : List T) : ∀ (d k : Nat), ∃ r, tx l (k + d) = tx l k ++ r
  | 0, k => ⟨[], by simp⟩
  | d + 1, k => by
    obtain ⟨r, hr⟩ := tx_more l d k
    cases h : l[k + d]? with
    | none => exact ⟨r, by rw [← Nat.add_assoc]; simp only [tx, h, List.append_nil]; exact hr⟩
    | some t => exact ⟨r ++ ((if gap l (k + d) then [32] else []) ++ t.text.data.toList), by rw [← Nat.add_assoc, tx_next h, hr]; simp⟩
/-- Where a piece stands in the text. -/
def at_ (l : List T) (k : Nat) : Nat := (tx l k).length + (if gap l k then 1 else 0)
def plc (l : List T) : Nat → List T
  | 0 => []
  | k + 1 => plc l k ++ (match l[k]? with | none => [] | some t => [⟨t.kind, t.text, (at_ l k : Nat)⟩])

theorem byte_at {s : ByteArray} {a r : List UInt8} {c : UInt8} (h : s.data.toList = a ++ c :: r) : Nm.byte s a.length = c.toNat := by
  unfold Nm.byte
  rw [h, List.getD_eq_getElem?_getD, List.getElem?_append_right (Nat.le_refl _), Nat.sub_self]
  rfl
theorem byte_mid {s x : ByteArray} {a r : List UInt8} (h : s.data.toList = a ++ (x.data.toList ++ r)) {j : Nat} (hj : j < x.size) : Nm.byte s (a.length + j) = Nm.byte x j := by
  have hx : j < x.data.toList.length := by simpa using hj
  unfold Nm.byte
  rw [h, List.getD_eq_getElem?_getD, List.getD_eq_getElem?_getD, List.getElem?_append_right (by omega), Nat.add_sub_cancel_left, List.getElem?_append_left hx]
theorem ext_mid {s x : ByteArray} {a r : List UInt8} (h : s.data.toList = a ++ (x.data.toList ++ r)) : s.extract a.length (a.length + x.size) = x := by
  have hx : x.data.toList.length = x.size := by simp
  apply ByteArray.ext
  apply Array.ext'
  rw [ByteArray.data_extract, Array.toList_extract, List.extract, h, List.drop_left, Nat.add_sub_cancel_left, ← hx, List.take_left']
  rfl
theorem size_list (s : ByteArray) : s.data.toList.length = s.size := by simp

theorem ok_cases {t : T} (h : ok t = true) : (t.kind = 97 ∧ Nm.right t.text = true) ∨ (t.kind ≠ 97 ∧ t.text.size = 1 ∧ Nm.byte t.text 0 = t.kind ∧ sg t.kind = true) := by
  unfold ok at h
  split at h
  · rename_i hk; exact .inl ⟨hk, h⟩
  · rename_i hk
    simp only [Bool.and_eq_true, decide_eq_true_eq] at h
    exact .inr ⟨hk, h.1, h.2.1, h.2.2⟩
theorem sg_nots {c : Nat} (h : sg c = true) : c ≠ 32 ∧ c ≠ 9 ∧ c ≠ 45 ∧ Nm.goes c = false := by
  have hc : c = 35 ∨ c = 43 ∨ c = 38 ∨ c = 40 ∨ c = 41 ∨ c = 123 ∨ c = 125 ∨ c = 91 ∨ c = 93 ∨ c = 44 ∨ c = 58 ∨ c = 61 ∨ c = 124 ∨ c = 60 := by simpa [sg] using h
  rcases hc with rfl | rfl | rfl | rfl | rfl | rfl | rfl | rfl | rfl | rfl | rfl | rfl | rfl | rfl <;> simp [Nm.goes]
theorem letter_not {c : Nat} (h : Nm.letter c = true) : c ≠ 32 ∧ c ≠ 9 ∧ c ≠ 45 ∧ sg c = false := by
  simp only [Nm.letter, decide_eq_true_eq] at h
  refine ⟨by omega, by omega, by omega, ?_⟩
  cases hs : sg c
  · rfl
  · have := (sg_nots hs).2.2.2
    simp [Nm.goes] at this
    omega
theorem right_parts {s : ByteArray} (h : Nm.right s = true) : 1 ≤ s.size ∧ Nm.letter (Nm.byte s 0) = true ∧ ∀ i, i < s.size → Nm.goes (Nm.byte s i) = true := by
  simp only [Nm.right, decide_eq_true_eq] at h
  exact ⟨h.1, h.2.2.1, h.2.2.2⟩

theorem plc_way {l : List T} (hok : ∀ t ∈ l, ok t = true) : ∀ k, k ≤ l.length → Way (text l) (tx l k).length (plc l k)
  | 0, _ => .start
  | k + 1, hk => by
    have ih := plc_way hok k (by omega)
    obtain ⟨t, ht⟩ : ∃ t, l[k]? = some t := ⟨l[k]'(by omega), List.getElem?_eq_getElem _⟩
    have hs : (text l).data.toList = tx l l.length := rfl
    obtain ⟨r, hr⟩ := tx_more l (l.length - (k + 1)) (k + 1)
    rw [show k + 1 + (l.length - (k + 1)) = l.length by omega, ← hs] at hr
    have hnx := tx_next ht
    have hsz : (text l).size = (tx l (k + 1)).length + r.length := by rw [← size_list, hr, List.length_append]
    have hlen1 : (tx l (k + 1)).length = at_ l k + t.text.size := by
      rw [hnx, List.length_append, List.length_append, size_list]
      unfold at_
      split <;> simp
    -- the blank ahead of it
    have way1 : Way (text l) (at_ l k) (plc l k) := by
      unfold at_
      cases hg : gap l k
      · exact ih
      · rw [if_pos rfl]
        have hb : Nm.byte (text l) (tx l k).length = 32 := by
          rw [hg, if_pos rfl] at hnx
          have : (text l).data.toList = tx l k ++ 32 :: (t.text.data.toList ++ r) := by rw [hr, hnx]; simp
          rw [byte_at this]; rfl
        have hlt : (tx l k).length < (text l).size := by rw [hsz, hlen1]; unfold at_; rw [hg, if_pos rfl]; omega
        exact ih.skip hlt (look_skip_mk (.inl hb))
    -- the text's parts, seen from the piece on
    have hparts : ∃ a : List UInt8, a.length = at_ l k ∧ (text l).data.toList = a ++ (t.text.data.toList ++ r) := by
      refine ⟨tx l k ++ (if gap l k then [32] else []), ?_, by rw [hr, hnx]; simp⟩
      unfold at_
      rw [List.length_append]
      split <;> rfl
    obtain ⟨a, ha, hp⟩ := hparts
    have hplc : plc l (k + 1) = plc l k ++ [⟨t.kind, t.text, (at_ l k : Nat)⟩] := by simp only [plc, ht]
    have hex := ext_mid hp
    rw [ha] at hex
    have hby : ∀ j, j < t.text.size → Nm.byte (text l) (at_ l k + j) = Nm.byte t.text j := fun j hj => by rw [← ha]; exact byte_mid hp hj
    rw [hplc, hlen1]
    rcases ok_cases (hok t (List.mem_of_getElem? ht)) with ⟨hk97, hright⟩ | ⟨hk97, h1, h2, h3⟩
    · obtain ⟨r1, r2, r3⟩ := right_parts hright
      have hb0 := hby 0 (by omega)
      rw [Nat.add_zero] at hb0
      obtain ⟨q1, q2, q3, q4⟩ := letter_not r2
      rw [← hb0] at q1 q2 q3 q4
      -- what stands behind it goes no further
      have hend : end_ (text l) (at_ l k) = at_ l k + t.text.size := by
        refine end_unique _ t.text.size _ _ rfl (by omega) (fun j hj hlt => ?_) (fun hlt => ?_)
        · have := hby (j - at_ l k) (by omega)
          rw [show at_ l k + (j - at_ l k) = j by omega] at this
          rw [this]
          exact r3 _ (by omega)
        · have hk2 : k + 1 < l.length := by
            rcases Nat.lt_or_ge (k + 1) l.length with h | h
            · exact h
            · have hl : l.length = k + 1 := by omega
              have hz : (text l).size = (tx l l.length).length := by rw [← size_list, hs]
              rw [hl] at hz
              omega
          obtain ⟨u, hu⟩ : ∃ u, l[k + 1]? = some u := ⟨l[k + 1]'hk2, List.getElem?_eq_getElem _⟩
          obtain ⟨r', hr'⟩ := tx_more l (l.length - (k + 1 + 1)) (k + 1 + 1)
          rw [show k + 1 + 1 + (l.length - (k + 1 + 1)) = l.length by omega, ← hs, tx_next hu] at hr'
          rw [← hlen1]
          cases hg : gap l (k + 1)
          · rw [hg] at hr'
            simp only [Bool.false_eq_true, if_false, List.append_nil] at hr'
            rcases ok_cases (hok u (List.mem_of_getElem? hu)) with ⟨hu97, _⟩ | ⟨_, u1, u2, u3⟩
            · exfalso
              simp only [gap, hu, Nat.add_sub_cancel, ht, decide_eq_false_iff_not] at hg
              exact hg ⟨by omega, hu97, hk97⟩
            · have := byte_mid (s := text l) (x := u.text) (a := tx l (k + 1)) (r := r') (by rw [hr']; simp) (j := 0) (by omega)
              rw [Nat.add_zero, u2] at this
              rw [this]
              exact (sg_nots u3).2.2.2
          · rw [hg, if_pos rfl] at hr'
            rw [byte_at (s := text l) (a := tx l (k + 1)) (c := 32) (r := u.text.data.toList ++ r') (by rw [hr']; simp)]
            rfl
      have hlt : at_ l k < (text l).size := by omega
      have hlook := look_name_mk (s := text l) (i := at_ l k) (by rintro (h | h); (· exact q1 h); (· exact q2 h)) (by rintro ⟨h, _⟩; exact q3 h) q4 (by rw [hend, hex]; exact hright)
      rw [hend, hex] at hlook
      rw [hk97]
      exact way1.tok hlt hlook
    · have hb0 := hby 0 (by omega)
      rw [Nat.add_zero, h2] at hb0
      obtain ⟨q1, q2, q3, q4⟩ := sg_nots h3
      have hlt : at_ l k < (text l).size := by omega
      rw [h1] at hex ⊢
      have hlook := look_sign_mk (s := text l) (i := at_ l k) (by rw [hb0]; rintro (h | h); (· exact q1 h); (· exact q2 h)) (by rintro ⟨h, _⟩; rw [hb0] at h; exact q3 h) (by rw [hb0]; exact h3)
      rw [hex, hb0] at hlook
      exact way1.tok hlt hlook

theorem plc_len (l : List T) : ∀ k, k ≤ l.length → (plc l k).length = k
  | 0, _ => rfl
  | k + 1, h => by
    obtain ⟨t, ht⟩ : ∃ t, l[k]? = some t := ⟨l[k]'(by omega), List.getElem?_eq_getElem _⟩
    simp only [plc, ht, List.length_append, List.length_singleton, plc_len l k (by omega)]
theorem plc_get (l : List T) : ∀ (k j : Nat) (t : T), k ≤ l.length → j < k → l[j]? = some t → ∃ p, (plc l k)[j]? = some ⟨t.kind, t.text, p⟩
  | 0, j, t, _, h, _ => by omega
  | k + 1, j, t, hk, hj, ht => by
    obtain ⟨u, hu⟩ : ∃ u, l[k]? = some u := ⟨l[k]'(by omega), List.getElem?_eq_getElem _⟩
    have hl := plc_len l k (by omega)
    simp only [plc, hu]
    rcases Nat.lt_or_ge j k with h | h
    · obtain ⟨p, hp⟩ := plc_get l k j t (by omega) h ht
      exact ⟨p, by rw [List.getElem?_append_left (by omega)]; exact hp⟩
    · obtain rfl : j = k := by omega
      rw [hu] at ht
      cases ht
      exact ⟨_, by rw [List.getElem?_append_right (by omega), hl, Nat.sub_self]; rfl⟩
/-- The same kinds and texts have the same text. -/
theorem tx_same {l m : List T} (h : ∀ j : Nat, (l[j]?).map (fun t : T => (t.kind, t.text)) = (m[j]?).map (fun t : T => (t.kind, t.text))) : ∀ k, tx l k = tx m k
  | 0 => rfl
  | k + 1 => by
    have h1 := h k
    have h2 := h (k - 1)
    simp only [tx, tx_same h k]
    congr 1
    cases hl : l[k]? with
    | none =>
      rw [hl] at h1
      cases hm : m[k]? with
      | none => rfl
      | some u => rw [hm] at h1; simp at h1
    | some t =>
      rw [hl] at h1
      cases hm : m[k]? with
      | none => rw [hm] at h1; simp at h1
      | some u =>
        rw [hm] at h1
        simp only [Option.map_some, Option.some.injEq, Prod.mk.injEq] at h1
        simp only [h1.1, h1.2]
        cases hl' : l[k - 1]? with
        | none =>
          rw [hl'] at h2
          cases hm' : m[k - 1]? with
          | none => rfl
          | some u => rw [hm'] at h2; simp at h2
        | some x =>
          rw [hl'] at h2
          cases hm' : m[k - 1]? with
          | none => rw [hm'] at h2; simp at h2
          | some y =>
            rw [hm'] at h2
            simp only [Option.map_some, Option.some.injEq, Prod.mk.injEq] at h2
            simp only [h2.1]

theorem back {l : List T} (hok : ∀ t ∈ l, ok t = true) : ∃ m, read (text l) = (m, none) ∧ m.length = l.length ∧ like l m = true ∧ text m = text l ∧ ∀ t ∈ m, ∃ u ∈ l, t.text = u.text := by
  have hw := plc_way hok l.length (Nat.le_refl _)
  have hs : (text l).size = (tx l l.length).length := by rw [← size_list]; rfl
  have hl := plc_len l l.length (Nat.le_refl _)
  refine ⟨plc l l.length, reach_end hw.reach (by omega), hl, ?_, ?_, ?_⟩
  · rw [like_iff]
    refine ⟨hl.symm, fun j t u ht hu => ?_⟩
    obtain ⟨p, hp⟩ := plc_get l l.length j t (Nat.le_refl _) (List.getElem?_eq_some_iff.1 ht).1 ht
    rw [hp] at hu
    cases hu
    simp [eqK]
  · unfold text
    rw [hl]
    congr 2
    refine (tx_same (fun j => ?_) _).symm
    cases hj : l[j]? with
    | none =>
      have := List.getElem?_eq_none_iff.1 hj
      rw [List.getElem?_eq_none (by omega)]
    | some t =>
      obtain ⟨p, hp⟩ := plc_get l l.length j t (Nat.le_refl _) (List.getElem?_eq_some_iff.1 hj).1 hj
      rw [hp]
      rfl
  · intro t ht
    obtain ⟨j, hj, rfl⟩ := List.getElem_of_mem ht
    rw [hl] at hj
    obtain ⟨p, hp⟩ := plc_get l l.length j l[j] (Nat.le_refl _) hj (List.getElem?_eq_getElem hj)
    rw [List.getElem?_eq_getElem (by omega)] at hp
    simp only [Option.some.injEq] at hp
    exact ⟨l[j], List.getElem_mem hj, by rw [hp]⟩
end Go.Proofs.Ytncaifdcmiblgaa.Lx
