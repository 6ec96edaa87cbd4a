/- The plain law of the order of strings, byte by byte, and of what is a name. -/
import Derived.Test.YtokfcnjmgnmncaaNmSort
namespace Go.Proofs.Ytokfcnjmgnmncaa.Nm

theorem less_lists : ∀ (x y : List UInt8) (i : Nat), (∀ j, j < i → x[j]? = y[j]?) → i ≤ x.length → i ≤ y.length →
    Op.bytesLess x y = Op.bytesLess (x.drop i) (y.drop i)
  | x, y, 0, _, _, _ => by simp
  | [], y, i + 1, _, h, _ => by simp at h
  | a :: x, [], i + 1, _, _, h => by simp at h
  | a :: x, b :: y, i + 1, h, h1, h2 => by
    have h0 := h 0 (by omega)
    simp at h0
    subst h0
    simp only [List.length_cons] at h1 h2
    rw [List.drop_succ_cons, List.drop_succ_cons, ← less_lists x y i (fun j hj => by have := h (j + 1) (by omega); simpa using this) (by omega) (by omega)]
    simp [Op.bytesLess]

/-- Do two strings begin with the same i bytes? -/
def Begin (a b : ByteArray) (i : Nat) : Prop := i ≤ a.size ∧ i ≤ b.size ∧ ∀ j, j < i → a.data.toList[j]? = b.data.toList[j]?

theorem begin_zero (a b : ByteArray) : Begin a b 0 := ⟨by omega, by omega, fun j h => by omega⟩
theorem begin_next {a b : ByteArray} {i : Nat} (h : Begin a b i) (ha : i < a.size) (hb : i < b.size) (he : (a[i]'ha).toNat = (b[i]'hb).toNat) : Begin a b (i + 1) := by
  refine ⟨by omega, by omega, fun j hj => ?_⟩
  by_cases e : j = i
  · subst e
    have h1 : a.data.toList[j]? = some (a[j]'ha) := by rw [List.getElem?_eq_getElem (by simpa using ha)]; rfl
    have h2 : b.data.toList[j]? = some (b[j]'hb) := by rw [List.getElem?_eq_getElem (by simpa using hb)]; rfl
    rw [h1, h2, UInt8.toNat_inj.1 he]
  · exact h.2.2 j (by omega)

theorem less_diff {a b : ByteArray} {i : Nat} (h : Begin a b i) (ha : i < a.size) (hb : i < b.size) (he : ¬ (a[i]'ha).toNat = (b[i]'hb).toNat) :
    ls a b = decide ((a[i]'ha).toNat < (b[i]'hb).toNat) := by
  unfold ls
  rw [Lib.toList_data, Lib.toList_data, less_lists _ _ i h.2.2 (by simpa using h.1) (by simpa using h.2.1)]
  have h1 : a.data.toList.drop i = a[i]'ha :: a.data.toList.drop (i + 1) := by
    rw [List.drop_eq_getElem_cons (by simpa using ha)]; rfl
  have h2 : b.data.toList.drop i = b[i]'hb :: b.data.toList.drop (i + 1) := by
    rw [List.drop_eq_getElem_cons (by simpa using hb)]; rfl
  rw [h1, h2, Op.bytesLess]
  have hne : (a[i]'ha == b[i]'hb) = false := by
    rw [beq_eq_false_iff_ne]; intro e; exact he (by rw [e])
  rw [hne]
  simp [UInt8.lt_iff_toNat_lt]

theorem less_end {a b : ByteArray} {i : Nat} (h : Begin a b i) (he : i = a.size ∨ i = b.size) : ls a b = decide (a.size < b.size) := by
  unfold ls
  rw [Lib.toList_data, Lib.toList_data, less_lists _ _ i h.2.2 (by simpa using h.1) (by simpa using h.2.1)]
  have h1 := h.1
  have h2 := h.2.1
  rcases he with rfl | rfl
  · rw [List.drop_of_length_le (by simp)]
    by_cases hlt : a.size < b.size
    · rw [List.drop_eq_getElem_cons (by simpa using hlt)]
      simp [Op.bytesLess, hlt]
    · rw [List.drop_of_length_le (by simp; omega)]
      simp [Op.bytesLess, hlt]
  · rw [List.drop_of_length_le (l := b.data.toList) (by simp)]
    have : ¬ a.size < b.size := by omega
    cases a.data.toList.drop b.size <;> simp [Op.bytesLess, this]

/-- A lower-case letter. -/
def letter (c : Nat) : Bool := decide (97 ≤ c ∧ c ≤ 122)
/-- What may stand behind the first byte. -/
def goes (c : Nat) : Bool := decide ((97 ≤ c ∧ c ≤ 122) ∨ (48 ≤ c ∧ c ≤ 57) ∨ c = 95)
/-- The byte at an index. -/
def byte (s : ByteArray) (i : Nat) : Nat := (s.data.toList.getD i 0).toNat
theorem byte_eq {s : ByteArray} {i : Nat} (h : i < s.size) : byte s i = (s[i]'h).toNat := by
  unfold byte
  rw [List.getD_eq_getElem?_getD, List.getElem?_eq_getElem (by simpa using h)]
  rfl
/-- name.Right. -/
def right (s : ByteArray) : Bool := decide (1 ≤ s.size ∧ s.size ≤ 16 ∧ letter (byte s 0) = true ∧ ∀ i, i < s.size → goes (byte s i) = true)

theorem right_small {s : ByteArray} (h : s.size = 0) : right s = false := by simp [right]; omega
theorem right_long {s : ByteArray} (h : 16 < s.size) : right s = false := by simp [right]; omega
theorem right_first {s : ByteArray} (h : letter (byte s 0) = false) : right s = false := by simp [right, h]
theorem right_bad {s : ByteArray} {i : Nat} (h : i < s.size) (hg : goes (byte s i) = false) : right s = false := by
  simp only [right, decide_eq_false_iff_not]
  rintro ⟨_, _, _, h4⟩
  rw [h4 i h] at hg; cases hg
theorem right_good {s : ByteArray} (h1 : 1 ≤ s.size) (h2 : s.size ≤ 16) (h3 : letter (byte s 0) = true) (h4 : ∀ i, i < s.size → goes (byte s i) = true) : right s = true := by
  simp only [right, decide_eq_true_eq]
  exact ⟨h1, h2, h3, h4⟩
theorem goes_letter {c : Nat} (h : letter c = true) : goes c = true := by
  simp only [letter, goes, decide_eq_true_eq] at *; omega

end Go.Proofs.Ytokfcnjmgnmncaa.Nm
