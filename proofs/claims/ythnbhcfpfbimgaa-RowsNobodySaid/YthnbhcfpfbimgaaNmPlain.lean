/- The plain law of names: what Find, Twice, Same, Less, Right, Sort and Join of the program and of the reference compute, as functions on lists; no program in sight. -/
import Derived.Below
import Derived.Lib.Strings
namespace Go.Proofs.Ythnbhcfpfbimgaa.Nm

/-- The first index below n at which p holds; -1: none. -/
def first (p : Nat → Bool) : Nat → Nat → Int
  | _, 0 => -1
  | i, n + 1 => if p i then (i : Int) else first p (i + 1) n

theorem first_none {p : Nat → Bool} : ∀ (n i : Nat), (∀ j, i ≤ j → j < i + n → p j = false) → first p i n = -1
  | 0, _, _ => rfl
  | n + 1, i, h => by
    rw [first, h i (by omega) (by omega), if_neg (by simp)]
    exact first_none n (i + 1) fun j h1 h2 => h j (by omega) (by omega)

theorem first_at {p : Nat → Bool} (k : Nat) (hp : p k = true) : ∀ (n i : Nat), (∀ j, i ≤ j → j < k → p j = false) → i ≤ k → k < i + n → first p i n = k
  | 0, i, _, h1, h2 => by omega
  | n + 1, i, h, h1, h2 => by
    rw [first]
    by_cases e : i = k
    · subst e; rw [hp, if_pos rfl]
    · rw [h i (by omega) (by omega), if_neg (by simp)]
      exact first_at k hp n (i + 1) (fun j a b => h j (by omega) (by omega)) (by omega) (by omega)

theorem first_cases (p : Nat → Bool) (n i : Nat) :
    (first p i n = -1 ∧ ∀ j, i ≤ j → j < i + n → p j = false) ∨ (∃ k : Nat, first p i n = k ∧ p k = true ∧ i ≤ k ∧ k < i + n ∧ ∀ j, i ≤ j → j < k → p j = false) := by
  induction n generalizing i with
  | zero => exact .inl ⟨rfl, fun j h1 h2 => by omega⟩
  | succ n ih =>
    rw [first]
    cases hp : p i with
    | true => exact .inr ⟨i, by simp, hp, by omega, by omega, fun j h1 h2 => by omega⟩
    | false =>
      rw [if_neg (by simp)]
      rcases ih (i + 1) with ⟨h1, h2⟩ | ⟨k, h1, h2, h3, h4, h5⟩
      · exact .inl ⟨h1, fun j a b => by by_cases e : j = i; (· subst e; exact hp); (· exact h2 j (by omega) (by omega))⟩
      · exact .inr ⟨k, h1, h2, by omega, by omega, fun j a b => by by_cases e : j = i; (· subst e; exact hp); (· exact h5 j (by omega) (by omega))⟩

theorem first_congr {p q : Nat → Bool} : ∀ (n i : Nat), (∀ j, i ≤ j → j < i + n → p j = q j) → first p i n = first q i n
  | 0, _, _ => rfl
  | n + 1, i, h => by
    rw [first, first, h i (by omega) (by omega), first_congr n (i + 1) fun j a b => h j (by omega) (by omega)]

theorem first_range (p : Nat → Bool) (n i : Nat) (h : (i : Int) + n ≤ 9223372036854775807) : -1 ≤ first p i n ∧ first p i n ≤ 9223372036854775807 := by
  rcases first_cases p n i with ⟨h1, _⟩ | ⟨k, h1, _, h3, h4, _⟩ <;> rw [h1] <;> omega

theorem bytesLess_eq : ∀ (x y : List UInt8), Op.bytesLess x y = decide (x < y)
  | [], [] => by simp [Op.bytesLess]
  | _ :: _, [] => by simp [Op.bytesLess]
  | [], _ :: _ => by simp [Op.bytesLess]
  | a :: x, b :: y => by
    rw [Op.bytesLess, bytesLess_eq x y]
    simp only [List.cons_lt_cons_iff]
    by_cases h1 : a < b <;> by_cases h2 : a = b <;> by_cases h3 : x < y <;> simp [h1, h2, h3]

/-- The string at an index. -/
def at_ (l : List ByteArray) (i : Nat) : ByteArray := l.getD i ByteArray.empty

/-- Are two strings one? As the model asks it. -/
def eqs (a b : ByteArray) : Bool := a.toList == b.toList
theorem eqs_iff {a b : ByteArray} : eqs a b = true ↔ a = b := by
  unfold eqs
  rw [beq_iff_eq, Lib.toList_data, Lib.toList_data]
  constructor
  · intro h; exact ByteArray.ext (Array.ext' h)
  · rintro rfl; rfl
theorem eqs_false {a b : ByteArray} : eqs a b = false ↔ a ≠ b := by
  rw [← Bool.not_eq_true, eqs_iff]
theorem eqs_self (a : ByteArray) : eqs a a = true := eqs_iff.2 rfl

/-- name.Find. -/
def find (l : List ByteArray) (s : ByteArray) : Int := first (fun i => eqs (at_ l i) s) 0 l.length
/-- name.Twice. -/
def twice (l : List ByteArray) : Int := first (fun i => decide (0 ≤ find (l.take i) (at_ l i))) 0 l.length
/-- the reference's Twice. -/
def twiceR (l : List ByteArray) : Int := first (fun i => decide (find l (at_ l i) < i)) 0 l.length
/-- name.Same. -/
def same (a b : List ByteArray) : Bool := decide (a.length = b.length) && decide (first (fun i => !eqs (at_ a i) (at_ b i)) 0 a.length < 0)

theorem find_range (l : List ByteArray) (s : ByteArray) : -1 ≤ find l s ∧ find l s < l.length ∧ (0 ≤ find l s ↔ s ∈ l) := by
  unfold find
  rcases first_cases (fun i => eqs (at_ l i) s) l.length 0 with ⟨h1, h2⟩ | ⟨k, h1, h2, _, h4, _⟩
  · refine ⟨by omega, by omega, ⟨fun h => by omega, fun hm => ?_⟩⟩
    obtain ⟨i, hi, rfl⟩ := List.getElem_of_mem hm
    have := h2 i (by omega) (by omega)
    rw [eqs_false] at this
    exact absurd (by simp [at_, hi]) this
  · refine ⟨by omega, by omega, ⟨fun _ => ?_, fun _ => by omega⟩⟩
    rw [eqs_iff] at h2
    have hk : k < l.length := by omega
    rw [← h2]
    simp [at_, hk]

theorem twice_eq (l : List ByteArray) : twice l = twiceR l := by
  refine first_congr _ _ fun i _ hi => ?_
  have hi' : i < l.length := by omega
  rw [Bool.eq_iff_iff, decide_eq_true_eq, decide_eq_true_eq, (find_range _ _).2.2]
  have hat : at_ l i = l[i] := by simp [at_, hi']
  constructor
  · intro h
    obtain ⟨j, hj, e⟩ := List.getElem_of_mem h
    rw [List.length_take] at hj
    unfold find
    rcases first_cases (fun k => eqs (at_ l k) (at_ l i)) l.length 0 with ⟨h1, _⟩ | ⟨k, h1, _, _, _, h5⟩
    · omega
    · rw [h1]
      rcases Nat.lt_or_ge k i with hlt | hge
      · omega
      · have := h5 j (by omega) (by omega)
        rw [eqs_false] at this
        refine absurd ?_ this
        rw [← e, List.getElem_take]
        simp [at_, show j < l.length by omega]
  · intro h
    unfold find at h
    rcases first_cases (fun k => eqs (at_ l k) (at_ l i)) l.length 0 with ⟨_, h2⟩ | ⟨k, h1, h2, _, h4, _⟩
    · have := h2 i (by omega) (by omega)
      rw [eqs_self] at this
      cases this
    · rw [h1] at h
      rw [eqs_iff] at h2
      rw [← h2, List.mem_take_iff_getElem]
      exact ⟨k, by omega, by simp [at_, show k < l.length by omega]⟩

theorem same_self (l : List ByteArray) : same l l = true := by
  unfold same
  rw [first_none _ _ fun j _ _ => by simp [eqs_self]]
  simp

end Go.Proofs.Ythnbhcfpfbimgaa.Nm
