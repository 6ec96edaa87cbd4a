/- The plain law of a ring and of a row of nodes. No program in sight. -/
import Derived.Test.YtgmppddlgbkjmaaKnOrd2
namespace Go.Proofs.Ytgmppddlgbkjmaa.Kn

def gRing (n k : Nat) : G := (List.range n).map fun i => if i < k then [(((i + 1) % n : Nat) : Int)] else []
def gRow (n k : Nat) : G := (List.range n).map fun i => if i < k ∧ 0 < i then [((i - 1 : Nat) : Int)] else []
theorem gRing_get {n k i : Nat} (h : i < n) : (gRing n k)[i]? = some (if i < k then [(((i + 1) % n : Nat) : Int)] else []) := by simp [gRing, h]
theorem gRow_get {n k i : Nat} (h : i < n) : (gRow n k)[i]? = some (if i < k ∧ 0 < i then [((i - 1 : Nat) : Int)] else []) := by simp [gRow, h]
theorem gRing_zero (n : Nat) : gRing n 0 = List.replicate n [] := by
  refine List.ext_getElem (by simp [gRing]) fun i h1 h2 => ?_
  simp [gRing]
theorem gRow_zero (n : Nat) : gRow n 0 = List.replicate n [] := by
  refine List.ext_getElem (by simp [gRow]) fun i h1 h2 => ?_
  simp [gRow]
theorem gRing_set {n k : Nat} : (gRing n k).set k [(((k + 1) % n : Nat) : Int)] = gRing n (k + 1) := by
  refine List.ext_getElem (by simp [gRing]) fun i h1 h2 => ?_
  rw [List.getElem_set]
  simp only [gRing, List.getElem_map, List.getElem_range]
  by_cases h : k = i
  · subst h; simp
  · rw [if_neg h]
    by_cases h3 : i < k
    · rw [if_pos h3, if_pos (by omega)]
    · rw [if_neg h3, if_neg (by omega)]
theorem gRow_set {n k : Nat} (hk : 0 < k) : (gRow n k).set k [((k - 1 : Nat) : Int)] = gRow n (k + 1) := by
  refine List.ext_getElem (by simp [gRow]) fun i h1 h2 => ?_
  rw [List.getElem_set]
  simp only [gRow, List.getElem_map, List.getElem_range]
  by_cases h : k = i
  · subst h; simp [hk]
  · rw [if_neg h]
    by_cases h3 : i < k
    · by_cases h4 : 0 < i
      · rw [if_pos ⟨h3, h4⟩, if_pos ⟨by omega, h4⟩]
      · rw [if_neg (by omega), if_neg (by omega)]
    · rw [if_neg (by omega), if_neg (by omega)]
theorem gRow_one (n : Nat) : gRow n 0 = gRow n 1 := by
  refine List.ext_getElem (by simp [gRow]) fun i h1 h2 => ?_
  simp only [gRow, List.getElem_map, List.getElem_range]
  rw [if_neg (by omega), if_neg (by omega)]
theorem gRing_len (n k : Nat) : (gRing n k).length = n := by simp [gRing]
theorem gRow_len (n k : Nat) : (gRow n k).length = n := by simp [gRow]
theorem gRing_arcs (n k i : Nat) : (arcs (gRing n k) i).length ≤ 1 := by
  unfold arcs
  rw [List.getD_eq_getElem?_getD]
  by_cases h : i < n
  · rw [gRing_get h]
    show (if i < k then _ else _ : List Int).length ≤ 1
    split <;> simp
  · rw [List.getElem?_eq_none (by rw [gRing_len]; omega)]
    simp
theorem gRow_arcs (n k i : Nat) : (arcs (gRow n k) i).length ≤ 1 := by
  unfold arcs
  rw [List.getD_eq_getElem?_getD]
  by_cases h : i < n
  · rw [gRow_get h]
    show (if i < k ∧ 0 < i then _ else _ : List Int).length ≤ 1
    split <;> simp
  · rw [List.getElem?_eq_none (by rw [gRow_len]; omega)]
    simp
variable {n : Nat}
theorem ring_arc {i : Nat} (h : i < n) : Arc (gRing n n) i ((i + 1) % n) := by
  refine ⟨?_, by rw [gRing_len]; exact Nat.mod_lt _ (by omega)⟩
  unfold arcs
  rw [List.getD_eq_getElem?_getD, gRing_get h, if_pos h]
  simp
theorem row_arc {i : Nat} (h : i < n) (h0 : 0 < i) : Arc (gRow n n) i (i - 1) := by
  refine ⟨?_, by rw [gRow_len]; omega⟩
  unfold arcs
  rw [List.getD_eq_getElem?_getD, gRow_get h, if_pos ⟨h, h0⟩]
  simp
theorem row_arc_only {i j : Nat} (h : Arc (gRow n n) i j) : j < i := by
  obtain ⟨h1, h2⟩ := h
  unfold arcs at h1
  rw [List.getD_eq_getElem?_getD] at h1
  by_cases hi : i < n
  · rw [gRow_get hi] at h1
    by_cases h0 : 0 < i
    · rw [if_pos ⟨hi, h0⟩] at h1
      simp at h1
      omega
    · rw [if_neg (by omega)] at h1
      simp at h1
  · rw [List.getElem?_eq_none (by rw [gRow_len]; omega)] at h1
    simp at h1
theorem ring_up : ∀ (d i : Nat), i + d < n → Reach (gRing n n) i (i + d)
  | 0, i, _ => Reach.refl _
  | d + 1, i, h => by
    have h1 := ring_up d i (by omega)
    have h2 := ring_arc (i := i + d) (n := n) (by omega)
    rw [Nat.mod_eq_of_lt (by omega)] at h2
    exact h1.tail h2
theorem ring_mut {i : Nat} (h : i < n) : Mut (gRing n n) i 0 := by
  refine ⟨?_, ?_⟩
  · have h1 := ring_up (n := n) (n - 1 - i) i (by omega)
    rw [show i + (n - 1 - i) = n - 1 by omega] at h1
    have h2 := ring_arc (i := n - 1) (n := n) (by omega)
    rw [show n - 1 + 1 = n by omega, Nat.mod_self] at h2
    exact h1.tail h2
  · have := ring_up (n := n) i 0 (by omega)
    rw [Nat.zero_add] at this
    exact this
theorem ring_of {of : List Nat} (h : Ofs (gRing n n) of) {i : Nat} (hi : i < n) : of.getD i 0 = 0 := by
  have := (h.2 i (by rw [gRing_len]; exact hi)).2 0 (ring_mut hi)
  omega
theorem ring_order {of : List Nat} (h : Ofs (gRing n n) of) (hn : 0 < n) : gr (gRing n n) of (gRing n n).length = [0] := by
  have hg := gr_ok (gRing n n) of (gRing n n).length
  have he := gr_end (gRing n n) of
  generalize gr (gRing n n) of (gRing n n).length = out at *
  have h0 : 0 ∈ out := gr_all h he (by rw [gRing_len]; exact hn) (ring_of h hn)
  have hall : ∀ x ∈ out, x = 0 := fun x hx => by
    obtain ⟨h1, h2⟩ := hg.lt x hx
    rw [gRing_len] at h1
    rw [ring_of h h1] at h2
    exact h2.symm
  match out, hg.nd, h0, hall with
  | [], _, h0, _ => simp at h0
  | [a], _, _, hall => rw [hall a (by simp)]
  | a :: b :: l, hnd, _, hall =>
    have h1 := hall a (by simp)
    have h2 := hall b (by simp)
    subst h1
    subst h2
    simp at hnd
theorem row_reach {i j : Nat} (h : Reach (gRow n n) i j) : j ≤ i := h.closed (C := fun x => x ≤ i) (fun x y hx ha => by have := row_arc_only ha; omega) (Nat.le_refl i)
theorem row_of {of : List Nat} (h : Ofs (gRow n n) of) {i : Nat} (hi : i < n) : of.getD i 0 = i := by
  have h1 := (h.2 i (by rw [gRow_len]; exact hi)).1
  have := row_reach h1.1
  have := row_reach h1.2
  omega
theorem row_order {of : List Nat} (h : Ofs (gRow n n) of) : (gr (gRow n n) of (gRow n n).length).length = n ∧ ∀ i, i < n → (gr (gRow n n) of (gRow n n).length)[i]? = some (n - 1 - i) := by
  have hg := gr_ok (gRow n n) of (gRow n n).length
  have he := gr_end (gRow n n) of
  generalize gr (gRow n n) of (gRow n n).length = out at *
  have hl := hg.len
  rw [gRow_len] at hl
  have hmem : ∀ x, x < n → x ∈ out := fun x hx => gr_all h he (by rw [gRow_len]; exact hx) (row_of h hx)
  have hpos : ∀ x, x < n → out[out.idxOf x]? = some x := fun x hx => by
    rw [List.getElem?_eq_getElem (List.idxOf_lt_length_of_mem (hmem x hx))]
    simp
  have hstep : ∀ x, x + 1 < n → out.idxOf (x + 1) < out.idxOf x := fun x hx => by
    have ha := row_arc (i := x + 1) (n := n) hx (by omega)
    have h1 := gr_arc hg (i := x + 1) (j := x) (p := out.idxOf (x + 1)) (q := out.idxOf x) (by rw [gRow_len]; exact hx) (outs_arc.2 ha) (by rw [row_of h hx]; exact hpos _ hx) (by rw [row_of h (by omega)]; exact hpos _ (by omega))
    refine Nat.lt_of_le_of_ne h1 fun e => ?_
    have h2 := hpos _ hx
    rw [e, hpos x (by omega)] at h2
    injection h2 with h2
    omega
  have hlo : ∀ d x, x + d + 1 = n → d ≤ out.idxOf x := by
    intro d
    induction d with
    | zero => intro x _; exact Nat.zero_le _
    | succ d ih =>
      intro x hx
      have h1 := ih (x + 1) (by omega)
      have h2 := hstep x (by omega)
      omega
  have hhi : ∀ x, x < n → out.idxOf x + x + 1 ≤ n := by
    intro x
    induction x with
    | zero =>
      intro hx
      have := List.idxOf_lt_length_of_mem (hmem 0 hx)
      omega
    | succ x ih =>
      intro hx
      have h1 := ih (by omega)
      have h2 := hstep x hx
      omega
  have heq : ∀ x, x < n → out.idxOf x = n - 1 - x := fun x hx => by
    have h1 := hlo (n - 1 - x) x (by omega)
    have h2 := hhi x hx
    omega
  refine ⟨?_, fun i hi => ?_⟩
  · by_cases h0 : 0 < n
    · have h1 := List.idxOf_lt_length_of_mem (hmem 0 h0)
      rw [heq 0 h0] at h1
      omega
    · omega
  · have h1 := hpos (n - 1 - i) (by omega)
    rw [heq (n - 1 - i) (by omega), show n - 1 - (n - 1 - i) = i by omega] at h1
    exact h1
end Go.Proofs.Ytgmppddlgbkjmaa.Kn
