/- The plain law of lines: their pieces. -/
import Derived.Test.YtokfcnjmgnmncaaNmLess
namespace Go.Proofs.Ytokfcnjmgnmncaa.Lx

/-- The signs. -/
def sg (c : Nat) : Bool := [35, 43, 38, 40, 41, 123, 125, 91, 93, 44, 58, 61, 124, 60].contains c
structure T where
  kind : Nat
  text : ByteArray
  pos : Int
/-- The end of the run that begins at a place. -/
def endF (s : ByteArray) : Nat → Nat → Nat
  | 0, i => i
  | f + 1, i => if i < s.size ∧ Nm.goes (Nm.byte s i) = true then endF s f (i + 1) else i
def end_ (s : ByteArray) (i : Nat) : Nat := endF s (s.size - i) i

inductive Look where
  | stop
  | tok (t : T) (next : Nat)
  | skip (next : Nat)
  | bad
def look (s : ByteArray) (i : Nat) : Look :=
  if Nm.byte s i = 32 ∨ Nm.byte s i = 9 then .skip (i + 1)
  else if Nm.byte s i = 45 ∧ i + 1 < s.size ∧ Nm.byte s (i + 1) = 45 then .stop
  else if sg (Nm.byte s i) = true then .tok ⟨Nm.byte s i, s.extract i (i + 1), i⟩ (i + 1)
  else if Nm.right (s.extract i (end_ s i)) = true then .tok ⟨97, s.extract i (end_ s i), i⟩ (end_ s i)
  else .bad
def readF (s : ByteArray) : Nat → Nat → List T → List T × Option Nat
  | 0, _, out => (out, none)
  | f + 1, i, out => if i < s.size then (match look s i with
      | .stop => (out, none)
      | .tok t n => readF s f n (out ++ [t])
      | .skip n => readF s f n out
      | .bad => ([], some i)) else (out, none)
def read (s : ByteArray) : List T × Option Nat := readF s (s.size + 1) 0 []

theorem endF_le (s : ByteArray) : ∀ (f i : Nat), i ≤ endF s f i ∧ endF s f i ≤ i + f
  | 0, i => ⟨Nat.le_refl _, Nat.le_refl _⟩
  | f + 1, i => by
    unfold endF
    split
    · have := endF_le s f (i + 1); omega
    · omega
theorem endF_size (s : ByteArray) : ∀ (f i : Nat), i ≤ s.size → endF s f i ≤ s.size
  | 0, i, h => h
  | f + 1, i, h => by
    unfold endF
    split
    · rename_i hh; exact endF_size s f (i + 1) (by omega)
    · exact h
/-- One byte more of the run. -/
theorem end_step {s : ByteArray} {i : Nat} (hi : i < s.size) (hg : Nm.goes (Nm.byte s i) = true) : end_ s (i + 1) = end_ s i := by
  unfold end_
  obtain ⟨f, hf⟩ : ∃ f, s.size - i = f + 1 := ⟨s.size - i - 1, by omega⟩
  rw [hf, show s.size - (i + 1) = f by omega]
  conv => rhs; unfold endF
  rw [if_pos ⟨hi, hg⟩]
theorem end_stop {s : ByteArray} {i : Nat} (h : ¬ (i < s.size ∧ Nm.goes (Nm.byte s i) = true)) : end_ s i = i := by
  unfold end_
  match s.size - i with
  | 0 => rfl
  | f + 1 => unfold endF; rw [if_neg h]
theorem end_le (s : ByteArray) (i : Nat) : i ≤ end_ s i := (endF_le s _ i).1
theorem end_size {s : ByteArray} {i : Nat} (h : i ≤ s.size) : end_ s i ≤ s.size := endF_size s _ i h

theorem readF_next {s : ByteArray} {i n : Nat} (h : look s i = .skip n ∨ ∃ t, look s i = .tok t n) : i < n := by
  unfold look at h
  split at h
  · rcases h with h | ⟨t, h⟩
    · cases h; omega
    · cases h
  split at h
  · rcases h with h | ⟨t, h⟩ <;> cases h
  split at h
  · rcases h with h | ⟨t, h⟩
    · cases h
    · cases h; omega
  split at h
  · rename_i hr
    rcases h with h | ⟨t, h⟩
    · cases h
    · cases h
      rcases Nat.lt_or_ge i (end_ s i) with h | h
      · exact h
      · have he : end_ s i = i := by have := end_le s i; omega
        rw [he] at hr
        have h0 : (s.extract i i).size = 0 := by simp
        rw [Nm.right_small h0] at hr
        cases hr
  · rcases h with h | ⟨t, h⟩ <;> cases h
theorem readF_more (s : ByteArray) : ∀ (f g i : Nat) (out : List T), s.size - i < f → s.size - i < g → readF s f i out = readF s g i out
  | 0, _, _, _, h, _ => by omega
  | _ + 1, 0, _, _, _, h => by omega
  | f + 1, g + 1, i, out, h1, h2 => by
    unfold readF
    split
    · cases hl : look s i with
      | stop => rfl
      | bad => rfl
      | tok t n => have := readF_next (.inr ⟨t, hl⟩); exact readF_more s f g n _ (by omega) (by omega)
      | skip n => have := readF_next (.inl hl); exact readF_more s f g n _ (by omega) (by omega)
    · rfl

/-- What is read from here on is what is read. -/
def Reach (s : ByteArray) (i : Nat) (out : List T) : Prop := readF s (s.size - i + 1) i out = read s
theorem reach_start (s : ByteArray) : Reach s 0 [] := rfl
theorem reach_end {s : ByteArray} {i : Nat} {out : List T} (h : Reach s i out) (hi : ¬ i < s.size) : read s = (out, none) := by
  unfold Reach at h
  rw [← h]
  unfold readF
  rw [if_neg hi]
theorem reach_stop {s : ByteArray} {i : Nat} {out : List T} (h : Reach s i out) (hi : i < s.size) (hl : look s i = .stop) : read s = (out, none) := by
  unfold Reach at h
  rw [← h]
  unfold readF
  rw [if_pos hi, hl]
theorem reach_bad {s : ByteArray} {i : Nat} {out : List T} (h : Reach s i out) (hi : i < s.size) (hl : look s i = .bad) : read s = ([], some i) := by
  unfold Reach at h
  rw [← h]
  unfold readF
  rw [if_pos hi, hl]
theorem reach_tok {s : ByteArray} {i n : Nat} {t : T} {out : List T} (h : Reach s i out) (hi : i < s.size) (hl : look s i = .tok t n) : Reach s n (out ++ [t]) := by
  unfold Reach at h ⊢
  rw [← h]
  have hn := readF_next (.inr ⟨t, hl⟩)
  conv => rhs; unfold readF
  rw [if_pos hi, hl]
  exact readF_more s _ _ n _ (by omega) (by omega)
theorem reach_skip {s : ByteArray} {i n : Nat} {out : List T} (h : Reach s i out) (hi : i < s.size) (hl : look s i = .skip n) : Reach s n out := by
  unfold Reach at h ⊢
  rw [← h]
  have hn := readF_next (.inl hl)
  conv => rhs; unfold readF
  rw [if_pos hi, hl]
  exact readF_more s _ _ n _ (by omega) (by omega)
end Go.Proofs.Ytokfcnjmgnmncaa.Lx
