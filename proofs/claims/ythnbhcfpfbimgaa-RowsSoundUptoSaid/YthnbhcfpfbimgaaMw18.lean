/- Texts put together: NmTwiceW NmSort NmLess NmRight RgRead. -/
import Derived.Deep.MidRow
import Derived.Test.YthnbhcfpfbimgaaMw17
import Derived.Test.YthnbhcfpfbimgaaMw00
/- The walks of Twice and Same, of the program and of the reference, and of long. -/
namespace Go.Proofs.Ythnbhcfpfbimgaa
open Go.RowKit
set_option maxHeartbeats 400000 in
theorem twiceR_any (n c B : Nat) (A : Option Addr) (ss : List ByteArray) (w : World) (hn : n ≤ 9223372036854775807) (hs : HasStr w B A n ss) :
    Calls Try.prog 58 #[.slice A n c] w fun e w' => e = .returned (.int .i64 (Nm.twice ss)) ∧ w = w' := by
  rw [Nm.twice_eq]
  have hl := hs.len
  subst hl
  go_enter Try.func58, Try.ntmps58
  go_wp2_with fail
  go_loop [3] (fun i => ∃ k : Nat, k ≤ ss.length ∧ i = .int .i64 k ∧ (∀ j, j < k → decide (Nm.find ss (Nm.at_ ss j) < j) = false)) (fun i => ss.length - (intOf i).toNat)
  case atStart => exact ⟨0, Nat.zero_le _, rfl, fun j h => by omega⟩
  case round =>
    obtain ⟨k, hk, rfl, hg⟩ := hrel
    have HG := hide hg
    clear hg
    by_cases hlt : k < ss.length
    · obtain ⟨b, off, rfl, _, hc⟩ := hs.str hlt
      have hf := findR_any ss.length c B (some ⟨b, off, none⟩) ss (Nm.at_ ss k) w hn hs
      have HF := hide hf
      clear hf
      by_cases hp : Nm.find ss (Nm.at_ ss k) < (k : Int)
      · go_wp2_with fail
        refine HF.out.mono ?_
        rintro e w' ⟨rfl, rfl⟩
        go_wp2_with fail
        go_ret
        exact ⟨ret_int (Nm.first_at (p := fun i => decide (Nm.find ss (Nm.at_ ss i) < i)) k (by simpa using hp) ss.length 0 (fun j _ hj => HG.out j hj) (by omega) (by omega)).symm, rfl⟩
      · go_wp2_with fail
        refine HF.out.mono ?_
        rintro e w' ⟨rfl, rfl⟩
        go_wp2_with fail
        go_round
        case rel =>
          refine ⟨k + 1, by omega, by go_num, fun j hj => ?_⟩
          by_cases e : j = k
          · subst e; simpa using hp
          · exact HG.out j (by omega)
        case measure => simp [intOf]; omega
    · go_wp2_with fail
      go_ret
      exact ⟨ret_int (Nm.first_none (p := fun i => decide (Nm.find ss (Nm.at_ ss i) < i)) ss.length 0 (fun j _ hj => HG.out j (by omega))).symm, rfl⟩

/-- long: more than 60 texts, or one of more than 200 bytes. -/
def Nm.long (ss : List ByteArray) : Bool := decide (60 < ss.length) || ss.any fun s => decide (200 < s.size)
theorem Nm.long_false {ss : List ByteArray} (h : Nm.long ss = false) : ss.length ≤ 60 ∧ ∀ s ∈ ss, s.size ≤ 200 := by
  simp [Nm.long] at h
  exact h

end Go.Proofs.Ythnbhcfpfbimgaa
/- The plain law of sorting: the program's insertions and the reference's selections both end in the one strictly rising list with the texts of the given list. -/
namespace Go.Proofs.Ythnbhcfpfbimgaa.Nm

/-- Does a stand ahead of b? As the model asks it. -/
def ls (a b : ByteArray) : Bool := Op.bytesLess a.toList b.toList
theorem ls_iff {a b : ByteArray} : ls a b = true ↔ a.data.toList < b.data.toList := by
  unfold ls
  rw [bytesLess_eq, Lib.toList_data, Lib.toList_data, decide_eq_true_eq]
theorem data_inj {a b : ByteArray} (h : a.data.toList = b.data.toList) : a = b := ByteArray.ext (Array.ext' h)
theorem ls_irrefl (a : ByteArray) : ls a a = false := by
  rw [← Bool.not_eq_true, ls_iff]; exact List.lt_irrefl _
theorem ls_trans {a b c : ByteArray} (h : ls a b = true) (k : ls b c = true) : ls a c = true := by
  rw [ls_iff] at *; exact List.lt_trans h k
theorem ls_asymm {a b : ByteArray} (h : ls a b = true) : ls b a = false := by
  rw [← Bool.not_eq_true]; intro k
  have := ls_trans h k
  rw [ls_irrefl] at this; cases this
theorem ls_total {a b : ByteArray} (h : ls a b = false) : ls b a = true ∨ a = b := by
  rw [← Bool.not_eq_true, ls_iff, List.not_lt] at h
  rcases List.le_iff_lt_or_eq.1 h with h | h
  · exact .inl (ls_iff.2 h)
  · exact .inr (data_inj h.symm)

/-- Strictly rising. -/
def Up (l : List ByteArray) : Prop := l.Pairwise fun a b => ls a b = true

theorem Up.nodup {l : List ByteArray} (h : Up l) : l.Nodup := h.imp fun h e => by subst e; rw [ls_irrefl] at h; cases h

/-- A strictly rising list is known by its texts. -/
theorem Up.unique : ∀ {l m : List ByteArray}, Up l → Up m → (∀ x, x ∈ l ↔ x ∈ m) → l = m
  | [], [], _, _, _ => rfl
  | [], b :: m, _, _, h => absurd ((h b).2 (by simp)) (by simp)
  | a :: l, [], _, _, h => absurd ((h a).1 (by simp)) (by simp)
  | a :: l, b :: m, ha, hb, h => by
    obtain ⟨ha1, ha2⟩ := List.pairwise_cons.1 ha
    obtain ⟨hb1, hb2⟩ := List.pairwise_cons.1 hb
    have hab : a = b := by
      rcases List.mem_cons.1 ((h a).1 (by simp)) with e | e
      · exact e
      · rcases List.mem_cons.1 ((h b).2 (by simp)) with f | f
        · exact f.symm
        · have := ls_asymm (hb1 a e)
          rw [ha1 b f] at this; cases this
    subst hab
    have hna : a ∉ l := fun e => by have := ha1 a e; rw [ls_irrefl] at this; cases this
    have hnb : a ∉ m := fun e => by have := hb1 a e; rw [ls_irrefl] at this; cases this
    rw [Up.unique ha2 hb2 fun x => ?_]
    constructor
    · intro hx
      rcases List.mem_cons.1 ((h x).1 (by simp [hx])) with e | e
      · subst e; exact absurd hx hna
      · exact e
    · intro hx
      rcases List.mem_cons.1 ((h x).2 (by simp [hx])) with e | e
      · subst e; exact absurd hx hnb
      · exact e

/-- l is sorted as m: strictly rising, with the texts of m. -/
def Sorts (m l : List ByteArray) : Prop := Up l ∧ ∀ x, x ∈ l ↔ x ∈ m

/-- Where a text goes in name.Sort. -/
def place (out : List ByteArray) (x : ByteArray) : Int := first (fun k => !ls (at_ out k) x) 0 out.length

theorem up_insert {l r : List ByteArray} {x : ByteArray} (h : Up (l ++ r)) (hl : ∀ y ∈ l, ls y x = true) (hr : ∀ y ∈ r, ls x y = true) : Up (l ++ x :: r) := by
  obtain ⟨h1, h2, h3⟩ := List.pairwise_append.1 h
  refine List.pairwise_append.2 ⟨h1, List.pairwise_cons.2 ⟨hr, h2⟩, fun a ha b hb => ?_⟩
  rcases List.mem_cons.1 hb with rfl | hb
  · exact hl a ha
  · exact h3 a ha b hb

theorem at_mem {l : List ByteArray} {k : Nat} (h : k < l.length) : at_ l k = l[k] := by simp [at_, h]

/-- The text goes to the end. -/
theorem insert_end {out m : List ByteArray} {x : ByteArray} (h : Sorts m out) (hp : place out x < 0) : Sorts (m ++ [x]) (out ++ [x]) := by
  obtain ⟨h1, h2⟩ := h
  refine ⟨?_, fun y => by simp [h2]⟩
  have : Up (out ++ x :: []) := by
    refine up_insert (by simpa using h1) (fun y hy => ?_) (by simp)
    obtain ⟨i, hi, rfl⟩ := List.getElem_of_mem hy
    rcases first_cases (fun k => !ls (at_ out k) x) out.length 0 with ⟨_, a⟩ | ⟨k, a, _⟩
    · have := a i (by omega) (by omega)
      rw [at_mem hi] at this
      simpa using this
    · unfold place at hp; omega
  exact this

/-- It is there already. -/
theorem insert_there {out m : List ByteArray} {x : ByteArray} {k : Nat} (h : Sorts m out) (hk : k < out.length) (he : at_ out k = x) : Sorts (m ++ [x]) out := by
  refine ⟨h.1, fun y => ?_⟩
  rw [List.mem_append, List.mem_singleton, ← h.2]
  constructor
  · exact .inl
  · rintro (a | rfl)
    · exact a
    · rw [← he, at_mem hk]; exact List.getElem_mem hk

/-- It goes in between. -/
theorem insert_mid {out m : List ByteArray} {x : ByteArray} {k : Nat} (h : Sorts m out) (hp : place out x = k) (he : at_ out k ≠ x) :
    k < out.length ∧ Sorts (m ++ [x]) (out.take k ++ x :: out.drop k) := by
  obtain ⟨h1, h2⟩ := h
  unfold place at hp
  rcases first_cases (fun k => !ls (at_ out k) x) out.length 0 with ⟨a, _⟩ | ⟨k', a, a2, _, a4, a5⟩
  · omega
  · obtain rfl : k' = k := by omega
    have hk : k' < out.length := by omega
    refine ⟨hk, up_insert (by rw [List.take_append_drop]; exact h1) (fun y hy => ?_) (fun y hy => ?_), fun y => ?_⟩
    · obtain ⟨i, hi, rfl⟩ := List.mem_take_iff_getElem.1 hy
      have := a5 i (by omega) (by omega)
      rw [at_mem (by omega)] at this
      simpa using this
    · have hx : ls x (at_ out k') = true := by
        rcases ls_total (by simpa using a2 : ls (at_ out k') x = false) with q | q
        · exact q
        · exact absurd q he
      obtain ⟨i, hi, rfl⟩ := List.mem_drop_iff_getElem.1 hy
      rcases Nat.eq_zero_or_pos i with rfl | hpos
      · rw [at_mem hk] at hx; simpa using hx
      · rw [at_mem hk] at hx
        exact ls_trans hx (List.pairwise_iff_getElem.1 h1 k' (k' + i) hk (by omega) (by omega))
    · rw [List.mem_append, List.mem_cons, List.mem_append, List.mem_singleton, ← h2]
      conv => rhs; rw [← List.take_append_drop k' out, List.mem_append]
      constructor
      · rintro (p | p | p)
        · exact .inl (.inl p)
        · exact .inr p
        · exact .inl (.inr p)
      · rintro ((p | p) | p)
        · exact .inl p
        · exact .inr (.inr p)
        · exact .inr (.inl p)

theorem sorts_nil : Sorts [] [] := ⟨List.Pairwise.nil, fun _ => Iff.rfl⟩

theorem Sorts.length_le {m l : List ByteArray} (h : Up l) (hs : ∀ x ∈ l, x ∈ m) : l.length ≤ m.length :=
  h.nodup.length_le_of_subset fun _ hx => hs _ hx

theorem Sorts.eq {m l l' : List ByteArray} (h : Sorts m l) (h' : Sorts m l') : l = l' :=
  Up.unique h.1 h'.1 fun x => (h.2 x).trans (h'.2 x).symm

/-- What is sorted is sorted already. -/
theorem Sorts.again {m l l' : List ByteArray} (h : Sorts m l) (h' : Sorts l l') : l' = l :=
  Up.unique h'.1 h.1 h'.2

/-- The reference: what is there is the least of the list, in order. -/
def Part (m out : List ByteArray) : Prop := Up out ∧ (∀ x ∈ out, x ∈ m) ∧ ∀ y ∈ m, y ∉ out → ∀ x ∈ out, ls x y = true
theorem part_nil (m : List ByteArray) : Part m [] := ⟨List.Pairwise.nil, by simp, by simp⟩
theorem Part.len {m out : List ByteArray} (h : Part m out) : out.length ≤ m.length := Sorts.length_le h.1 h.2.1
theorem Part.done {m out : List ByteArray} (h : Part m out) (hd : ∀ y ∈ m, y ∈ out) : Sorts m out := ⟨h.1, fun x => ⟨h.2.1 x, hd x⟩⟩
theorem Part.next {m out : List ByteArray} {b : ByteArray} (h : Part m out) (hb : b ∈ m) (hn : b ∉ out) (hl : ∀ y ∈ m, y ∉ out → ls y b = false) : Part m (out ++ [b]) := by
  obtain ⟨h1, h2, h3⟩ := h
  refine ⟨?_, ?_, ?_⟩
  · have : Up (out ++ b :: []) := up_insert (by simpa using h1) (fun y hy => h3 b hb hn y hy) (by simp)
    exact this
  · intro x hx
    rcases List.mem_append.1 hx with hx | hx
    · exact h2 x hx
    · rw [List.mem_singleton.1 hx]; exact hb
  · intro y hy hny x hx
    have hny' : y ∉ out ∧ y ≠ b := by
      constructor
      · exact fun e => hny (List.mem_append.2 (.inl e))
      · exact fun e => hny (List.mem_append.2 (.inr (List.mem_singleton.2 e)))
    rcases List.mem_append.1 hx with hx | hx
    · exact h3 y hy hny'.1 x hx
    · rw [List.mem_singleton.1 hx]
      rcases ls_total (hl y hy hny'.1) with q | q
      · exact q
      · exact absurd q hny'.2

end Go.Proofs.Ythnbhcfpfbimgaa.Nm
/- The plain law of the order of strings, byte by byte, and of what is a name. -/
namespace Go.Proofs.Ythnbhcfpfbimgaa.Nm

theorem less_lists : ∀ (x y : List UInt8) (i : Nat), (∀ j, j < i → x[j]? = y[j]?) → i ≤ x.length → i ≤ y.length →
    Op.bytesLess x y = Op.bytesLess (x.drop i) (y.drop i)
  | x, y, 0, _, _, _ => by simp
  | [], y, i + 1, _, h, _ => by simp at h
  | a :: x, [], i + 1, _, _, h => by simp at h
  | a :: x, b :: y, i + 1, h, h1, h2 => by
    have h0 := h 0 (by omega)
    simp at h0
    subst h0
    simp only [List.length_cons] at h1 h2
    rw [List.drop_succ_cons, List.drop_succ_cons, ← less_lists x y i (fun j hj => by have := h (j + 1) (by omega); simpa using this) (by omega) (by omega)]
    simp [Op.bytesLess]

/-- Do two strings begin with the same i bytes? -/
def Begin (a b : ByteArray) (i : Nat) : Prop := i ≤ a.size ∧ i ≤ b.size ∧ ∀ j, j < i → a.data.toList[j]? = b.data.toList[j]?

theorem begin_zero (a b : ByteArray) : Begin a b 0 := ⟨by omega, by omega, fun j h => by omega⟩
theorem begin_next {a b : ByteArray} {i : Nat} (h : Begin a b i) (ha : i < a.size) (hb : i < b.size) (he : (a[i]'ha).toNat = (b[i]'hb).toNat) : Begin a b (i + 1) := by
  refine ⟨by omega, by omega, fun j hj => ?_⟩
  by_cases e : j = i
  · subst e
    have h1 : a.data.toList[j]? = some (a[j]'ha) := by rw [List.getElem?_eq_getElem (by simpa using ha)]; rfl
    have h2 : b.data.toList[j]? = some (b[j]'hb) := by rw [List.getElem?_eq_getElem (by simpa using hb)]; rfl
    rw [h1, h2, UInt8.toNat_inj.1 he]
  · exact h.2.2 j (by omega)

theorem less_diff {a b : ByteArray} {i : Nat} (h : Begin a b i) (ha : i < a.size) (hb : i < b.size) (he : ¬ (a[i]'ha).toNat = (b[i]'hb).toNat) :
    ls a b = decide ((a[i]'ha).toNat < (b[i]'hb).toNat) := by
  unfold ls
  rw [Lib.toList_data, Lib.toList_data, less_lists _ _ i h.2.2 (by simpa using h.1) (by simpa using h.2.1)]
  have h1 : a.data.toList.drop i = a[i]'ha :: a.data.toList.drop (i + 1) := by
    rw [List.drop_eq_getElem_cons (by simpa using ha)]; rfl
  have h2 : b.data.toList.drop i = b[i]'hb :: b.data.toList.drop (i + 1) := by
    rw [List.drop_eq_getElem_cons (by simpa using hb)]; rfl
  rw [h1, h2, Op.bytesLess]
  have hne : (a[i]'ha == b[i]'hb) = false := by
    rw [beq_eq_false_iff_ne]; intro e; exact he (by rw [e])
  rw [hne]
  simp [UInt8.lt_iff_toNat_lt]

theorem less_end {a b : ByteArray} {i : Nat} (h : Begin a b i) (he : i = a.size ∨ i = b.size) : ls a b = decide (a.size < b.size) := by
  unfold ls
  rw [Lib.toList_data, Lib.toList_data, less_lists _ _ i h.2.2 (by simpa using h.1) (by simpa using h.2.1)]
  have h1 := h.1
  have h2 := h.2.1
  rcases he with rfl | rfl
  · rw [List.drop_of_length_le (by simp)]
    by_cases hlt : a.size < b.size
    · rw [List.drop_eq_getElem_cons (by simpa using hlt)]
      simp [Op.bytesLess, hlt]
    · rw [List.drop_of_length_le (by simp; omega)]
      simp [Op.bytesLess, hlt]
  · rw [List.drop_of_length_le (l := b.data.toList) (by simp)]
    have : ¬ a.size < b.size := by omega
    cases a.data.toList.drop b.size <;> simp [Op.bytesLess, this]

/-- A lower-case letter. -/
def letter (c : Nat) : Bool := decide (97 ≤ c ∧ c ≤ 122)
/-- What may stand behind the first byte. -/
def goes (c : Nat) : Bool := decide ((97 ≤ c ∧ c ≤ 122) ∨ (48 ≤ c ∧ c ≤ 57) ∨ c = 95)
/-- The byte at an index. -/
def byte (s : ByteArray) (i : Nat) : Nat := (s.data.toList.getD i 0).toNat
theorem byte_eq {s : ByteArray} {i : Nat} (h : i < s.size) : byte s i = (s[i]'h).toNat := by
  unfold byte
  rw [List.getD_eq_getElem?_getD, List.getElem?_eq_getElem (by simpa using h)]
  rfl
/-- name.Right. -/
def right (s : ByteArray) : Bool := decide (1 ≤ s.size ∧ s.size ≤ 16 ∧ letter (byte s 0) = true ∧ ∀ i, i < s.size → goes (byte s i) = true)

theorem right_small {s : ByteArray} (h : s.size = 0) : right s = false := by simp [right]; omega
theorem right_long {s : ByteArray} (h : 16 < s.size) : right s = false := by simp [right]; omega
theorem right_first {s : ByteArray} (h : letter (byte s 0) = false) : right s = false := by simp [right, h]
theorem right_bad {s : ByteArray} {i : Nat} (h : i < s.size) (hg : goes (byte s i) = false) : right s = false := by
  simp only [right, decide_eq_false_iff_not]
  rintro ⟨_, _, _, h4⟩
  rw [h4 i h] at hg; cases hg
theorem right_good {s : ByteArray} (h1 : 1 ≤ s.size) (h2 : s.size ≤ 16) (h3 : letter (byte s 0) = true) (h4 : ∀ i, i < s.size → goes (byte s i) = true) : right s = true := by
  simp only [right, decide_eq_true_eq]
  exact ⟨h1, h2, h3, h4⟩
theorem goes_letter {c : Nat} (h : letter c = true) : goes c = true := by
  simp only [letter, goes, decide_eq_true_eq] at *; omega

end Go.Proofs.Ythnbhcfpfbimgaa.Nm
/- The walks of letter, goes and Right, of the program and of the reference: each returns what Nm.right says, and changes nothing. -/
namespace Go.Proofs.Ythnbhcfpfbimgaa
open Go.RowKit
theorem letterR_any (c : Nat) (w : World) : Calls Try.prog 77 #[.int .u8 c] w fun e w' => e = .returned (.bool (Nm.letter c)) ∧ w = w' := by
  by_cases h1 : (97 : Int) ≤ c <;> by_cases h2 : (c : Int) ≤ 122
  all_goals
    go_enter Try.func77, Try.ntmps77
    go_wp2
    go_ret
    exact ⟨by simp [Nm.letter]; omega, rfl⟩

set_option maxHeartbeats 400000 in
set_option maxRecDepth 100000 in
theorem rightR_any (s : ByteArray) (w : World) (hs : s.size ≤ maxLen) : Calls Try.prog 57 #[.string s] w fun e w' => e = .returned (.bool (Nm.right s)) ∧ w = w' := by
  unfold maxLen at hs
  by_cases h0 : s.size = 0
  · have hn : (s.size : Int) < 1 := by omega
    have hr := Nm.right_small h0
    clear h0
    go_enter Try.func57, Try.ntmps57
    go_wp2_with fail
    go_ret
    exact ⟨by first | rfl | simp [hr], rfl⟩
  · have hp : 0 < s.size := by omega
    have hn : ¬ (s.size : Int) < 1 := by omega
    clear h0
    by_cases h1 : (16 : Int) < s.size
    · have hr := Nm.right_long (by omega : 16 < s.size)
      go_enter Try.func57, Try.ntmps57
      go_wp2_with fail
      go_ret
      exact ⟨by first | rfl | simp [hr], rfl⟩
    · cases hl : Nm.letter (s[0]'hp).toNat
      · have hr := Nm.right_first (s := s) (by rw [Nm.byte_eq hp]; exact hl)
        go_enter Try.func57, Try.ntmps57
        go_wp2_with (go_at_call 77; refine (letterR_any _ _).mono ?_; rintro e w' ⟨rfl, rfl⟩)
        go_ret
        exact ⟨by first | rfl | simp [hr], rfl⟩
      · go_enter Try.func57, Try.ntmps57
        go_wp2_with (go_at_call 77; refine (letterR_any _ _).mono ?_; rintro e w' ⟨rfl, rfl⟩)
        go_loop [3] (fun i => ∃ k : Nat, 1 ≤ k ∧ k ≤ s.size ∧ i = .int .i64 k ∧ ∀ j, j < k → Nm.goes (Nm.byte s j) = true) (fun i => s.size - (intOf i).toNat)
        case atStart =>
          refine ⟨1, by omega, by omega, rfl, fun j h => ?_⟩
          obtain rfl : j = 0 := by omega
          rw [Nm.byte_eq hp]; exact Nm.goes_letter hl
        case round =>
          obtain ⟨k, hk1, hk, rfl, hg⟩ := hrel
          have HG := hide hg
          clear hg
          have HL := hide hl
          clear hl
          by_cases hlt : k < s.size
          · cases hlk : Nm.letter (s[k]'hlt).toNat <;> by_cases h3 : ((s[k]'hlt).toNat : Int) < 48 <;> by_cases h4 : (57 : Int) < (s[k]'hlt).toNat <;> cases h5 : (((s[k]'hlt).toNat : Int) != 95)
            all_goals
              go_wp2_with (go_at_call 77; refine (letterR_any _ _).mono ?_; rintro e w' ⟨rfl, rfl⟩)
              all_goals first
                | (go_round
                   case rel =>
                     refine ⟨k + 1, by omega, by omega, by go_num, fun j hj => ?_⟩
                     by_cases e : j = k
                     · subst e
                       rw [Nm.byte_eq hlt]
                       simp [Nm.letter] at hlk
                       simp at h5
                       simp [Nm.goes] <;> omega
                     · exact HG.out j (by omega)
                   case measure => simp [intOf]; omega)
                | (go_ret
                   refine ⟨ret_bool ?_, rfl⟩
                   rw [Nm.right_bad hlt]
                   rw [Nm.byte_eq hlt]
                   simp [Nm.letter] at hlk
                   simp at h5
                   simp [Nm.goes] <;> omega)
          · have hr := Nm.right_good (s := s) hp (by omega) (by rw [Nm.byte_eq hp]; exact HL.out) (fun i hi => HG.out i (by omega))
            go_wp2_with fail
            go_ret
            exact ⟨by first | rfl | simp [hr], rfl⟩

end Go.Proofs.Ythnbhcfpfbimgaa
/- What comes in, read: strings, factors, shapes, lattices, variables; whole elements out of the middle of a block. -/
namespace Go.Proofs.Ythnbhcfpfbimgaa
open Go.RowKit
/-- The load of a struct of many cells, out of the middle of a block. -/
abbrev LdM (T : TypeId) (cs : List Value) (b o k : Nat) (w : World) : Prop :=
  ∀ (ops : Array Oper) (rest : List Oper) (op : Oper) (a : Act) (Q : Exit → Act → World → Prop), op.op = .load T (.tmp k) → a.eval (.tmp k) = .pointer (some ⟨b, o, none⟩) → Region.wanted op (yielded ops a.tmps) = true → wpList Try.prog ops Q rest (a.put op.dst (.agg cs.toArray)) w → wpList Try.prog ops Q (op :: rest) a w
theorem ldM {T : TypeId} {cs : List Value} {b o : Nat} (k : Nat) {w : World} {d : TypeDesc} (h : w.rangeAt b o cs) (hu : Try.prog.underlying T = some d) (hd : d.isRow = true) (hi : (Try.prog.info? T).map (·.size) = some cs.length) : LdM T cs b o k w := fun _ _ _ _ _ h2 h3 h1 h4 =>
  BigFrame.wpList_want h1 fun _ hK => wp_load_mid T _ h2 b o h3 cs d h hu hd hi (hK _ _ h4)
theorem held_mid {S : World → Prop} {T : TypeId} {cs : List Value} {b o k : Nat} {d : TypeDesc} {op : Oper} {a : Act} {K : Act → Prop} (ho : op.op = .load T (.tmp k)) (hx : a.eval (.tmp k) = .pointer (some ⟨b, o, none⟩)) (hS : ∀ w, S w → w.rangeAt b o cs) (hu : Try.prog.underlying T = some d) (hd : d.isRow = true) (hi : (Try.prog.info? T).map (·.size) = some cs.length) (h : K (a.put op.dst (.agg cs.toArray))) : held Try.prog op a S K := by
  refine ⟨_, fun w hw => ?_, h⟩
  unfold execOp
  simp only [ho, hx, Instr.loadAt, Instr.sureAddr, Sem.run_bind, Sem.run_pure, Result.andThen_ok, run_loadVar_mid w b o T cs d (hS w hw) hu hd hi]
theorem range_below {w w' : World} {b o : Nat} {cs : List Value} (h : w.rangeAt b o cs) (hlt : b < w.heap.size) (hb : Below w.heap.size w w') : w'.rangeAt b o cs := fun j v hv => by
  rw [World.cell?_of_block (hb.block b hlt)]
  exact h j v hv
theorem range_block {w : World} {b : Nat} {cs : Array Value} {T : TypeId} (h : w.heap[b]? = some (.cells cs T (0, 0))) (k : Nat) (xs : List Value) (hx : ∀ (j : Nat) v, xs[j]? = some v → cs[k + j]? = some v) : w.rangeAt b k xs := fun j v hv => by
  rw [cell_block h]
  exact hx j v hv
/-- The i-th element's cells. -/
def part (xs : List Value) (z i : Nat) : List Value := (xs.drop (i * z)).take z
theorem part_len {xs : List Value} {z n i : Nat} (h : xs.length = n * z) (hi : i < n) : (part xs z i).length = z := by
  have : (i + 1) * z ≤ n * z := Nat.mul_le_mul_right z hi
  rw [Nat.succ_mul] at this
  simp only [part, List.length_take, List.length_drop, h]
  omega
theorem part_get {xs : List Value} {z i j : Nat} (hj : j < z) : (part xs z i)[j]? = xs[i * z + j]? := by
  simp only [part, List.getElem?_take, if_pos hj, List.getElem?_drop]
theorem SlAt.form {w : World} {B : Nat} {e : TypeId} {z n : Nat} {v : Value} {xs : List Value} (h : SlAt w B e z v n xs) : ∃ A c, v = .slice A n c ∧ n ≤ c ∧ c ≤ maxLen := by
  obtain ⟨A, c, h1, h2, h3, _⟩ := h.ex
  exact ⟨A, c, h1, h2, h3⟩
theorem SlAt.at {w : World} {B : Nat} {e : TypeId} {z n : Nat} {v : Value} {xs : List Value} (h : SlAt w B e z v n xs) {i : Nat} (hi : i < n) : ∃ b off c, v = .slice (some ⟨b, off, none⟩) n c ∧ b < w.heap.size ∧ w.rangeAt b (off + i * z) (part xs z i) := by
  obtain ⟨A, c, h1, h2, h3, h4, h5⟩ := h.ex
  obtain ⟨b, off, rfl, _, h7, h8⟩ := h5 (by omega)
  refine ⟨b, off, c, h1, h7, fun j u hu => ?_⟩
  have hj : j < z := by
    have := (List.getElem?_eq_some_iff.1 hu).1
    rw [part_len h4 hi] at this
    exact this
  rw [part_get hj] at hu
  rw [Nat.add_assoc]
  exact h8 _ u hu
/-- A list of strings. -/
def strV (l : List ByteArray) : List Value := l.map Value.string
structure LS (w : World) (B : Nat) (v : Value) (l : List ByteArray) : Prop where
  at_ : SlAt w B 9 1 v l.length (strV l)
  small : ∀ s ∈ l, s.size ≤ maxLen
theorem LS.below {w w' : World} {B : Nat} {v : Value} {l : List ByteArray} (h : LS w B v l) (hb : Below w.heap.size w w') : LS w' B v l := ⟨h.at_.below hb, h.small⟩
theorem LS.form {w : World} {B : Nat} {v : Value} {l : List ByteArray} (h : LS w B v l) : ∃ A c, v = .slice A l.length c ∧ l.length ≤ c ∧ c ≤ maxLen := SlAt.form h.at_
theorem LS.has {w : World} {B c : Nat} {A : Option Addr} {l : List ByteArray} (h : LS w B (.slice A l.length c) l) : HasStr w w.heap.size A l.length l := by
  obtain ⟨A', c', h1, h2, h3, h4, h5⟩ := SlAt.ex h.at_
  cases h1
  refine ⟨by simp, fun h0 => ?_⟩
  obtain ⟨b, off, rfl, _, h7, h8⟩ := h5 h0
  exact ⟨b, off, rfl, h7, h8⟩
theorem LS.str {w : World} {B : Nat} {v : Value} {l : List ByteArray} (h : LS w B v l) {k : Nat} (hk : k < l.length) : ∃ b o c, v = .slice (some ⟨b, o, none⟩) l.length c ∧ w.cell? ⟨b, o + k, none⟩ = some (.string l[k]) ∧ l[k].size ≤ maxLen := by
  obtain ⟨A', c', h1, h2, h3, h4, h5⟩ := SlAt.ex h.at_
  obtain ⟨b, off, rfl, _, h7, h8⟩ := h5 (by omega)
  exact ⟨b, off, c', h1, h8 k _ (by simp [strV, hk]), h.small _ (List.getElem_mem hk)⟩
/-- A factor's cells. -/
structure Fac (w : World) (B : Nat) (xs : List Value) : Prop where
  ex : ∃ k v cs l, xs = .int .i64 k :: v :: cs.toList ∧ Relv cs ∧ LS w B v l
theorem Fac.below {w w' : World} {B : Nat} {xs : List Value} (h : Fac w B xs) (hb : Below w.heap.size w w') : Fac w' B xs := by
  obtain ⟨⟨k, v, cs, l, h1, h2, h3⟩⟩ := h
  exact ⟨⟨k, v, cs, l, h1, h2, h3.below hb⟩⟩
theorem fac_info : (Try.prog.info? 130).map (·.size) = some 67 := by kernel_rfl
theorem Fac.len {w : World} {B : Nat} {xs : List Value} (h : Fac w B xs) : xs.length = 67 := by
  obtain ⟨⟨k, v, cs, l, h1, h2, h3⟩⟩ := h
  rw [h1]
  simp [h2.size]
/-- A shape's factors. -/
structure Sh (w : World) (B : Nat) (v : Value) (n : Nat) : Prop where
  ex : ∃ xs, SlAt w B 130 67 v n xs ∧ ∀ i, i < n → Fac w B (part xs 67 i)
theorem Sh.below {w w' : World} {B : Nat} {v : Value} {n : Nat} (h : Sh w B v n) (hb : Below w.heap.size w w') : Sh w' B v n := by
  obtain ⟨⟨xs, h1, h2⟩⟩ := h
  exact ⟨⟨xs, h1.below hb, fun i hi => (h2 i hi).below hb⟩⟩
theorem Sh.form {w : World} {B : Nat} {v : Value} {n : Nat} (h : Sh w B v n) : ∃ A c, v = .slice A n c ∧ n ≤ c ∧ c ≤ maxLen := by
  obtain ⟨⟨xs, h1, h2⟩⟩ := h
  exact SlAt.form h1
theorem Sh.at {w : World} {B : Nat} {v : Value} {n : Nat} (h : Sh w B v n) {i : Nat} (hi : i < n) : ∃ b off c cs, v = .slice (some ⟨b, off, none⟩) n c ∧ b < w.heap.size ∧ w.rangeAt b (off + i * 67) cs ∧ Fac w B cs := by
  obtain ⟨⟨xs, h1, h2⟩⟩ := h
  obtain ⟨b, off, c, h3, h4, h5⟩ := SlAt.at h1 hi
  exact ⟨b, off, c, _, h3, h4, h5, h2 i hi⟩
/-- A lattice's cells. -/
structure LatC (w : World) (B : Nat) (xs : List Value) : Prop where
  ex : ∃ nm b v n, xs = [.string nm, .bool b, v] ∧ nm.size ≤ maxLen ∧ Sh w B v n
theorem LatC.below {w w' : World} {B : Nat} {xs : List Value} (h : LatC w B xs) (hb : Below w.heap.size w w') : LatC w' B xs := by
  obtain ⟨⟨nm, b, v, n, h1, h2, h3⟩⟩ := h
  exact ⟨⟨nm, b, v, n, h1, h2, h3.below hb⟩⟩
structure Lats (w : World) (B : Nat) (v : Value) (n : Nat) : Prop where
  ex : ∃ xs, SlAt w B 94 3 v n xs ∧ ∀ i, i < n → LatC w B (part xs 3 i)
theorem Lats.below {w w' : World} {B : Nat} {v : Value} {n : Nat} (h : Lats w B v n) (hb : Below w.heap.size w w') : Lats w' B v n := by
  obtain ⟨⟨xs, h1, h2⟩⟩ := h
  exact ⟨⟨xs, h1.below hb, fun i hi => (h2 i hi).below hb⟩⟩
theorem Lats.form {w : World} {B : Nat} {v : Value} {n : Nat} (h : Lats w B v n) : ∃ A c, v = .slice A n c ∧ n ≤ c ∧ c ≤ maxLen := by
  obtain ⟨⟨xs, h1, h2⟩⟩ := h
  exact SlAt.form h1
theorem Lats.at {w : World} {B : Nat} {v : Value} {n : Nat} (h : Lats w B v n) {i : Nat} (hi : i < n) : ∃ bl off c nm b u m, v = .slice (some ⟨bl, off, none⟩) n c ∧ bl < w.heap.size ∧ w.cell? ⟨bl, off + i * 3, none⟩ = some (.string nm) ∧ w.cell? ⟨bl, off + i * 3 + 1, none⟩ = some (.bool b) ∧ w.cell? ⟨bl, off + i * 3 + 2, none⟩ = some u ∧ nm.size ≤ maxLen ∧ Sh w B u m := by
  obtain ⟨⟨xs, h1, h2⟩⟩ := h
  obtain ⟨bl, off, c, h3, h4, h5⟩ := SlAt.at h1 hi
  obtain ⟨⟨nm, b, u, m, h6, h7, h8⟩⟩ := h2 i hi
  rw [h6] at h5
  exact ⟨bl, off, c, nm, b, u, m, h3, h4, h5 0 _ rfl, h5 1 _ rfl, h5 2 _ rfl, h7, h8⟩
/-- A variable. -/
structure Vr where
  name : ByteArray
  kind : Int
  lat : Int
def vrV (x : Vr) : List Value := [.string x.name, .int .i64 x.kind, .int .i64 x.lat]
def vrsV (l : List Vr) : List Value := l.flatMap vrV
structure Vars (w : World) (B : Nat) (v : Value) (l : List Vr) : Prop where
  at_ : SlAt w B 55 3 v l.length (vrsV l)
  small : ∀ x ∈ l, x.name.size ≤ maxLen
theorem Vars.below {w w' : World} {B : Nat} {v : Value} {l : List Vr} (h : Vars w B v l) (hb : Below w.heap.size w w') : Vars w' B v l := ⟨h.at_.below hb, h.small⟩
theorem Vars.form {w : World} {B : Nat} {v : Value} {l : List Vr} (h : Vars w B v l) : ∃ A c, v = .slice A l.length c ∧ l.length ≤ c ∧ c ≤ maxLen := SlAt.form h.at_
theorem SlAt.elem {α : Type} {f : α → List Value} {w : World} {B : Nat} {e : TypeId} {z : Nat} {v : Value} {l : List α} (h : SlAt w B e z v l.length (l.flatMap f)) (hz : ∀ x, (f x).length = z) {i : Nat} (hi : i < l.length) : ∃ b off c, v = .slice (some ⟨b, off, none⟩) l.length c ∧ b < w.heap.size ∧ w.rangeAt b (off + i * z) (f l[i]) := by
  obtain ⟨A, c, h1, h2, h3, h4, h5⟩ := h.ex
  obtain ⟨b, off, rfl, _, h7, h8⟩ := h5 (by omega)
  refine ⟨b, off, c, h1, h7, fun j u hu => ?_⟩
  have hj := (List.getElem?_eq_some_iff.1 hu).1
  rw [hz] at hj
  rw [Nat.add_assoc]
  exact h8 _ u (by rw [flat_get f hz l i j _ (List.getElem?_eq_getElem hi) hj]; exact hu)
theorem Vars.at {w : World} {B : Nat} {v : Value} {l : List Vr} (h : Vars w B v l) {i : Nat} (hi : i < l.length) : ∃ b off c, v = .slice (some ⟨b, off, none⟩) l.length c ∧ b < w.heap.size ∧ w.cell? ⟨b, off + i * 3, none⟩ = some (.string l[i].name) ∧ w.cell? ⟨b, off + i * 3 + 1, none⟩ = some (.int .i64 l[i].kind) ∧ w.cell? ⟨b, off + i * 3 + 2, none⟩ = some (.int .i64 l[i].lat) ∧ l[i].name.size ≤ maxLen := by
  obtain ⟨b, off, c, h3, h4, h5⟩ := SlAt.elem h.at_ (fun _ => rfl) hi
  exact ⟨b, off, c, h3, h4, h5 0 _ rfl, h5 1 _ rfl, h5 2 _ rfl, h.small _ (List.getElem_mem hi)⟩
end Go.Proofs.Ythnbhcfpfbimgaa
