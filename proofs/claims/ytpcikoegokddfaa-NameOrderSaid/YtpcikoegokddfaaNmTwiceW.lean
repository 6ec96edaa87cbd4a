/- The walks of Twice and Same, of the program and of the reference, and of long. -/
import Derived.Test.YtpcikoegokddfaaNmFindW
namespace Go.Proofs.Ytpcikoegokddfaa
open Go.RowKit

set_option maxHeartbeats 400000 in
theorem twice1_any (i n c B b1 : Nat) (A : Option Addr) (ss : List ByteArray) (w : World) (hi : i < n) (hnc : n ≤ c) (hn : c ≤ 9223372036854775807) (hB : B ≤ w.heap.size)
    (h1 : w.cell? ⟨b1, 0, none⟩ = some (.slice A n c)) (hs : HasStr w B A n ss) :
    Calls Try.prog 28 #[.int .i64 i, .pointer (some ⟨b1, 0, none⟩)] w fun e w' => e = .returned (.bool (decide (0 ≤ Nm.find (ss.take i) (Nm.at_ ss i)))) ∧ Below w.heap.size w w' := by
  obtain ⟨b, off, rfl, _, hc⟩ := hs.str hi
  have hi0 : (0 : Int) ≤ i := by omega
  have hi1 : (i : Int) < n := by omega
  have hi2 : (i : Int) ≤ c := by omega
  have hp := fun w' (hd : Dr w w') => find_any i c B (some ⟨b, off, none⟩) (ss.take i) (Nm.at_ ss i) w' (by omega) (by rw [hd.size]; exact hB) ((hs.take (by omega)).dr hd)
  have HP := hide hp
  clear hp hs
  go_enter Try.func28, Try.ntmps28
  go_wp2_with fail
  go_still_tail 7, (by kernel_rfl)
  change wpList _ _ _ _ _ w.drew
  go_wp2_with fail
  refine (HP.out _ ((Dr.refl w).drew)).mono ?_
  rintro e w' ⟨rfl, hw⟩
  go_wp2_with fail
  go_ret
  exact ⟨rfl, (below_dr (Below.refl _ _) (Dr.refl w).drew).trans hw⟩

set_option maxHeartbeats 400000 in
theorem twice_any (n c B : Nat) (A : Option Addr) (ss : List ByteArray) (w : World) (hnc : n ≤ c) (hn : c ≤ 9223372036854775807) (hB : B ≤ w.heap.size) (hs : HasStr w B A n ss) :
    Calls Try.prog 15 #[.slice A n c] w fun e w' => e = .returned (.int .i64 (Nm.twice ss)) ∧ Below w.heap.size w w' := by
  have hmf := @makes Try.prog
  have hl := hs.len
  subst hl
  obtain ⟨hb2, hz2, hc1⟩ := box1 w (.slice A ss.length c) 23
  have hs2 := Has.below (hs.more hB) hb2
  have hp := place_any 28 #[.pointer (some ⟨w.heap.size, 0, none⟩)] (fun i => decide (0 ≤ Nm.find (ss.take i) (Nm.at_ ss i))) ss.length
    (w.alloc (.cells #[.slice A ss.length c] 23)) (by omega) enters_twice1 fun i w' hi hd => by
      have hsz := hd.size
      refine (twice1_any i ss.length c w.heap.size w.heap.size A ss w' hi hnc hn (by omega) ?_ (Has.below hs2 (hd.mono (by omega)))).mono fun e w'' ⟨he, hw⟩ => ⟨he, hd.trans (hw.mono (by omega))⟩
      rw [hd.cell (by show w.heap.size < _; omega)]; exact hc1
  have HP := hide hp
  have HB := hide hb2
  have HC := hide hnc
  clear hp hc1 hs2 hb2 hz2 hnc
  go_enter Try.func15, Try.ntmps15
  go_wp2_with fail
  refine HP.out.mono ?_
  rintro e w' ⟨rfl, hw⟩
  go_wp2_with fail
  go_ret
  exact ⟨rfl, HB.out.trans (hw.mono (by simp))⟩

set_option maxHeartbeats 400000 in
theorem twiceR_any (n c B : Nat) (A : Option Addr) (ss : List ByteArray) (w : World) (hn : n ≤ 9223372036854775807) (hs : HasStr w B A n ss) :
    Calls Try.prog 16 #[.slice A n c] w fun e w' => e = .returned (.int .i64 (Nm.twice ss)) ∧ w = w' := by
  rw [Nm.twice_eq]
  have hl := hs.len
  subst hl
  go_enter Try.func16, Try.ntmps16
  go_wp2_with fail
  go_loop [3] (fun i => ∃ k : Nat, k ≤ ss.length ∧ i = .int .i64 k ∧ (∀ j, j < k → decide (Nm.find ss (Nm.at_ ss j) < j) = false)) (fun i => ss.length - (intOf i).toNat)
  case atStart => exact ⟨0, Nat.zero_le _, rfl, fun j h => by omega⟩
  case round =>
    obtain ⟨k, hk, rfl, hg⟩ := hrel
    have HG := hide hg
    clear hg
    by_cases hlt : k < ss.length
    · obtain ⟨b, off, rfl, _, hc⟩ := hs.str hlt
      have hf := findR_any ss.length c B (some ⟨b, off, none⟩) ss (Nm.at_ ss k) w hn hs
      have HF := hide hf
      clear hf
      by_cases hp : Nm.find ss (Nm.at_ ss k) < (k : Int)
      · go_wp2_with fail
        refine HF.out.mono ?_
        rintro e w' ⟨rfl, rfl⟩
        go_wp2_with fail
        go_ret
        exact ⟨ret_int (Nm.first_at (p := fun i => decide (Nm.find ss (Nm.at_ ss i) < i)) k (by simpa using hp) ss.length 0 (fun j _ hj => HG.out j hj) (by omega) (by omega)).symm, rfl⟩
      · go_wp2_with fail
        refine HF.out.mono ?_
        rintro e w' ⟨rfl, rfl⟩
        go_wp2_with fail
        go_round
        case rel =>
          refine ⟨k + 1, by omega, by go_num, fun j hj => ?_⟩
          by_cases e : j = k
          · subst e; simpa using hp
          · exact HG.out j (by omega)
        case measure => simp [intOf]; omega
    · go_wp2_with fail
      go_ret
      exact ⟨ret_int (Nm.first_none (p := fun i => decide (Nm.find ss (Nm.at_ ss i) < i)) ss.length 0 (fun j _ hj => HG.out j (by omega))).symm, rfl⟩

set_option maxHeartbeats 400000 in
theorem same1_any (i n c m d B b1 b2 : Nat) (A A' : Option Addr) (ss tt : List ByteArray) (w : World) (hi : i < n) (him : i < m)
    (h1 : w.cell? ⟨b1, 0, none⟩ = some (.slice A n c)) (h2 : w.cell? ⟨b2, 0, none⟩ = some (.slice A' m d)) (hs : HasStr w B A n ss) (ht : HasStr w B A' m tt) :
    Calls Try.prog 29 #[.int .i64 i, .pointer (some ⟨b1, 0, none⟩), .pointer (some ⟨b2, 0, none⟩)] w fun e w' => e = .returned (.bool (!Nm.eqs (Nm.at_ ss i) (Nm.at_ tt i))) ∧ Dr w w' := by
  obtain ⟨b, off, rfl, _, hc⟩ := hs.str hi
  obtain ⟨b', off', rfl, _, hc'⟩ := ht.str him
  have hi0 : (0 : Int) ≤ i := by omega
  have hi1 : (i : Int) < n := by omega
  have hi2 : (i : Int) < m := by omega
  go_enter Try.func29, Try.ntmps29
  go_wp2_with fail
  go_quiet (fail)
  go_wp2_with fail
  go_ret
  exact ⟨rfl, (Dr.refl _).drewN _⟩

set_option maxHeartbeats 400000 in
theorem same_any (n c m d B : Nat) (A A' : Option Addr) (ss tt : List ByteArray) (w : World) (hn : n ≤ 9223372036854775807) (hB : B ≤ w.heap.size) (hs : HasStr w B A n ss) (ht : HasStr w B A' m tt) :
    Calls Try.prog 17 #[.slice A n c, .slice A' m d] w fun e w' => e = .returned (.bool (Nm.same ss tt)) ∧ Below w.heap.size w w' := by
  have hmf := @makes Try.prog
  have hl := hs.len
  have hl' := ht.len
  obtain ⟨hb2, hz2, hc1, hc2⟩ := box2 w (.slice A n c) (.slice A' m d) 23 23
  by_cases hnm : n = m
  · subst hnm
    subst hl
    have hs2 := Has.below (hs.more hB) hb2
    have ht2 := Has.below (ht.more hB) hb2
    have hp := place_any 29 #[.pointer (some ⟨w.heap.size, 0, none⟩), .pointer (some ⟨w.heap.size + 1, 0, none⟩)] (fun i => !Nm.eqs (Nm.at_ ss i) (Nm.at_ tt i)) ss.length
      ((w.alloc (.cells #[.slice A ss.length c] 23)).alloc (.cells #[.slice A' ss.length d] 23)) hn enters_same1 fun i w' hi hd => by
        refine (same1_any i ss.length c ss.length d w.heap.size w.heap.size (w.heap.size + 1) A A' ss tt w' hi hi ?_ ?_ (Has.below hs2 (hd.mono (by omega))) (Has.below ht2 (hd.mono (by omega)))).mono fun e w'' ⟨he, hw⟩ => ⟨he, below_dr hd hw⟩
        · rw [hd.cell (by show w.heap.size < _; omega)]; exact hc1
        · rw [hd.cell (by show w.heap.size + 1 < _; omega)]; exact hc2
    have HP := hide hp
    have HB := hide hb2
    have HL := hide hl'
    clear hp hs2 ht2 hb2 hz2 hl'
    go_enter Try.func17, Try.ntmps17
    go_wp2_with fail
    refine HP.out.mono ?_
    rintro e w' ⟨rfl, hw⟩
    go_wp2_with fail
    go_ret
    exact ⟨ret_bool (by simp [Nm.same, HL.out]), HB.out.trans (hw.mono (by simp; omega))⟩
  · have hne : ((n : Int) == m) = false := by simp; omega
    have HL := hide hl
    have HL' := hide hl'
    have HB := hide hb2
    clear hl hl' hb2 hz2
    go_enter Try.func17, Try.ntmps17
    go_wp2_with fail
    go_ret
    exact ⟨ret_bool (by simp [Nm.same, HL.out, HL'.out, hnm]), HB.out⟩

set_option maxHeartbeats 400000 in
theorem sameR_any (n c m d B : Nat) (A A' : Option Addr) (ss tt : List ByteArray) (w : World) (hn : n ≤ 9223372036854775807) (hs : HasStr w B A n ss) (ht : HasStr w B A' m tt) :
    Calls Try.prog 18 #[.slice A n c, .slice A' m d] w fun e w' => e = .returned (.bool (Nm.same ss tt)) ∧ Dr w w' := by
  have hl := hs.len
  have hl' := ht.len
  by_cases hnm : n = m
  · subst hnm
    subst hl
    have hne : ((ss.length : Int) != ss.length) = false := by simp
    have HL := hide hl'
    clear hl'
    go_enter Try.func18, Try.ntmps18
    go_wp2_with fail
    go_loopw [5] (fun i wr => ∃ k : Nat, k ≤ ss.length ∧ i = .int .i64 k ∧ (∀ j, j < k → (!Nm.eqs (Nm.at_ ss j) (Nm.at_ tt j)) = false) ∧ Dr w wr) (fun i _ => ss.length - (intOf i).toNat)
    case atStart => exact ⟨0, Nat.zero_le _, rfl, fun j h => by omega, Dr.refl w⟩
    case round =>
      obtain ⟨k, hk, rfl, hg, hw⟩ := hrel
      have HG := hide hg
      clear hg
      by_cases hlt : k < ss.length
      · obtain ⟨b, off, rfl, _, hc⟩ := (hs.dr hw).str hlt
        obtain ⟨b', off', rfl, _, hc'⟩ := (ht.dr hw).str hlt
        have hi0 : (0 : Int) ≤ k := by omega
        have hi1 : (k : Int) < ss.length := by omega
        cases hp : (!Nm.eqs (Nm.at_ ss k) (Nm.at_ tt k))
        · have hp' : (!((Nm.at_ ss k).toList == (Nm.at_ tt k).toList)) = false := hp
          have hp'' : ((Nm.at_ ss k).toList == (Nm.at_ tt k).toList) = true := by simpa using hp'
          have HP := hide hp
          clear hp
          go_wp2_with fail
          go_quiet (fail)
          go_wp2_with fail
          go_roundw
          case rel =>
            refine ⟨k + 1, by omega, by go_num, fun j hj => ?_, hw.drewN _⟩
            by_cases e : j = k
            · subst e; exact HP.out
            · exact HG.out j (by omega)
          case measure => simp [intOf]; omega
        · have hp' : (!((Nm.at_ ss k).toList == (Nm.at_ tt k).toList)) = true := hp
          have hp'' : ((Nm.at_ ss k).toList == (Nm.at_ tt k).toList) = false := by simpa using hp'
          have HP := hide hp
          clear hp
          go_wp2_with fail
          go_quiet (fail)
          go_wp2_with fail
          go_ret
          refine ⟨ret_bool ?_, hw.drewN _⟩
          simp only [Nm.same, HL.out]
          rw [Nm.first_at (p := fun i => !Nm.eqs (Nm.at_ ss i) (Nm.at_ tt i)) k HP.out ss.length 0 (fun j _ hj => HG.out j hj) (by omega) (by omega)]
          simp
      · go_wp2_with fail
        go_ret
        refine ⟨ret_bool ?_, hw⟩
        simp only [Nm.same, HL.out]
        rw [Nm.first_none (p := fun i => !Nm.eqs (Nm.at_ ss i) (Nm.at_ tt i)) ss.length 0 (fun j _ hj => HG.out j (by omega))]
        simp
  · have hne : ((n : Int) != m) = true := by simp; omega
    have HL := hide hl
    have HL' := hide hl'
    clear hl hl'
    go_enter Try.func18, Try.ntmps18
    go_wp2_with fail
    go_ret
    exact ⟨ret_bool (by simp [Nm.same, HL.out, HL'.out, hnm]), Dr.refl _⟩

/-- long: more than 60 texts, or one of more than 200 bytes. -/
def Nm.long (ss : List ByteArray) : Bool := decide (60 < ss.length) || ss.any fun s => decide (200 < s.size)
theorem Nm.long_false {ss : List ByteArray} (h : Nm.long ss = false) : ss.length ≤ 60 ∧ ∀ s ∈ ss, s.size ≤ 200 := by
  simp [Nm.long] at h
  exact h

set_option maxHeartbeats 400000 in
theorem long_any (n c B : Nat) (A : Option Addr) (ss : List ByteArray) (w : World) (hn : n ≤ 9223372036854775807) (hs : HasStr w B A n ss) :
    Calls Try.prog 7 #[.slice A n c] w fun e w' => e = .returned (.bool (Nm.long ss)) ∧ w = w' := by
  have hl := hs.len
  subst hl
  by_cases h60 : (60 : Int) < ss.length
  · have hr : Nm.long ss = true := by simp [Nm.long]; omega
    have HR := hide hr
    clear hr
    go_enter Try.func7, Try.ntmps7
    go_wp2_with fail
    go_ret
    exact ⟨by rw [HR.out]; rfl, rfl⟩
  · go_enter Try.func7, Try.ntmps7
    go_wp2_with fail
    go_loop [3] (fun i => ∃ k : Nat, k ≤ ss.length ∧ i = .int .i64 k ∧ (∀ j, j < k → ¬ 200 < (Nm.at_ ss j).size)) (fun i => ss.length - (intOf i).toNat)
    case atStart => exact ⟨0, Nat.zero_le _, rfl, fun j h => by omega⟩
    case round =>
      obtain ⟨k, hk, rfl, hg⟩ := hrel
      have HG := hide hg
      clear hg
      by_cases hlt : k < ss.length
      · obtain ⟨b, off, rfl, _, hc⟩ := hs.str hlt
        by_cases hp : (200 : Int) < (Nm.at_ ss k).size
        · go_wp2_with fail
          go_ret
          refine ⟨ret_bool ?_, rfl⟩
          simp only [Nm.long, Bool.or_eq_true, List.any_eq_true, decide_eq_true_eq, true_iff]
          exact .inr ⟨Nm.at_ ss k, by rw [show Nm.at_ ss k = ss[k] from by simp [Nm.at_, hlt]]; exact List.getElem_mem hlt, by omega⟩
        · go_wp2_with fail
          go_round
          case rel =>
            refine ⟨k + 1, by omega, by go_num, fun j hj => ?_⟩
            by_cases e : j = k
            · subst e; omega
            · exact HG.out j (by omega)
          case measure => simp [intOf]; omega
      · go_wp2_with fail
        go_ret
        refine ⟨ret_bool ?_, rfl⟩
        simp only [Nm.long, Bool.or_eq_true, List.any_eq_true, decide_eq_true_eq]
        constructor
        · intro h; cases h
        · rintro (h | ⟨x, hx, h⟩)
          · omega
          · obtain ⟨j, hj, rfl⟩ := List.getElem_of_mem hx
            have := HG.out j (by omega)
            rw [show Nm.at_ ss j = ss[j] from by simp [Nm.at_, hj]] at this
            omega

end Go.Proofs.Ytpcikoegokddfaa
