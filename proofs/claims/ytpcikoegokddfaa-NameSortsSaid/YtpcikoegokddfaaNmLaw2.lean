/- The walks of NameFinds and NameSorts: each returns true, and writes nothing that was there. -/
import Derived.Test.YtpcikoegokddfaaNmLaw
namespace Go.Proofs.Ytpcikoegokddfaa
open Go.RowKit

set_option maxHeartbeats 1600000 in
theorem nameFinds_walk (A : Option Addr) (n c : Nat) (ss : List ByteArray) (A' : Option Addr) (n' c' : Nat) (tt : List ByteArray) (s : ByteArray) (w : World)
    (hs : HasStr w w.heap.size A n ss) (hn : n ≤ c) (hc : c ≤ maxLen) (_hz : ∀ s ∈ ss, s.size ≤ maxLen) (ht : HasStr w w.heap.size A' n' tt) (hn' : n' ≤ c') (hc' : c' ≤ maxLen) (_hz' : ∀ s ∈ tt, s.size ≤ maxLen) (hsz : s.size ≤ maxLen) :
    Calls Try.prog 4 #[.slice A n c, .slice A' n' c', .string s] w fun e w' => e = .returned (.bool true) ∧ Below w.heap.size w w' := by
  have hx : ∀ x : Nat, x ≤ maxLen → x ≤ 9223372036854775807 := fun x h => by unfold maxLen at h; omega
  have hl1 := long_any n c _ A ss w (hx n (by omega)) hs
  have hl2 := long_any n' c' _ A' tt w (hx n' (by omega)) ht
  have HC := hide (And.intro (hx c hc) (And.intro (hx c' hc') (And.intro (hx n (by omega)) (hx n' (by omega)))))
  have hss : s.size ≤ 9223372036854775807 := hx _ hsz
  clear hx hc hc' hsz
  cases hb1 : Nm.long ss <;> rw [hb1] at hl1 <;> have HL1 := hide hl1 <;> clear hl1
  · cases hb2 : Nm.long tt <;> rw [hb2] at hl2 <;> have HL2 := hide hl2 <;> clear hl2
    · by_cases h200 : (200 : Int) < s.size
      · go_enter Try.func4, Try.ntmps4
        go_wp2_with fail
        refine HL1.out.mono ?_
        rintro e w1 ⟨rfl, rfl⟩
        go_wp2_with fail
        refine HL2.out.mono ?_
        rintro e w1 ⟨rfl, rfl⟩
        go_wp2_with fail
        refine (alive_any _).mono ?_
        rintro e w6 ⟨rfl, hb6⟩
        have HB6 := hide hb6
        clear hb6
        go_wp2_with fail
        go_ret
        exact ⟨rfl, HB6.out⟩
      · have HS := hide hs
        have HT := hide ht
        have HN := hide hn
        clear hs ht hn hn'
        go_enter Try.func4, Try.ntmps4
        go_wp2_with fail
        refine HL1.out.mono ?_
        rintro e w1 ⟨rfl, rfl⟩
        go_wp2_with fail
        refine HL2.out.mono ?_
        rintro e w1 ⟨rfl, rfl⟩
        go_wp2_with fail
        refine (find_any n c w.heap.size A ss s w HC.out.2.2.1 (Nat.le_refl _) HS.out).mono ?_
        rintro e w1 ⟨rfl, hb1⟩
        have HB1 := hide hb1
        clear hb1
        go_wp2_with fail
        refine (findR_any n c w.heap.size A ss s w1 HC.out.2.2.1 (Has.below HS.out HB1.out)).mono ?_
        rintro e w2 ⟨rfl, rfl⟩
        go_wp2_with fail
        refine (twice_any n c w.heap.size A ss w1 HN.out HC.out.1 HB1.out.size (Has.below HS.out HB1.out)).mono ?_
        rintro e w3 ⟨rfl, hb3⟩
        have HB3 := hide (HB1.out.trans (hb3.mono HB1.out.size))
        clear hb3
        go_wp2_with fail
        refine (twiceR_any n c w.heap.size A ss w3 HC.out.2.2.1 (Has.below HS.out HB3.out)).mono ?_
        rintro e w4 ⟨rfl, rfl⟩
        go_wp2_with fail
        refine (same_any n c n' c' w.heap.size A A' ss tt w3 HC.out.2.2.1 HB3.out.size (Has.below HS.out HB3.out) (Has.below HT.out HB3.out)).mono ?_
        rintro e w5 ⟨rfl, hb5⟩
        have HB5 := hide (HB3.out.trans (hb5.mono HB3.out.size))
        clear hb5
        go_wp2_with fail
        refine (sameR_any n c n' c' w.heap.size A A' ss tt w5 HC.out.2.2.1 (Has.below HS.out HB5.out) (Has.below HT.out HB5.out)).mono ?_
        rintro e w6 ⟨rfl, hd⟩
        have HB6 := hide (below_dr HB5.out hd)
        clear hd
        go_wp2_with fail
        refine (alive_any _).mono ?_
        rintro e w7 ⟨rfl, hb7⟩
        have HB7 := hide (HB6.out.trans (hb7.mono HB6.out.size))
        clear hb7
        go_wp2_with fail
        go_ret
        exact ⟨rfl, HB7.out⟩
    · go_enter Try.func4, Try.ntmps4
      go_wp2_with fail
      refine HL1.out.mono ?_
      rintro e w1 ⟨rfl, rfl⟩
      go_wp2_with fail
      refine HL2.out.mono ?_
      rintro e w1 ⟨rfl, rfl⟩
      go_wp2_with fail
      refine (alive_any _).mono ?_
      rintro e w6 ⟨rfl, hb6⟩
      have HB6 := hide hb6
      clear hb6
      go_wp2_with fail
      go_ret
      exact ⟨rfl, HB6.out⟩
  · go_enter Try.func4, Try.ntmps4
    go_wp2_with fail
    refine HL1.out.mono ?_
    rintro e w1 ⟨rfl, rfl⟩
    go_wp2_with fail
    refine (alive_any _).mono ?_
    rintro e w6 ⟨rfl, hb6⟩
    have HB6 := hide hb6
    clear hb6
    go_wp2_with fail
    go_ret
    exact ⟨rfl, HB6.out⟩

set_option maxHeartbeats 1600000 in
theorem nameSorts_walk (A : Option Addr) (n c : Nat) (ss : List ByteArray) (sep : ByteArray) (w : World)
    (hs : HasStr w w.heap.size A n ss) (hn : n ≤ c) (hc : c ≤ maxLen) (hz : ∀ s ∈ ss, s.size ≤ maxLen) (hsz : sep.size ≤ maxLen) :
    Calls Try.prog 6 #[.slice A n c, .string sep] w fun e w' => e = .returned (.bool true) ∧ Below w.heap.size w w' := by
  have hl1 := long_any n c _ A ss w (by unfold maxLen at hc; omega) hs
  unfold maxLen at hsz
  clear hn hc
  cases hb1 : Nm.long ss <;> rw [hb1] at hl1 <;> have HL1 := hide hl1 <;> clear hl1
  · by_cases h20 : (20 : Int) < sep.size
    · go_enter Try.func6, Try.ntmps6
      go_wp2_with fail
      refine HL1.out.mono ?_
      rintro e w1 ⟨rfl, rfl⟩
      go_wp2_with fail
      refine (alive_any _).mono ?_
      rintro e w6 ⟨rfl, hb6⟩
      have HB6 := hide hb6
      clear hb6
      go_wp2_with fail
      go_ret
      exact ⟨rfl, HB6.out⟩
    · obtain ⟨hl60, hl200⟩ := Nm.long_false hb1
      have hl := hs.len
      have hat : ∀ k, k < ss.length → (Nm.at_ ss k).size ≤ 200 := fun k hk => hl200 _ (by rw [Nm.at_mem hk]; exact List.getElem_mem hk)
      have HSort := fun W (hW : Below w.heap.size w W) => sort_any n c w.heap.size A ss W (by omega) hW.size (Has.below hs hW)
      have HSortR := fun W (hW : Below w.heap.size w W) => sortR_any n c w.heap.size A ss W (by omega) hz hW.size (Has.below hs hW)
      have HJoin := fun W (hW : Below w.heap.size w W) => join_any n c w.heap.size A ss sep W (by omega) hat (by omega) hW.size (Has.below hs hW)
      have HJoinR := fun W (hW : Below w.heap.size w W) => joinR_any n c w.heap.size A ss sep W (by omega) hat (by omega) (Has.below hs hW)
      have HA := hide HSort
      have HA2 := hide HSortR
      have HA3 := hide HJoin
      have HA4 := hide HJoinR
      have H60 := hide (And.intro hl60 hl)
      clear HSort HSortR HJoin HJoinR hs hz hl hat hl60 hl200
      go_enter Try.func6, Try.ntmps6
      go_wp2_with fail
      refine HL1.out.mono ?_
      rintro e w1 ⟨rfl, rfl⟩
      go_wp2_with fail
      refine (HA.out w (Below.refl _ _)).mono ?_
      rintro e w1 ⟨out, v, rfl, hso, hown, hb1⟩
      obtain ⟨A1, c1, rfl, hlc1, _, hs1⟩ := own_slice hown
      have HB1 := hide hb1
      have HS1 := hide hs1
      have HO1 := hide hso
      clear hb1 hs1 hown hso
      go_wp2_with fail
      refine (HA2.out w1 HB1.out).mono ?_
      rintro e w2 ⟨out2, v, rfl, hso, hown, hb2⟩
      obtain ⟨A2, c2, rfl, hlc2, _, hs2⟩ := own_slice hown
      obtain rfl := hso.eq HO1.out
      have HB2 := hide (HB1.out.trans (hb2.mono HB1.out.size))
      have hsm := sameR_any out2.length c1 out2.length c2 w2.heap.size A1 A2 out2 out2 w2 (by have := Nm.Sorts.length_le hso.1 (fun x hx => (hso.2 x).1 hx); have := H60.out.1; omega) (Has.more (Has.below HS1.out hb2) hb2.size) hs2
      rw [Nm.same_self] at hsm
      have HM := hide hsm
      clear hb2 hs2 hown hso hsm hlc1 hlc2
      go_wp2_with fail
      refine HM.out.mono ?_
      rintro e w3 ⟨rfl, hd⟩
      have HB3 := hide (below_dr HB2.out hd)
      clear hd
      go_wp2_with fail
      refine (HA3.out w3 HB3.out).mono ?_
      rintro e w4 ⟨rfl, hb4⟩
      have HB4 := hide (HB3.out.trans (hb4.mono HB3.out.size))
      clear hb4
      go_wp2_with fail
      refine (HA4.out w4 HB4.out).mono ?_
      rintro e w5 ⟨rfl, rfl⟩
      go_wp2_with fail
      refine (alive_any _).mono ?_
      rintro e w6 ⟨rfl, hb6⟩
      have HB6 := hide (HB4.out.trans (hb6.mono HB4.out.size))
      clear hb6
      go_wp2_with fail
      go_ret
      exact ⟨rfl, HB6.out⟩
  · go_enter Try.func6, Try.ntmps6
    go_wp2_with fail
    refine HL1.out.mono ?_
    rintro e w1 ⟨rfl, rfl⟩
    go_wp2_with fail
    refine (alive_any _).mono ?_
    rintro e w6 ⟨rfl, hb6⟩
    have HB6 := hide hb6
    clear hb6
    go_wp2_with fail
    go_ret
    exact ⟨rfl, HB6.out⟩

end Go.Proofs.Ytpcikoegokddfaa
