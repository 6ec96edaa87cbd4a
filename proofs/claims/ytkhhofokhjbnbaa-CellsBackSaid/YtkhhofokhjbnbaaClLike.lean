/- do as one contract; like; alive. -/
import Derived.Test.YtkhhofokhjbnbaaClDo4
namespace Go.Proofs.Ytkhhofokhjbnbaa
open Go.RowKit

namespace Cl
def cdo (s : S) (k n x : Int) : S := if k = 1 then cset s n x else if k = 2 then s else if k = 3 then cundo s n else cadd s x
def rdo (M : List (List Int)) (k n x : Int) : List (List Int) := if k = 1 then rset M n x else if k = 2 then M else if k = 3 then runo M n else radd M x
def ans (s : S) (M : List (List Int)) (k n : Int) : Bool :=
  if k = 1 then inR n s.1.length == inR n (lastL M).length else if k = 2 then getR s.1 n == getR (lastL M) n else if k = 3 then decide (n ≤ s.2.length) == decide (n ≤ (M.length : Int) - 1) else (s.1.length : Int) == ((lastL M).length : Int)
end Cl

theorem do_all (P : Nat) (gw gu : Option Nat) (s : Cl.S) (v : Value) (M : List (List Int)) (k n x : Int) (w : World) (h : CelP w P gw gu s.1 s.2) (hm : Mat w (Bad P gw gu) v M) (hp : M ≠ []) (hl : s.1.length ≤ 10000) (hu : s.2.length ≤ 10000) (hML : M.length ≤ 10000) (hll : (lastL M).length ≤ 10000) :
    Calls Try.prog 9 #[.pointer (some ⟨P, 0, none⟩), .agg #[v], .agg #[.int .i64 k, .int .i64 n, .int .u64 x]] w fun e w' => ∃ v', e = .returned (.tuple #[.agg #[v'], .bool (Cl.ans s M k n)]) ∧ Out w w' P gw gu (Cl.cdo s k n x) v' (Cl.rdo M k n x) := by
  by_cases h1 : k = 1
  · subst h1
    simpa only [Cl.ans, Cl.cdo, Cl.rdo, if_true] using do_set P gw gu s v M n x w h hm hp hl hu hML hll
  by_cases h2 : k = 2
  · subst h2
    simpa only [Cl.ans, Cl.cdo, Cl.rdo, h1, if_true, if_false] using do_get P gw gu s v M n x w h hm hp hML
  by_cases h3 : k = 3
  · subst h3
    simpa only [Cl.ans, Cl.cdo, Cl.rdo, h1, h2, if_true, if_false] using do_undo P gw gu s v M n x w h hm hp hl hu hML
  simpa only [Cl.ans, Cl.cdo, Cl.rdo, h1, h2, h3, if_false] using do_add P gw gu s v M k n x h1 h2 h3 w h hm hp hl hu hML hll

theorem getR_nat {ws : List Int} {k : Nat} (h : k < ws.length) : getR ws k = ws.getD k 0 := by simp [getR, inR, h]

theorem like_any (P : Nat) (gw gu : Option Nat) (s : Cl.S) (r : Value) (l : List Int) (w : World) (h : CelP w P gw gu s.1 s.2) (hr : Row w 30 r (wordsV l)) (hl : l.length ≤ 100000) :
    Calls Try.prog 10 #[.pointer (some ⟨P, 0, none⟩), r] w fun e w' => e = .returned (.bool (decide (s.1 = l))) ∧ Dr w w' := by
  have hlr : (wordsV l).length = l.length := by simp [wordsV]
  obtain ⟨A, c, rfl, _, _⟩ := hr.form
  have HC := hide h
  have HL := hide (len_all h)
  rw [hlr] at hr ⊢
  have HR := hide hr
  have HLR := hide hlr
  clear h hr hlr
  by_cases hne : s.1.length = l.length
  · go_enter Try.func10, Try.ntmps10
    go_wp2_with fail
    refine HL.out.mono ?_
    rintro e w' ⟨rfl, rfl⟩
    rw [hne]
    go_wp2_with fail
    go_loopw [13] (fun i wr => ∃ k : Nat, k ≤ l.length ∧ i = .int .i64 k ∧ (∀ j, j < k → s.1.getD j 0 = l.getD j 0) ∧ Dr w wr) (fun i _ => l.length - (intOf i).toNat)
    case atStart => exact ⟨0, Nat.zero_le _, rfl, fun j hj => by omega, Dr.refl _⟩
    case round =>
      obtain ⟨k, hk, rfl, heq, hd⟩ := hrel
      by_cases hlt : k < l.length
      · have HE := hide heq
        have HD := hide hd
        have hbw := hd.below w.heap.size
        have hCr := HC.out.below hbw
        have HG := fun n => get_all (k : Int) (hCr.below (below_drewN (Below.refl _ wr) n))
        rw [getR_nat (show k < s.1.length by omega)] at HG
        have HG := hide HG
        have hrow := HR.out.below hbw
        obtain ⟨g, rfl⟩ := hrow.addr (by rw [HLR.out]; omega)
        have hcell : wr.cell? ⟨g, k, none⟩ = some (.int .u64 (l.getD k 0)) := by
          rw [hrow.cell (by rw [HLR.out]; exact hlt)]
          simp [wordsV, List.getElem?_eq_getElem hlt, List.getD_eq_getElem?_getD]
        have hk0 : (k : Int) < l.length := by omega
        have hk1 : (0 : Int) ≤ k := by omega
        clear heq hd hbw hCr hrow
        by_cases hx : s.1.getD k 0 = l.getD k 0
        · have HXX := hide hx
          rw [hx] at HG
          clear hx
          generalize hy : l.getD k 0 = y at hcell HG
          go_wp2_with fail
          go_quiet ((go_at_call 15; exact quiet_left (HG.out _)))
          go_wp2_with fail
          refine ⟨⟨k + 1, by omega, rfl, fun j hj => ?_, HD.out.drewN _⟩, by simp [intOf]; omega⟩
          rcases Nat.lt_or_ge j k with h | h
          · exact HE.out j h
          · obtain rfl : j = k := by omega
            exact HXX.out
        · have HXX := hide hx
          generalize hy : l.getD k 0 = y at hcell hx
          generalize hz : s.1.getD k 0 = z at HG hx
          have hbn : (z != y) = true := by simpa using hx
          go_wp2_with fail
          go_quiet ((go_at_call 15; exact quiet_left (HG.out _)))
          go_wp2_with fail
          go_ret
          refine ⟨ret_bool ?_, HD.out.drewN _⟩
          simp only [decide_eq_true_eq, Bool.false_eq_true, false_iff]
          exact fun e => HXX.out (by rw [e])
      · obtain rfl : k = l.length := by omega
        have HE := hide heq
        have HD := hide hd
        clear heq hd
        go_wp2_with fail
        go_ret
        refine ⟨ret_bool ?_, HD.out⟩
        simp only [decide_eq_true_eq, true_iff]
        refine List.ext_getElem (by omega) fun j h1 h2 => ?_
        have := HE.out j h2
        simpa [List.getD_eq_getElem?_getD, h1, h2] using this
  · have hne2 : (s.1.length : Int) ≠ l.length := by omega
    go_enter Try.func10, Try.ntmps10
    go_wp2_with fail
    refine HL.out.mono ?_
    rintro e w' ⟨rfl, rfl⟩
    go_wp2_with fail
    go_ret
    refine ⟨ret_bool ?_, Dr.refl _⟩
    simp only [decide_eq_true_eq, Bool.false_eq_true, false_iff]
    exact fun e => hne (by rw [e])

set_option maxHeartbeats 1600000 in
theorem alive_any (w : World) : Calls Try.prog 6 #[] w fun e w' => e = .returned (.bool true) ∧ Below w.heap.size w w' := by
  go_enter Try.func6, Try.ntmps6
  go_wp2_with fail
  refine (new_any w).mono ?_
  rintro e w1 ⟨rfl, hb1, hC1, hs1⟩
  have H1 := hide (And.intro hb1 hC1)
  clear hb1 hC1
  go_wp2_with fail
  refine (add_all (s := ([], [])) 5 H1.out.2 (by simp) (by simp)).mono ?_
  rintro e w2 ⟨rfl, g2, u2, hC2, hF2, hn2, hm2⟩
  have H2 := hide (And.intro hC2 (And.intro hF2 (And.intro hn2 hm2)))
  clear hC2 hF2 hn2 hm2
  go_wp2_with fail
  refine (mark_all (s := ([5], [.inl 0])) H2.out.1).mono ?_
  rintro e w3 ⟨rfl, rfl⟩
  go_wp2_with fail
  refine (set_all (s := ([5], [.inl 0])) 0 7 H2.out.1 (by simp) (by simp)).mono ?_
  rintro e w3 ⟨rfl, g3, u3, hC3, hF3, hn3, hm3⟩
  have H3 := hide (And.intro hC3 (And.intro hF3 (And.intro hn3 hm3)))
  clear hC3 hF3 hn3 hm3
  go_wp2_with fail
  refine (undo_all (s := ([7], [.inl 0, .inr (0, 5)])) 1 H3.out.1 (by simp) (by simp)).mono ?_
  rintro e w4 ⟨rfl, g4, u4, hC4, hF4, hn4, hm4⟩
  have H4 := hide (And.intro hC4 (And.intro hF4 (And.intro hn4 hm4)))
  clear hC4 hF4 hn4 hm4
  go_wp2_with fail
  refine (get_all (s := ([5], [.inl 0])) 0 H4.out.1).mono ?_
  rintro e w5 ⟨rfl, rfl⟩
  go_wp2_with fail
  refine (len_all (s := ([5], [.inl 0])) H4.out.1).mono ?_
  rintro e w5 ⟨rfl, rfl⟩
  go_wp2_with fail
  go_ret
  refine ⟨rfl, H1.out.1.trans ?_⟩
  refine (H2.out.2.1.trans H2.out.2.2.1 H2.out.2.2.2 (H3.out.2.1.trans H3.out.2.2.1 H3.out.2.2.2 H4.out.2.1)).below (Nat.le_refl _) (fun g h => by cases h) (fun g h => by cases h) (by omega)
end Go.Proofs.Ytkhhofokhjbnbaa
