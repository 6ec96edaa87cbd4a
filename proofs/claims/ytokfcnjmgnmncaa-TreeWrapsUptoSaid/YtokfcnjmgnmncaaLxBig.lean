/- The walks of the law's bound and of 'might all pieces be'. -/
import Derived.Test.YtokfcnjmgnmncaaLxLike
namespace Go.Proofs.Ytokfcnjmgnmncaa
open Go.RowKit
namespace Lx

def big (l : List T) : Bool := decide (300 < l.length) || l.any fun t => decide (200 < t.text.size)
theorem big_false {l : List T} (h : big l = false) : l.length ≤ 300 ∧ ∀ t ∈ l, t.text.size ≤ 200 := by
  simp only [big, Bool.or_eq_false_iff, decide_eq_false_iff_not, List.any_eq_false, decide_eq_true_eq] at h
  exact ⟨by omega, fun t ht => by have := h.2 t ht; omega⟩
end Lx

set_option maxHeartbeats 800000 in
theorem big_any (n c B : Nat) (A : Option Addr) (l : List Lx.T) (w : World) (h : HasT w B A n l) (hn : n ≤ maxLen) (hm : ∀ t ∈ l, t.text.size ≤ maxLen) :
    Calls Try.prog 7 #[.slice A n c] w fun e w' => e = .returned (.bool (Lx.big l)) ∧ w = w' := by
  unfold maxLen at hn hm
  have hl := h.1
  by_cases hbg : 300 < n
  · have hb : Lx.big l = true := by simp [Lx.big]; left; omega
    have HB := hide hb
    have hbg2 : (300 : Int) < n := by omega
    clear hb h
    go_enter Try.func7, Try.ntmps7
    go_wp2_with fail
    go_ret
    exact ⟨ret_bool (by rw [HB.out]), rfl⟩
  · have hbg2 : ¬ (300 : Int) < n := by omega
    have H1 := hide h
    have HM := hide hm
    have HL := hide hl
    clear h hm hl
    go_enter Try.func7, Try.ntmps7
    go_wp2_with fail
    go_loop [3] (fun i => ∃ k : Nat, k ≤ n ∧ i = .int .i64 k ∧ ∀ (j : Nat) t, j < k → l[j]? = some t → t.text.size ≤ 200) (fun i => n - (intOf i).toNat)
    case atStart => exact ⟨0, Nat.zero_le _, rfl, fun j t hj => by omega⟩
    case round =>
      obtain ⟨k, hk, rfl, heq⟩ := hrel
      have HE := hide heq
      clear heq
      by_cases hlt : k < n
      · obtain ⟨t, ht⟩ : ∃ t, l[k]? = some t := ⟨l[k]'(by have := HL.out; omega), List.getElem?_eq_getElem _⟩
        obtain ⟨b, off, rfl, hbB, hcell⟩ := H1.out.2 (by omega)
        obtain ⟨d0, d1, d2⟩ := hcell k t ht
        have htm := HM.out t (List.mem_of_getElem? ht)
        have HT := hide ht
        clear hcell ht
        have hk0 : (k : Int) < n := by omega
        have hk1 : (0 : Int) ≤ k := by omega
        by_cases h200 : 200 < t.text.size
        · have h200' : (200 : Int) < t.text.size := by omega
          have HB := hide (show Lx.big l = true by
            simp only [Lx.big, Bool.or_eq_true, List.any_eq_true, decide_eq_true_eq]
            exact .inr ⟨t, List.mem_of_getElem? HT.out, h200⟩)
          go_wp2_with fail
          go_ret
          exact ⟨ret_bool (by rw [HB.out]), rfl⟩
        · have h200' : ¬ (200 : Int) < t.text.size := by omega
          go_wp2_with fail
          go_round
          case rel =>
            refine ⟨k + 1, by omega, by go_num, fun j x hj hx => ?_⟩
            rcases Nat.lt_or_ge j k with h | h
            · exact HE.out j x h hx
            · obtain rfl : j = k := by omega
              rw [HT.out] at hx
              simp only [Option.some.injEq] at hx
              subst hx
              omega
          case measure => simp [intOf]; omega
      · obtain rfl : k = n := by omega
        have HB := hide (show Lx.big l = false by
          simp only [Lx.big, Bool.or_eq_false_iff, decide_eq_false_iff_not, List.any_eq_false, decide_eq_true_eq]
          refine ⟨by have := HL.out; omega, fun t ht => ?_⟩
          obtain ⟨j, hj, rfl⟩ := List.getElem_of_mem ht
          have := HE.out j _ (by have := HL.out; omega) (List.getElem?_eq_getElem hj)
          omega)
        go_wp2_with fail
        go_ret
        exact ⟨ret_bool (by rw [HB.out]), rfl⟩

/-- Might all pieces be a line's? -/
def Lx.all (l : List Lx.T) : Bool := l.all Lx.ok
set_option maxHeartbeats 800000 in
theorem rall_any (n c B : Nat) (A : Option Addr) (l : List Lx.T) (w : World) (h : HasT w B A n l) (hB : B ≤ w.heap.size) (hn : n ≤ 1000000) (hm : ∀ t ∈ l, t.text.size ≤ 1000000) :
    Calls Try.prog 12 #[.slice A n c] w fun e w' => e = .returned (.bool (Lx.all l)) ∧ Below w.heap.size w w' := by
  have HL := hide h.1
  have H1 := hide h
  have HM := hide hm
  clear h hm
  go_enter Try.func12, Try.ntmps12
  go_wp2_with fail
  go_loopw [3] (fun i wr => ∃ k : Nat, k ≤ n ∧ i = .int .i64 k ∧ (∀ (j : Nat) t, j < k → l[j]? = some t → Lx.ok t = true) ∧ Below w.heap.size w wr) (fun i _ => n - (intOf i).toNat)
  case atStart => exact ⟨0, Nat.zero_le _, rfl, fun j t hj => by omega, Below.refl _ _⟩
  case round =>
    obtain ⟨k, hk, rfl, heq, hbw⟩ := hrel
    have HE := hide heq
    have HW := hide hbw
    by_cases hlt : k < n
    · obtain ⟨t, ht⟩ : ∃ t, l[k]? = some t := ⟨l[k]'(by have := HL.out; omega), List.getElem?_eq_getElem _⟩
      obtain ⟨b, off, rfl, hbB, hcell⟩ := (H1.out.more hB |>.below hbw).2 (by omega)
      obtain ⟨d0, d1, d2⟩ := hcell k t ht
      have htm := HM.out t (List.mem_of_getElem? ht)
      have HT := hide ht
      clear hcell ht heq hbw
      have hk0 : (k : Int) < n := by omega
      have hk1 : (0 : Int) ≤ k := by omega
      have HR := hide (fun W => rright_any t W htm)
      cases hok : Lx.ok t
      · rw [hok] at HR
        have HB := hide (show Lx.all l = false by
          simp only [Lx.all, List.all_eq_false]
          exact ⟨t, List.mem_of_getElem? HT.out, by rw [hok]; simp⟩)
        clear hok
        go_wp2_with fail
        refine (HR.out _).mono ?_
        rintro e w' ⟨rfl, hb⟩
        have HB2 := hide (HW.out.trans (hb.mono HW.out.size))
        clear hb
        go_wp2_with fail
        go_ret
        exact ⟨ret_bool (by rw [HB.out]), HB2.out⟩
      · rw [hok] at HR
        have HO := hide hok
        clear hok
        go_wp2_with fail
        refine (HR.out _).mono ?_
        rintro e w' ⟨rfl, hb⟩
        have HB2 := hide (HW.out.trans (hb.mono HW.out.size))
        clear hb
        go_wp2_with fail
        refine ⟨⟨k + 1, by omega, rfl, fun j x hj hx => ?_, HB2.out⟩, by simp [intOf]; omega⟩
        rcases Nat.lt_or_ge j k with h | h
        · exact HE.out j x h hx
        · obtain rfl : j = k := by omega
          rw [HT.out] at hx
          simp only [Option.some.injEq] at hx
          subst hx
          exact HO.out
    · obtain rfl : k = n := by omega
      have HB := hide (show Lx.all l = true by
        simp only [Lx.all, List.all_eq_true]
        intro t ht
        obtain ⟨j, hj, rfl⟩ := List.getElem_of_mem ht
        exact heq j _ (by have := HL.out; omega) (List.getElem?_eq_getElem hj))
      clear heq hbw
      go_wp2_with fail
      go_ret
      exact ⟨ret_bool (by rw [HB.out]), HW.out⟩
end Go.Proofs.Ytokfcnjmgnmncaa
