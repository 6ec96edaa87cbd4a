/- The walks of the document's partner and trees. -/
import Derived.Test.YtokfcnjmgnmncaaTrFault
namespace Go.Proofs.Ytokfcnjmgnmncaa
open Go.RowKit

set_option maxHeartbeats 3200000 in
theorem rpartner_any (n c B i m : Nat) (A : Option Addr) (l : List Lx.T) (w : World) (h : HasT w B A n l) (hn : n ≤ 1100000) (hi : i ≤ n) (hp : Tr.part l (n - i) i 0 = some m) : Calls Try.prog 31 #[.slice A n c, .int .i64 i] w fun e w' =>
    e = .returned (.int .i64 m) ∧ w = w' := by
  have HH := hide h
  have HP := hide hp
  clear h hp
  go_enter Try.func31, Try.ntmps31
  go_wp2_with fail
  go_loop [5, 6] (fun vd vi => ∃ (j : Nat) (d : Int), j ≤ n ∧ -(j : Int) ≤ d ∧ d ≤ j ∧ vi = .int .i64 j ∧ vd = .int .i64 d ∧ Tr.part l (n - j) j d = some m) (fun _ vi => n - (intOf vi).toNat)
  case atStart => exact ⟨i, 0, hi, by omega, by omega, rfl, rfl, HP.out⟩
  case round =>
    obtain ⟨j, d, hj, hd1, hd2, rfl, rfl, hpt⟩ := hrel
    have hln := HH.out.1
    have hlt : j < n := by
      rcases Nat.lt_or_ge j n with h | h
      · exact h
      · rw [show n - j = 0 by omega] at hpt; simp [Tr.part] at hpt
    obtain ⟨t, ht⟩ : ∃ t, l[j]? = some t := ⟨l[j]'(by omega), List.getElem?_eq_getElem _⟩
    obtain ⟨b, off, rfl, hbB, hcell⟩ := HH.out.2 (by omega)
    obtain ⟨d0, _, _⟩ := hcell j t ht
    rw [show n - j = (n - (j + 1)) + 1 by omega, Tr.part, ht] at hpt
    simp only at hpt
    have hk0 : (j : Int) < n := by omega
    have hk1 : (0 : Int) ≤ j := by omega
    have hcl := fun W => rclosing_any t.kind W
    have hcs := fun W => rcloses_any t.kind W
    have HLN := hide hln
    clear hcell ht hln
    by_cases ho : Tr.closer t.kind = 0
    · rw [ho] at hcl
      have HCL := hide hcl
      cases hc : Tr.closes t.kind
      · rw [hc] at hcs
        simp only [ho, hc, ne_eq, not_true_eq_false, if_false, Bool.false_eq_true, Int.add_zero, Int.sub_zero] at hpt
        have HCS := hide hcs
        by_cases hz : d = 0
        · rw [if_pos hz] at hpt
          have HPT := hide hpt
          have hz2 : (d == 0) = true := by simpa using hz
          clear hpt hcl hcs ho hc hz
          go_wp2_with fail
          refine (HCL.out _).mono ?_
          rintro e w' ⟨rfl, rfl⟩
          go_wp2_with fail
          refine (HCS.out _).mono ?_
          rintro e w' ⟨rfl, rfl⟩
          go_wp2_with fail
          go_ret
          exact ⟨ret_int (by have := HPT.out; simp at this; omega), rfl⟩
        · rw [if_neg hz] at hpt
          have HPT := hide hpt
          have hz2 : (d == 0) = false := by simpa using hz
          clear hpt hcl hcs ho hc hz
          go_wp2_with fail
          refine (HCL.out _).mono ?_
          rintro e w' ⟨rfl, rfl⟩
          go_wp2_with fail
          refine (HCS.out _).mono ?_
          rintro e w' ⟨rfl, rfl⟩
          go_wp2_with fail
          exact ⟨⟨j + 1, d, by omega, by omega, by omega, rfl, rfl, HPT.out⟩, by simp [intOf]; omega⟩
      · rw [hc] at hcs
        simp only [ho, hc, ne_eq, not_true_eq_false, if_false, if_true, Int.add_zero] at hpt
        have HCS := hide hcs
        by_cases hz : d - 1 = 0
        · rw [if_pos hz] at hpt
          have HPT := hide hpt
          obtain rfl : d = 1 := by omega
          clear hpt hcl hcs ho hc hz
          go_wp2_with fail
          refine (HCL.out _).mono ?_
          rintro e w' ⟨rfl, rfl⟩
          go_wp2_with fail
          refine (HCS.out _).mono ?_
          rintro e w' ⟨rfl, rfl⟩
          go_wp2_with fail
          go_ret
          exact ⟨ret_int (by have := HPT.out; simp at this; omega), rfl⟩
        · rw [if_neg hz] at hpt
          have HPT := hide hpt
          have hz2 : (d - 1 == 0) = false := by simpa using hz
          have hz3 : IntKind.i64.wrap (d - 1) = d - 1 := IntWalk.i64_in _ (by omega)
          clear hpt hcl hcs ho hc hz
          go_wp2_with fail
          refine (HCL.out _).mono ?_
          rintro e w' ⟨rfl, rfl⟩
          go_wp2_with fail
          refine (HCS.out _).mono ?_
          rintro e w' ⟨rfl, rfl⟩
          go_wp2_with fail
          exact ⟨⟨j + 1, d - 1, by omega, by omega, by omega, rfl, rfl, HPT.out⟩, by simp [intOf]; omega⟩
    · have hcf : Tr.closes t.kind = false := by
        cases hc : Tr.closes t.kind
        · rfl
        · exact absurd (Tr.closer_of hc) ho
      have hlc := Tr.closer_range t.kind
      have ho1 : ((Tr.closer t.kind : Nat) : Int) ≠ 0 := by omega
      rw [hcf] at hcs
      simp only [ho, hcf, ne_eq, not_false_eq_true, if_true, Bool.false_eq_true, if_false, Int.sub_zero] at hpt
      have HCL := hide hcl
      have HCS := hide hcs
      have hz3 : IntKind.i64.wrap (d + 1) = d + 1 := IntWalk.i64_in _ (by omega)
      by_cases hz : d + 1 = 0
      · rw [if_pos hz] at hpt
        have HPT := hide hpt
        obtain rfl : d = -1 := by omega
        clear hpt hcl hcs hlc hcf hz
        go_wp2_with fail
        refine (HCL.out _).mono ?_
        rintro e w' ⟨rfl, rfl⟩
        go_wp2_with fail
        refine (HCS.out _).mono ?_
        rintro e w' ⟨rfl, rfl⟩
        go_wp2_with fail
        go_ret
        exact ⟨ret_int (by have := HPT.out; simp at this; omega), rfl⟩
      · rw [if_neg hz] at hpt
        have HPT := hide hpt
        have hz2 : (d + 1 == 0) = false := by simpa using hz
        clear hpt hcl hcs hlc hcf hz
        go_wp2_with fail
        refine (HCL.out _).mono ?_
        rintro e w' ⟨rfl, rfl⟩
        go_wp2_with fail
        refine (HCS.out _).mono ?_
        rintro e w' ⟨rfl, rfl⟩
        go_wp2_with fail
        exact ⟨⟨j + 1, d + 1, by omega, by omega, by omega, rfl, rfl, HPT.out⟩, by simp [intOf]; omega⟩
end Go.Proofs.Ytokfcnjmgnmncaa
