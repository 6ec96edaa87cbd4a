/- The walks of Less, of the program and of the reference. -/
import Derived.Test.YtpcikoegokddfaaWords
import Derived.Test.YtpcikoegokddfaaNmLess
namespace Go.Proofs.Ytpcikoegokddfaa
open Go.RowKit

theorem less_any (a b : ByteArray) (w : World) : Calls Try.prog 11 #[.string a, .string b] w fun e w' => e = .returned (.bool (Nm.ls a b)) ∧ w = w' := by
  go_enter Try.func11, Try.ntmps11
  go_wp2_with fail
  go_ret
  exact ⟨rfl, rfl⟩

set_option maxHeartbeats 400000 in
set_option maxRecDepth 100000 in
theorem lessR_any (a b : ByteArray) (w : World) (ha : a.size ≤ maxLen) :
    Calls Try.prog 12 #[.string a, .string b] w fun e w' => e = .returned (.bool (Nm.ls a b)) ∧ Dr w w' := by
  unfold maxLen at ha
  go_enter Try.func12, Try.ntmps12
  go_wp2_with fail
  go_loopw [5] (fun i wr => ∃ k : Nat, k ≤ a.size ∧ i = .int .i64 k ∧ Nm.Begin a b k ∧ Dr w wr) (fun i _ => a.size - (intOf i).toNat)
  case atStart => exact ⟨0, Nat.zero_le _, rfl, Nm.begin_zero a b, Dr.refl w⟩
  case round =>
    obtain ⟨k, hk, rfl, hg, hw⟩ := hrel
    have HG := hide hg
    have HW := hide hw
    clear hg hw
    by_cases h1 : k < a.size
    · by_cases h2 : k < b.size
      · cases h3 : (((a[k]'h1).toNat : Int) != (b[k]'h2).toNat)
        · go_wp2_with fail
          go_quiet (fail)
          go_wp2_with fail
          go_roundw
          case rel =>
            refine ⟨k + 1, by omega, by go_num, Nm.begin_next HG.out h1 h2 (by simp at h3; omega), HW.out.drewN _⟩
          case measure => simp [intOf]; omega
        · go_wp2_with fail
          go_quiet (fail)
          go_wp2_with fail
          go_quiet (fail)
          go_wp2_with fail
          go_ret
          refine ⟨?_, (HW.out.drewN _).drewN _⟩
          rw [Nm.less_diff HG.out h1 h2 (by simp at h3; omega)]
          simp
      · have hr := Nm.less_end HG.out (.inr (by have := HG.out.2.1; omega))
        have HR := hide hr
        clear hr
        go_wp2_with fail
        go_ret
        refine ⟨?_, HW.out⟩
        rw [HR.out]
        simp
    · have hr := Nm.less_end HG.out (.inl (by omega))
      have HR := hide hr
      clear hr
      go_wp2_with fail
      go_ret
      refine ⟨?_, HW.out⟩
      rw [HR.out]
      simp

end Go.Proofs.Ytpcikoegokddfaa
