/- The walk of place: the first index at which a closure that changes nothing says yes. -/
import Derived.Test.YthnbhcfpfbimgaaWords
import Derived.Test.YthnbhcfpfbimgaaNmPlain
namespace Go.Proofs.Ythnbhcfpfbimgaa
open Go.RowKit

set_option maxHeartbeats 400000 in
theorem place_any (f : Nat) (caps : Array Value) (p : Nat → Bool) (n : Nat) (w : World) (hn : n ≤ 9223372036854775807)
    (hcf : ∀ (a : Array Value) (w : World), (callFunc f a).run Try.prog w = .ok (.enter f a) w)
    (hf : ∀ (i : Nat) (w' : World), i < n → Below w.heap.size w w' → Calls Try.prog f (#[.int .i64 i] ++ caps) w' fun e w'' => e = .returned (.bool (p i)) ∧ Below w.heap.size w w'') :
    Calls Try.prog 65 #[.int .i64 0, .int .i64 n, .func (.func f) #[] caps] w fun e w' => e = .returned (.int .i64 (Nm.first p 0 n)) ∧ Below w.heap.size w w' := by
  have HF := hide hf
  clear hf
  go_enter Try.func65, Try.ntmps65
  go_wp2_with fail
  go_loopw [7] (fun i wr => ∃ k : Nat, k ≤ n ∧ i = .int .i64 k ∧ (∀ j, j < k → p j = false) ∧ Below w.heap.size w wr) (fun i _ => n - (intOf i).toNat)
  case atStart => exact ⟨0, Nat.zero_le _, rfl, fun j h => by omega, Below.refl _ w⟩
  case round =>
    obtain ⟨k, hk, rfl, hg, hw⟩ := hrel
    have HG := hide hg
    clear hg
    by_cases hlt : k < n
    · have hc := HF.out k wr hlt hw
      have HC := hide hc
      clear hc
      cases hp : p k
      · go_wp2_with fail
        refine HC.out.mono ?_
        rintro e w' ⟨rfl, hw'⟩
        rw [hp]
        go_wp2_with fail
        go_roundw
        case rel =>
          refine ⟨k + 1, by omega, by go_num, fun j hj => ?_, hw'⟩
          by_cases e : j = k
          · subst e; exact hp
          · exact HG.out j (by omega)
        case measure => simp [intOf]; omega
      · have hr := Nm.first_at (p := p) k hp n 0 (fun j _ hj => HG.out j hj) (by omega) (by omega)
        have HR := hide hr
        clear hr
        go_wp2_with fail
        refine HC.out.mono ?_
        rintro e w' ⟨rfl, hw'⟩
        rw [hp]
        go_wp2_with fail
        go_ret
        exact ⟨ret_int HR.out.symm, hw'⟩
    · have hr := Nm.first_none (p := p) n 0 (fun j _ hj => HG.out j (by omega))
      have HR := hide hr
      clear hr
      go_wp2_with fail
      go_ret
      exact ⟨ret_int HR.out.symm, hw⟩

end Go.Proofs.Ythnbhcfpfbimgaa
