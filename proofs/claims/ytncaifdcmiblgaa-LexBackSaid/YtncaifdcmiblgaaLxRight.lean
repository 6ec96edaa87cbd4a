/- The walks of what might be a piece. -/
import Derived.Test.YtncaifdcmiblgaaLxAlive
namespace Go.Proofs.Ytncaifdcmiblgaa
open Go.RowKit

/-- Might a piece be a line's? -/
def Lx.ok (t : Lx.T) : Bool := if t.kind = 97 then Nm.right t.text else (decide (t.text.size = 1) && (decide (Nm.byte t.text 0 = t.kind) && Lx.sg t.kind))

set_option maxHeartbeats 1600000 in
theorem lright_any (t : Lx.T) (w : World) (hs : t.text.size ≤ 1000000) : Calls Try.prog 11 #[.agg #[.int .u8 t.kind, .string t.text, .int .i64 t.pos]] w fun e w' => e = .returned (.bool (Lx.ok t)) ∧ Below w.heap.size w w' := by
  have hblk := heap_alloc_new w (.cells #[.int .u8 t.kind, .string t.text, .int .i64 t.pos] 31)
  have HB := hide (below_laid w (.cells #[.int .u8 t.kind, .string t.text, .int .i64 t.pos] 31))
  have x0 : (w.alloc (.cells #[.int .u8 t.kind, .string t.text, .int .i64 t.pos] 31)).cell? ⟨w.heap.size, 0, none⟩ = some (.int .u8 t.kind) := by rw [cell_block hblk]; rfl
  have x1 : (w.alloc (.cells #[.int .u8 t.kind, .string t.text, .int .i64 t.pos] 31)).cell? ⟨w.heap.size, 1, none⟩ = some (.string t.text) := by rw [cell_block hblk]; rfl
  clear hblk
  by_cases hk : t.kind = 97
  · have hk' : ((t.kind : Int) == 97) = true := by simp; omega
    have hr := fun W => right_any t.text W (by unfold maxLen; omega)
    have HR := hide hr
    have HO := hide (show Lx.ok t = Nm.right t.text by simp [Lx.ok, hk])
    clear hr
    go_enter Try.func11, Try.ntmps11
    go_wp2_with fail
    refine (HR.out _).mono ?_
    rintro e w' ⟨rfl, rfl⟩
    go_wp2_with fail
    go_ret
    have hb := HB.out
    rw [show ((t.kind : Nat) : Int) = 97 by omega] at hb
    exact ⟨ret_bool (by rw [HO.out]), hb⟩
  · have hk' : ((t.kind : Int) == 97) = false := by simp; omega
    by_cases hz : t.text.size = 1
    · have hp : 0 < t.text.size := by omega
      have hz1 : (0 : Int) < t.text.size := by omega
      have hzz : decide (((t.text.size : Nat) : Int) = 1) = true := by simp; omega
      have hz2 : (((t.text.size : Nat) : Int) == 1) = true := by simp; omega
      have hls := fun W => lsign_any t.kind W
      have HLS := hide hls
      have HO := hide (show Lx.ok t = (decide ((t.text[0]'hp).toNat = t.kind) && Lx.sg t.kind) by simp [Lx.ok, hk, hz, Nm.byte_eq hp])
      clear hls
      by_cases hq : (((t.text[0]'hp).toNat : Nat) : Int) = t.kind
      · have hq2 : ((((t.text[0]'hp).toNat : Nat) : Int) == t.kind) = true := by simpa using hq
        go_enter Try.func11, Try.ntmps11
        go_wp2_with fail
        go_quiet ((go_at_call 22; exact quiet_left (HLS.out _)))
        go_wp2_with fail
        go_ret
        exact ⟨ret_bool (by rw [HO.out, decide_eq_true (by omega : (t.text[0]'hp).toNat = t.kind), Bool.true_and]), below_drewN HB.out _⟩
      · have hq2 : ((((t.text[0]'hp).toNat : Nat) : Int) == t.kind) = false := by simpa using hq
        go_enter Try.func11, Try.ntmps11
        go_wp2_with fail
        go_quiet ((go_at_call 22; exact quiet_left (HLS.out _)))
        go_wp2_with fail
        go_ret
        exact ⟨ret_bool (by rw [HO.out, decide_eq_false (by omega : ¬ (t.text[0]'hp).toNat = t.kind), Bool.false_and]), below_drewN HB.out _⟩
    · have hz2 : (((t.text.size : Nat) : Int) == 1) = false := by simp; omega
      have HO := hide (show Lx.ok t = false by simp [Lx.ok, hk, hz])
      have HLS := hide (fun W => lsign_any t.kind W)
      go_enter Try.func11, Try.ntmps11
      go_wp2_with fail
      go_quiet ((go_at_call 22; exact quiet_left (HLS.out _)))
      go_wp2_with fail
      go_ret
      exact ⟨ret_bool (by rw [HO.out]), below_drewN HB.out _⟩
end Go.Proofs.Ytncaifdcmiblgaa
