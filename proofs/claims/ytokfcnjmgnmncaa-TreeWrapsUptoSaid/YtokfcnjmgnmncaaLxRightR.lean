/- The walk of what might be a piece, of the document. -/
import Derived.Test.YtokfcnjmgnmncaaLxRight
namespace Go.Proofs.Ytokfcnjmgnmncaa
open Go.RowKit

set_option maxHeartbeats 1600000 in
theorem rright_any (t : Lx.T) (w : World) (hs : t.text.size ≤ 1000000) : Calls Try.prog 26 #[.agg #[.int .u8 t.kind, .string t.text, .int .i64 t.pos]] w fun e w' => e = .returned (.bool (Lx.ok t)) ∧ Below w.heap.size w w' := by
  have hblk := heap_alloc_new w (.cells #[.int .u8 t.kind, .string t.text, .int .i64 t.pos] 35)
  have HB := hide (below_laid w (.cells #[.int .u8 t.kind, .string t.text, .int .i64 t.pos] 35))
  have x0 : (w.alloc (.cells #[.int .u8 t.kind, .string t.text, .int .i64 t.pos] 35)).cell? ⟨w.heap.size, 0, none⟩ = some (.int .u8 t.kind) := by rw [cell_block hblk]; rfl
  have x1 : (w.alloc (.cells #[.int .u8 t.kind, .string t.text, .int .i64 t.pos] 35)).cell? ⟨w.heap.size, 1, none⟩ = some (.string t.text) := by rw [cell_block hblk]; rfl
  clear hblk
  by_cases hk : t.kind = 97
  · have hk' : ((t.kind : Int) == 97) = true := by simp; omega
    have hr := fun W => rightR_any t.text W (by unfold maxLen; omega)
    have HR := hide hr
    have HO := hide (show Lx.ok t = Nm.right t.text by simp [Lx.ok, hk])
    clear hr
    go_enter Try.func26, Try.ntmps26
    go_wp2_with fail
    refine (HR.out _).mono ?_
    rintro e w' ⟨rfl, rfl⟩
    go_wp2_with fail
    go_ret
    have hb := HB.out
    rw [show ((t.kind : Nat) : Int) = 97 by omega] at hb
    exact ⟨ret_bool (by rw [HO.out]), hb⟩
  · have hk' : ((t.kind : Int) == 97) = false := by simp; omega
    have hsz : w.heap.size < (w.alloc (.cells #[.int .u8 t.kind, .string t.text, .int .i64 t.pos] 35)).heap.size := by simp
    have hls := fun W => rsign_any t.kind W
    cases hsg : Lx.sg t.kind
    · rw [hsg] at hls
      have HLS := hide hls
      have HO := hide (show Lx.ok t = false by simp [Lx.ok, hk, hsg])
      clear hls hsg
      go_enter Try.func26, Try.ntmps26
      go_wp2_with fail
      generalize w.alloc (.cells #[.int .u8 t.kind, .string t.text, .int .i64 t.pos] 35) = W at *
      have hu0 : ∀ u : Calm W.heap.size W, u.w.cell? ⟨w.heap.size, 0, none⟩ = some (.int .u8 t.kind) := fun u => (u.below.cell (p := ⟨w.heap.size, 0, none⟩) (by show w.heap.size < _; omega)).trans x0
      have hu1 : ∀ u : Calm W.heap.size W, u.w.cell? ⟨w.heap.size, 1, none⟩ = some (.string t.text) := fun u => (u.below.cell (p := ⟨w.heap.size, 1, none⟩) (by show w.heap.size < _; omega)).trans x1
      refine wp_region_calm W.heap.size (by kernel_rfl) (by kernel_rfl) ?_
      repeat (go_big_quiet_step ((go_at_call 33; exact calm_call (Nat.le_refl _) (HLS.out _))))
      refine wpQuiet_nil ?_
      rintro _ ⟨u, rfl⟩
      go_wp2_with fail
      go_ret
      exact ⟨ret_bool (by rw [HO.out]), HB.out.trans (u.below.mono HB.out.size)⟩
    · rw [hsg] at hls
      have HLS := hide hls
      have HSG := hide hsg
      clear hls hsg
      by_cases hz : t.text.size = 1
      · have hp : 0 < t.text.size := by omega
        have hz1 : (0 : Int) < t.text.size := by omega
        have hz2 : (((t.text.size : Nat) : Int) == 1) = true := by simp; omega
        by_cases hq : (((t.text[0]'hp).toNat : Nat) : Int) = t.kind
        · have hq2 : ((((t.text[0]'hp).toNat : Nat) : Int) == t.kind) = true := by simpa using hq
          have HO := hide (show Lx.ok t = true by simp [Lx.ok, hk, hz, Nm.byte_eq hp, HSG.out]; omega)
          go_enter Try.func26, Try.ntmps26
          go_wp2_with fail
          generalize w.alloc (.cells #[.int .u8 t.kind, .string t.text, .int .i64 t.pos] 35) = W at *
          have hu0 : ∀ u : Calm W.heap.size W, u.w.cell? ⟨w.heap.size, 0, none⟩ = some (.int .u8 t.kind) := fun u => (u.below.cell (p := ⟨w.heap.size, 0, none⟩) (by show w.heap.size < _; omega)).trans x0
          have hu1 : ∀ u : Calm W.heap.size W, u.w.cell? ⟨w.heap.size, 1, none⟩ = some (.string t.text) := fun u => (u.below.cell (p := ⟨w.heap.size, 1, none⟩) (by show w.heap.size < _; omega)).trans x1
          refine wp_region_calm W.heap.size (by kernel_rfl) (by kernel_rfl) ?_
          repeat (go_big_quiet_step ((go_at_call 33; exact calm_call (Nat.le_refl _) (HLS.out _))))
          refine wpQuiet_nil ?_
          rintro _ ⟨u, rfl⟩
          go_wp2_with fail
          go_ret
          exact ⟨ret_bool (by rw [HO.out]), HB.out.trans (u.below.mono HB.out.size)⟩
        · have hq2 : ((((t.text[0]'hp).toNat : Nat) : Int) == t.kind) = false := by simpa using hq
          have HO := hide (show Lx.ok t = false by simp [Lx.ok, hk, hz, Nm.byte_eq hp, HSG.out]; omega)
          go_enter Try.func26, Try.ntmps26
          go_wp2_with fail
          generalize w.alloc (.cells #[.int .u8 t.kind, .string t.text, .int .i64 t.pos] 35) = W at *
          have hu0 : ∀ u : Calm W.heap.size W, u.w.cell? ⟨w.heap.size, 0, none⟩ = some (.int .u8 t.kind) := fun u => (u.below.cell (p := ⟨w.heap.size, 0, none⟩) (by show w.heap.size < _; omega)).trans x0
          have hu1 : ∀ u : Calm W.heap.size W, u.w.cell? ⟨w.heap.size, 1, none⟩ = some (.string t.text) := fun u => (u.below.cell (p := ⟨w.heap.size, 1, none⟩) (by show w.heap.size < _; omega)).trans x1
          refine wp_region_calm W.heap.size (by kernel_rfl) (by kernel_rfl) ?_
          repeat (go_big_quiet_step ((go_at_call 33; exact calm_call (Nat.le_refl _) (HLS.out _))))
          refine wpQuiet_nil ?_
          rintro _ ⟨u, rfl⟩
          go_wp2_with fail
          go_ret
          exact ⟨ret_bool (by rw [HO.out]), HB.out.trans (u.below.mono HB.out.size)⟩
      · have hz2 : (((t.text.size : Nat) : Int) == 1) = false := by simp; omega
        have HO := hide (show Lx.ok t = false by simp [Lx.ok, hk, hz])
        go_enter Try.func26, Try.ntmps26
        go_wp2_with fail
        generalize w.alloc (.cells #[.int .u8 t.kind, .string t.text, .int .i64 t.pos] 35) = W at *
        have hu0 : ∀ u : Calm W.heap.size W, u.w.cell? ⟨w.heap.size, 0, none⟩ = some (.int .u8 t.kind) := fun u => (u.below.cell (p := ⟨w.heap.size, 0, none⟩) (by show w.heap.size < _; omega)).trans x0
        have hu1 : ∀ u : Calm W.heap.size W, u.w.cell? ⟨w.heap.size, 1, none⟩ = some (.string t.text) := fun u => (u.below.cell (p := ⟨w.heap.size, 1, none⟩) (by show w.heap.size < _; omega)).trans x1
        refine wp_region_calm W.heap.size (by kernel_rfl) (by kernel_rfl) ?_
        repeat (go_big_quiet_step ((go_at_call 33; exact calm_call (Nat.le_refl _) (HLS.out _))))
        refine wpQuiet_nil ?_
        rintro _ ⟨u, rfl⟩
        go_wp2_with fail
        go_ret
        exact ⟨ret_bool (by rw [HO.out]), HB.out.trans (u.below.mono HB.out.size)⟩
end Go.Proofs.Ytokfcnjmgnmncaa
