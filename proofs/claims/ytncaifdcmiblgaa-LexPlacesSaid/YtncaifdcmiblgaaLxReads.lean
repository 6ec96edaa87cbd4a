/- The walk of LexReads. -/
import Derived.Test.YtncaifdcmiblgaaLxAlive
namespace Go.Proofs.Ytncaifdcmiblgaa
open Go.RowKit

theorem Lx.readF_len (s : ByteArray) : ∀ (f i : Nat) (out : List Lx.T), (Lx.readF s f i out).1.length ≤ out.length + f
  | 0, i, out => by simp [Lx.readF]
  | f + 1, i, out => by
    unfold Lx.readF
    split
    · cases Lx.look s i with
      | stop => simp only []; omega
      | bad => simp
      | tok t n => have := Lx.readF_len s f n (out ++ [t]); simp at this ⊢; omega
      | skip n => have := Lx.readF_len s f n out; simp only []; omega
    · simp only []; omega
theorem Lx.eqT_self (t : Lx.T) : Lx.eqT t t = true := by simp [Lx.eqT]
theorem Lx.same_self : ∀ l : List Lx.T, Lx.same l l = true
  | [] => rfl
  | t :: l => by simp [Lx.same, Lx.eqT_self, Lx.same_self l]

theorem faultV_form (o : Option Nat) : ∃ a b, faultV o = .agg #[.int .i64 a, .int .i64 b] := by cases o <;> exact ⟨_, _, rfl⟩

set_option maxHeartbeats 1600000 in
theorem lexReads_any (s : ByteArray) (w : World) : Calls Try.prog 3 #[.string s] w fun e w' => e = .returned (.bool true) ∧ Below w.heap.size w w' := by
  by_cases hs : (3000 : Int) < s.size
  · go_enter Try.func3, Try.ntmps3
    go_wp2_with fail
    refine (alive_any _).mono ?_
    rintro e w1 ⟨rfl, hb1⟩
    have HB := hide hb1
    clear hb1
    go_wp2_with fail
    go_ret
    exact ⟨rfl, HB.out⟩
  · go_enter Try.func3, Try.ntmps3
    go_wp2_with fail
    obtain ⟨fa, fb, hfv⟩ := faultV_form (Lx.read s).2
    have hlr := fun W => lread_any s W (by omega)
    have hrr := fun W => rread_any s W (by omega)
    rw [hfv] at hlr hrr
    have HRR := hide hrr
    refine (hlr w).mono ?_
    rintro e w1 ⟨v1, rfl, hrow1, _, hb1⟩
    obtain ⟨A1, c1, rfl, _, _⟩ := RowZ.form hrow1
    have H1 := hide (And.intro hrow1 hb1)
    clear hrow1 hb1 hlr hrr hfv
    go_wp2_with fail
    refine (HRR.out _).mono ?_
    rintro e w2 ⟨v2, rfl, hrow2, _, hb2⟩
    obtain ⟨A2, c2, rfl, _, _⟩ := RowZ.form hrow2
    have hbW := hb2.trans ((below_laid w2 (.cells #[.int .i64 fa, .int .i64 fb] 25)).mono hb2.size)
    have hf1 := (hbW.block w1.heap.size (by simp)).trans (heap_alloc_new w1 (.cells #[.int .i64 fa, .int .i64 fb] 25))
    have hf2 := heap_alloc_new w2 (.cells #[.int .i64 fa, .int .i64 fb] 25)
    have hb1W := (below_laid w1 (.cells #[.int .i64 fa, .int .i64 fb] 25)).trans (hbW.mono (by simp))
    have hb01 := H1.out.2.trans (hb1W.mono H1.out.2.size)
    have hr1 := RowZ.below H1.out.1 hb1W
    have hr2 := RowZ.below hrow2 (below_laid w2 (.cells #[.int .i64 fa, .int .i64 fb] 25))
    have HW := hide (And.intro hf1 (And.intro hf2 (And.intro hb01 (And.intro hr1 hr2))))
    clear hb2 hrow2 hbW hf1 hf2 hb1W hb01 hr1 hr2
    go_wp2_with fail
    generalize w2.alloc (.cells #[.int .i64 fa, .int .i64 fb] 25) = W at *
    obtain ⟨hf1, hf2, hb01, hr1, hr2⟩ := HW.out
    have hll : (Lx.read s).1.length ≤ 1000000 := by have := Lx.readF_len s (s.size + 1) 0 []; simp only [List.length_nil] at this; unfold Lx.read; omega
    refine (rsame_any _ c1 _ c2 W.heap.size A1 A2 _ _ W (HasT.of_row hr1) (HasT.of_row hr2) hll hll).mono ?_
    rintro e w3 ⟨rfl, hd3⟩
    rw [Lx.same_self]
    have hb3 := hd3.below W.heap.size
    have g1 := (hb3.block _ (blk_lt hf1)).trans hf1
    have g2 := (hb3.block _ (blk_lt hf2)).trans hf2
    have c10 : w3.cell? ⟨w1.heap.size, 0, none⟩ = some (.int .i64 fa) := by rw [cell_block g1]; rfl
    have c11 : w3.cell? ⟨w1.heap.size, 1, none⟩ = some (.int .i64 fb) := by rw [cell_block g1]; rfl
    have c20 : w3.cell? ⟨w2.heap.size, 0, none⟩ = some (.int .i64 fa) := by rw [cell_block g2]; rfl
    have c21 : w3.cell? ⟨w2.heap.size, 1, none⟩ = some (.int .i64 fb) := by rw [cell_block g2]; rfl
    have HB := hide (hb01.trans (hb3.mono hb01.size))
    clear hf1 hf2 hb01 hr1 hr2 hd3 hb3 g1 g2 HW hll
    go_wp2_with fail
    refine (alive_any _).mono ?_
    rintro e w4 ⟨rfl, hb4⟩
    have HB4 := hide (HB.out.trans (hb4.mono HB.out.size))
    clear hb4
    go_wp2_with fail
    go_ret
    exact ⟨rfl, HB4.out⟩
end Go.Proofs.Ytncaifdcmiblgaa
