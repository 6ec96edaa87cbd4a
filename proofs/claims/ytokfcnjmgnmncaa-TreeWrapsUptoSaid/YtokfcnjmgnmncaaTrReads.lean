/- The walk of TreeReads. -/
import Derived.Test.YtokfcnjmgnmncaaTrDepth
import Derived.Test.YtokfcnjmgnmncaaLxOpen
namespace Go.Proofs.Ytokfcnjmgnmncaa
open Go.RowKit

theorem outV_form (o : Tr.Out) : ∃ a b, outV o = .agg #[.int .i64 a, .int .i64 b] := by cases o <;> exact ⟨_, _, rfl⟩

set_option maxHeartbeats 4000000 in
theorem treeReads_any (A : Option Addr) (n c : Nat) (l : List Lx.T) (w : World) (h : HasT w w.heap.size A n l) (hn : n ≤ c) (hc : c ≤ maxLen) (hz : ∀ t ∈ l, Lx.Fit t) :
    Calls Try.prog 3 #[.slice A n c] w fun e w' => e = .returned (.bool true) ∧ Below w.heap.size w w' := by
  have hb1 := big_any n c w.heap.size A l w h (by omega) (fun t ht => (hz t ht).2.1)
  cases hl : Lx.big l
  · rw [hl] at hb1
    obtain ⟨l300, _⟩ := Lx.big_false hl
    have hln := h.1
    have hn3 : n ≤ 300 := by omega
    obtain ⟨fa, fb, hfv⟩ := outV_form (Tr.read l)
    have hr1 := fun W (hW : Below w.heap.size w W) => tread_any n c w.heap.size A l W (h.below hW) hW.size (by omega)
    have hr2 := fun W (hW : Below w.heap.size w W) => rtRead_any n c w.heap.size A l W (h.below hW) hW.size (by omega)
    rw [hfv] at hr1 hr2
    generalize outF (Tr.read l) = F at *
    have HB1 := hide hb1
    have HR1 := hide hr1
    have HR2 := hide hr2
    clear hb1 hr1 hr2 hfv hl l300 hln h hz
    go_enter Try.func3, Try.ntmps3
    go_wp2_with fail
    refine HB1.out.mono ?_
    rintro e w' ⟨rfl, rfl⟩
    go_wp2_with fail
    refine (HR1.out _ (Below.refl _ _)).mono ?_
    rintro e w1 ⟨v1, rfl, hrow1, hb1⟩
    obtain ⟨A1, c1, rfl, _, _⟩ := hrow1.form
    have hbl := below_laid w1 (.cells #[.int .i64 fa, .int .i64 fb] 27)
    have H1 := hide (And.intro ((hrow1.holds.more (fun b hb => hb.2)).below hbl) (And.intro (below_next hb1 hbl) (heap_alloc_new w1 (.cells #[.int .i64 fa, .int .i64 fb] 27))))
    have hs1 : w1.heap.size < (w1.alloc (.cells #[.int .i64 fa, .int .i64 fb] 27)).heap.size := by simp
    clear hrow1 hb1 hbl
    go_wp2_with fail
    generalize w1.alloc (.cells #[.int .i64 fa, .int .i64 fb] 27) = W at *
    refine (HR2.out _ H1.out.2.1).mono ?_
    rintro e w2 ⟨v2, rfl, hrow2, hb2⟩
    obtain ⟨A2, c2, rfl, _, _⟩ := hrow2.form
    have hbl := below_laid w2 (.cells #[.int .i64 fa, .int .i64 fb] 27)
    have hbx := heap_alloc_new w2 (.cells #[.int .i64 fa, .int .i64 fb] 27)
    have hb3 := below_next hb2 hbl
    have hh1 := (H1.out.1.more (fun b hb => Nat.lt_of_lt_of_le hb (Nat.le_of_lt hs1))).below hb3
    have hh2 := (hrow2.holds.more (fun b hb => hb.2)).below hbl
    have hs2 : w2.heap.size < (w2.alloc (.cells #[.int .i64 fa, .int .i64 fb] 27)).heap.size := by simp
    have H2 := hide (And.intro (hh1.more (fun b hb => Nat.lt_of_lt_of_le hb hb3.size)) (And.intro (hh2.more (fun b hb => Nat.lt_trans hb hs2)) (And.intro (below_next H1.out.2.1 hb3) (And.intro ((hb3.block w1.heap.size hs1).trans H1.out.2.2) hbx))))
    clear hrow2 hb2 hbl hbx hb3 hh1 hh2
    go_wp2_with fail
    generalize w2.alloc (.cells #[.int .i64 fa, .int .i64 fb] 27) = W2 at *
    have hsm := rtsame_any (F.size + 1) F F F.len c1 F.len c2 W2.heap.size A1 A2 W2 (by omega) H2.out.1 H2.out.2.1
    rw [Tr.sameF_self] at hsm
    refine hsm.mono ?_
    rintro e w3 ⟨rfl, hd⟩
    have hbd := hd.below W2.heap.size
    have hf1 := (hbd.block w1.heap.size (blk_lt H2.out.2.2.2.1)).trans H2.out.2.2.2.1
    have hf2 := (hbd.block w2.heap.size (blk_lt H2.out.2.2.2.2)).trans H2.out.2.2.2.2
    have y0 := cell_block hf1 0
    have y1 := cell_block hf1 1
    have z0 := cell_block hf2 0
    have z1 := cell_block hf2 1
    simp only [List.getElem?_toArray, List.getElem?_cons_zero, List.getElem?_cons_succ] at y0 y1 z0 z1
    have H3 := hide (below_dr H2.out.2.2.1 hd)
    clear hd hbd hf1 hf2 hsm
    go_wp2_with fail
    refine (alive_any _).mono ?_
    rintro e w4 ⟨rfl, hb4⟩
    have H4 := hide (below_next H3.out hb4)
    clear hb4
    go_wp2_with fail
    go_ret
    exact ⟨rfl, H4.out⟩
  · rw [hl] at hb1
    have HB1 := hide hb1
    clear hl hb1 h hz
    go_enter Try.func3, Try.ntmps3
    go_wp2_with fail
    refine HB1.out.mono ?_
    rintro e w' ⟨rfl, rfl⟩
    go_wp2_with fail
    refine (alive_any _).mono ?_
    rintro e w4 ⟨rfl, hb4⟩
    have HB4 := hide hb4
    clear hb4
    go_wp2_with fail
    go_ret
    exact ⟨rfl, HB4.out⟩
end Go.Proofs.Ytokfcnjmgnmncaa
