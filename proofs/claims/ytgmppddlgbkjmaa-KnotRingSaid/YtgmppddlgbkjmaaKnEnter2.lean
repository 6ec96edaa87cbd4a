/- The walk of enter. -/
import Derived.Test.YtgmppddlgbkjmaaKnEnter
import Derived.Deep.DeepCutAuto
namespace Go.Proofs.Ytgmppddlgbkjmaa
open Go.RowKit

theorem info_int : (Try.prog.info? 3).map (fun i => (i.zero, i.size, i.bytes)) = some (some (.int .i64 0), 1, 8) := by kernel_rfl
theorem info_frame : (Try.prog.info? 43).map (fun i => (i.zero, i.size, i.bytes)) = some (some (.agg #[.int .i64 0, .int .i64 0]), 2, 16) := by kernel_rfl
theorem int_news {w : World} {b : Nat} {z : Int} (h : w.heap[b]? = some (.cells #[.int .i64 z] 3 (0, 0))) : Src Try.prog 1 26 (.slice (some ⟨b, 0, none⟩) 1 1) 1 [.int .i64 z] w :=
  Src.ofSlice _ Try.underlying26 ⟨b, 0, none⟩ 1 1 _ rfl (World.news_of_block (cs := #[.int .i64 z]) (t := 3) (fr := (0, 0)) h) (by simp [Value.oneCell'])
theorem frame_news {w : World} {b : Nat} {x y : Int} (h : w.heap[b]? = some (.cells #[.int .i64 x, .int .i64 y] 43 (0, 0))) : Src Try.prog 2 35 (.slice (some ⟨b, 0, none⟩) 1 1) 1 [.int .i64 x, .int .i64 y] w :=
  Src.ofSlice _ Try.underlying35 ⟨b, 0, none⟩ 1 1 _ rfl (World.news_of_block (cs := #[.int .i64 x, .int .i64 y]) (t := 43) (fr := (0, 0)) h) (by simp [Value.oneCell'])

set_option maxRecDepth 100000 in
set_option maxHeartbeats 4000000 in
theorem enter_any (i : Nat) (w : World) {B : Nat} {a : At} {Ag : Option Addr} {n cg : Nat} {vs vo : Value} {s : Kn.St} (h : Wk w B a Ag n cg vs vo s) (hB : B ≤ w.heap.size) (hi : i < n) (hlo : s.order.length = n) (hll : s.low.length = n) (hln : s.on.length = n)
    (ht : s.time ≤ 1000000) (hs : s.stack.length ≤ 1000000) (ho : s.opn.length ≤ 1000000) :
    Calls Try.prog 22 #[.pointer (some ⟨a.P, 0, none⟩), .int .i64 i] w fun e w' => e = .returned (.tuple #[]) ∧ (∃ vs' vo', Wk w' B a Ag n cg vs' vo' (s.enter i)) ∧ Below B w w' := by
  obtain ⟨it, hit, hzt0, hzt1, hzt2⟩ := info_parts info_int
  obtain ⟨ie, hie, hze0, hze1, hze2⟩ := info_parts info_frame
  obtain ⟨As, cs, rfl, hcs, hcsm⟩ := RowZ.form h.st
  obtain ⟨Ao, co, rfl, hco, hcom⟩ := RowZ.form h.op
  obtain ⟨k0, k1, k2, k3, k4, k5, k6, k7⟩ := h.cells
  have f6 := h.free 6
  have H1 := hide (h.setTime (s.time + 1))
  have HW := hide (And.intro hB (And.intro h.ge (And.intro h.apart h.ne)))
  have HLEN := hide (And.intro hlo (And.intro hll hln))
  clear h hlo hll hln hB
  go_enter Try.func22, Try.ntmps22
  go_wp2_with fail
  have hW1 := H1.out
  rw [show ((s.time + 1 : Nat) : Int) = (s.time : Int) + 1 by omega] at hW1
  have hbW : Below B w (w.setCell ⟨a.P, 6, none⟩ (.int .i64 ((s.time : Int) + 1))) := (Below.refl B w).setCell (by exact HW.out.2.1.1) _
  have hszW : (w.setCell ⟨a.P, 6, none⟩ (.int .i64 ((s.time : Int) + 1))).heap.size = w.heap.size := by simp
  generalize w.setCell ⟨a.P, 6, none⟩ (.int .i64 ((s.time : Int) + 1)) = W at *
  have HBW := hide (And.intro hbW hszW)
  obtain ⟨c0, c1, c2, c3, c4, c5, c6, c7⟩ := hW1.cells
  have hWD := hW1.below (below_drewN (Below.refl _ _) 1)
  have HD := hide hWD
  have g1 := hWD.setOrder i (s.time + 1)
  have g2 := g1.setLow i (s.time + 1)
  have g3 := g2.setOn i true
  have HS1 := hide g1
  have HS2 := hide g2
  have HS3 := hide g3
  have o0 : W.cell? ⟨a.o, i, none⟩ = some (.int .i64 ((s.order.getD i 0 : Nat) : Int)) := hW1.order (by have := HLEN.out.1; simp; omega)
  have o1 : W.frozen? ⟨a.o, i, none⟩ = false := frozen_of_row _ a.o i _ _ hW1.ho
  have l0 : W.cell? ⟨a.l, i, none⟩ = some (.int .i64 ((s.low.getD i 0 : Nat) : Int)) := hW1.low (by have := HLEN.out.2.1; simp; omega)
  have l1 : W.frozen? ⟨a.l, i, none⟩ = false := frozen_of_row _ a.l i _ _ hW1.hl
  have n0 : W.cell? ⟨a.n, i, none⟩ = some (.bool (s.on.getD i false)) := hW1.onn (by have := HLEN.out.2.2; simp; omega)
  have n1 : W.frozen? ⟨a.n, i, none⟩ = false := frozen_of_row _ a.n i _ _ hW1.hn
  have hself : W.drew.heap[a.P]? = some (walkObj a Ag n cg (.slice As s.stack.length cs) (.slice Ao s.opn.length co) (s.time + 1)) := hWD.self
  have hii : (i : Int) < n := by omega
  have hi0 : (0 : Int) ≤ i := by omega
  clear hbW hszW hW1 hWD g1 g2 g3 H1 k0 k1 k2 k3 k4 k5 k6 k7 f6
  refine wp_region_chain [0, 1, 2, 3, 4, 5, 6, 7, 8, 9, 10, 11, 12, 13, 14, 15, 16, 17, 18, 19, 20, 21, 22, 23] [(24, true), (25, true), (26, true), (27, true), (28, true)] (fun w' => w'.heap[a.P]? = some (walkObj a Ag n cg (.slice As s.stack.length cs) (.slice Ao s.opn.length co) (s.time + 1))) (by kernel_rfl) (by kernel_rfl) (fun _ _ _ _ _ h => h) hself ?_
  intro hne
  simp only [picks, picksW, List.filterMap_cons, List.filterMap_nil, List.getElem?_cons_zero, List.getElem?_cons_succ, Option.map_some]
  have hu1 : ∀ u : HoldW (fun w' => w'.heap[a.P]? = some (walkObj a Ag n cg (.slice As s.stack.length cs) (.slice Ao s.opn.length co) (s.time + 1))), u.w.cell? ⟨a.P, 1, none⟩ = some (.slice (some ⟨a.o, 0, none⟩) n n) := fun u => by have h := u.ok; unfold walkObj at h; rw [cell_block h]; rfl
  have hu2 : ∀ u : HoldW (fun w' => w'.heap[a.P]? = some (walkObj a Ag n cg (.slice As s.stack.length cs) (.slice Ao s.opn.length co) (s.time + 1))), u.w.cell? ⟨a.P, 2, none⟩ = some (.slice (some ⟨a.l, 0, none⟩) n n) := fun u => by have h := u.ok; unfold walkObj at h; rw [cell_block h]; rfl
  have hu3 : ∀ u : HoldW (fun w' => w'.heap[a.P]? = some (walkObj a Ag n cg (.slice As s.stack.length cs) (.slice Ao s.opn.length co) (s.time + 1))), u.w.cell? ⟨a.P, 3, none⟩ = some (.slice (some ⟨a.n, 0, none⟩) n n) := fun u => by have h := u.ok; unfold walkObj at h; rw [cell_block h]; rfl
  have hu6 : ∀ u : HoldW (fun w' => w'.heap[a.P]? = some (walkObj a Ag n cg (.slice As s.stack.length cs) (.slice Ao s.opn.length co) (s.time + 1))), u.w.cell? ⟨a.P, 6, none⟩ = some (.int .i64 ((s.time : Int) + 1)) := fun u => by have h := u.ok; unfold walkObj at h; rw [cell_block h]; rfl
  repeat (refine wpHeld_step (fun K hK => ?_); go_simp; refine hK _ ?_; clear hK K)
  refine wpHeld_nil ?_
  clear hu1 hu2 hu3 hu6 hne
  refine wpChain_cons fun K hK => ?_
  go_wp2_with fail
  refine chainF (fun _ => HS1.out.self) (hK _ _ ?_)
  clear hK K
  have la : a.l ≠ a.o := fun e => HW.out.2.2.1.1 e.symm
  have nao : a.n ≠ a.o := HW.out.2.2.2.2.2.2.2.1
  have nal : a.n ≠ a.l := HW.out.2.2.2.2.2.2.2.2.1
  have n2 : ((W.setCell ⟨a.o, i, none⟩ (.int .i64 ((s.time : Int) + 1))).setCell ⟨a.l, i, none⟩ (.int .i64 ((s.time : Int) + 1))).cell? ⟨a.n, i, none⟩ = some (.bool (s.on.getD i false)) :=
    (World.cell?_of_block ((Below.heap_setCell _ ⟨a.l, i, none⟩ _ a.n nal).trans (Below.heap_setCell W ⟨a.o, i, none⟩ _ a.n nao))).trans n0
  have l2 : (W.setCell ⟨a.o, i, none⟩ (.int .i64 ((s.time : Int) + 1))).cell? ⟨a.l, i, none⟩ = some (.int .i64 ((s.low.getD i 0 : Nat) : Int)) := (World.cell?_of_block (Below.heap_setCell W ⟨a.o, i, none⟩ _ a.l la)).trans l0
  refine wpChain_cons fun K hK => ?_
  go_wp2_with fail
  refine chainF (fun _ => HS1.out.self) (hK _ _ ?_)
  clear hK K
  refine wpChain_cons fun K hK => ?_
  go_wp2_with fail
  refine chainF (fun _ => HS2.out.self) (hK _ _ ?_)
  clear hK K
  refine wpChain_cons fun K hK => ?_
  go_wp2_with fail
  refine chainF (fun _ => HS2.out.self) (hK _ _ ?_)
  clear hK K
  refine wpChain_cons fun K hK => ?_
  go_wp2_with fail
  refine chainF (fun _ => HS3.out.self) (hK _ _ ?_)
  clear hK K
  refine wpChain_nil ?_
  have hX : Wk (((W.setCell ⟨a.o, i, none⟩ (.int .i64 ((s.time : Int) + 1))).setCell ⟨a.l, i, none⟩ (.int .i64 ((s.time : Int) + 1))).setCell ⟨a.n, i, none⟩ (.bool true)).drew B a Ag n cg (.slice As s.stack.length cs) (.slice Ao s.opn.length co) { s with time := s.time + 1, order := s.order.set i (s.time + 1), low := s.low.set i (s.time + 1), on := s.on.set i true } := HS3.out
  have hbX : Below B w (((W.setCell ⟨a.o, i, none⟩ (.int .i64 ((s.time : Int) + 1))).setCell ⟨a.l, i, none⟩ (.int .i64 ((s.time : Int) + 1))).setCell ⟨a.n, i, none⟩ (.bool true)).drew :=
    below_drewN ((((HBW.out.1).setCell (by exact HW.out.2.1.2.1) _).setCell (by exact HW.out.2.1.2.2.1) _).setCell (by exact HW.out.2.1.2.2.2.1) _) 1
  have hszX : (((W.setCell ⟨a.o, i, none⟩ (.int .i64 ((s.time : Int) + 1))).setCell ⟨a.l, i, none⟩ (.int .i64 ((s.time : Int) + 1))).setCell ⟨a.n, i, none⟩ (.bool true)).drew.heap.size = w.heap.size := by
    show (((W.setCell _ _).setCell _ _).setCell _ _).heap.size = _
    simp [HBW.out.2]
  generalize (((W.setCell ⟨a.o, i, none⟩ (.int .i64 ((s.time : Int) + 1))).setCell ⟨a.l, i, none⟩ (.int .i64 ((s.time : Int) + 1))).setCell ⟨a.n, i, none⟩ (.bool true)).drew = X at *
  clear n2 l2 la nao nal o0 o1 l0 l1 n0 n1 hself c0 c1 c2 c3 c4 c5 c6 c7 HD HS1 HS2 HS3
  obtain ⟨c0, c1, c2, c3, c4, c5, c6, c7⟩ := hX.cells
  have HX := hide (And.intro hX (And.intro hbX (by rw [hszX]; exact HW.out.1 : B ≤ X.heap.size)))
  have hrow := hX.st
  simp only at hrow
  have hblS := below_laid X (.cells #[.int .i64 (i : Nat)] 3)
  have HROW := hide (And.intro (RowZ.below hrow hblS) (And.intro (heap_alloc_new X (.cells #[.int .i64 (i : Nat)] 3)) hblS))
  clear hX hbX hszX hrow hblS c0 c1 c2 c3 c6 c7
  go_wp2_with (at_builtin; refine app_rowz rfl (.tmp 41) (.tmp 43) 26 26 rfl 3 it _ 1 8 Try.underlying26 hit hzt0 hzt1 hzt2 rfl (.slice As s.stack.length cs) s.stack.length (intsV s.stack.reverse) rfl HROW.out.1 _ 1 [.int .i64 (i : Nat)] rfl (int_news HROW.out.2.1) (by unfold maxLen; omega) (by omega) ?_)
  intro A4 c4' w4 hrow4 hgr4 hob4
  have hP4 : w4.heap[a.P]? = some (walkObj a Ag n cg (.slice As s.stack.length cs) (.slice Ao s.opn.length co) (s.time + 1)) := by
    have h1 := HX.out.1.self
    rw [hgr4.block a.P (by rw [World.size_alloc]; have := blk_lt h1; omega) (fun e => HX.out.1.neS.1 e.symm), HROW.out.2.2.block a.P (blk_lt h1)]
    exact h1
  have q4 : w4.cell? ⟨a.P, 4, none⟩ = some (.slice As s.stack.length cs) := by have h := hP4; unfold walkObj at h; rw [cell_block h]; rfl
  have q4f : w4.frozen? ⟨a.P, 4, none⟩ = false := by have h := hP4; unfold walkObj at h; exact frozen_of_row _ a.P 4 _ _ h
  have hr4 : RowZ w4 3 1 (.slice A4 (s.stack.length + 1) c4') (i :: s.stack).length (intsV (i :: s.stack).reverse) := by
    rw [show intsV (i :: s.stack).reverse = intsV s.stack.reverse ++ [.int .i64 (i : Nat)] by simp [intsV]]; exact hrow4
  have hob4' : ∀ b, (Value.slice A4 (s.stack.length + 1) c4').ownBlock = some b → (Value.slice As s.stack.length cs).ownBlock = some b ∨ b = (X.alloc (.cells #[.int .i64 (i : Nat)] 3)).heap.size := fun b hb => by
    rcases hob4 with e | e
    · exact .inl (e ▸ hb)
    · rw [e] at hb; simp only [Option.some.injEq] at hb; right; rw [World.size_alloc]; exact hb.symm
  have hN := (HX.out.1.below HROW.out.2.2).newStack hgr4 hr4 hob4' (by have := HX.out.2.2; rw [World.size_alloc]; omega)
  have hbN : Below B w (w4.setCell ⟨a.P, 4, none⟩ (.slice A4 (s.stack.length + 1) c4')) := (grown_from (HX.out.2.1.trans (HROW.out.2.2.mono HX.out.2.2)) (by rw [World.size_alloc]; have := HX.out.2.2; omega) hgr4 (fun b hb => (HX.out.1.geS b hb).1)).setCell (by exact HW.out.2.1.1) _
  have hszN : B ≤ (w4.setCell ⟨a.P, 4, none⟩ (.slice A4 (s.stack.length + 1) c4')).heap.size := by have h1 := hgr4.size; rw [World.size_alloc] at h1; have h2 := HX.out.2.2; simp; omega
  have HN := hide (And.intro hN (And.intro hbN hszN))
  clear hrow4 hgr4 hob4 hP4 hr4 hob4' hN hbN hszN
  go_upto_region 3 with (fail)
  generalize w4.setCell ⟨a.P, 4, none⟩ (.slice A4 (s.stack.length + 1) c4') = Y at *
  clear q4 q4f c4 c5 HX HROW
  obtain ⟨c0, c1, c2, c3, c4, c5, c6, c7⟩ := HN.out.1.cells
  have hrow := HN.out.1.op
  simp only at hrow
  have hblS := below_laid Y (.cells #[.int .i64 (i : Nat), .int .i64 0] 43)
  have HROW := hide (And.intro (RowZ.below hrow hblS) (And.intro (heap_alloc_new Y (.cells #[.int .i64 (i : Nat), .int .i64 0] 43)) hblS))
  clear hrow hblS c0 c1 c2 c3 c4 c6 c7
  go_wp2_with (at_builtin; refine app_rowz rfl (.tmp 51) (.tmp 54) 35 35 rfl 43 ie _ 2 16 Try.underlying35 hie hze0 hze1 hze2 rfl (.slice Ao s.opn.length co) s.opn.length (framesV s.opn.reverse) rfl HROW.out.1 _ 1 [.int .i64 (i : Nat), .int .i64 0] rfl (frame_news HROW.out.2.1) (by unfold maxLen; omega) (by omega) ?_)
  intro A5 c5' w5 hrow5 hgr5 hob5
  have hP5 : w5.heap[a.P]? = some (walkObj a Ag n cg (.slice A4 (s.stack.length + 1) c4') (.slice Ao s.opn.length co) (s.time + 1)) := by
    have h1 := HN.out.1.self
    rw [hgr5.block a.P (by rw [World.size_alloc]; have := blk_lt h1; omega) (fun e => HN.out.1.neO.1 e.symm), HROW.out.2.2.block a.P (blk_lt h1)]
    exact h1
  have q5 : w5.cell? ⟨a.P, 5, none⟩ = some (.slice Ao s.opn.length co) := by have h := hP5; unfold walkObj at h; rw [cell_block h]; rfl
  have q5f : w5.frozen? ⟨a.P, 5, none⟩ = false := by have h := hP5; unfold walkObj at h; exact frozen_of_row _ a.P 5 _ _ h
  have hr5 : RowZ w5 43 2 (.slice A5 (s.opn.length + 1) c5') ((i, 0) :: s.opn).length (framesV ((i, 0) :: s.opn).reverse) := by
    rw [show framesV ((i, 0) :: s.opn).reverse = framesV s.opn.reverse ++ [.int .i64 (i : Nat), .int .i64 0] by simp [framesV]]; exact hrow5
  have hob5' : ∀ b, (Value.slice A5 (s.opn.length + 1) c5').ownBlock = some b → (Value.slice Ao s.opn.length co).ownBlock = some b ∨ b = (Y.alloc (.cells #[.int .i64 (i : Nat), .int .i64 0] 43)).heap.size := fun b hb => by
    rcases hob5 with e | e
    · exact .inl (e ▸ hb)
    · rw [e] at hb; simp only [Option.some.injEq] at hb; right; rw [World.size_alloc]; exact hb.symm
  have hM := (HN.out.1.below HROW.out.2.2).newOpen hgr5 hr5 hob5' (by have := HN.out.2.2; rw [World.size_alloc]; omega)
  have hbM : Below B w (w5.setCell ⟨a.P, 5, none⟩ (.slice A5 (s.opn.length + 1) c5')) := (grown_from (HN.out.2.1.trans (HROW.out.2.2.mono HN.out.2.2)) (by rw [World.size_alloc]; have := HN.out.2.2; omega) hgr5 (fun b hb => HN.out.1.geO b hb)).setCell (by exact HW.out.2.1.1) _
  have HM := hide (And.intro hM hbM)
  clear hrow5 hgr5 hob5 hP5 hr5 hob5' hM hbM
  go_wp2_with fail
  go_end0
  exact ⟨rfl, ⟨_, _, HM.out.1⟩, HM.out.2⟩
end Go.Proofs.Ytgmppddlgbkjmaa
