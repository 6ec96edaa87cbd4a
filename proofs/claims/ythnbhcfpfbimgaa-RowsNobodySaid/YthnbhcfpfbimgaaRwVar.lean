/- The walk of Var: one variable more. -/
import Derived.Test.YthnbhcfpfbimgaaRwKeep
namespace Go.Proofs.Ythnbhcfpfbimgaa
open Go.RowKit
open Rw (El At Fld Lk Eqn U T W64)

theorem var_nil (w : World) : Calls Try.prog 22 #[.pointer none] w fun e w' => e = .returned (.int .i64 (-1)) ∧ Below w.heap.size w w' := by
  have hba := below_laid w (.cells #[.pointer none] 39)
  have HB := hide hba
  clear hba
  go_enter Try.func22, Try.ntmps22
  go_wp2_with fail
  go_ret
  exact ⟨rfl, HB.out⟩
set_option maxRecDepth 100000 in
set_option maxHeartbeats 2000000 in
theorem var_any (P B : Nat) (g : Bl) (s : T) (w : World) (h : Tb w B P g s) (hB : B ≤ w.heap.size) (ht : s.times.length ≤ 1000000000) (hn : s.rows.length ≤ 1000000000) (hw : s.own.length ≤ 1000000000) (hu : s.undo.length ≤ 900000000) :
    Calls Try.prog 22 #[.pointer (some ⟨P, 0, none⟩)] w fun e w' => RetS (.int .i64 (s.own.length : Nat)) w B P g s.var e w' := by
  obtain ⟨i1, hj, hy0, hy1, hy2⟩ := info_parts info_int
  have hmf := @makes Try.prog
  have hbb := below_laid w (.cells #[.pointer (some ⟨P, 0, none⟩)] 39)
  obtain ⟨hS0, hK0⟩ := (Sg.refl h hB).below hbb
  have hp0 : PBox (w.alloc (.cells #[.pointer (some ⟨P, 0, none⟩)] 39)) P w.heap.size := heap_alloc_new w _
  have k0 := hp0.cell
  have hS0d := (hS0.below (w2 := (w.alloc (.cells #[.pointer (some ⟨P, 0, none⟩)] 39)).drew) (below_drewN (Below.refl _ _) 1)).1
  have HT := hide (tick_any P B g s _ hS0.tb hS0.ge ht)
  have H0 := hide (And.intro hS0 hp0)
  clear h hB hbb hS0 hK0 hp0 hS0d
  go_enter Try.func22, Try.ntmps22
  go_upto_region 4 with (go_at_call 45; refine (HT.out).mono ?_; rintro e w1 ⟨rfl, hS⟩; have HS := hide hS; clear hS)
  obtain ⟨g1, hS1, hK1⟩ := H0.out.1.step HS.out
  have hp1 := hK1.pbox H0.out.2
  have k1 := hp1.cell
  obtain ⟨vu, vt, vr, vo, ve, vs, fs, hx⟩ := hS1.tb
  obtain ⟨Ao, co, rfl, hco, hcom⟩ := RowZ.form (show RowZ w1 3 1 vo s.own.length (intsV s.own) from hx.own)
  have c1 := hx.cells.2.2.2.1
  have hsz0 : w.heap.size < w1.heap.size := Nat.lt_of_lt_of_le (by rw [World.size_alloc]; omega) hK1.size
  have hba := below_laid w1 (.cells #[.int .i64 (s.own.length : Nat)] 3)
  have hx2 := hx.below hba
  obtain ⟨hS2, hK2⟩ := hS1.below hba
  have hp2 := hK2.pbox hp1
  have hi2 : IBox (w1.alloc (.cells #[.int .i64 (s.own.length : Nat)] 3)) g1 w1.heap.size (s.own.length : Nat) := hx.ibox (Nat.le_refl _) (heap_alloc_new w1 _)
  have k2 := hp2.cell
  have c2 := hx2.cells.2.2.2.1
  have HX := hide (And.intro hx2 (And.intro hS2 (And.intro hp2 hi2)))
  clear hS1 hK1 hp1 hx hba hx2 hS2 hK2 hp2 hi2 HS k0
  go_upto_region 5 with (fail)
  generalize w1.alloc (.cells #[.int .i64 (s.own.length : Nat)] 3) = W at *
  clear c1 k1
  refine wp_region_chain [0, 1, 2, 3, 4, 5] [(6, true), (7, true), (8, true), (9, false), (10, false), (11, false)] (fun w' => w'.cell? ⟨w.heap.size, 0, none⟩ = some (.pointer (some ⟨P, 0, none⟩)) ∧ w'.cell? ⟨P, 3, none⟩ = some (.slice Ao s.own.length co)) (by kernel_rfl) (by kernel_rfl) (fun _ _ _ _ _ h => h) ⟨k2, c2⟩ ?_
  intro hne
  simp only [picks, picksW, List.filterMap_cons, List.filterMap_nil, List.getElem?_cons_zero, List.getElem?_cons_succ, Option.map_some]
  have hu0 : ∀ u : HoldW (fun w' => w'.cell? ⟨w.heap.size, 0, none⟩ = some (.pointer (some ⟨P, 0, none⟩)) ∧ w'.cell? ⟨P, 3, none⟩ = some (.slice Ao s.own.length co)), u.w.cell? ⟨w.heap.size, 0, none⟩ = some (.pointer (some ⟨P, 0, none⟩)) := fun u => u.ok.1
  have hu1 : ∀ u : HoldW (fun w' => w'.cell? ⟨w.heap.size, 0, none⟩ = some (.pointer (some ⟨P, 0, none⟩)) ∧ w'.cell? ⟨P, 3, none⟩ = some (.slice Ao s.own.length co)), u.w.cell? ⟨P, 3, none⟩ = some (.slice Ao s.own.length co) := fun u => u.ok.2
  repeat (refine wpHeld_step (fun K hK => ?_); go_simp; refine hK _ ?_; clear hK K)
  refine wpHeld_nil ?_
  clear hu0 hu1 hne
  have HFr := hide (fresh_any P B g1 s.tick W.drew (HX.out.2.1.below (below_drewN (Below.refl _ _) 1)).1.tb HX.out.2.1.ge (by simpa [Rw.T.tick] using hn) (by simp [Rw.T.tick]; omega))
  refine wpChain_cons fun K hK => ?_
  go_wp2_with (go_at_call 46; refine (HFr.out).mono ?_; rintro e w5 ⟨⟨rfl, hS⟩, hO⟩; have HS := hide (And.intro hS hO); clear hS hO)
  obtain ⟨hS3, hK3⟩ := HX.out.2.1.below (w2 := W.drew) (below_drewN (Below.refl _ _) 1)
  obtain ⟨g5, hS5, hK5⟩ := hS3.step HS.out.1
  have hp5 := hK5.pbox (hK3.pbox HX.out.2.2.1)
  have hi5 := hK5.ibox (hK3.ibox HX.out.2.2.2)
  have k5 := hp5.cell
  have c5 : w5.cell? ⟨P, 3, none⟩ = some (.slice Ao s.own.length co) := HS.out.2.trans c2
  obtain ⟨vu, vt, vr, vo, ve, vs, fs, hx⟩ := hS5.tb
  obtain rfl : Value.slice Ao s.own.length co = vo := by have := hx.cells.2.2.2.1; rw [c5] at this; exact Option.some.inj this
  have hlt5 : P < w5.heap.size := hx.lt
  have hb5 : w.heap.size < w5.heap.size := blk_lt hp5
  have H5 := hide (And.intro hx (And.intro hS5 (And.intro hp5 hi5)))
  clear hx hS5 hp5 hi5 hS3 hK3 hK5
  refine chainF (fun _ => ⟨k5, c5⟩) (hK _ _ ?_)
  clear hK K k2 c2
  refine wpChain_cons fun K hK => ?_
  go_wp2_with fail
  have hba := below_laid w5 (.cells #[.int .i64 (s.tick.rows.length : Nat)] 3)
  refine chainF (fun _ => ⟨(hba.cell (p := ⟨w.heap.size, 0, none⟩) hb5).trans k5, (hba.cell (p := ⟨P, 3, none⟩) hlt5).trans c5⟩) (hK _ _ ?_)
  clear hK K
  have hxa := H5.out.1.below hba
  have HA := hide (And.intro hxa (And.intro (H5.out.2.1.below hba) hba))
  clear hxa hba
  refine wpChain_cons fun K hK => ?_
  refine app_rowz rfl (.tmp 19) (.tmp 22) 78 78 rfl 3 i1 _ 1 8 Try.underlying78 hj hy0 hy1 hy2 rfl (.slice Ao s.own.length co) s.own.length (intsV s.own) rfl HA.out.1.own _ 1 [.int .i64 (s.tick.rows.length : Nat)] rfl (int_news (heap_alloc_new w5 _)) (by unfold maxLen; omega) (by omega) ?_
  intro A' c' w' hr hg hob
  have hxa := HA.out.1
  have hnb : (Value.slice A' (s.own.length + 1) c').ownBlock = (Value.slice Ao s.own.length co).ownBlock ∨ ∃ b, (Value.slice A' (s.own.length + 1) c').ownBlock = some b ∧ (w5.alloc (.cells #[.int .i64 (s.tick.rows.length : Nat)] 3)).heap.size ≤ b := hob.imp id fun e => ⟨_, e, Nat.le_refl _⟩
  have hkk : ∀ b, b < (w5.alloc (.cells #[.int .i64 (s.tick.rows.length : Nat)] 3)).heap.size → (Value.slice Ao s.own.length co).ownBlock ≠ some b → w'.heap[b]? = (w5.alloc (.cells #[.int .i64 (s.tick.rows.length : Nat)] 3)).heap[b]? := fun b hb hne => hg.block b hb fun e => hne e.symm
  have hnew := hxa.newO (l' := s.own ++ [s.rows.length]) (v' := .slice A' (s.own.length + 1) c') hg.size hkk (by rw [List.length_append, show intsV (s.own ++ [s.rows.length]) = intsV s.own ++ [.int .i64 (s.rows.length : Nat)] by simp [intsV]]; exact hr) hnb HA.out.2.1.1.ge
  have hPw : w'.heap[P]? = (w5.alloc (.cells #[.int .i64 (s.tick.rows.length : Nat)] 3)).heap[P]? := hkk P hxa.lt hxa.ne.1.2.2.2.1
  have hkp : Kp (OnB P g5) (w5.alloc (.cells #[.int .i64 (s.tick.rows.length : Nat)] 3)) (w'.setCell ⟨P, 3, none⟩ (.slice A' (s.own.length + 1) c')) :=
    ((Kp.refl _ _).grown hg fun b hb => .inl (.inr (.inr (.inr (.inr (.inl (by rw [← hxa.bl.2.2.2.1]; exact hb))))))).setCell (.inl (.inl rfl)) _
  have hgn : Gn (w5.alloc (.cells #[.int .i64 (s.tick.rows.length : Nat)] 3)) g5 { g5 with o := (Value.slice A' (s.own.length + 1) c').ownBlock } := by
    refine ⟨.inl rfl, .inl rfl, .inl rfl, ?_, .inl rfl⟩
    rcases hnb with e | ⟨b, e, hb⟩
    · exact .inl (e.trans hxa.bl.2.2.2.1)
    · exact .inr ⟨b, e, hb⟩
  obtain ⟨hS6, hK6⟩ := HA.out.2.1.1.stepG ⟨_, _, _, _, _, _, _, hnew⟩ hkp hgn
  have hp6 := hK6.pbox (HA.out.2.1.2.pbox H5.out.2.2.1)
  have hi6 := hK6.ibox (HA.out.2.1.2.ibox H5.out.2.2.2)
  have q0 : w'.cell? ⟨w.heap.size, 0, none⟩ = some (.pointer (some ⟨P, 0, none⟩)) := by
    have := HA.out.2.1.2.pbox H5.out.2.2.1
    rw [cell_block ((hkk _ (blk_lt this) (RowZ.ne_type hxa.own this (by decide))).trans this)]; rfl
  have q1 : w'.cell? ⟨P, 3, none⟩ = some (.slice Ao s.own.length co) := (World.cell?_of_block hPw).trans hxa.cells.2.2.2.1
  have q2 : w'.frozen? ⟨P, 3, none⟩ = false := (World.frozen?_of_block hPw).trans (hxa.free 3)
  have HF := hide (And.intro hS6 (And.intro hp6 hi6))
  refine chainF (fun _ => ⟨q0, q1⟩) (hK _ _ ?_)
  clear hr hg hob hxa hkk hnew hPw hkp hnb hgn hS6 hK6 hp6 hi6 k5 c5 hK K hlt5 hb5
  refine wpChain_cons fun K hK => ?_
  go_wp2_with fail
  refine chainSkip (hK _ _ ?_)
  clear hK K
  refine wpChain_cons fun K hK => ?_
  go_wp2_with fail
  refine chainSkip (hK _ _ ?_)
  clear hK K
  refine wpChain_cons fun K hK => ?_
  go_wp2_with fail
  refine chainSkip (hK _ _ ?_)
  clear hK K
  refine wpChain_nil ?_
  clear q0 q1 q2
  generalize w'.setCell ⟨P, 3, none⟩ (.slice A' (s.own.length + 1) c') = Y at *
  have y0 := HF.out.2.1.cell
  have HD := hide (did_any P B _ (.func 48) #[.pointer (some ⟨w.heap.size, 0, none⟩), .pointer (some ⟨w1.heap.size, 0, none⟩)] (.cutOwn s.own.length) _ Y HF.out.1.tb ⟨w.heap.size, w1.heap.size, rfl, HF.out.2.1, HF.out.2.2.1, HF.out.2.2.2⟩ HF.out.1.ge (by simp [Rw.T.tick, Rw.T.fresh, Rw.T.did]; omega))
  go_wp2_with (go_at_call 47; refine (HD.out).mono ?_; rintro e w6 ⟨⟨rfl, hS⟩, _⟩; obtain ⟨g7, hS7, hK7⟩ := HF.out.1.step hS; have hnl := (hK7.ibox HF.out.2.2).cell; have HE := hide hS7; clear hS hS7 hK7)
  go_ret
  exact ⟨rfl, HE.out.stp⟩
end Go.Proofs.Ythnbhcfpfbimgaa
