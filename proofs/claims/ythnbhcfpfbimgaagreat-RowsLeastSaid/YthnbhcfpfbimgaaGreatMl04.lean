/- Texts put together: RwVar RwStick RwPair. -/
import Derived.Test.YthnbhcfpfbimgaaGreatMl03
/- The walk of Var: one variable more. -/
namespace Go.Proofs.YthnbhcfpfbimgaaGreat
open Go.RowKit
open Rw (El At Fld Lk Eqn U T W64)
set_option maxRecDepth 100000 in
set_option maxHeartbeats 2000000 in
theorem var_any (P B : Nat) (g : Bl) (s : T) (w : World) (h : Tb w B P g s) (hB : B ≤ w.heap.size) (ht : s.times.length ≤ 1000000000) (hn : s.rows.length ≤ 1000000000) (hw : s.own.length ≤ 1000000000) (hu : s.undo.length ≤ 900000000) :
    Calls Tryz.prog 26 #[.pointer (some ⟨P, 0, none⟩)] w fun e w' => RetS (.int .i64 (s.own.length : Nat)) w B P g s.var e w' := by
  obtain ⟨i1, hj, hy0, hy1, hy2⟩ := info_parts info_int
  have hmf := @makes Tryz.prog
  have hbb := below_laid w (.cells #[.pointer (some ⟨P, 0, none⟩)] 38)
  obtain ⟨hS0, hK0⟩ := (Sg.refl h hB).below hbb
  have hp0 : PBox (w.alloc (.cells #[.pointer (some ⟨P, 0, none⟩)] 38)) P w.heap.size := heap_alloc_new w _
  have k0 := hp0.cell
  have hS0d := (hS0.below (w2 := (w.alloc (.cells #[.pointer (some ⟨P, 0, none⟩)] 38)).drew) (below_drewN (Below.refl _ _) 1)).1
  have HT := hide (tick_any P B g s _ hS0.tb hS0.ge ht)
  have H0 := hide (And.intro hS0 hp0)
  clear h hB hbb hS0 hK0 hp0 hS0d
  go_enter Tryz.func26, Tryz.ntmps26
  go_upto_region 4 with (go_at_call 45; refine (HT.out).mono ?_; rintro e w1 ⟨rfl, hS⟩; have HS := hide hS; clear hS)
  obtain ⟨g1, hS1, hK1⟩ := H0.out.1.step HS.out
  have hp1 := hK1.pbox H0.out.2
  have k1 := hp1.cell
  obtain ⟨vu, vt, vr, vo, ve, vs, fs, hx⟩ := hS1.tb
  obtain ⟨Ao, co, rfl, hco, hcom⟩ := RowZ.form (show RowZ w1 3 1 vo s.own.length (intsV s.own) from hx.own)
  have c1 := hx.cells.2.2.2.1
  have hsz0 : w.heap.size < w1.heap.size := Nat.lt_of_lt_of_le (by rw [World.size_alloc]; omega) hK1.size
  have hba := below_laid w1 (.cells #[.int .i64 (s.own.length : Nat)] 3)
  have hx2 := hx.below hba
  obtain ⟨hS2, hK2⟩ := hS1.below hba
  have hp2 := hK2.pbox hp1
  have hi2 : IBox (w1.alloc (.cells #[.int .i64 (s.own.length : Nat)] 3)) g1 w1.heap.size (s.own.length : Nat) := hx.ibox (Nat.le_refl _) (heap_alloc_new w1 _)
  have k2 := hp2.cell
  have c2 := hx2.cells.2.2.2.1
  have HX := hide (And.intro hx2 (And.intro hS2 (And.intro hp2 hi2)))
  clear hS1 hK1 hp1 hx hba hx2 hS2 hK2 hp2 hi2 HS k0
  go_upto_region 5 with (fail)
  generalize w1.alloc (.cells #[.int .i64 (s.own.length : Nat)] 3) = W at *
  clear c1 k1
  refine wp_region_chain [0, 1, 2, 3, 4, 5] [(6, true), (7, true), (8, true), (9, false), (10, false), (11, false)] (fun w' => w'.cell? ⟨w.heap.size, 0, none⟩ = some (.pointer (some ⟨P, 0, none⟩)) ∧ w'.cell? ⟨P, 3, none⟩ = some (.slice Ao s.own.length co)) (by kernel_rfl) (by kernel_rfl) (fun _ _ _ _ _ h => h) ⟨k2, c2⟩ ?_
  intro hne
  simp only [picks, picksW, List.filterMap_cons, List.filterMap_nil, List.getElem?_cons_zero, List.getElem?_cons_succ, Option.map_some]
  have hu0 : ∀ u : HoldW (fun w' => w'.cell? ⟨w.heap.size, 0, none⟩ = some (.pointer (some ⟨P, 0, none⟩)) ∧ w'.cell? ⟨P, 3, none⟩ = some (.slice Ao s.own.length co)), u.w.cell? ⟨w.heap.size, 0, none⟩ = some (.pointer (some ⟨P, 0, none⟩)) := fun u => u.ok.1
  have hu1 : ∀ u : HoldW (fun w' => w'.cell? ⟨w.heap.size, 0, none⟩ = some (.pointer (some ⟨P, 0, none⟩)) ∧ w'.cell? ⟨P, 3, none⟩ = some (.slice Ao s.own.length co)), u.w.cell? ⟨P, 3, none⟩ = some (.slice Ao s.own.length co) := fun u => u.ok.2
  repeat (refine wpHeld_step (fun K hK => ?_); go_simp; refine hK _ ?_; clear hK K)
  refine wpHeld_nil ?_
  clear hu0 hu1 hne
  have HFr := hide (fresh_any P B g1 s.tick W.drew (HX.out.2.1.below (below_drewN (Below.refl _ _) 1)).1.tb HX.out.2.1.ge (by simpa [Rw.T.tick] using hn) (by simp [Rw.T.tick]; omega))
  refine wpChain_cons fun K hK => ?_
  go_wp2_with (go_at_call 46; refine (HFr.out).mono ?_; rintro e w5 ⟨⟨rfl, hS⟩, hO⟩; have HS := hide (And.intro hS hO); clear hS hO)
  obtain ⟨hS3, hK3⟩ := HX.out.2.1.below (w2 := W.drew) (below_drewN (Below.refl _ _) 1)
  obtain ⟨g5, hS5, hK5⟩ := hS3.step HS.out.1
  have hp5 := hK5.pbox (hK3.pbox HX.out.2.2.1)
  have hi5 := hK5.ibox (hK3.ibox HX.out.2.2.2)
  have k5 := hp5.cell
  have c5 : w5.cell? ⟨P, 3, none⟩ = some (.slice Ao s.own.length co) := HS.out.2.trans c2
  obtain ⟨vu, vt, vr, vo, ve, vs, fs, hx⟩ := hS5.tb
  obtain rfl : Value.slice Ao s.own.length co = vo := by have := hx.cells.2.2.2.1; rw [c5] at this; exact Option.some.inj this
  have hlt5 : P < w5.heap.size := hx.lt
  have hb5 : w.heap.size < w5.heap.size := blk_lt hp5
  have H5 := hide (And.intro hx (And.intro hS5 (And.intro hp5 hi5)))
  clear hx hS5 hp5 hi5 hS3 hK3 hK5
  refine chainF (fun _ => ⟨k5, c5⟩) (hK _ _ ?_)
  clear hK K k2 c2
  refine wpChain_cons fun K hK => ?_
  go_wp2_with fail
  have hba := below_laid w5 (.cells #[.int .i64 (s.tick.rows.length : Nat)] 3)
  refine chainF (fun _ => ⟨(hba.cell (p := ⟨w.heap.size, 0, none⟩) hb5).trans k5, (hba.cell (p := ⟨P, 3, none⟩) hlt5).trans c5⟩) (hK _ _ ?_)
  clear hK K
  have hxa := H5.out.1.below hba
  have HA := hide (And.intro hxa (And.intro (H5.out.2.1.below hba) hba))
  clear hxa hba
  refine wpChain_cons fun K hK => ?_
  refine app_rowz rfl (.tmp 19) (.tmp 22) 90 90 rfl 3 i1 _ 1 8 Tryz.underlying90 hj hy0 hy1 hy2 rfl (.slice Ao s.own.length co) s.own.length (intsV s.own) rfl HA.out.1.own _ 1 [.int .i64 (s.tick.rows.length : Nat)] rfl (int_news (heap_alloc_new w5 _)) (by unfold maxLen; omega) (by omega) ?_
  intro A' c' w' hr hg hob
  have hxa := HA.out.1
  have hnb : (Value.slice A' (s.own.length + 1) c').ownBlock = (Value.slice Ao s.own.length co).ownBlock ∨ ∃ b, (Value.slice A' (s.own.length + 1) c').ownBlock = some b ∧ (w5.alloc (.cells #[.int .i64 (s.tick.rows.length : Nat)] 3)).heap.size ≤ b := hob.imp id fun e => ⟨_, e, Nat.le_refl _⟩
  have hkk : ∀ b, b < (w5.alloc (.cells #[.int .i64 (s.tick.rows.length : Nat)] 3)).heap.size → (Value.slice Ao s.own.length co).ownBlock ≠ some b → w'.heap[b]? = (w5.alloc (.cells #[.int .i64 (s.tick.rows.length : Nat)] 3)).heap[b]? := fun b hb hne => hg.block b hb fun e => hne e.symm
  have hnew := hxa.newO (l' := s.own ++ [s.rows.length]) (v' := .slice A' (s.own.length + 1) c') hg.size hkk (by rw [List.length_append, show intsV (s.own ++ [s.rows.length]) = intsV s.own ++ [.int .i64 (s.rows.length : Nat)] by simp [intsV]]; exact hr) hnb HA.out.2.1.1.ge
  have hPw : w'.heap[P]? = (w5.alloc (.cells #[.int .i64 (s.tick.rows.length : Nat)] 3)).heap[P]? := hkk P hxa.lt hxa.ne.1.2.2.2.1
  have hkp : Kp (OnB P g5) (w5.alloc (.cells #[.int .i64 (s.tick.rows.length : Nat)] 3)) (w'.setCell ⟨P, 3, none⟩ (.slice A' (s.own.length + 1) c')) :=
    ((Kp.refl _ _).grown hg fun b hb => .inl (.inr (.inr (.inr (.inr (.inl (by rw [← hxa.bl.2.2.2.1]; exact hb))))))).setCell (.inl (.inl rfl)) _
  have hgn : Gn (w5.alloc (.cells #[.int .i64 (s.tick.rows.length : Nat)] 3)) g5 { g5 with o := (Value.slice A' (s.own.length + 1) c').ownBlock } := by
    refine ⟨.inl rfl, .inl rfl, .inl rfl, ?_, .inl rfl⟩
    rcases hnb with e | ⟨b, e, hb⟩
    · exact .inl (e.trans hxa.bl.2.2.2.1)
    · exact .inr ⟨b, e, hb⟩
  obtain ⟨hS6, hK6⟩ := HA.out.2.1.1.stepG ⟨_, _, _, _, _, _, _, hnew⟩ hkp hgn
  have hp6 := hK6.pbox (HA.out.2.1.2.pbox H5.out.2.2.1)
  have hi6 := hK6.ibox (HA.out.2.1.2.ibox H5.out.2.2.2)
  have q0 : w'.cell? ⟨w.heap.size, 0, none⟩ = some (.pointer (some ⟨P, 0, none⟩)) := by
    have := HA.out.2.1.2.pbox H5.out.2.2.1
    rw [cell_block ((hkk _ (blk_lt this) (RowZ.ne_type hxa.own this (by decide))).trans this)]; rfl
  have q1 : w'.cell? ⟨P, 3, none⟩ = some (.slice Ao s.own.length co) := (World.cell?_of_block hPw).trans hxa.cells.2.2.2.1
  have q2 : w'.frozen? ⟨P, 3, none⟩ = false := (World.frozen?_of_block hPw).trans (hxa.free 3)
  have HF := hide (And.intro hS6 (And.intro hp6 hi6))
  refine chainF (fun _ => ⟨q0, q1⟩) (hK _ _ ?_)
  clear hr hg hob hxa hkk hnew hPw hkp hnb hgn hS6 hK6 hp6 hi6 k5 c5 hK K hlt5 hb5
  refine wpChain_cons fun K hK => ?_
  go_wp2_with fail
  refine chainSkip (hK _ _ ?_)
  clear hK K
  refine wpChain_cons fun K hK => ?_
  go_wp2_with fail
  refine chainSkip (hK _ _ ?_)
  clear hK K
  refine wpChain_cons fun K hK => ?_
  go_wp2_with fail
  refine chainSkip (hK _ _ ?_)
  clear hK K
  refine wpChain_nil ?_
  clear q0 q1 q2
  generalize w'.setCell ⟨P, 3, none⟩ (.slice A' (s.own.length + 1) c') = Y at *
  have y0 := HF.out.2.1.cell
  have HD := hide (did_any P B _ (.func 48) #[.pointer (some ⟨w.heap.size, 0, none⟩), .pointer (some ⟨w1.heap.size, 0, none⟩)] (.cutOwn s.own.length) _ Y HF.out.1.tb ⟨w.heap.size, w1.heap.size, rfl, HF.out.2.1, HF.out.2.2.1, HF.out.2.2.2⟩ HF.out.1.ge (by simp [Rw.T.tick, Rw.T.fresh, Rw.T.did]; omega))
  go_wp2_with (go_at_call 47; refine (HD.out).mono ?_; rintro e w6 ⟨⟨rfl, hS⟩, _⟩; obtain ⟨g7, hS7, hK7⟩ := HF.out.1.step hS; have hnl := (hK7.ibox HF.out.2.2).cell; have HE := hide hS7; clear hS hS7 hK7)
  go_ret
  exact ⟨rfl, HE.out.stp⟩
end Go.Proofs.YthnbhcfpfbimgaaGreat
/- The walk of stick: the table is stuck, for a reason. -/
namespace Go.Proofs.YthnbhcfpfbimgaaGreat
open Go.RowKit
open Rw (El At Fld Lk Eqn U T W64)

set_option maxRecDepth 100000 in
set_option maxHeartbeats 2000000 in
theorem stick_any (P B : Nat) (g : Bl) (s : T) (y : W64) (w : World) (h : Tb w B P g s) (hB : B ≤ w.heap.size) (hu : s.undo.length ≤ 1000000000) :
    Calls Tryz.prog 52 #[.pointer (some ⟨P, 0, none⟩), whyV y] w fun e w' => RetS (.bool false) w B P g (s.stick y) e w' := by
  have hmf := @makes Tryz.prog
  have hbb := below_laid w (.cells #[.pointer (some ⟨P, 0, none⟩)] 38)
  obtain ⟨hS0, hK0⟩ := (Sg.refl h hB).below hbb
  have hp0 : PBox (w.alloc (.cells #[.pointer (some ⟨P, 0, none⟩)] 38)) P w.heap.size := heap_alloc_new w _
  have k0 := hp0.cell
  obtain ⟨vu, vt, vr, vo, ve, vs, fs, hx⟩ := hS0.tb
  have c5 : (w.alloc (.cells #[.pointer (some ⟨P, 0, none⟩)] 38)).cell? ⟨P, 5, none⟩ = some (.bool s.stuck) := by rw [cell_block hx.self]; rfl
  have c6 : (w.alloc (.cells #[.pointer (some ⟨P, 0, none⟩)] 38)).cell? ⟨P, 6, none⟩ = some (whyV s.why) := by rw [cell_block hx.self]; rfl
  have f5 := hx.free 5
  have f6 := hx.free 6
  have hP : P < w.heap.size := by obtain ⟨_, _, _, _, _, _, _, hx⟩ := h; exact hx.lt
  have HX := hide (And.intro hx (And.intro hS0 hp0))
  clear h hB hbb hS0 hK0 hp0 hx
  unfold whyV at *
  go_enter Tryz.func52, Tryz.ntmps52
  cases hst : s.stuck with
  | true =>
    rw [hst] at c5
    go_wp2_with fail
    go_ret
    refine ⟨rfl, ?_⟩
    rw [show s.stick y = s by simp [Rw.T.stick, hst]]
    exact HX.out.2.1.stp
  | false =>
    rw [hst] at c5
    go_upto_region 2 with (fail)
    generalize hW : w.alloc (.cells #[.pointer (some ⟨P, 0, none⟩)] 38) = W at *
    refine wp_region_chain [0, 1, 2] [(3, true), (4, true), (5, true), (6, false), (7, false), (8, false)] (fun w' => w'.cell? ⟨w.heap.size, 0, none⟩ = some (.pointer (some ⟨P, 0, none⟩))) (by kernel_rfl) (by kernel_rfl) (fun _ _ _ _ _ h => h) k0 ?_
    intro hne
    simp only [picks, picksW, List.filterMap_cons, List.filterMap_nil, List.getElem?_cons_zero, List.getElem?_cons_succ, Option.map_some]
    have hu0 : ∀ u : HoldW (fun w' => w'.cell? ⟨w.heap.size, 0, none⟩ = some (.pointer (some ⟨P, 0, none⟩))), u.w.cell? ⟨w.heap.size, 0, none⟩ = some (.pointer (some ⟨P, 0, none⟩)) := fun u => u.ok
    repeat (refine wpHeld_step (fun K hK => ?_); go_simp; refine hK _ ?_; clear hK K)
    refine wpHeld_nil ?_
    clear hu0 hne
    have hw := (HX.out.1.setWhy true y).drew
    have hkp : Kp (OnB P g) W ((W.setCell ⟨P, 5, none⟩ (.bool true)).setCell ⟨P, 6, none⟩ (whyV y)).drew := (((Kp.refl _ _).setCell (.inl (.inl rfl)) _).setCell (.inl (.inl rfl)) _).drew
    obtain ⟨hS6, hK6⟩ := HX.out.2.1.stepG ⟨_, _, _, _, _, _, _, hw⟩ hkp (Gn.refl _ _)
    have hp6 := hK6.pbox HX.out.2.2
    have f6' : (W.drew.setCell ⟨P, 5, none⟩ (.bool true)).frozen? ⟨P, 6, none⟩ = false := by simpa using f6
    have HF := hide (And.intro hS6 hp6)
    clear hw hkp hS6 hK6 hp6
    unfold whyV at HF
    have k5 : (W.drew.setCell ⟨P, 5, none⟩ (.bool true)).cell? ⟨w.heap.size, 0, none⟩ = some (.pointer (some ⟨P, 0, none⟩)) := (World.cell?_of_block (Below.heap_setCell _ _ _ _ (show w.heap.size ≠ P by omega))).trans k0
    refine wpChain_cons fun K hK => ?_
    go_wp2_with fail
    refine chainF (fun _ => k0) (hK _ _ ?_)
    clear hK K
    refine wpChain_cons fun K hK => ?_
    go_wp2_with fail
    refine chainF (fun _ => k0) (hK _ _ ?_)
    clear hK K
    refine wpChain_cons fun K hK => ?_
    go_wp2_with fail
    refine chainF (fun _ => k5) (hK _ _ ?_)
    clear hK K k5
    repeat (refine wpChain_cons fun K hK => ?_; go_wp2_with fail; refine chainSkip (hK _ _ ?_); clear hK K)
    refine wpChain_nil ?_
    clear f5 f6 f6' k0 c5 c6
    generalize ((W.setCell ⟨P, 5, none⟩ (.bool true)).setCell ⟨P, 6, none⟩ (.int .u64 (y.toNat : Nat))).drew = Y at *
    have y0 := HF.out.2.cell
    have HD := hide (did_any P B _ (.func 73) #[.pointer (some ⟨w.heap.size, 0, none⟩)] .unstick _ Y HF.out.1.tb ⟨w.heap.size, rfl, HF.out.2⟩ HF.out.1.ge hu)
    go_wp2_with (go_at_call 47; refine (HD.out).mono ?_; rintro e w6 ⟨⟨rfl, hS⟩, _⟩; obtain ⟨g7, hS7, hK7⟩ := HF.out.1.step hS; have HE := hide hS7; clear hS hS7 hK7)
    go_ret
    refine ⟨rfl, ?_⟩
    rw [show s.stick y = ({ s with stuck := true, why := y } : T).did .unstick by simp [Rw.T.stick, hst]]
    exact HE.out.stp
end Go.Proofs.YthnbhcfpfbimgaaGreat
/- The walk of pair: one equation more. -/
namespace Go.Proofs.YthnbhcfpfbimgaaGreat
open Go.RowKit
open Rw (El At Fld Lk Eqn U T W64)

def atC (a : At) : Array Value := #[.int .i64 a.var, .int .u64 a.el.e0, .int .u64 a.el.e1, .int .u64 a.el.e2, .int .u64 a.el.e3, .int .u64 a.el.e4, .int .u64 a.el.e5, .int .u64 a.el.e6, .int .u64 a.el.e7]
theorem info_eq : (Tryz.prog.info? 52).map (fun i => (i.zero, i.size, i.bytes)) = some (some (.agg #[.int .i64 0, .int .u64 0, .int .u64 0, .int .u64 0, .int .u64 0, .int .u64 0, .int .u64 0, .int .u64 0, .int .u64 0, .int .i64 0, .int .u64 0, .int .u64 0, .int .u64 0, .int .u64 0, .int .u64 0, .int .u64 0, .int .u64 0, .int .u64 0, .int .u64 0]), 19, 152) := by kernel_rfl
theorem eq_news {w : World} {g : Nat} {a b : At} {y : W64} (h : w.heap[g]? = some (.cells #[.int .i64 a.var, .int .u64 a.el.e0, .int .u64 a.el.e1, .int .u64 a.el.e2, .int .u64 a.el.e3, .int .u64 a.el.e4, .int .u64 a.el.e5, .int .u64 a.el.e6, .int .u64 a.el.e7, .int .i64 b.var, .int .u64 b.el.e0, .int .u64 b.el.e1, .int .u64 b.el.e2, .int .u64 b.el.e3, .int .u64 b.el.e4, .int .u64 b.el.e5, .int .u64 b.el.e6, .int .u64 b.el.e7, .int .u64 (y.toNat : Nat)] 52 (0, 0))) :
    Src Tryz.prog 19 45 (.slice (some ⟨g, 0, none⟩) 1 1) 1 [.int .i64 a.var, .int .u64 a.el.e0, .int .u64 a.el.e1, .int .u64 a.el.e2, .int .u64 a.el.e3, .int .u64 a.el.e4, .int .u64 a.el.e5, .int .u64 a.el.e6, .int .u64 a.el.e7, .int .i64 b.var, .int .u64 b.el.e0, .int .u64 b.el.e1, .int .u64 b.el.e2, .int .u64 b.el.e3, .int .u64 b.el.e4, .int .u64 b.el.e5, .int .u64 b.el.e6, .int .u64 b.el.e7, .int .u64 (y.toNat : Nat)] w :=
  Src.ofSlice _ Tryz.underlying45 ⟨g, 0, none⟩ 1 1 _ rfl (World.news_of_block (cs := #[.int .i64 a.var, .int .u64 a.el.e0, .int .u64 a.el.e1, .int .u64 a.el.e2, .int .u64 a.el.e3, .int .u64 a.el.e4, .int .u64 a.el.e5, .int .u64 a.el.e6, .int .u64 a.el.e7, .int .i64 b.var, .int .u64 b.el.e0, .int .u64 b.el.e1, .int .u64 b.el.e2, .int .u64 b.el.e3, .int .u64 b.el.e4, .int .u64 b.el.e5, .int .u64 b.el.e6, .int .u64 b.el.e7, .int .u64 (y.toNat : Nat)]) (t := 52) (fr := (0, 0)) h) (by simp [Value.oneCell'])
theorem eqnsV_snoc (l : List Eqn) (e : Eqn) : eqnsV (l ++ [e]) = eqnsV l ++ eqnV e := by simp [eqnsV]
theorem boxes3 (w : World) (o1 o2 o3 : Obj) : Below w.heap.size w (((w.alloc o1).alloc o2).alloc o3) ∧
    (((w.alloc o1).alloc o2).alloc o3).heap[w.heap.size]? = some o1 ∧ (((w.alloc o1).alloc o2).alloc o3).heap[w.heap.size + 1]? = some o2 ∧ (((w.alloc o1).alloc o2).alloc o3).heap[w.heap.size + 1 + 1]? = some o3 ∧
    (((w.alloc o1).alloc o2).alloc o3).heap.size = w.heap.size + 3 := by
  refine ⟨((below_laid w _).alloc (by simp) _).alloc (by simp; omega) _, ?_, ?_, ?_, by simp⟩
  · rw [heap_at, if_neg (by simp; omega), heap_at, if_neg (by rw [World.size_alloc]; omega), heap_at, if_pos rfl]
  · rw [heap_at, if_neg (by simp), heap_at, if_pos (by rw [World.size_alloc])]
  · rw [heap_at, if_pos (by simp)]
set_option maxRecDepth 100000 in
set_option maxHeartbeats 4000000 in
theorem pair_any (P B : Nat) (g : Bl) (s : T) (a b : At) (y : W64) (w : World) (h : Tb w B P g s) (hB : B ≤ w.heap.size) (hn : s.eqs.length ≤ 1000000000) (hu : s.undo.length ≤ 1000000000) :
    Calls Tryz.prog 87 #[.pointer (some ⟨P, 0, none⟩), .agg (atC a), .agg (atC b), whyV y] w fun e w' => RetS (.tuple #[]) w B P g (s.pair a b y) e w' := by
  have hmf := @makes Tryz.prog
  obtain ⟨i1, hj, hy0, hy1, hy2⟩ := info_parts info_eq
  obtain ⟨hb3, e0, e1, e2, hs3⟩ := boxes3 w (.cells #[.pointer (some ⟨P, 0, none⟩)] 38) (.cells (atC a) 50) (.cells (atC b) 50)
  obtain ⟨hS0, hK0⟩ := (Sg.refl h hB).below hb3
  have hp0 : PBox _ P w.heap.size := e0
  have k0 := hp0.cell
  obtain ⟨vu, vt, vr, vo, ve, vs, fs, hx⟩ := hS0.tb
  obtain ⟨Ae, ce, rfl, hce, hcem⟩ := RowZ.form hx.eqs
  have c4 := hx.cells.2.2.2.2.1
  have hba := below_laid (((w.alloc (.cells #[.pointer (some ⟨P, 0, none⟩)] 38)).alloc (.cells (atC a) 50)).alloc (.cells (atC b) 50)) (.cells #[.int .i64 (s.eqs.length : Nat)] 3)
  obtain ⟨hS4, hK4⟩ := hS0.below hba
  have hx4 := hx.below hba
  have hp4 := hK4.pbox hp0
  have hi4 := hx.ibox (Nat.le_refl _) (heap_alloc_new _ (.cells #[.int .i64 (s.eqs.length : Nat)] 3))
  rw [World.size_alloc, World.size_alloc, World.size_alloc] at hi4
  have e14 := (hba.block _ (blk_lt e1)).trans e1
  have e24 := (hba.block _ (blk_lt e2)).trans e2
  have HX := hide (And.intro hx4 (And.intro hS4 (And.intro hp4 (And.intro hi4 (And.intro e14 e24)))))
  clear h hB hb3 hS0 hK0 hp0 hx e0 e1 e2 hs3 hba hS4 hK4 hx4 hp4 hi4 e14 e24
  unfold atC whyV at *
  go_enter Tryz.func87, Tryz.ntmps87
  go_upto_region 2 with (fail)
  generalize hW : (((w.alloc (.cells #[.pointer (some ⟨P, 0, none⟩)] 38)).alloc (.cells #[.int .i64 a.var, .int .u64 a.el.e0, .int .u64 a.el.e1, .int .u64 a.el.e2, .int .u64 a.el.e3, .int .u64 a.el.e4, .int .u64 a.el.e5, .int .u64 a.el.e6, .int .u64 a.el.e7] 50)).alloc (.cells #[.int .i64 b.var, .int .u64 b.el.e0, .int .u64 b.el.e1, .int .u64 b.el.e2, .int .u64 b.el.e3, .int .u64 b.el.e4, .int .u64 b.el.e5, .int .u64 b.el.e6, .int .u64 b.el.e7] 50)).alloc (.cells #[.int .i64 (s.eqs.length : Nat)] 3) = W at *
  clear c4 k0 hW
  obtain ⟨F, hF, hFF⟩ : ∃ F : World → Prop, (∀ w', F w' ↔ w'.cell? ⟨w.heap.size, 0, none⟩ = some (.pointer (some ⟨P, 0, none⟩)) ∧ w'.cell? ⟨P, 4, none⟩ = some (.slice Ae s.eqs.length ce) ∧ w'.cell? ⟨w.heap.size + 1, 0, none⟩ = some (.int .i64 a.var) ∧ w'.cell? ⟨w.heap.size + 1, 1, none⟩ = some (.int .u64 a.el.e0) ∧ w'.cell? ⟨w.heap.size + 1, 2, none⟩ = some (.int .u64 a.el.e1) ∧ w'.cell? ⟨w.heap.size + 1, 3, none⟩ = some (.int .u64 a.el.e2) ∧ w'.cell? ⟨w.heap.size + 1, 4, none⟩ = some (.int .u64 a.el.e3) ∧ w'.cell? ⟨w.heap.size + 1, 5, none⟩ = some (.int .u64 a.el.e4) ∧ w'.cell? ⟨w.heap.size + 1, 6, none⟩ = some (.int .u64 a.el.e5) ∧ w'.cell? ⟨w.heap.size + 1, 7, none⟩ = some (.int .u64 a.el.e6) ∧ w'.cell? ⟨w.heap.size + 1, 8, none⟩ = some (.int .u64 a.el.e7) ∧ w'.cell? ⟨w.heap.size + 1 + 1, 0, none⟩ = some (.int .i64 b.var) ∧ w'.cell? ⟨w.heap.size + 1 + 1, 1, none⟩ = some (.int .u64 b.el.e0) ∧ w'.cell? ⟨w.heap.size + 1 + 1, 2, none⟩ = some (.int .u64 b.el.e1) ∧ w'.cell? ⟨w.heap.size + 1 + 1, 3, none⟩ = some (.int .u64 b.el.e2) ∧ w'.cell? ⟨w.heap.size + 1 + 1, 4, none⟩ = some (.int .u64 b.el.e3) ∧ w'.cell? ⟨w.heap.size + 1 + 1, 5, none⟩ = some (.int .u64 b.el.e4) ∧ w'.cell? ⟨w.heap.size + 1 + 1, 6, none⟩ = some (.int .u64 b.el.e5) ∧ w'.cell? ⟨w.heap.size + 1 + 1, 7, none⟩ = some (.int .u64 b.el.e6) ∧ w'.cell? ⟨w.heap.size + 1 + 1, 8, none⟩ = some (.int .u64 b.el.e7)) ∧ ∀ u : HoldW F, u.w.cell? ⟨w.heap.size, 0, none⟩ = some (.pointer (some ⟨P, 0, none⟩)) ∧ u.w.cell? ⟨P, 4, none⟩ = some (.slice Ae s.eqs.length ce) ∧ u.w.cell? ⟨w.heap.size + 1, 0, none⟩ = some (.int .i64 a.var) ∧ u.w.cell? ⟨w.heap.size + 1, 1, none⟩ = some (.int .u64 a.el.e0) ∧ u.w.cell? ⟨w.heap.size + 1, 2, none⟩ = some (.int .u64 a.el.e1) ∧ u.w.cell? ⟨w.heap.size + 1, 3, none⟩ = some (.int .u64 a.el.e2) ∧ u.w.cell? ⟨w.heap.size + 1, 4, none⟩ = some (.int .u64 a.el.e3) ∧ u.w.cell? ⟨w.heap.size + 1, 5, none⟩ = some (.int .u64 a.el.e4) ∧ u.w.cell? ⟨w.heap.size + 1, 6, none⟩ = some (.int .u64 a.el.e5) ∧ u.w.cell? ⟨w.heap.size + 1, 7, none⟩ = some (.int .u64 a.el.e6) ∧ u.w.cell? ⟨w.heap.size + 1, 8, none⟩ = some (.int .u64 a.el.e7) ∧ u.w.cell? ⟨w.heap.size + 1 + 1, 0, none⟩ = some (.int .i64 b.var) ∧ u.w.cell? ⟨w.heap.size + 1 + 1, 1, none⟩ = some (.int .u64 b.el.e0) ∧ u.w.cell? ⟨w.heap.size + 1 + 1, 2, none⟩ = some (.int .u64 b.el.e1) ∧ u.w.cell? ⟨w.heap.size + 1 + 1, 3, none⟩ = some (.int .u64 b.el.e2) ∧ u.w.cell? ⟨w.heap.size + 1 + 1, 4, none⟩ = some (.int .u64 b.el.e3) ∧ u.w.cell? ⟨w.heap.size + 1 + 1, 5, none⟩ = some (.int .u64 b.el.e4) ∧ u.w.cell? ⟨w.heap.size + 1 + 1, 6, none⟩ = some (.int .u64 b.el.e5) ∧ u.w.cell? ⟨w.heap.size + 1 + 1, 7, none⟩ = some (.int .u64 b.el.e6) ∧ u.w.cell? ⟨w.heap.size + 1 + 1, 8, none⟩ = some (.int .u64 b.el.e7) := ⟨fun w' => w'.cell? ⟨w.heap.size, 0, none⟩ = some (.pointer (some ⟨P, 0, none⟩)) ∧ w'.cell? ⟨P, 4, none⟩ = some (.slice Ae s.eqs.length ce) ∧ w'.cell? ⟨w.heap.size + 1, 0, none⟩ = some (.int .i64 a.var) ∧ w'.cell? ⟨w.heap.size + 1, 1, none⟩ = some (.int .u64 a.el.e0) ∧ w'.cell? ⟨w.heap.size + 1, 2, none⟩ = some (.int .u64 a.el.e1) ∧ w'.cell? ⟨w.heap.size + 1, 3, none⟩ = some (.int .u64 a.el.e2) ∧ w'.cell? ⟨w.heap.size + 1, 4, none⟩ = some (.int .u64 a.el.e3) ∧ w'.cell? ⟨w.heap.size + 1, 5, none⟩ = some (.int .u64 a.el.e4) ∧ w'.cell? ⟨w.heap.size + 1, 6, none⟩ = some (.int .u64 a.el.e5) ∧ w'.cell? ⟨w.heap.size + 1, 7, none⟩ = some (.int .u64 a.el.e6) ∧ w'.cell? ⟨w.heap.size + 1, 8, none⟩ = some (.int .u64 a.el.e7) ∧ w'.cell? ⟨w.heap.size + 1 + 1, 0, none⟩ = some (.int .i64 b.var) ∧ w'.cell? ⟨w.heap.size + 1 + 1, 1, none⟩ = some (.int .u64 b.el.e0) ∧ w'.cell? ⟨w.heap.size + 1 + 1, 2, none⟩ = some (.int .u64 b.el.e1) ∧ w'.cell? ⟨w.heap.size + 1 + 1, 3, none⟩ = some (.int .u64 b.el.e2) ∧ w'.cell? ⟨w.heap.size + 1 + 1, 4, none⟩ = some (.int .u64 b.el.e3) ∧ w'.cell? ⟨w.heap.size + 1 + 1, 5, none⟩ = some (.int .u64 b.el.e4) ∧ w'.cell? ⟨w.heap.size + 1 + 1, 6, none⟩ = some (.int .u64 b.el.e5) ∧ w'.cell? ⟨w.heap.size + 1 + 1, 7, none⟩ = some (.int .u64 b.el.e6) ∧ w'.cell? ⟨w.heap.size + 1 + 1, 8, none⟩ = some (.int .u64 b.el.e7), fun _ => Iff.rfl, fun u => u.ok⟩
  have hu0 : ∀ u : HoldW F, u.w.cell? ⟨w.heap.size, 0, none⟩ = some (.pointer (some ⟨P, 0, none⟩)) := fun u => (hFF u).1
  have hu1 : ∀ u : HoldW F, u.w.cell? ⟨P, 4, none⟩ = some (.slice Ae s.eqs.length ce) := fun u => (hFF u).2.1
  have hu2 : ∀ u : HoldW F, u.w.cell? ⟨w.heap.size + 1, 0, none⟩ = some (.int .i64 a.var) := fun u => (hFF u).2.2.1
  have hu3 : ∀ u : HoldW F, u.w.cell? ⟨w.heap.size + 1, 1, none⟩ = some (.int .u64 a.el.e0) := fun u => (hFF u).2.2.2.1
  have hu4 : ∀ u : HoldW F, u.w.cell? ⟨w.heap.size + 1, 2, none⟩ = some (.int .u64 a.el.e1) := fun u => (hFF u).2.2.2.2.1
  have hu5 : ∀ u : HoldW F, u.w.cell? ⟨w.heap.size + 1, 3, none⟩ = some (.int .u64 a.el.e2) := fun u => (hFF u).2.2.2.2.2.1
  have hu6 : ∀ u : HoldW F, u.w.cell? ⟨w.heap.size + 1, 4, none⟩ = some (.int .u64 a.el.e3) := fun u => (hFF u).2.2.2.2.2.2.1
  have hu7 : ∀ u : HoldW F, u.w.cell? ⟨w.heap.size + 1, 5, none⟩ = some (.int .u64 a.el.e4) := fun u => (hFF u).2.2.2.2.2.2.2.1
  have hu8 : ∀ u : HoldW F, u.w.cell? ⟨w.heap.size + 1, 6, none⟩ = some (.int .u64 a.el.e5) := fun u => (hFF u).2.2.2.2.2.2.2.2.1
  have hu9 : ∀ u : HoldW F, u.w.cell? ⟨w.heap.size + 1, 7, none⟩ = some (.int .u64 a.el.e6) := fun u => (hFF u).2.2.2.2.2.2.2.2.2.1
  have hu10 : ∀ u : HoldW F, u.w.cell? ⟨w.heap.size + 1, 8, none⟩ = some (.int .u64 a.el.e7) := fun u => (hFF u).2.2.2.2.2.2.2.2.2.2.1
  have hu11 : ∀ u : HoldW F, u.w.cell? ⟨w.heap.size + 1 + 1, 0, none⟩ = some (.int .i64 b.var) := fun u => (hFF u).2.2.2.2.2.2.2.2.2.2.2.1
  have hu12 : ∀ u : HoldW F, u.w.cell? ⟨w.heap.size + 1 + 1, 1, none⟩ = some (.int .u64 b.el.e0) := fun u => (hFF u).2.2.2.2.2.2.2.2.2.2.2.2.1
  have hu13 : ∀ u : HoldW F, u.w.cell? ⟨w.heap.size + 1 + 1, 2, none⟩ = some (.int .u64 b.el.e1) := fun u => (hFF u).2.2.2.2.2.2.2.2.2.2.2.2.2.1
  have hu14 : ∀ u : HoldW F, u.w.cell? ⟨w.heap.size + 1 + 1, 3, none⟩ = some (.int .u64 b.el.e2) := fun u => (hFF u).2.2.2.2.2.2.2.2.2.2.2.2.2.2.1
  have hu15 : ∀ u : HoldW F, u.w.cell? ⟨w.heap.size + 1 + 1, 4, none⟩ = some (.int .u64 b.el.e3) := fun u => (hFF u).2.2.2.2.2.2.2.2.2.2.2.2.2.2.2.1
  have hu16 : ∀ u : HoldW F, u.w.cell? ⟨w.heap.size + 1 + 1, 5, none⟩ = some (.int .u64 b.el.e4) := fun u => (hFF u).2.2.2.2.2.2.2.2.2.2.2.2.2.2.2.2.1
  have hu17 : ∀ u : HoldW F, u.w.cell? ⟨w.heap.size + 1 + 1, 6, none⟩ = some (.int .u64 b.el.e5) := fun u => (hFF u).2.2.2.2.2.2.2.2.2.2.2.2.2.2.2.2.2.1
  have hu18 : ∀ u : HoldW F, u.w.cell? ⟨w.heap.size + 1 + 1, 7, none⟩ = some (.int .u64 b.el.e6) := fun u => (hFF u).2.2.2.2.2.2.2.2.2.2.2.2.2.2.2.2.2.2.1
  have hu19 : ∀ u : HoldW F, u.w.cell? ⟨w.heap.size + 1 + 1, 8, none⟩ = some (.int .u64 b.el.e7) := fun u => (hFF u).2.2.2.2.2.2.2.2.2.2.2.2.2.2.2.2.2.2.2
  have hFk : ∀ w', w'.heap[w.heap.size]? = W.heap[w.heap.size]? → w'.heap[P]? = W.heap[P]? → w'.heap[w.heap.size + 1]? = W.heap[w.heap.size + 1]? → w'.heap[w.heap.size + 1 + 1]? = W.heap[w.heap.size + 1 + 1]? → F w' := fun w' h0 h1 h2 h3 => by
    have xa := h2.trans HX.out.2.2.2.2.1
    have xb := h3.trans HX.out.2.2.2.2.2
    rw [hF]
    refine ⟨(World.cell?_of_block h0).trans HX.out.2.2.1.cell, (World.cell?_of_block h1).trans HX.out.1.cells.2.2.2.2.1, ?_⟩
    simp only [cell_block xa, cell_block xb]
    simp
  refine wp_region_chain [0, 1, 2, 3, 4, 5, 6, 7, 8] [(9, true), (10, true), (11, false), (12, false), (13, false)] F (by kernel_rfl) (by kernel_rfl) (fun _ _ _ _ _ h => h) (hFk _ rfl rfl rfl rfl) ?_
  intro hne
  simp only [picks, picksW, List.filterMap_cons, List.filterMap_nil, List.getElem?_cons_zero, List.getElem?_cons_succ, Option.map_some]
  repeat (refine wpHeld_step (fun K hK => ?_); go_simp; refine hK _ ?_; clear hK K)
  refine wpHeld_nil ?_
  clear hu0 hu1 hu2 hu3 hu4 hu5 hu6 hu7 hu8 hu9 hu10 hu11 hu12 hu13 hu14 hu15 hu16 hu17 hu18 hu19 hne hFF
  have HK := hide (And.intro hFk hF)
  clear hFk hF
  have hlt := HX.out.1.lt
  have hl0 := blk_lt HX.out.2.2.1
  have hl1 := blk_lt HX.out.2.2.2.2.1
  have hl2 := blk_lt HX.out.2.2.2.2.2
  have HL := hide (And.intro hlt (And.intro hl0 (And.intro hl1 hl2)))
  clear hlt hl0 hl1 hl2
  refine wpChain_cons fun K hK => ?_
  go_wp2_with fail
  have hba : Below W.drew.heap.size W.drew (W.drew.alloc (.cells #[.int .i64 a.var, .int .u64 a.el.e0, .int .u64 a.el.e1, .int .u64 a.el.e2, .int .u64 a.el.e3, .int .u64 a.el.e4, .int .u64 a.el.e5, .int .u64 a.el.e6, .int .u64 a.el.e7, .int .i64 b.var, .int .u64 b.el.e0, .int .u64 b.el.e1, .int .u64 b.el.e2, .int .u64 b.el.e3, .int .u64 b.el.e4, .int .u64 b.el.e5, .int .u64 b.el.e6, .int .u64 b.el.e7, .int .u64 (y.toNat : Nat)] 52)) := below_laid W.drew _
  refine chainF (fun _ => HK.out.1 _ (hba.block _ HL.out.2.1) (hba.block _ HL.out.1) (hba.block _ HL.out.2.2.1) (hba.block _ HL.out.2.2.2)) (hK _ _ ?_)
  clear hK K
  have hxa := HX.out.1.drew.below hba
  have hsd := HX.out.2.1.below (w2 := W.drew) (below_drewN (Below.refl _ _) 1)
  have hsa := hsd.1.below hba
  have HA := hide (And.intro hxa (And.intro hsa (And.intro hsd.2 hba)))
  clear hxa hba hsd hsa
  refine wpChain_cons fun K hK => ?_
  refine app_rowz rfl (.tmp 18) (.tmp 23) 45 45 rfl 52 i1 _ 19 152 Tryz.underlying45 hj hy0 hy1 hy2 rfl (.slice Ae s.eqs.length ce) s.eqs.length (eqnsV s.eqs) rfl HA.out.1.eqs _ 1 [.int .i64 a.var, .int .u64 a.el.e0, .int .u64 a.el.e1, .int .u64 a.el.e2, .int .u64 a.el.e3, .int .u64 a.el.e4, .int .u64 a.el.e5, .int .u64 a.el.e6, .int .u64 a.el.e7, .int .i64 b.var, .int .u64 b.el.e0, .int .u64 b.el.e1, .int .u64 b.el.e2, .int .u64 b.el.e3, .int .u64 b.el.e4, .int .u64 b.el.e5, .int .u64 b.el.e6, .int .u64 b.el.e7, .int .u64 (y.toNat : Nat)] rfl (eq_news (heap_alloc_new W.drew _)) (by unfold maxLen; omega) (by omega) ?_
  intro A' c' w' hr hg hob
  have hxa := HA.out.1
  have hnb : (Value.slice A' (s.eqs.length + 1) c').ownBlock = (Value.slice Ae s.eqs.length ce).ownBlock ∨ ∃ k, (Value.slice A' (s.eqs.length + 1) c').ownBlock = some k ∧ (W.drew.alloc (.cells #[.int .i64 a.var, .int .u64 a.el.e0, .int .u64 a.el.e1, .int .u64 a.el.e2, .int .u64 a.el.e3, .int .u64 a.el.e4, .int .u64 a.el.e5, .int .u64 a.el.e6, .int .u64 a.el.e7, .int .i64 b.var, .int .u64 b.el.e0, .int .u64 b.el.e1, .int .u64 b.el.e2, .int .u64 b.el.e3, .int .u64 b.el.e4, .int .u64 b.el.e5, .int .u64 b.el.e6, .int .u64 b.el.e7, .int .u64 (y.toNat : Nat)] 52)).heap.size ≤ k := hob.imp id fun e => ⟨_, e, Nat.le_refl _⟩
  have hkk : ∀ k, k < (W.drew.alloc (.cells #[.int .i64 a.var, .int .u64 a.el.e0, .int .u64 a.el.e1, .int .u64 a.el.e2, .int .u64 a.el.e3, .int .u64 a.el.e4, .int .u64 a.el.e5, .int .u64 a.el.e6, .int .u64 a.el.e7, .int .i64 b.var, .int .u64 b.el.e0, .int .u64 b.el.e1, .int .u64 b.el.e2, .int .u64 b.el.e3, .int .u64 b.el.e4, .int .u64 b.el.e5, .int .u64 b.el.e6, .int .u64 b.el.e7, .int .u64 (y.toNat : Nat)] 52)).heap.size → (Value.slice Ae s.eqs.length ce).ownBlock ≠ some k → w'.heap[k]? = (W.drew.alloc (.cells #[.int .i64 a.var, .int .u64 a.el.e0, .int .u64 a.el.e1, .int .u64 a.el.e2, .int .u64 a.el.e3, .int .u64 a.el.e4, .int .u64 a.el.e5, .int .u64 a.el.e6, .int .u64 a.el.e7, .int .i64 b.var, .int .u64 b.el.e0, .int .u64 b.el.e1, .int .u64 b.el.e2, .int .u64 b.el.e3, .int .u64 b.el.e4, .int .u64 b.el.e5, .int .u64 b.el.e6, .int .u64 b.el.e7, .int .u64 (y.toNat : Nat)] 52)).heap[k]? := fun k hb hne => hg.block k hb fun e => hne e.symm
  have hnew := hxa.newE (es' := s.eqs ++ [⟨a, b, y⟩]) (v' := .slice A' (s.eqs.length + 1) c') hg.size hkk (by rw [List.length_append, eqnsV_snoc]; exact hr) hnb HA.out.2.1.1.ge
  have hPw : w'.heap[P]? = (W.drew.alloc (.cells #[.int .i64 a.var, .int .u64 a.el.e0, .int .u64 a.el.e1, .int .u64 a.el.e2, .int .u64 a.el.e3, .int .u64 a.el.e4, .int .u64 a.el.e5, .int .u64 a.el.e6, .int .u64 a.el.e7, .int .i64 b.var, .int .u64 b.el.e0, .int .u64 b.el.e1, .int .u64 b.el.e2, .int .u64 b.el.e3, .int .u64 b.el.e4, .int .u64 b.el.e5, .int .u64 b.el.e6, .int .u64 b.el.e7, .int .u64 (y.toNat : Nat)] 52)).heap[P]? := hkk P hxa.lt hxa.ne.1.2.2.2.2
  have hkp : Kp (OnB P g) (W.drew.alloc (.cells #[.int .i64 a.var, .int .u64 a.el.e0, .int .u64 a.el.e1, .int .u64 a.el.e2, .int .u64 a.el.e3, .int .u64 a.el.e4, .int .u64 a.el.e5, .int .u64 a.el.e6, .int .u64 a.el.e7, .int .i64 b.var, .int .u64 b.el.e0, .int .u64 b.el.e1, .int .u64 b.el.e2, .int .u64 b.el.e3, .int .u64 b.el.e4, .int .u64 b.el.e5, .int .u64 b.el.e6, .int .u64 b.el.e7, .int .u64 (y.toNat : Nat)] 52)) (w'.setCell ⟨P, 4, none⟩ (.slice A' (s.eqs.length + 1) c')) :=
    ((Kp.refl _ _).grown hg fun k hb => .inl (.inr (.inr (.inr (.inr (.inr (by rw [← hxa.bl.2.2.2.2]; exact hb))))))).setCell (.inl (.inl rfl)) _
  have hgn : Gn (W.drew.alloc (.cells #[.int .i64 a.var, .int .u64 a.el.e0, .int .u64 a.el.e1, .int .u64 a.el.e2, .int .u64 a.el.e3, .int .u64 a.el.e4, .int .u64 a.el.e5, .int .u64 a.el.e6, .int .u64 a.el.e7, .int .i64 b.var, .int .u64 b.el.e0, .int .u64 b.el.e1, .int .u64 b.el.e2, .int .u64 b.el.e3, .int .u64 b.el.e4, .int .u64 b.el.e5, .int .u64 b.el.e6, .int .u64 b.el.e7, .int .u64 (y.toNat : Nat)] 52)) g { g with e := (Value.slice A' (s.eqs.length + 1) c').ownBlock } := by
    refine ⟨.inl rfl, .inl rfl, .inl rfl, .inl rfl, ?_⟩
    rcases hnb with e | ⟨k, e, hb⟩
    · exact .inl (e.trans hxa.bl.2.2.2.2)
    · exact .inr ⟨k, e, hb⟩
  obtain ⟨hS6, hK6⟩ := HA.out.2.1.1.stepG ⟨_, _, _, _, _, _, _, hnew⟩ hkp hgn
  have hpp := HA.out.2.1.2.pbox (HA.out.2.2.1.pbox HX.out.2.2.1)
  have hp6 := hK6.pbox hpp
  have hi6 := hK6.ibox (HA.out.2.1.2.ibox (HA.out.2.2.1.ibox HX.out.2.2.2.1))
  have hF6 : F w' := by
    have ga := (HA.out.2.2.2.block _ HL.out.2.2.1).trans HX.out.2.2.2.2.1
    have gb := (HA.out.2.2.2.block _ HL.out.2.2.2).trans HX.out.2.2.2.2.2
    exact HK.out.1 _ ((hkk _ (blk_lt hpp) (RowZ.ne_type hxa.eqs hpp (by decide))).trans (HA.out.2.2.2.block _ HL.out.2.1)) (hPw.trans (HA.out.2.2.2.block _ HL.out.1))
      ((hkk _ (blk_lt ga) (RowZ.ne_type hxa.eqs ga (by decide))).trans (HA.out.2.2.2.block _ HL.out.2.2.1)) ((hkk _ (blk_lt gb) (RowZ.ne_type hxa.eqs gb (by decide))).trans (HA.out.2.2.2.block _ HL.out.2.2.2))
  have q1 : w'.cell? ⟨P, 4, none⟩ = some (.slice Ae s.eqs.length ce) := (World.cell?_of_block hPw).trans hxa.cells.2.2.2.2.1
  have q2 : w'.frozen? ⟨P, 4, none⟩ = false := (World.frozen?_of_block hPw).trans (hxa.free 4)
  have HF := hide (And.intro hS6 (And.intro hp6 hi6))
  refine chainF (fun _ => hF6) (hK _ _ ?_)
  clear hr hg hob hxa hkk hnew hPw hkp hnb hgn hS6 hK6 hp6 hi6 hF6 hpp hK K
  refine wpChain_cons fun K hK => ?_
  go_wp2_with fail
  refine chainSkip (hK _ _ ?_)
  clear hK K
  refine wpChain_cons fun K hK => ?_
  go_wp2_with fail
  refine chainSkip (hK _ _ ?_)
  clear hK K
  refine wpChain_cons fun K hK => ?_
  go_wp2_with fail
  refine chainSkip (hK _ _ ?_)
  clear hK K
  refine wpChain_nil ?_
  clear q1 q2
  generalize w'.setCell ⟨P, 4, none⟩ (.slice A' (s.eqs.length + 1) c') = Y at *
  have y0 := HF.out.2.1.cell
  have HD := hide (did_any P B _ (.func 98) #[.pointer (some ⟨w.heap.size, 0, none⟩), .pointer (some ⟨w.heap.size + 1 + 1 + 1, 0, none⟩)] (.cutEqs s.eqs.length) _ Y HF.out.1.tb ⟨w.heap.size, w.heap.size + 1 + 1 + 1, rfl, HF.out.2.1, HF.out.2.2.1, HF.out.2.2.2⟩ HF.out.1.ge hu)
  go_wp2_with (go_at_call 47; refine (HD.out).mono ?_; rintro e w6 ⟨⟨rfl, hS⟩, _⟩; obtain ⟨g7, hS7, hK7⟩ := HF.out.1.step hS; have HE := hide hS7; clear hS hS7 hK7)
  go_end0
  exact ⟨rfl, HE.out.stp⟩
end Go.Proofs.YthnbhcfpfbimgaaGreat
