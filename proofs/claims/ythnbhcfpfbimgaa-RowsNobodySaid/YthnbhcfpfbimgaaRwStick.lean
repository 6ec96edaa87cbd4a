/- The walk of stick: the table is stuck, for a reason. -/
import Derived.Test.YthnbhcfpfbimgaaRwVar
namespace Go.Proofs.Ythnbhcfpfbimgaa
open Go.RowKit
open Rw (El At Fld Lk Eqn U T W64)

set_option maxRecDepth 100000 in
set_option maxHeartbeats 2000000 in
theorem stick_any (P B : Nat) (g : Bl) (s : T) (y : W64) (w : World) (h : Tb w B P g s) (hB : B ≤ w.heap.size) (hu : s.undo.length ≤ 1000000000) :
    Calls Try.prog 52 #[.pointer (some ⟨P, 0, none⟩), whyV y] w fun e w' => RetS (.bool false) w B P g (s.stick y) e w' := by
  have hmf := @makes Try.prog
  have hbb := below_laid w (.cells #[.pointer (some ⟨P, 0, none⟩)] 39)
  obtain ⟨hS0, hK0⟩ := (Sg.refl h hB).below hbb
  have hp0 : PBox (w.alloc (.cells #[.pointer (some ⟨P, 0, none⟩)] 39)) P w.heap.size := heap_alloc_new w _
  have k0 := hp0.cell
  obtain ⟨vu, vt, vr, vo, ve, vs, fs, hx⟩ := hS0.tb
  have c5 : (w.alloc (.cells #[.pointer (some ⟨P, 0, none⟩)] 39)).cell? ⟨P, 5, none⟩ = some (.bool s.stuck) := by rw [cell_block hx.self]; rfl
  have c6 : (w.alloc (.cells #[.pointer (some ⟨P, 0, none⟩)] 39)).cell? ⟨P, 6, none⟩ = some (whyV s.why) := by rw [cell_block hx.self]; rfl
  have f5 := hx.free 5
  have f6 := hx.free 6
  have hP : P < w.heap.size := by obtain ⟨_, _, _, _, _, _, _, hx⟩ := h; exact hx.lt
  have HX := hide (And.intro hx (And.intro hS0 hp0))
  clear h hB hbb hS0 hK0 hp0 hx
  unfold whyV at *
  go_enter Try.func52, Try.ntmps52
  cases hst : s.stuck with
  | true =>
    rw [hst] at c5
    go_wp2_with fail
    go_ret
    refine ⟨rfl, ?_⟩
    rw [show s.stick y = s by simp [Rw.T.stick, hst]]
    exact HX.out.2.1.stp
  | false =>
    rw [hst] at c5
    go_upto_region 2 with (fail)
    generalize hW : w.alloc (.cells #[.pointer (some ⟨P, 0, none⟩)] 39) = W at *
    refine wp_region_chain [0, 1, 2] [(3, true), (4, true), (5, true), (6, false), (7, false), (8, false)] (fun w' => w'.cell? ⟨w.heap.size, 0, none⟩ = some (.pointer (some ⟨P, 0, none⟩))) (by kernel_rfl) (by kernel_rfl) (fun _ _ _ _ _ h => h) k0 ?_
    intro hne
    simp only [picks, picksW, List.filterMap_cons, List.filterMap_nil, List.getElem?_cons_zero, List.getElem?_cons_succ, Option.map_some]
    have hu0 : ∀ u : HoldW (fun w' => w'.cell? ⟨w.heap.size, 0, none⟩ = some (.pointer (some ⟨P, 0, none⟩))), u.w.cell? ⟨w.heap.size, 0, none⟩ = some (.pointer (some ⟨P, 0, none⟩)) := fun u => u.ok
    repeat (refine wpHeld_step (fun K hK => ?_); go_simp; refine hK _ ?_; clear hK K)
    refine wpHeld_nil ?_
    clear hu0 hne
    have hw := (HX.out.1.setWhy true y).drew
    have hkp : Kp (OnB P g) W ((W.setCell ⟨P, 5, none⟩ (.bool true)).setCell ⟨P, 6, none⟩ (whyV y)).drew := (((Kp.refl _ _).setCell (.inl (.inl rfl)) _).setCell (.inl (.inl rfl)) _).drew
    obtain ⟨hS6, hK6⟩ := HX.out.2.1.stepG ⟨_, _, _, _, _, _, _, hw⟩ hkp (Gn.refl _ _)
    have hp6 := hK6.pbox HX.out.2.2
    have f6' : (W.drew.setCell ⟨P, 5, none⟩ (.bool true)).frozen? ⟨P, 6, none⟩ = false := by simpa using f6
    have HF := hide (And.intro hS6 hp6)
    clear hw hkp hS6 hK6 hp6
    unfold whyV at HF
    have k5 : (W.drew.setCell ⟨P, 5, none⟩ (.bool true)).cell? ⟨w.heap.size, 0, none⟩ = some (.pointer (some ⟨P, 0, none⟩)) := (World.cell?_of_block (Below.heap_setCell _ _ _ _ (show w.heap.size ≠ P by omega))).trans k0
    refine wpChain_cons fun K hK => ?_
    go_wp2_with fail
    refine chainF (fun _ => k0) (hK _ _ ?_)
    clear hK K
    refine wpChain_cons fun K hK => ?_
    go_wp2_with fail
    refine chainF (fun _ => k0) (hK _ _ ?_)
    clear hK K
    refine wpChain_cons fun K hK => ?_
    go_wp2_with fail
    refine chainF (fun _ => k5) (hK _ _ ?_)
    clear hK K k5
    repeat (refine wpChain_cons fun K hK => ?_; go_wp2_with fail; refine chainSkip (hK _ _ ?_); clear hK K)
    refine wpChain_nil ?_
    clear f5 f6 f6' k0 c5 c6
    generalize ((W.setCell ⟨P, 5, none⟩ (.bool true)).setCell ⟨P, 6, none⟩ (.int .u64 (y.toNat : Nat))).drew = Y at *
    have y0 := HF.out.2.cell
    have HD := hide (did_any P B _ (.func 74) #[.pointer (some ⟨w.heap.size, 0, none⟩)] .unstick _ Y HF.out.1.tb ⟨w.heap.size, rfl, HF.out.2⟩ HF.out.1.ge hu)
    go_wp2_with (go_at_call 47; refine (HD.out).mono ?_; rintro e w6 ⟨⟨rfl, hS⟩, _⟩; obtain ⟨g7, hS7, hK7⟩ := HF.out.1.step hS; have HE := hide hS7; clear hS hS7 hK7)
    go_ret
    refine ⟨rfl, ?_⟩
    rw [show s.stick y = ({ s with stuck := true, why := y } : T).did .unstick by simp [Rw.T.stick, hst]]
    exact HE.out.stp
end Go.Proofs.Ythnbhcfpfbimgaa
