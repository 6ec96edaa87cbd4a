/- The walk of from: one node and all that it leads to. -/
import Derived.Test.YtgmppddlgbkjmaaKnFrom0
import Derived.Deep.LoopGhost
import Derived.BigQuiet
import Derived.BigRegion
namespace Go.Proofs.Ytgmppddlgbkjmaa
open Go.RowKit
open Kn (Sd mu)

set_option maxRecDepth 100000 in
set_option maxHeartbeats 8000000 in
theorem from_any (i : Nat) (s0 : Kn.St) (w : World) {B : Nat} {a : At} {Ag : Option Addr} {n cg : Nat} {vs vo : Value} {s : Kn.St} {g : Kn.G} (h : Wk w B a Ag n cg vs vo s) (hB : B ≤ w.heap.size) (hG : HasG w B Ag n g) (hS : Sd g s) (hi : i < n) (h0 : s.order.getD i 0 = 0) (hn : n ≤ 1000000) (hA : ∀ i, (Kn.arcs g i).length ≤ 9223372036854775807) (hs0 : s.enter i = s0) :
    Calls Try.prog 17 #[.pointer (some ⟨a.P, 0, none⟩), .int .i64 i] w fun e w' => e = .returned (.tuple #[]) ∧
      (∃ vs' vo' m, Wk w' B a Ag n cg vs' vo' (Kn.steps g m s0) ∧ (Kn.steps g m s0).opn = [] ∧ Sd g (Kn.steps g m s0)) ∧ Below B w w' := by
  obtain ⟨bg, og, rfl, hbg, _⟩ := hG.2 (by omega)
  have hgl := hG.1
  have H := hide (And.intro h (And.intro hB (And.intro hG (And.intro hS (And.intro hi (And.intro h0 hn))))))
  have hS0 := hS.enter (by omega) h0
  rw [hs0] at hS0
  have HS0 := hide hS0
  have HE := hide (enter_any i w h hB hi (by rw [hS.lo, hgl]) (by rw [hS.ll, hgl]) (by rw [hS.ln, hgl]) (by have := hS.time_le; omega) (by have := hS.stack_le; omega) (by have := hS.opn_le; omega))
  rw [hs0] at HE
  have HA := hide hA
  have HBG := hide hbg
  clear h hB hG hS h0 hgl hS0 hs0 hA hbg
  go_enter Try.func17, Try.ntmps17
  go_wp2
  go_step3
  go_wp2_with (go_at_call 22; refine (HE.out).mono ?_; rintro e w1 ⟨rfl, ⟨vs1, vo1, hW1⟩, hb1⟩)
  go_step3
  have hsz1 : B ≤ w1.heap.size := Nat.le_trans H.out.2.1 hb1.size
  have H1 := hide (And.intro hW1 (And.intro hb1 hsz1))
  clear hW1 hb1 hsz1 HE
  go_wp2_with fail
  go_loopg [] (mu g s0) (fun gk wr => ∃ m vs' vo', Wk wr B a (some ⟨bg, og, none⟩) n cg vs' vo' (Kn.steps g m s0) ∧ Sd g (Kn.steps g m s0) ∧ Below B w wr ∧ B ≤ wr.heap.size ∧ mu g (Kn.steps g m s0) ≤ gk)
  case atStart => exact ⟨0, vs1, vo1, H1.out.1, HS0.out, H1.out.2.1, H1.out.2.2, Nat.le_refl _⟩
  case round =>
    obtain ⟨m, vs2, vo2, hW, hSd, hbl, hsz, hmu⟩ := hrel
    generalize hst : Kn.steps g m s0 = s' at *
    obtain ⟨A2, c2, rfl, hco, hcom⟩ := RowZ.form hW.op
    obtain ⟨k0, k1, k2, k3, k4, k5, k6, k7⟩ := hW.cells
    have HST := hide hst
    cases hop : s'.opn with
    | nil =>
      have hz : s'.opn.length = 0 := by rw [hop]; rfl
      have HW := hide (And.intro hW (And.intro hSd (And.intro hbl hop)))
      generalize s'.opn.length = L at *
      subst hz
      clear hW hSd hbl hsz hmu hop hco k0 k1 k2 k3 k4 k6 k7 hcom
      go_wp2_with fail
      rw [Exit.noGoto_normal]
      change bodyPost _ _ _ _ _ _
      go_end0
      have hz := HW.out
      rw [← HST.out] at hz
      exact ⟨rfl, ⟨_, _, m, hz.1, hz.2.2.2, hz.2.1⟩, hz.2.2.1⟩
    | cons f r =>
      obtain ⟨at_, nx⟩ := f
      obtain ⟨b, rfl⟩ := RowZ.addr hW.op (by rw [hop]; simp)
      obtain ⟨t0, t1⟩ := hW.top hop
      obtain ⟨hon, hat⟩ := hSd.open_lt (f := (at_, nx)) (by rw [hop]; simp)
      have hatn : at_ < n := by have := H.out.2.2.1.1; omega
      have hL : s'.opn.length = r.length + 1 := by rw [hop]; rfl
      have hLn : s'.opn.length ≤ n := by have := hSd.opn_le; have := H.out.2.2.1.1; omega
      have HW := hide (And.intro hW (And.intro hSd (And.intro hbl (And.intro hsz (And.intro hmu hop)))))
      generalize s'.opn.length = L at *
      generalize hR : r.length = R at *
      have hL0 : (0 : Int) < L := by omega
      have hwr : IntKind.i64.wrap ((L : Int) - 1) = (R : Int) := by rw [IntWalk.i64_in _ (by omega)]; omega
      have hR0 : (0 : Int) ≤ R := by omega
      have hR1 : (R : Int) < L := by omega
      have HL := hide (And.intro hL hR)
      have HLN := hide hLn
      clear hW hSd hbl hsz hmu hop hR hon hL hat
      go_upto_region 2 with (fail)
      refine wp_region_chain [0, 1, 2, 3, 4, 5, 6, 7, 8, 9, 10, 11] [] (fun w' => w'.cell? ⟨a.P, 5, none⟩ = some (.slice (some ⟨b, 0, none⟩) L c2)) (by kernel_rfl) (by kernel_rfl) (fun _ _ _ _ _ h => h) k5 ?_
      intro hne
      simp only [picks, picksW, List.filterMap_cons, List.filterMap_nil, List.getElem?_cons_zero, List.getElem?_cons_succ]
      have hu : ∀ u : HoldW (fun w' => w'.cell? ⟨a.P, 5, none⟩ = some (.slice (some ⟨b, 0, none⟩) L c2)), u.w.cell? ⟨a.P, 5, none⟩ = some (.slice (some ⟨b, 0, none⟩) L c2) := fun u => u.ok
      repeat (refine wpHeld_step (fun K hK => ?_); go_simp; refine hK _ ?_; clear hK K)
      refine wpHeld_nil ?_
      clear hu hne
      refine wpChain_nil ?_
      have hW2 : Wk wr.drew B a (some ⟨bg, og, none⟩) n cg vs2 (.slice (some ⟨b, 0, none⟩) L c2) s' := HW.out.1.below (below_drewN (Below.refl _ wr) 1)
      have hb2 : Below B w wr.drew := below_drewN HW.out.2.2.1 1
      have hs2 : B ≤ wr.drew.heap.size := HW.out.2.2.2.1
      have t2 : wr.drew.cell? ⟨b, R * 2, none⟩ = some (.int .i64 (at_ : Nat)) := t0
      clear k0 k1 k2 k3 k4 k5 k6 k7 t0 t1 hwr hR0 hR1 hLn
      generalize wr.drew = W at *
      go_wp2_with fail
      obtain ⟨Ai, ci, hrc, hrx⟩ := (H.out.2.2.1.row hatn).2
      have hlab := HA.out at_
      generalize hla : (Kn.arcs g at_).length = la at *
      have HR := hide (And.intro hrc (And.intro hrx hla))
      have HW2 := hide (And.intro hW2 (And.intro hb2 hs2))
      clear hrc hrx hla hW2 hb2 hs2 t2
      go_loopg [] (mu g s') (fun gi wr => ∃ m nx, Wk wr B a (some ⟨bg, og, none⟩) n cg vs2 (.slice (some ⟨b, 0, none⟩) L c2) (Kn.steps g m s0) ∧ Sd g (Kn.steps g m s0) ∧ Below B w wr ∧ B ≤ wr.heap.size ∧ mu g (Kn.steps g m s0) ≤ gi ∧ mu g (Kn.steps g m s0) ≤ gk ∧ (Kn.steps g m s0).opn = (at_, nx) :: r)
      case atStart => exact ⟨m, nx, by rw [HST.out]; exact HW2.out.1, by rw [HST.out]; exact HW.out.2.1, HW2.out.2.1, HW2.out.2.2, by rw [HST.out]; exact Nat.le_refl _, by rw [HST.out]; exact HW.out.2.2.2.2.1, by rw [HST.out]; exact HW.out.2.2.2.2.2⟩
      case round =>
        rename Nat => gi
        clear HW HW2 HST
        obtain ⟨m, nx, hW, hSd, hbl, hsz, hmu, hmu2, hop⟩ := hrel
        generalize hst : Kn.steps g m s0 = s' at *
        have HW := hide (And.intro hW (And.intro hSd (And.intro hbl (And.intro hsz (And.intro hmu (And.intro hmu2 hop))))))
        have HST := hide hst
        obtain ⟨k0, k1, k2, k3, k4, k5, k6, k7⟩ := hW.cells
        obtain ⟨t0, t1⟩ := hW.top hop
        rw [HL.out.2] at t0 t1
        have hrc := (hbl.cell (p := ⟨bg, og + at_, none⟩) HBG.out).trans HR.out.1
        have hnla : nx ≤ la := by have h1 : nx ≤ (Kn.arcs g at_).length := hSd.frames (at_, nx) (by rw [hop]; simp); have := HR.out.2.2; omega
        clear hW hSd hbl hsz hmu hmu2 hop hst
        by_cases hnx : (nx : Int) < la
        · obtain ⟨bi, oi, rfl, hbi, hxs⟩ := HR.out.2.1 (by omega)
          obtain ⟨x, hx⟩ : ∃ x, (Kn.arcs g at_)[nx]? = some x := ⟨_, List.getElem?_eq_getElem (by have := HR.out.2.2; omega)⟩
          have hxc := (HW.out.2.2.1.cell (p := ⟨bi, oi + nx, none⟩) hbi).trans (hxs nx x hx)
          have HX := hide hx
          clear hx hxs
          go_upto_region 4 with (fail)
          refine wp_region_chain [0, 1, 2, 3, 4, 5, 6, 7, 8, 9, 10, 11, 12] [] (fun w' => w'.cell? ⟨b, R * 2 + 1, none⟩ = some (.int .i64 (nx : Nat)) ∧ w'.cell? ⟨a.P, 0, none⟩ = some (.slice (some ⟨bg, og, none⟩) n cg) ∧ w'.cell? ⟨bg, og + at_, none⟩ = some (.slice (some ⟨bi, oi, none⟩) la ci)) (by kernel_rfl) (by kernel_rfl) (fun _ _ _ _ _ h => h) (by exact ⟨t1, k0, hrc⟩) ?_
          intro hne
          simp only [picks, picksW, List.filterMap_cons, List.filterMap_nil, List.getElem?_cons_zero, List.getElem?_cons_succ]
          have hu0 : ∀ u : HoldW (fun w' => w'.cell? ⟨b, R * 2 + 1, none⟩ = some (.int .i64 (nx : Nat)) ∧ w'.cell? ⟨a.P, 0, none⟩ = some (.slice (some ⟨bg, og, none⟩) n cg) ∧ w'.cell? ⟨bg, og + at_, none⟩ = some (.slice (some ⟨bi, oi, none⟩) la ci)), u.w.cell? ⟨b, R * 2 + 1, none⟩ = some (.int .i64 (nx : Nat)) := fun u => u.ok.1
          have hu1 : ∀ u : HoldW (fun w' => w'.cell? ⟨b, R * 2 + 1, none⟩ = some (.int .i64 (nx : Nat)) ∧ w'.cell? ⟨a.P, 0, none⟩ = some (.slice (some ⟨bg, og, none⟩) n cg) ∧ w'.cell? ⟨bg, og + at_, none⟩ = some (.slice (some ⟨bi, oi, none⟩) la ci)), u.w.cell? ⟨a.P, 0, none⟩ = some (.slice (some ⟨bg, og, none⟩) n cg) := fun u => u.ok.2.1
          have hu2 : ∀ u : HoldW (fun w' => w'.cell? ⟨b, R * 2 + 1, none⟩ = some (.int .i64 (nx : Nat)) ∧ w'.cell? ⟨a.P, 0, none⟩ = some (.slice (some ⟨bg, og, none⟩) n cg) ∧ w'.cell? ⟨bg, og + at_, none⟩ = some (.slice (some ⟨bi, oi, none⟩) la ci)), u.w.cell? ⟨bg, og + at_, none⟩ = some (.slice (some ⟨bi, oi, none⟩) la ci) := fun u => u.ok.2.2
          repeat (refine wpHeld_step (fun K hK => ?_); go_simp; refine hK _ ?_; clear hK K)
          refine wpHeld_nil ?_
          clear hu0 hu1 hu2 hne
          refine wpChain_nil ?_
          go_upto_region 5 with (fail)
          refine wp_region_chain [0, 1, 2, 3, 4, 5, 6, 7, 8, 9, 10, 11, 12, 13] [] (fun w' => w'.cell? ⟨b, R * 2 + 1, none⟩ = some (.int .i64 (nx : Nat)) ∧ w'.cell? ⟨a.P, 0, none⟩ = some (.slice (some ⟨bg, og, none⟩) n cg) ∧ w'.cell? ⟨bg, og + at_, none⟩ = some (.slice (some ⟨bi, oi, none⟩) la ci) ∧ w'.cell? ⟨bi, oi + nx, none⟩ = some (.int .i64 x)) (by kernel_rfl) (by kernel_rfl) (fun _ _ _ _ _ h => h) (by exact ⟨t1, k0, hrc, hxc⟩) ?_
          intro hne
          simp only [picks, picksW, List.filterMap_cons, List.filterMap_nil, List.getElem?_cons_zero, List.getElem?_cons_succ]
          have hu0 : ∀ u : HoldW (fun w' => w'.cell? ⟨b, R * 2 + 1, none⟩ = some (.int .i64 (nx : Nat)) ∧ w'.cell? ⟨a.P, 0, none⟩ = some (.slice (some ⟨bg, og, none⟩) n cg) ∧ w'.cell? ⟨bg, og + at_, none⟩ = some (.slice (some ⟨bi, oi, none⟩) la ci) ∧ w'.cell? ⟨bi, oi + nx, none⟩ = some (.int .i64 x)), u.w.cell? ⟨b, R * 2 + 1, none⟩ = some (.int .i64 (nx : Nat)) := fun u => u.ok.1
          have hu1 : ∀ u : HoldW (fun w' => w'.cell? ⟨b, R * 2 + 1, none⟩ = some (.int .i64 (nx : Nat)) ∧ w'.cell? ⟨a.P, 0, none⟩ = some (.slice (some ⟨bg, og, none⟩) n cg) ∧ w'.cell? ⟨bg, og + at_, none⟩ = some (.slice (some ⟨bi, oi, none⟩) la ci) ∧ w'.cell? ⟨bi, oi + nx, none⟩ = some (.int .i64 x)), u.w.cell? ⟨a.P, 0, none⟩ = some (.slice (some ⟨bg, og, none⟩) n cg) := fun u => u.ok.2.1
          have hu2 : ∀ u : HoldW (fun w' => w'.cell? ⟨b, R * 2 + 1, none⟩ = some (.int .i64 (nx : Nat)) ∧ w'.cell? ⟨a.P, 0, none⟩ = some (.slice (some ⟨bg, og, none⟩) n cg) ∧ w'.cell? ⟨bg, og + at_, none⟩ = some (.slice (some ⟨bi, oi, none⟩) la ci) ∧ w'.cell? ⟨bi, oi + nx, none⟩ = some (.int .i64 x)), u.w.cell? ⟨bg, og + at_, none⟩ = some (.slice (some ⟨bi, oi, none⟩) la ci) := fun u => u.ok.2.2.1
          have hu3 : ∀ u : HoldW (fun w' => w'.cell? ⟨b, R * 2 + 1, none⟩ = some (.int .i64 (nx : Nat)) ∧ w'.cell? ⟨a.P, 0, none⟩ = some (.slice (some ⟨bg, og, none⟩) n cg) ∧ w'.cell? ⟨bg, og + at_, none⟩ = some (.slice (some ⟨bi, oi, none⟩) la ci) ∧ w'.cell? ⟨bi, oi + nx, none⟩ = some (.int .i64 x)), u.w.cell? ⟨bi, oi + nx, none⟩ = some (.int .i64 x) := fun u => u.ok.2.2.2
          repeat (refine wpHeld_step (fun K hK => ?_); go_simp; refine hK _ ?_; clear hK K)
          refine wpHeld_nil ?_
          clear hu0 hu1 hu2 hu3 hne
          refine wpChain_nil ?_
          have hW2 := (HW.out.1.below (below_drewN (Below.refl _ wr) 1)).below (below_drewN (Below.refl _ wr.drew) 1)
          have hb2 : Below B w wr.drew.drew := below_drewN (below_drewN HW.out.2.2.1 1) 1
          have hs2 : B ≤ wr.drew.drew.heap.size := HW.out.2.2.2.1
          clear k0 k1 k2 k3 k4 k5 k6 k7 t0 t1 hrc hxc
          change (Wk wr.drew.drew _ _ _ _ _ _ _ _) at hW2
          generalize wr.drew.drew = W at *
          obtain ⟨t0, t1⟩ := hW2.top HW.out.2.2.2.2.2.2
          rw [HL.out.2] at t0 t1
          have tf := RowZ.free hW2.op (R * 2 + 1)
          obtain ⟨hSd1, hmu1⟩ := HW.out.2.1.next HW.out.2.2.2.2.2.2 (by have := HR.out.2.2; omega : nx < (Kn.arcs g at_).length)
          have hN := hW2.setNext HW.out.2.2.2.2.2.2 (nx + 1)
          rw [HL.out.2, show ((nx + 1 : Nat) : Int) = (nx : Int) + 1 by omega] at hN
          have hbN : Below B w (W.setCell ⟨b, R * 2 + 1, none⟩ (.int .i64 ((nx : Int) + 1))) := hb2.setCell (by exact hW2.geO b rfl) _
          have hsN : B ≤ (W.setCell ⟨b, R * 2 + 1, none⟩ (.int .i64 ((nx : Int) + 1))).heap.size := by simp [hs2]
          have hst1 : Kn.steps g (m + 1) s0 = ({ s' with opn := (at_, nx + 1) :: r } : Kn.St).arc g at_ x := by
            show (Kn.steps g m s0).step g = _
            rw [HST.out]
            exact step_arc HW.out.2.2.2.2.2.2 HX.out
          have hmu2 : mu g { s' with opn := (at_, nx + 1) :: r } < gi ∧ mu g { s' with opn := (at_, nx + 1) :: r } < gk := ⟨Nat.lt_of_lt_of_le hmu1 HW.out.2.2.2.2.1, Nat.lt_of_lt_of_le hmu1 HW.out.2.2.2.2.2.1⟩
          have HN := hide (And.intro hN (And.intro hbN (And.intro hsN (And.intro hSd1 (And.intro hmu2 hst1)))))
          clear hW2 hb2 hs2 t0 hSd1 hmu1 hN hbN hsN hst1 hmu2 HW HST HX
          go_upto_region 7 with (fail)
          generalize W.setCell ⟨b, R * 2 + 1, none⟩ (.int .i64 ((nx : Int) + 1)) = W1 at *
          generalize hs1 : ({ s' with opn := (at_, nx + 1) :: r } : Kn.St) = s1 at *
          have hop1 : s1.opn = (at_, nx + 1) :: r := by rw [← hs1]
          have HOP := hide hop1
          obtain ⟨c0, c1, c2', c3, c4, c5, c6, c7⟩ := HN.out.1.cells
          have hgl : g.length = n := H.out.2.2.1.1
          clear hs1 hop1
          by_cases hx0 : x < 0
          · have hmore : Kn.steps g (m + 1) s0 = s1 := by rw [HN.out.2.2.2.2.2]; unfold Kn.St.arc; rw [if_pos (.inl hx0)]
            have HM := hide hmore
            clear hmore hgl
            go_wp2_with fail
            go_roundg (mu g s1)
            case measure => exact HN.out.2.2.2.2.1.1
            case rel => exact ⟨m + 1, nx + 1, by rw [HM.out]; exact HN.out.1, by rw [HM.out]; exact HN.out.2.2.2.1, HN.out.2.1, HN.out.2.2.1, by rw [HM.out]; exact Nat.le_refl _, by rw [HM.out]; exact Nat.le_of_lt HN.out.2.2.2.2.1.2, by rw [HM.out]; exact HOP.out⟩
          · by_cases hxn : (n : Int) ≤ x
            · have hmore : Kn.steps g (m + 1) s0 = s1 := by rw [HN.out.2.2.2.2.2]; unfold Kn.St.arc; rw [if_pos (.inr (by rw [hgl]; exact hxn))]
              have HM := hide hmore
              clear hmore hgl
              go_wp2_with fail
              go_roundg (mu g s1)
              case measure => exact HN.out.2.2.2.2.1.1
              case rel => exact ⟨m + 1, nx + 1, by rw [HM.out]; exact HN.out.1, by rw [HM.out]; exact HN.out.2.2.2.1, HN.out.2.1, HN.out.2.2.1, by rw [HM.out]; exact Nat.le_refl _, by rw [HM.out]; exact Nat.le_of_lt HN.out.2.2.2.2.1.2, by rw [HM.out]; exact HOP.out⟩
            · obtain ⟨k, rfl⟩ : ∃ k : Nat, x = k := ⟨x.toNat, by omega⟩
              have hkn : k < n := by omega
              have hkn' : (k : Int) < n := by omega
              have hk0 : (0 : Int) ≤ k := by omega
              have hob := HN.out.1.order (i := k) (by rw [HN.out.2.2.2.1.lo, hgl]; exact hkn)
              have hnb := HN.out.1.onn (i := k) (by rw [HN.out.2.2.2.1.ln, hgl]; exact hkn)
              have harc : s1.arc g at_ k = if s1.order.getD k 0 = 0 then s1.enter k else if s1.on.getD k false = true then { s1 with low := s1.low.set at_ (min (s1.low.getD at_ 0) (s1.order.getD k 0)) } else s1 := by
                unfold Kn.St.arc
                rw [if_neg (by rw [hgl]; omega)]
                rfl
              generalize hd : s1.order.getD k 0 = d at *
              by_cases hd0 : d = 0
              · subst hd0
                have hmore : Kn.steps g (m + 1) s0 = s1.enter k := by rw [HN.out.2.2.2.2.2, harc, if_pos rfl]
                have HE := hide (enter_any k W1 HN.out.1 HN.out.2.2.1 hkn (by rw [HN.out.2.2.2.1.lo, hgl]) (by rw [HN.out.2.2.2.1.ll, hgl]) (by rw [HN.out.2.2.2.1.ln, hgl]) (by have := HN.out.2.2.2.1.time_le; omega) (by have := HN.out.2.2.2.1.stack_le; omega) (by have := HN.out.2.2.2.1.opn_le; omega))
                have HM := hide (And.intro hmore (And.intro (HN.out.2.2.2.1.enter (i := k) (by omega) hd) (Kn.mu_enter HN.out.2.2.2.1 (i := k) (by omega) hd)))
                clear hmore hgl harc hd hnb
                go_wp2_with (go_at_call 22; refine (HE.out).mono ?_; rintro e w3 ⟨rfl, ⟨vs3, vo3, hW3⟩, hb3⟩)
                go_roundg (mu g (s1.enter k))
                case measure => exact Nat.lt_trans HM.out.2.2 HN.out.2.2.2.2.1.2
                case rel => exact ⟨m + 1, vs3, vo3, by rw [HM.out.1]; exact hW3, by rw [HM.out.1]; exact HM.out.2.1, HN.out.2.1.trans (hb3.mono (Nat.le_refl _)), Nat.le_trans HN.out.2.2.1 hb3.size, by rw [HM.out.1]; exact Nat.le_refl _⟩
              · generalize hq : s1.on.getD k false = q at *
                have hd1 : ((d : Int) == 0) = false := by simp; omega
                cases q with
                | false =>
                  have hmore : Kn.steps g (m + 1) s0 = s1 := by rw [HN.out.2.2.2.2.2, harc, if_neg hd0, if_neg (by decide)]
                  have HM := hide hmore
                  clear hmore hgl harc hd hq
                  go_wp2_with fail
                  go_roundg (mu g s1)
                  case measure => exact HN.out.2.2.2.2.1.1
                  case rel => exact ⟨m + 1, nx + 1, by rw [HM.out]; exact HN.out.1, by rw [HM.out]; exact HN.out.2.2.2.1, HN.out.2.1, HN.out.2.2.1, by rw [HM.out]; exact Nat.le_refl _, by rw [HM.out]; exact Nat.le_of_lt HN.out.2.2.2.2.1.2, by rw [HM.out]; exact HOP.out⟩
                | true =>
                  have hmore : Kn.steps g (m + 1) s0 = { s1 with low := s1.low.set at_ (min (s1.low.getD at_ 0) d) } := by rw [HN.out.2.2.2.2.2, harc, if_neg hd0, if_pos rfl]
                  have hlb := HN.out.1.low (i := at_) (by rw [HN.out.2.2.2.1.ll, hgl]; exact hatn)
                  have lf := HN.out.1
                  have lf : W1.frozen? ⟨a.l, at_, none⟩ = false := frozen_of_row _ a.l at_ _ _ HN.out.1.hl
                  generalize s1.low.getD at_ 0 = lo at *
                  have HM := hide hmore
                  have hati : (at_ : Int) < n := by omega
                  clear hmore hgl harc hd hq
                  go_upto_region 11 with (fail)
                  refine wp_region_chain [0, 1, 2, 3, 4, 5, 6, 7, 8, 9, 10, 11, 12, 13, 14, 15, 16, 17, 18, 19, 20] [(21, false)] (fun w' => w'.cell? ⟨a.P, 2, none⟩ = some (.slice (some ⟨a.l, 0, none⟩) n n) ∧ w'.cell? ⟨a.P, 1, none⟩ = some (.slice (some ⟨a.o, 0, none⟩) n n) ∧ w'.cell? ⟨a.l, at_, none⟩ = some (.int .i64 (lo : Nat)) ∧ w'.cell? ⟨a.o, k, none⟩ = some (.int .i64 (d : Nat))) (by kernel_rfl) (by kernel_rfl) (fun _ _ _ _ _ h => h) (by exact ⟨c2', c1, hlb, hob⟩) ?_
                  intro hne
                  simp only [picks, picksW, List.filterMap_cons, List.filterMap_nil, List.getElem?_cons_zero, List.getElem?_cons_succ, Option.map_some]
                  have hu0 : ∀ u : HoldW (fun w' => w'.cell? ⟨a.P, 2, none⟩ = some (.slice (some ⟨a.l, 0, none⟩) n n) ∧ w'.cell? ⟨a.P, 1, none⟩ = some (.slice (some ⟨a.o, 0, none⟩) n n) ∧ w'.cell? ⟨a.l, at_, none⟩ = some (.int .i64 (lo : Nat)) ∧ w'.cell? ⟨a.o, k, none⟩ = some (.int .i64 (d : Nat))), u.w.cell? ⟨a.P, 2, none⟩ = some (.slice (some ⟨a.l, 0, none⟩) n n) := fun u => u.ok.1
                  have hu1 : ∀ u : HoldW (fun w' => w'.cell? ⟨a.P, 2, none⟩ = some (.slice (some ⟨a.l, 0, none⟩) n n) ∧ w'.cell? ⟨a.P, 1, none⟩ = some (.slice (some ⟨a.o, 0, none⟩) n n) ∧ w'.cell? ⟨a.l, at_, none⟩ = some (.int .i64 (lo : Nat)) ∧ w'.cell? ⟨a.o, k, none⟩ = some (.int .i64 (d : Nat))), u.w.cell? ⟨a.P, 1, none⟩ = some (.slice (some ⟨a.o, 0, none⟩) n n) := fun u => u.ok.2.1
                  have hu2 : ∀ u : HoldW (fun w' => w'.cell? ⟨a.P, 2, none⟩ = some (.slice (some ⟨a.l, 0, none⟩) n n) ∧ w'.cell? ⟨a.P, 1, none⟩ = some (.slice (some ⟨a.o, 0, none⟩) n n) ∧ w'.cell? ⟨a.l, at_, none⟩ = some (.int .i64 (lo : Nat)) ∧ w'.cell? ⟨a.o, k, none⟩ = some (.int .i64 (d : Nat))), u.w.cell? ⟨a.l, at_, none⟩ = some (.int .i64 (lo : Nat)) := fun u => u.ok.2.2.1
                  have hu3 : ∀ u : HoldW (fun w' => w'.cell? ⟨a.P, 2, none⟩ = some (.slice (some ⟨a.l, 0, none⟩) n n) ∧ w'.cell? ⟨a.P, 1, none⟩ = some (.slice (some ⟨a.o, 0, none⟩) n n) ∧ w'.cell? ⟨a.l, at_, none⟩ = some (.int .i64 (lo : Nat)) ∧ w'.cell? ⟨a.o, k, none⟩ = some (.int .i64 (d : Nat))), u.w.cell? ⟨a.o, k, none⟩ = some (.int .i64 (d : Nat)) := fun u => u.ok.2.2.2
                  repeat (refine wpHeld_step (fun K hK => ?_); go_simp; refine hK _ ?_; clear hK K)
                  refine wpHeld_nil ?_
                  clear hu0 hu1 hu2 hu3 hne
                  refine wpChain_cons fun K hK => ?_
                  go_wp2_with fail
                  all_goals
                    rename_i hml
                    refine chainSkip (hK _ _ ?_)
                    clear hK K
                    refine wpChain_nil ?_
                    go_wp2_with fail
                    go_roundg (mu g s1)
                    case measure => exact HN.out.2.2.2.2.1.1
                    case rel =>
                      refine ⟨m + 1, nx + 1, ?_, by rw [HM.out]; exact HN.out.2.2.2.1.setLow _ _, below_drewN (HN.out.2.1.setCell (by exact HN.out.1.ge.2.2.1) _) 1, Nat.le_trans HN.out.2.2.1 (Nat.le_of_eq (by simp)), by rw [HM.out]; exact Nat.le_refl _, by rw [HM.out]; exact Nat.le_of_lt HN.out.2.2.2.2.1.2, by rw [HM.out]; exact HOP.out⟩
                      rw [HM.out]
                      have hfin := (HN.out.1.setLow at_ (min lo d)).below (below_drewN (Below.refl _ _) 1)
                      first
                        | (rw [show min lo d = d by omega] at hfin ⊢; exact hfin)
                        | (rw [show min lo d = lo by omega] at hfin ⊢; exact hfin)
        · go_upto_region 4 with (fail)
          refine wp_region_chain [0, 1, 2, 3, 4, 5, 6, 7, 8, 9, 10, 11, 12] [] (fun w' => w'.cell? ⟨b, R * 2 + 1, none⟩ = some (.int .i64 (nx : Nat)) ∧ w'.cell? ⟨a.P, 0, none⟩ = some (.slice (some ⟨bg, og, none⟩) n cg) ∧ w'.cell? ⟨bg, og + at_, none⟩ = some (.slice Ai la ci)) (by kernel_rfl) (by kernel_rfl) (fun _ _ _ _ _ h => h) (by exact ⟨t1, k0, hrc⟩) ?_
          intro hne
          simp only [picks, picksW, List.filterMap_cons, List.filterMap_nil, List.getElem?_cons_zero, List.getElem?_cons_succ]
          have hu0 : ∀ u : HoldW (fun w' => w'.cell? ⟨b, R * 2 + 1, none⟩ = some (.int .i64 (nx : Nat)) ∧ w'.cell? ⟨a.P, 0, none⟩ = some (.slice (some ⟨bg, og, none⟩) n cg) ∧ w'.cell? ⟨bg, og + at_, none⟩ = some (.slice Ai la ci)), u.w.cell? ⟨b, R * 2 + 1, none⟩ = some (.int .i64 (nx : Nat)) := fun u => u.ok.1
          have hu1 : ∀ u : HoldW (fun w' => w'.cell? ⟨b, R * 2 + 1, none⟩ = some (.int .i64 (nx : Nat)) ∧ w'.cell? ⟨a.P, 0, none⟩ = some (.slice (some ⟨bg, og, none⟩) n cg) ∧ w'.cell? ⟨bg, og + at_, none⟩ = some (.slice Ai la ci)), u.w.cell? ⟨a.P, 0, none⟩ = some (.slice (some ⟨bg, og, none⟩) n cg) := fun u => u.ok.2.1
          have hu2 : ∀ u : HoldW (fun w' => w'.cell? ⟨b, R * 2 + 1, none⟩ = some (.int .i64 (nx : Nat)) ∧ w'.cell? ⟨a.P, 0, none⟩ = some (.slice (some ⟨bg, og, none⟩) n cg) ∧ w'.cell? ⟨bg, og + at_, none⟩ = some (.slice Ai la ci)), u.w.cell? ⟨bg, og + at_, none⟩ = some (.slice Ai la ci) := fun u => u.ok.2.2
          repeat (refine wpHeld_step (fun K hK => ?_); go_simp; refine hK _ ?_; clear hK K)
          refine wpHeld_nil ?_
          clear hu0 hu1 hu2 hne
          refine wpChain_nil ?_
          have hgl : g.length = n := H.out.2.2.1.1
          have hati : (at_ : Int) < n := by omega
          have hlb := HW.out.1.low (i := at_) (by rw [HW.out.2.1.ll, hgl]; exact hatn)
          have hob := HW.out.1.order (i := at_) (by rw [HW.out.2.1.lo, hgl]; exact hatn)
          have hmem := (HW.out.2.1.open_lt (f := (at_, nx)) (by rw [HW.out.2.2.2.2.2.2]; simp)).1
          have hnone : (Kn.arcs g at_)[nx]? = none := List.getElem?_eq_none (by have := HR.out.2.2; omega)
          have hst2 : Kn.steps g (m + 1) s0 = s'.leave at_ := by
            show (Kn.steps g m s0).step g = _
            rw [HST.out]
            exact step_leave HW.out.2.2.2.2.2.2 hnone
          obtain ⟨hSdl, hopl, htl⟩ := HW.out.2.1.leave HW.out.2.2.2.2.2.2
          have hmul := Kn.mu_leave HW.out.2.1 HW.out.2.2.2.2.2.2
          have HLV := hide (And.intro hSdl (And.intro hst2 (Nat.lt_of_lt_of_le hmul HW.out.2.2.2.2.2.1)))
          have HOP := hide HW.out.2.2.2.2.2.2
          have hol : ∀ f ∈ s'.opn, f.1 < n := fun f hf => by have := (HW.out.2.1.open_lt hf).2; omega
          have HOL := hide hol
          have hsl : s'.low.length = n := by rw [HW.out.2.1.ll, hgl]
          have HSL := hide hsl
          clear hol hsl
          have HSZ := hide (And.intro HW.out.2.1.stack_le (And.intro HW.out.2.1.ndup (And.intro HW.out.2.1.stk (And.intro HW.out.2.1.lf HW.out.2.1.ln))))
          have hW2 : Wk wr.drew B a (some ⟨bg, og, none⟩) n cg vs2 (.slice (some ⟨b, 0, none⟩) L c2) s' := HW.out.1.below (below_drewN (Below.refl _ wr) 1)
          have HW2 := hide (And.intro hW2 (And.intro (below_drewN HW.out.2.2.1 1 : Below B w wr.drew) (HW.out.2.2.2.1 : B ≤ wr.drew.heap.size)))
          obtain ⟨suf, pre, hsp, hns⟩ := Kn.split_at hmem
          obtain ⟨hown, hrest⟩ := Kn.own_split (pre := pre) hns
          have HSP := hide (And.intro hsp (And.intro hns (And.intro hown hrest)))
          have hmid : midS s' at_ = if s'.low.getD at_ 0 = s'.order.getD at_ 0 then s'.close at_ else s' := rfl
          generalize hlo : s'.low.getD at_ 0 = lo at *
          generalize hd : s'.order.getD at_ 0 = d at *
          have HMID := hide (And.intro hmid (And.intro hlo hd))
          clear hmid hlo hd hsp hns hown hrest hW2 hSdl hopl htl hmul hst2 hnone hmem HW HST hgl t0 t1 hrc hnla hnx
          go_upto_region 12 with (fail)
          refine wp_region_chain [0, 1, 2, 3, 4, 5, 6, 7, 8, 9, 10, 11, 12, 13, 14] [] (fun w' => w'.cell? ⟨a.P, 2, none⟩ = some (.slice (some ⟨a.l, 0, none⟩) n n) ∧ w'.cell? ⟨a.P, 1, none⟩ = some (.slice (some ⟨a.o, 0, none⟩) n n) ∧ w'.cell? ⟨a.l, at_, none⟩ = some (.int .i64 (lo : Nat)) ∧ w'.cell? ⟨a.o, at_, none⟩ = some (.int .i64 (d : Nat))) (by kernel_rfl) (by kernel_rfl) (fun _ _ _ _ _ h => h) (by exact ⟨k2, k1, hlb, hob⟩) ?_
          intro hne
          simp only [picks, picksW, List.filterMap_cons, List.filterMap_nil, List.getElem?_cons_zero, List.getElem?_cons_succ]
          have hu0 : ∀ u : HoldW (fun w' => w'.cell? ⟨a.P, 2, none⟩ = some (.slice (some ⟨a.l, 0, none⟩) n n) ∧ w'.cell? ⟨a.P, 1, none⟩ = some (.slice (some ⟨a.o, 0, none⟩) n n) ∧ w'.cell? ⟨a.l, at_, none⟩ = some (.int .i64 (lo : Nat)) ∧ w'.cell? ⟨a.o, at_, none⟩ = some (.int .i64 (d : Nat))), u.w.cell? ⟨a.P, 2, none⟩ = some (.slice (some ⟨a.l, 0, none⟩) n n) := fun u => u.ok.1
          have hu1 : ∀ u : HoldW (fun w' => w'.cell? ⟨a.P, 2, none⟩ = some (.slice (some ⟨a.l, 0, none⟩) n n) ∧ w'.cell? ⟨a.P, 1, none⟩ = some (.slice (some ⟨a.o, 0, none⟩) n n) ∧ w'.cell? ⟨a.l, at_, none⟩ = some (.int .i64 (lo : Nat)) ∧ w'.cell? ⟨a.o, at_, none⟩ = some (.int .i64 (d : Nat))), u.w.cell? ⟨a.P, 1, none⟩ = some (.slice (some ⟨a.o, 0, none⟩) n n) := fun u => u.ok.2.1
          have hu2 : ∀ u : HoldW (fun w' => w'.cell? ⟨a.P, 2, none⟩ = some (.slice (some ⟨a.l, 0, none⟩) n n) ∧ w'.cell? ⟨a.P, 1, none⟩ = some (.slice (some ⟨a.o, 0, none⟩) n n) ∧ w'.cell? ⟨a.l, at_, none⟩ = some (.int .i64 (lo : Nat)) ∧ w'.cell? ⟨a.o, at_, none⟩ = some (.int .i64 (d : Nat))), u.w.cell? ⟨a.l, at_, none⟩ = some (.int .i64 (lo : Nat)) := fun u => u.ok.2.2.1
          have hu3 : ∀ u : HoldW (fun w' => w'.cell? ⟨a.P, 2, none⟩ = some (.slice (some ⟨a.l, 0, none⟩) n n) ∧ w'.cell? ⟨a.P, 1, none⟩ = some (.slice (some ⟨a.o, 0, none⟩) n n) ∧ w'.cell? ⟨a.l, at_, none⟩ = some (.int .i64 (lo : Nat)) ∧ w'.cell? ⟨a.o, at_, none⟩ = some (.int .i64 (d : Nat))), u.w.cell? ⟨a.o, at_, none⟩ = some (.int .i64 (d : Nat)) := fun u => u.ok.2.2.2
          repeat (refine wpHeld_step (fun K hK => ?_); go_simp; refine hK _ ?_; clear hK K)
          refine wpHeld_nil ?_
          clear hu0 hu1 hu2 hu3 hne
          refine wpChain_nil ?_
          clear k0 k1 k2 k3 k4 k5 k6 k7 hlb hob
          have hW3 : Wk wr.drew.drew B a (some ⟨bg, og, none⟩) n cg vs2 (.slice (some ⟨b, 0, none⟩) L c2) s' := HW2.out.1.below (below_drewN (Below.refl _ wr.drew) 1)
          have hb3 : Below B w wr.drew.drew := below_drewN HW2.out.2.1 1
          have hs3 : B ≤ wr.drew.drew.heap.size := HW2.out.2.2
          have HW3 := hide (And.intro hW3 (And.intro hb3 hs3))
          clear hW3 HW2 hb3 hs3
          generalize wr.drew.drew = W at *
          have hLn : L ≤ 1000000 := by have := H.out.2.2.1.1; have := H.out.2.2.2.2.2.2; have := HLN.out; omega
          have hwr : IntKind.i64.wrap ((L : Int) - 1) = (R : Int) := by have := HL.out; rw [IntWalk.i64_in _ (by omega)]; omega
          have hR0 : (0 : Int) ≤ R := by omega
          have hRc : R ≤ c2 := by have := HL.out; omega
          by_cases hld : lo = d
          · have HC := hide (close_any at_ W HW3.out.1 HW3.out.2.2 HSP.out.1 HSP.out.2.1 (by have := H.out.2.2.1.1; intro x hx; have := HSZ.out.2.2.1 x hx; omega) (by have := H.out.2.2.1.1; have := HSZ.out.2.2.2.1; omega) (by have := H.out.2.2.1.1; have := HSZ.out.2.2.2.2; omega) (by have := H.out.2.2.1.1; have := HSZ.out.1; omega))
            subst hld
            go_upto_region 14 with (go_at_call 23; refine (HC.out).mono ?_; rintro e X ⟨rfl, ⟨vX, hW4⟩, hb4⟩)
            have hmd : midS s' at_ = { s' with of := Kn.setAll s'.of (at_ :: suf.reverse) (Kn.least (at_ :: suf.reverse) at_), on := Kn.setAll s'.on (at_ :: suf.reverse) false, stack := pre } := by
              have hm1 := HMID.out.1
              simp only [if_true] at hm1
              rw [hm1]
              unfold Kn.St.close
              rw [HSP.out.1, HSP.out.2.2.1, HSP.out.2.2.2]
            rw [← hmd] at hW4
            have HT := hide (And.intro hW4 (And.intro (HW3.out.2.1.trans hb4) (Nat.le_trans HW3.out.2.2 hb4.size)))
            clear hmd hW4 hb4 HC
            have HT0 := HT
            clear HT HW3
            obtain ⟨c0, c1, c2', c3, c4, c5, c6, c7⟩ := HT0.out.1.cells
            have f5 := HT0.out.1.free 5
            refine wp_region_chain [0, 1, 2, 3, 4, 5, 6, 7, 8, 9, 10, 11] [(12, false), (13, false), (14, false)] (fun w' => w'.cell? ⟨a.P, 5, none⟩ = some (.slice (some ⟨b, 0, none⟩) L c2)) (by kernel_rfl) (by kernel_rfl) (fun _ _ _ _ _ h => h) (by exact c5) ?_
            intro hne
            simp only [picks, picksW, List.filterMap_cons, List.filterMap_nil, List.getElem?_cons_zero, List.getElem?_cons_succ, Option.map_some]
            have hu0 : ∀ u : HoldW (fun w' => w'.cell? ⟨a.P, 5, none⟩ = some (.slice (some ⟨b, 0, none⟩) L c2)), u.w.cell? ⟨a.P, 5, none⟩ = some (.slice (some ⟨b, 0, none⟩) L c2) := fun u => u.ok
            repeat (refine wpHeld_step (fun K hK => ?_); go_simp; refine hK _ ?_; clear hK K)
            refine wpHeld_nil ?_
            clear hu0 hne
            refine wpChain_cons fun K hK => ?_
            go_wp2_with fail
            refine chainSkip (hK _ _ ?_)
            clear hK K
            refine wpChain_cons fun K hK => ?_
            go_wp2_with fail
            refine chainSkip (hK _ _ ?_)
            clear hK K
            refine wpChain_cons fun K hK => ?_
            go_wp2_with fail
            refine chainSkip (hK _ _ ?_)
            clear hK K
            refine wpChain_nil ?_
            have hRW := RowZ.cut HT0.out.1.op (k := R) (c' := c2) (by have := (midS_low s' at_).2.2; rw [this, HOP.out]; show R ≤ r.length + 1; have := HL.out; omega) hRc (Nat.le_refl _) (by simp)
            have hfv : (framesV (midS s' at_).opn.reverse).take (R * 2) = framesV r.reverse := by
              rw [(midS_low s' at_).2.2, HOP.out, List.reverse_cons]
              have : framesV (r.reverse ++ [(at_, nx)]) = framesV r.reverse ++ framesV [(at_, nx)] := by simp [framesV]
              rw [this, List.take_append_of_le_length (by rw [framesV_len, List.length_reverse, HL.out.2]; exact Nat.le_refl _), List.take_of_length_le (by rw [framesV_len, List.length_reverse, HL.out.2]; exact Nat.le_refl _)]
            rw [hfv] at hRW
            have hN := HT0.out.1.newOpen (vo' := .slice (some ⟨b, 0, none⟩) R c2) (op := r) (World.grownBy.refl _ _) (by rw [HL.out.2]; exact hRW) (fun b hb => .inl hb) HT0.out.2.2
            have hN2 := hN.below (below_drewN (Below.refl _ _) 1)
            have hN3 : Wk (X.setCell ⟨a.P, 5, none⟩ (.slice (some ⟨b, 0, none⟩) R c2)).drew B a (some ⟨bg, og, none⟩) n cg vX (.slice (some ⟨b, 0, none⟩) R c2) { midS s' at_ with opn := r } := hN2
            have hb5 : Below B w (X.setCell ⟨a.P, 5, none⟩ (.slice (some ⟨b, 0, none⟩) R c2)).drew := below_drewN (HT0.out.2.1.setCell (by exact HT0.out.1.ge.1) _) 1
            have hs5 : B ≤ (X.setCell ⟨a.P, 5, none⟩ (.slice (some ⟨b, 0, none⟩) R c2)).drew.heap.size := Nat.le_trans HT0.out.2.2 (Nat.le_of_eq (by simp))
            have HV := hide (And.intro hN3 (And.intro hb5 hs5))
            clear hRW hfv hN hN2 hN3 hb5 hs5 c0 c1 c2' c3 c4 c5 c6 c7 f5 hwr
            generalize (X.setCell ⟨a.P, 5, none⟩ (.slice (some ⟨b, 0, none⟩) R c2)).drew = Y at *
            obtain ⟨c0, c1, c2', c3, c4, c5, c6, c7⟩ := HV.out.1.cells
            obtain hr | ⟨up, nx', r', hr⟩ : r = [] ∨ ∃ up nx' r', r = (up, nx') :: r' := by
              cases r with
              | nil => exact .inl rfl
              | cons f r => exact .inr ⟨f.1, f.2, r, rfl⟩
            · have hRz : R = 0 := by have := HL.out.2; rw [hr] at this; exact this.symm
              have hlv : s'.leave at_ = { midS s' at_ with opn := r } := by rw [leave_nil (nx := nx) (by rw [HOP.out, hr]), hr]
              have HLE := hide hlv
              subst hRz
              clear hlv hr
              go_wp2_with fail
              go_roundg (mu g (s'.leave at_))
              case measure => exact HLV.out.2.2
              case rel => exact ⟨m + 1, vX, _, by rw [HLV.out.2.1, HLE.out]; exact HV.out.1, by rw [HLV.out.2.1]; exact HLV.out.1, HV.out.2.1, HV.out.2.2, by rw [HLV.out.2.1]; exact Nat.le_refl _⟩
            · obtain ⟨q, hq⟩ : ∃ q, q = r'.length := ⟨_, rfl⟩
              have hRq : R = q + 1 := by have := HL.out.2; rw [hr] at this; rw [hq]; exact this.symm
              have hRR : (R : Int) - 1 = (q : Int) := by omega
              have hRp : (0 : Int) < R := by omega
              have hq0 : (0 : Int) ≤ q := by omega
              have hq1 : (q : Int) < R := by omega
              have hqb : q ≤ 1000000 := by have := HL.out; omega
              have hwq : RowKit.wrap64 (q : Int) = (q : Int) := by rw [← IntWalk.i64_left]; exact IntWalk.i64_in _ (by omega)
              have hup : up < n := HOL.out (up, nx') (by rw [HOP.out, hr]; simp)
              have hup' : (up : Int) < n := by omega
              have hati : (at_ : Int) < n := by omega
              have hu0 : (0 : Int) ≤ up := by omega
              obtain ⟨t0, t1⟩ := HV.out.1.top (f := (up, nx')) (r := r') hr
              rw [← hq] at t0 t1
              have hll : (midS s' at_).low.length = n := by rw [(midS_low s' at_).1]; exact HSL.out
              have hlb := HV.out.1.low (i := up) (by show up < (midS s' at_).low.length; omega)
              have hlc := HV.out.1.low (i := at_) (by show at_ < (midS s' at_).low.length; omega)
              have lf : Y.frozen? ⟨a.l, up, none⟩ = false := frozen_of_row _ a.l up _ _ HV.out.1.hl
              simp only [(midS_low s' at_).1] at hlb hlc
              rw [HMID.out.2.1] at hlc
              generalize hl2 : s'.low.getD up 0 = l2 at *
              have hlv : s'.leave at_ = { midS s' at_ with opn := r, low := (midS s' at_).low.set up (min l2 lo) } := by
                rw [leave_cons (nx := nx) (up := up) (nx' := nx') (r := r') (by rw [HOP.out, hr]), hr, (midS_low s' at_).1, hl2, HMID.out.2.1]
              have HLE := hide hlv
              clear hlv hr hq hRq hll hl2 t1
              go_upto_region 18 with (fail)
              refine wp_region_chain [0, 1, 2, 3, 4, 5, 6, 7, 8, 9, 10, 11, 12, 13, 14, 15, 16, 17, 18, 19, 20] [(21, false)] (fun w' => w'.cell? ⟨a.P, 2, none⟩ = some (.slice (some ⟨a.l, 0, none⟩) n n) ∧ w'.cell? ⟨a.l, up, none⟩ = some (.int .i64 (l2 : Nat)) ∧ w'.cell? ⟨a.l, at_, none⟩ = some (.int .i64 (lo : Nat))) (by kernel_rfl) (by kernel_rfl) (fun _ _ _ _ _ h => h) (by exact ⟨c2', hlb, hlc⟩) ?_
              intro hne
              simp only [picks, picksW, List.filterMap_cons, List.filterMap_nil, List.getElem?_cons_zero, List.getElem?_cons_succ, Option.map_some]
              have hu0 : ∀ u : HoldW (fun w' => w'.cell? ⟨a.P, 2, none⟩ = some (.slice (some ⟨a.l, 0, none⟩) n n) ∧ w'.cell? ⟨a.l, up, none⟩ = some (.int .i64 (l2 : Nat)) ∧ w'.cell? ⟨a.l, at_, none⟩ = some (.int .i64 (lo : Nat))), u.w.cell? ⟨a.P, 2, none⟩ = some (.slice (some ⟨a.l, 0, none⟩) n n) := fun u => u.ok.1
              have hu1 : ∀ u : HoldW (fun w' => w'.cell? ⟨a.P, 2, none⟩ = some (.slice (some ⟨a.l, 0, none⟩) n n) ∧ w'.cell? ⟨a.l, up, none⟩ = some (.int .i64 (l2 : Nat)) ∧ w'.cell? ⟨a.l, at_, none⟩ = some (.int .i64 (lo : Nat))), u.w.cell? ⟨a.l, up, none⟩ = some (.int .i64 (l2 : Nat)) := fun u => u.ok.2.1
              have hu2 : ∀ u : HoldW (fun w' => w'.cell? ⟨a.P, 2, none⟩ = some (.slice (some ⟨a.l, 0, none⟩) n n) ∧ w'.cell? ⟨a.l, up, none⟩ = some (.int .i64 (l2 : Nat)) ∧ w'.cell? ⟨a.l, at_, none⟩ = some (.int .i64 (lo : Nat))), u.w.cell? ⟨a.l, at_, none⟩ = some (.int .i64 (lo : Nat)) := fun u => u.ok.2.2
              repeat (refine wpHeld_step (fun K hK => ?_); go_simp; refine hK _ ?_; clear hK K)
              refine wpHeld_nil ?_
              clear hu0 hu1 hu2 hne
              refine wpChain_cons fun K hK => ?_
              go_wp2_with fail
              all_goals
                rename_i hml
                refine chainSkip (hK _ _ ?_)
                clear hK K
                refine wpChain_nil ?_
                go_wp2_with fail
                go_roundg (mu g (s'.leave at_))
                case measure => exact HLV.out.2.2
                case rel =>
                  refine ⟨m + 1, vX, .slice (some ⟨b, 0, none⟩) R c2, ?_, by rw [HLV.out.2.1]; exact HLV.out.1, below_drewN (HV.out.2.1.setCell (by exact HV.out.1.ge.2.2.1) _) 1, Nat.le_trans HV.out.2.2 (Nat.le_of_eq (by simp)), by rw [HLV.out.2.1]; exact Nat.le_refl _⟩
                  rw [HLV.out.2.1, HLE.out]
                  have hfin := (HV.out.1.setLow up (min l2 lo)).below (below_drewN (Below.refl _ _) 1)
                  first
                    | (rw [show min l2 lo = lo by omega] at hfin ⊢; exact hfin)
                    | (rw [show min l2 lo = l2 by omega] at hfin ⊢; exact hfin)
          · have hld2 : ((lo : Int) == d) = false := by simp; omega
            go_upto_region 14 with (fail)
            have hmd : midS s' at_ = s' := by rw [HMID.out.1, if_neg hld]
            have hW4 := HW3.out.1
            rw [← hmd] at hW4
            generalize hvX : vs2 = vX at hW4
            have HT0 := hide (And.intro hW4 (And.intro HW3.out.2.1 HW3.out.2.2))
            clear hmd hW4 HW3 hvX hld2
            generalize W = X at *
            obtain ⟨c0, c1, c2', c3, c4, c5, c6, c7⟩ := HT0.out.1.cells
            have f5 := HT0.out.1.free 5
            refine wp_region_chain [0, 1, 2, 3, 4, 5, 6, 7, 8, 9, 10, 11] [(12, false), (13, false), (14, false)] (fun w' => w'.cell? ⟨a.P, 5, none⟩ = some (.slice (some ⟨b, 0, none⟩) L c2)) (by kernel_rfl) (by kernel_rfl) (fun _ _ _ _ _ h => h) (by exact c5) ?_
            intro hne
            simp only [picks, picksW, List.filterMap_cons, List.filterMap_nil, List.getElem?_cons_zero, List.getElem?_cons_succ, Option.map_some]
            have hu0 : ∀ u : HoldW (fun w' => w'.cell? ⟨a.P, 5, none⟩ = some (.slice (some ⟨b, 0, none⟩) L c2)), u.w.cell? ⟨a.P, 5, none⟩ = some (.slice (some ⟨b, 0, none⟩) L c2) := fun u => u.ok
            repeat (refine wpHeld_step (fun K hK => ?_); go_simp; refine hK _ ?_; clear hK K)
            refine wpHeld_nil ?_
            clear hu0 hne
            refine wpChain_cons fun K hK => ?_
            go_wp2_with fail
            refine chainSkip (hK _ _ ?_)
            clear hK K
            refine wpChain_cons fun K hK => ?_
            go_wp2_with fail
            refine chainSkip (hK _ _ ?_)
            clear hK K
            refine wpChain_cons fun K hK => ?_
            go_wp2_with fail
            refine chainSkip (hK _ _ ?_)
            clear hK K
            refine wpChain_nil ?_
            have hRW := RowZ.cut HT0.out.1.op (k := R) (c' := c2) (by have := (midS_low s' at_).2.2; rw [this, HOP.out]; show R ≤ r.length + 1; have := HL.out; omega) hRc (Nat.le_refl _) (by simp)
            have hfv : (framesV (midS s' at_).opn.reverse).take (R * 2) = framesV r.reverse := by
              rw [(midS_low s' at_).2.2, HOP.out, List.reverse_cons]
              have : framesV (r.reverse ++ [(at_, nx)]) = framesV r.reverse ++ framesV [(at_, nx)] := by simp [framesV]
              rw [this, List.take_append_of_le_length (by rw [framesV_len, List.length_reverse, HL.out.2]; exact Nat.le_refl _), List.take_of_length_le (by rw [framesV_len, List.length_reverse, HL.out.2]; exact Nat.le_refl _)]
            rw [hfv] at hRW
            have hN := HT0.out.1.newOpen (vo' := .slice (some ⟨b, 0, none⟩) R c2) (op := r) (World.grownBy.refl _ _) (by rw [HL.out.2]; exact hRW) (fun b hb => .inl hb) HT0.out.2.2
            have hN2 := hN.below (below_drewN (Below.refl _ _) 1)
            have hN3 : Wk (X.setCell ⟨a.P, 5, none⟩ (.slice (some ⟨b, 0, none⟩) R c2)).drew B a (some ⟨bg, og, none⟩) n cg vX (.slice (some ⟨b, 0, none⟩) R c2) { midS s' at_ with opn := r } := hN2
            have hb5 : Below B w (X.setCell ⟨a.P, 5, none⟩ (.slice (some ⟨b, 0, none⟩) R c2)).drew := below_drewN (HT0.out.2.1.setCell (by exact HT0.out.1.ge.1) _) 1
            have hs5 : B ≤ (X.setCell ⟨a.P, 5, none⟩ (.slice (some ⟨b, 0, none⟩) R c2)).drew.heap.size := Nat.le_trans HT0.out.2.2 (Nat.le_of_eq (by simp))
            have HV := hide (And.intro hN3 (And.intro hb5 hs5))
            clear hRW hfv hN hN2 hN3 hb5 hs5 c0 c1 c2' c3 c4 c5 c6 c7 f5 hwr
            generalize (X.setCell ⟨a.P, 5, none⟩ (.slice (some ⟨b, 0, none⟩) R c2)).drew = Y at *
            obtain ⟨c0, c1, c2', c3, c4, c5, c6, c7⟩ := HV.out.1.cells
            obtain hr | ⟨up, nx', r', hr⟩ : r = [] ∨ ∃ up nx' r', r = (up, nx') :: r' := by
              cases r with
              | nil => exact .inl rfl
              | cons f r => exact .inr ⟨f.1, f.2, r, rfl⟩
            · have hRz : R = 0 := by have := HL.out.2; rw [hr] at this; exact this.symm
              have hlv : s'.leave at_ = { midS s' at_ with opn := r } := by rw [leave_nil (nx := nx) (by rw [HOP.out, hr]), hr]
              have HLE := hide hlv
              subst hRz
              clear hlv hr
              go_wp2_with fail
              go_roundg (mu g (s'.leave at_))
              case measure => exact HLV.out.2.2
              case rel => exact ⟨m + 1, vX, _, by rw [HLV.out.2.1, HLE.out]; exact HV.out.1, by rw [HLV.out.2.1]; exact HLV.out.1, HV.out.2.1, HV.out.2.2, by rw [HLV.out.2.1]; exact Nat.le_refl _⟩
            · obtain ⟨q, hq⟩ : ∃ q, q = r'.length := ⟨_, rfl⟩
              have hRq : R = q + 1 := by have := HL.out.2; rw [hr] at this; rw [hq]; exact this.symm
              have hRR : (R : Int) - 1 = (q : Int) := by omega
              have hRp : (0 : Int) < R := by omega
              have hq0 : (0 : Int) ≤ q := by omega
              have hq1 : (q : Int) < R := by omega
              have hqb : q ≤ 1000000 := by have := HL.out; omega
              have hwq : RowKit.wrap64 (q : Int) = (q : Int) := by rw [← IntWalk.i64_left]; exact IntWalk.i64_in _ (by omega)
              have hup : up < n := HOL.out (up, nx') (by rw [HOP.out, hr]; simp)
              have hup' : (up : Int) < n := by omega
              have hati : (at_ : Int) < n := by omega
              have hu0 : (0 : Int) ≤ up := by omega
              obtain ⟨t0, t1⟩ := HV.out.1.top (f := (up, nx')) (r := r') hr
              rw [← hq] at t0 t1
              have hll : (midS s' at_).low.length = n := by rw [(midS_low s' at_).1]; exact HSL.out
              have hlb := HV.out.1.low (i := up) (by show up < (midS s' at_).low.length; omega)
              have hlc := HV.out.1.low (i := at_) (by show at_ < (midS s' at_).low.length; omega)
              have lf : Y.frozen? ⟨a.l, up, none⟩ = false := frozen_of_row _ a.l up _ _ HV.out.1.hl
              simp only [(midS_low s' at_).1] at hlb hlc
              rw [HMID.out.2.1] at hlc
              generalize hl2 : s'.low.getD up 0 = l2 at *
              have hlv : s'.leave at_ = { midS s' at_ with opn := r, low := (midS s' at_).low.set up (min l2 lo) } := by
                rw [leave_cons (nx := nx) (up := up) (nx' := nx') (r := r') (by rw [HOP.out, hr]), hr, (midS_low s' at_).1, hl2, HMID.out.2.1]
              have HLE := hide hlv
              clear hlv hr hq hRq hll hl2 t1
              go_upto_region 18 with (fail)
              refine wp_region_chain [0, 1, 2, 3, 4, 5, 6, 7, 8, 9, 10, 11, 12, 13, 14, 15, 16, 17, 18, 19, 20] [(21, false)] (fun w' => w'.cell? ⟨a.P, 2, none⟩ = some (.slice (some ⟨a.l, 0, none⟩) n n) ∧ w'.cell? ⟨a.l, up, none⟩ = some (.int .i64 (l2 : Nat)) ∧ w'.cell? ⟨a.l, at_, none⟩ = some (.int .i64 (lo : Nat))) (by kernel_rfl) (by kernel_rfl) (fun _ _ _ _ _ h => h) (by exact ⟨c2', hlb, hlc⟩) ?_
              intro hne
              simp only [picks, picksW, List.filterMap_cons, List.filterMap_nil, List.getElem?_cons_zero, List.getElem?_cons_succ, Option.map_some]
              have hu0 : ∀ u : HoldW (fun w' => w'.cell? ⟨a.P, 2, none⟩ = some (.slice (some ⟨a.l, 0, none⟩) n n) ∧ w'.cell? ⟨a.l, up, none⟩ = some (.int .i64 (l2 : Nat)) ∧ w'.cell? ⟨a.l, at_, none⟩ = some (.int .i64 (lo : Nat))), u.w.cell? ⟨a.P, 2, none⟩ = some (.slice (some ⟨a.l, 0, none⟩) n n) := fun u => u.ok.1
              have hu1 : ∀ u : HoldW (fun w' => w'.cell? ⟨a.P, 2, none⟩ = some (.slice (some ⟨a.l, 0, none⟩) n n) ∧ w'.cell? ⟨a.l, up, none⟩ = some (.int .i64 (l2 : Nat)) ∧ w'.cell? ⟨a.l, at_, none⟩ = some (.int .i64 (lo : Nat))), u.w.cell? ⟨a.l, up, none⟩ = some (.int .i64 (l2 : Nat)) := fun u => u.ok.2.1
              have hu2 : ∀ u : HoldW (fun w' => w'.cell? ⟨a.P, 2, none⟩ = some (.slice (some ⟨a.l, 0, none⟩) n n) ∧ w'.cell? ⟨a.l, up, none⟩ = some (.int .i64 (l2 : Nat)) ∧ w'.cell? ⟨a.l, at_, none⟩ = some (.int .i64 (lo : Nat))), u.w.cell? ⟨a.l, at_, none⟩ = some (.int .i64 (lo : Nat)) := fun u => u.ok.2.2
              repeat (refine wpHeld_step (fun K hK => ?_); go_simp; refine hK _ ?_; clear hK K)
              refine wpHeld_nil ?_
              clear hu0 hu1 hu2 hne
              refine wpChain_cons fun K hK => ?_
              go_wp2_with fail
              all_goals
                rename_i hml
                refine chainSkip (hK _ _ ?_)
                clear hK K
                refine wpChain_nil ?_
                go_wp2_with fail
                go_roundg (mu g (s'.leave at_))
                case measure => exact HLV.out.2.2
                case rel =>
                  refine ⟨m + 1, vX, .slice (some ⟨b, 0, none⟩) R c2, ?_, by rw [HLV.out.2.1]; exact HLV.out.1, below_drewN (HV.out.2.1.setCell (by exact HV.out.1.ge.2.2.1) _) 1, Nat.le_trans HV.out.2.2 (Nat.le_of_eq (by simp)), by rw [HLV.out.2.1]; exact Nat.le_refl _⟩
                  rw [HLV.out.2.1, HLE.out]
                  have hfin := (HV.out.1.setLow up (min l2 lo)).below (below_drewN (Below.refl _ _) 1)
                  first
                    | (rw [show min l2 lo = lo by omega] at hfin ⊢; exact hfin)
                    | (rw [show min l2 lo = l2 by omega] at hfin ⊢; exact hfin)
end Go.Proofs.Ytgmppddlgbkjmaa
