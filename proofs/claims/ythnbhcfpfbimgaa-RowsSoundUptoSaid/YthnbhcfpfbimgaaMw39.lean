/- Texts put together: RiWhy RjOpen. -/
import Derived.ProofKit
import Derived.OpenShut
import Derived.ShutString
import Derived.ChangeOld
import Derived.Deep.Slices
import Derived.Deep.Fields
import Derived.ChangeSame
import Derived.Lib.SmallJoins
import Derived.Test.YthnbhcfpfbimgaaMw38
import Derived.Test.YthnbhcfpfbimgaaMw20
/- The walk of RowsWhy. (Printed by riwhy.py.) -/
namespace Go.Proofs.Ythnbhcfpfbimgaa
open Go.RowKit
open Rw (El At Fld T W64 Gd Sz Ow Nm tot)
open Hd (elZ atomV oneV etaL)
set_option maxRecDepth 100000 in
set_option maxHeartbeats 4000000 in
theorem why_any (B : Nat) (vl vv vs wl wrs : Value) (n : Nat) (l : List Vr) (as_ : List As) (L : List El) (R : List (List Vl)) (w : World) (h1 : Lats w B vl n) (h2 : Vars w B vv l) (h3 : Asrs w B vs as_) (h4 : Lbs w B wl L) (h5 : Rws w B wrs R) (hB : B ≤ w.heap.size) (hfew : ∀ r ∈ R, r.length ≤ 1048576) :
    Calls Try.prog 4 #[.agg #[vl, vv, vs], .agg #[wl, wrs]] w fun e w' => e = .returned (.bool true) ∧ Below w.heap.size w w' := by
  have HAR := hide (ArW.new h1 h2 h3 h4 h5 hB)
  obtain ⟨A, c, rfl, _, hcm⟩ := h3.form
  have hl9 : (as_.length : Int) ≤ 9223372036854775807 := by unfold maxLen at hcm; omega
  have HFEW := hide hfew
  clear h1 h2 h3 h4 h5 hB hfew hcm
  have HG1 := hide (fun (wq : World) (hq : ArW w B w.heap.size vl vv (.slice A as_.length c) wl wrs n l as_ L R wq) => big19_tot B vl vv (.slice A as_.length c) n l as_ wq hq.lats hq.vars hq.asr hq.base)
  have HG2 := hide (fun (wq : World) (hq : ArW w B w.heap.size vl vv (.slice A as_.length c) wl wrs n l as_ L R wq) => big18_tot B wl wrs L R wq hq.labs hq.rows hq.base)
  have HG3 := hide (fun (wq : World) (hq : ArW w B w.heap.size vl vv (.slice A as_.length c) wl wrs n l as_ L R wq) => right19_tot B vl vv (.slice A as_.length c) n l as_ wq hq.lats hq.vars hq.asr hq.base)
  have HG4 := hide (fun (wq : World) (hq : ArW w B w.heap.size vl vv (.slice A as_.length c) wl wrs n l as_ L R wq) => right18_tot B vl vv wl wrs n l L R wq hq.lats hq.vars hq.labs hq.rows hq.base)
  go_enter Try.func4, Try.ntmps4
  go_upto_region 1 with fail
  generalize (w.alloc (Obj.cells _ 28)).alloc (Obj.cells _ 32) = w0 at *
  go_cut [32] from 15 to 32 (fun p wx => GdW w B w.heap.size vl vv (.slice A as_.length c) wl wrs n l as_ L R p wx)
  case first =>
    have a0 := HAR.out.p0
    have a1 := HAR.out.p1
    have a2 := HAR.out.p2
    have a3 := HAR.out.q0
    have a4 := HAR.out.q1
    go_wp2_with (first | (go_at_call 6; refine (HG1.out _ HAR.out).mono ?_; rintro e w1 ⟨⟨b1, rfl⟩, hb⟩; have H1 := hide (HAR.out.step hb); clear hb a0 a1 a2 a3 a4; have a0 := H1.out.p0; have a1 := H1.out.p1; have a2 := H1.out.p2; have a3 := H1.out.q0; have a4 := H1.out.q1; cases b1) | (go_at_call 7; refine (HG2.out _ H1.out).mono ?_; rintro e w2 ⟨⟨b2, rfl⟩, hb⟩; have H2 := hide (H1.out.step hb); clear hb a0 a1 a2 a3 a4; have a0 := H2.out.p0; have a1 := H2.out.p1; have a2 := H2.out.p2; have a3 := H2.out.q0; have a4 := H2.out.q1; cases b2) | (go_at_call 8; refine (HG3.out _ H2.out).mono ?_; rintro e w3 ⟨⟨b3, rfl, hp⟩, hb⟩; have H3 := hide (H2.out.step hb); have HP := hide hp; clear hp hb a0 a1 a2 a3 a4; have a0 := H3.out.p0; have a1 := H3.out.p1; have a2 := H3.out.p2; have a3 := H3.out.q0; have a4 := H3.out.q1; cases b3) | (go_at_call 9; refine (HG4.out _ H3.out).mono ?_; rintro e w4 ⟨⟨b4, rfl, hq⟩, hb⟩; have H4 := hide (H3.out.step hb); have HQ := hide hq; clear hq hb a0 a1 a2 a3 a4; cases b4))
    all_goals go_meet
    all_goals first | exact ⟨⟨true, rfl, fun h => by cases h⟩, H4.out⟩ | exact ⟨⟨false, rfl, fun _ => ⟨HP.out (by trivial), HQ.out (by trivial)⟩⟩, H4.out⟩ | exact ⟨⟨true, rfl, fun h => by cases h⟩, H3.out⟩ | exact ⟨⟨true, rfl, fun h => by cases h⟩, H2.out⟩ | exact ⟨⟨true, rfl, fun h => by cases h⟩, H1.out⟩
  case rest =>
    obtain ⟨⟨b, rfl, hok⟩, har⟩ := hcut
    clear HG1 HG2 HG3 HG4 HAR
    have HAR := hide har
    clear har
    cases b
    rotate_left
    · have HAL := hide (alive_any wc)
      go_wp2_with (go_at_call 10; refine HAL.out.mono ?_; rintro e w1 ⟨rfl, hb⟩; have H1 := hide (HAR.out.step hb); clear hb)
      go_ret
      exact ⟨rfl, H1.out.kp.below⟩
    have HOK := hide (hok rfl)
    clear hok
    have HF := hide (fed_any B vl vv (.slice A as_.length c) l as_ allW wc HAR.out.vars HAR.out.asr HAR.out.base HOK.out.1 HOK.out.1.nine)
    unfold whyV at HF
    rw [show ((allW.toNat : Nat) : Int) = 18446744073709551615 from rfl] at HF
    have a0 := HAR.out.p0
    have a1 := HAR.out.p1
    have a2 := HAR.out.p2
    go_upto_region 5 with (first | (go_at_call 13; refine HF.out.mono ?_; rintro e w3 ⟨P3, B3, rfl, hle, htb, hbl⟩; have H3 := hide (And.intro (HAR.out.step hbl) htb); obtain ⟨g3, ht3⟩ := htb.ex; have HG3 := hide ht3; clear hle htb hbl ht3) | (go_at_call 14; refine (stuck_tb _ _ _ _ _ HG3.out).mono ?_; rintro e w4 ⟨rfl, hb4⟩; have H4 := hide (TaW.mk (H3.out.1.step hb4) (H3.out.2.step hb4)); clear hb4))
    clear HF a0 a1 a2 HAR
    have HST := hide (Hd.stuck_too l.length (as_ := as_) HOK.out.1.few)
    have HAH := hide (fun (wq : World) (hq : TaW w B w.heap.size vl vv (.slice A as_.length c) wl wrs n l as_ L R w3 B3 P3 (fedT l.length as_ allW) wq) (hs : (fedT l.length as_ allW).stuck = true) => ahead_any B B3 P3 w3 vl vv (.slice A as_.length c) l as_ wq hq.ar.vars hq.ar.asr hq.ar.base HOK.out.1 HOK.out.1.nine hq.tb hs)
    have HF2 := hide (fun (wq : World) (hq : TaW w B w.heap.size vl vv (.slice A as_.length c) wl wrs n l as_ L R w3 B3 P3 (fedT l.length as_ allW) wq) => fed_any B vl vv (.slice A as_.length c) l as_ (fedT l.length as_ allW).why wq hq.ar.vars hq.ar.asr hq.ar.base HOK.out.1 HOK.out.1.nine)
    go_upto_if 41 with fail
    obtain ⟨sb, hsb⟩ : ∃ sb, (fedT l.length as_ allW).stuck = sb := ⟨_, rfl⟩
    rw [hsb]
    have HSB := hide hsb
    clear hsb
    go_cut [] from 42 to 56 (fun wx => TaW w B w.heap.size vl vv (.slice A as_.length c) wl wrs n l as_ L R w3 B3 P3 (fedT l.length as_ allW) wx)
    case first =>
      cases sb
      · go_wp2_with fail
        go_meet
        exact H4.out
      · have HS := HSB
        have a0 := H4.out.ar.p0
        have a1 := H4.out.ar.p1
        have a2 := H4.out.ar.p2
        go_upto_region 7 with (first | (go_at_call 13; refine (HF2.out _ H4.out).mono ?_; rintro e w5 ⟨P5, B5, rfl, hle, htb, hbl⟩; have H5 := hide (TaW.mk (H4.out.ar.step hbl) (H4.out.tb.step hbl)); obtain ⟨g5, ht5⟩ := htb.ex; have HG5 := hide ht5; clear hle htb hbl ht5 a0 a1 a2) | (go_at_call 14; refine (stuck_tb _ _ _ _ _ HG5.out).mono ?_; rintro e w6 ⟨rfl, hb6⟩; rw [HST.out HS.out]; have H6 := hide (TaW.mk (H5.out.ar.step hb6) (H5.out.tb.step hb6)); clear hb6))
        have a0 := H6.out.ar.p0
        have a1 := H6.out.ar.p1
        have a2 := H6.out.ar.p2
        go_wp2_with (go_at_call 20; refine (HAH.out _ H6.out HS.out).mono ?_; rintro e w7 ⟨rfl, hb7⟩; have H7 := hide (TaW.mk (H6.out.ar.step hb7) (H6.out.tb.step hb7)); clear hb7)
        go_meet
        exact H7.out
    case rest =>
      have HT := hide hcut
      obtain ⟨g3, ht3⟩ := hcut.tb.ex
      have HFO := FdOk.fed l.length allW HOK.out.1.nine as_.length (Nat.le_refl _)
      rw [List.take_length] at HFO
      have hne : (fedT l.length as_ allW).eqs.length ≤ 1000000000 := by
        have h1 := HFO.sz.eqs
        have h2 : as_.length ≤ 64 := HOK.out.1.few
        have h3 : (namesU as_).length ≤ 20000 := Nat.le_trans (namesU_len HOK.out.1.nine) (by omega)
        have h4 : as_.length * (7 * (namesU as_).length + 309) ≤ 64 * 140309 := Nat.mul_le_mul h2 (by omega)
        have h5 : l.length ≤ 64 := HOK.out.1.vars
        omega
      have HQ := hide (eqs_any P3 B3 g3 (fedT l.length as_ allW) wc ht3 hne)
      have HWY : Hid (∀ e ∈ (fedT l.length as_ allW).eqs, (∀ (j : Nat) x, as_[j]? = some x → e.why.getLsbD j = true → x.op ≠ 8 → oneV L R x = true) → etaL L e.a = etaL L e.b) := hide fun e he h => by
        have hr : l.length = R.length := HOK.out.2.rows.symm
        rw [hr] at he
        exact Hd.why_eq HOK.out.1.few he h
      clear hcut HST HAH HF2 H3 H4 HG3 ht3 HFO
      go_upto_region 10 with (go_at_call 16; refine HQ.out.mono ?_; rintro e w5 ⟨⟨v5, rfl, hr5, hb5⟩⟩; obtain ⟨A5, c5, rfl, _⟩ := RowZ.form hr5; have H5 := hide (HT.out.ar.step hb5); have HR := hide hr5; clear hr5 hb5)
      clear HQ HT
      generalize (fedT l.length as_ allW).eqs = es at *
      have he9 : (es.length : Int) ≤ 1000000000 := by omega
      go_loopw [60] (fun kv wr => (∃ k : Nat, k ≤ es.length ∧ kv = .int .i64 (k : Nat)) ∧ Kpt w5 wr) (fun kv _ => es.length - (intOf kv).toNat)
      case atStart => exact ⟨⟨0, by omega, rfl⟩, ⟨Below.refl _ _⟩⟩
      case round =>
        obtain ⟨⟨k, hk, rfl⟩, ho⟩ := hrel
        have HO := hide ho
        have HAR := hide (H5.out.step ho.below)
        clear ho
        by_cases hlt : k < es.length
        · have i0 : (k : Int) < es.length := by omega
          obtain ⟨bl, off, c', e, hbl, hr⟩ := SlAt.elem (f := eqnV) (SlAt.of_row (B := w5.heap.size) HR.out) (fun _ => rfl) hlt
          cases e
          have HWE := hide (HWY.out es[k] (List.getElem_mem hlt))
          generalize es[k] = e at *
          unfold eqnV whyV at hr
          generalize hzy : ((e.why.toNat : Nat) : Int) = zy at *
          have HZY := hide hzy
          clear hzy
          have HL := hide (ldA (cs := #[.int .i64 e.a.var, .int .u64 e.a.el.e0, .int .u64 e.a.el.e1, .int .u64 e.a.el.e2, .int .u64 e.a.el.e3, .int .u64 e.a.el.e4, .int .u64 e.a.el.e5, .int .u64 e.a.el.e6, .int .u64 e.a.el.e7, .int .i64 e.b.var, .int .u64 e.b.el.e0, .int .u64 e.b.el.e1, .int .u64 e.b.el.e2, .int .u64 e.b.el.e3, .int .u64 e.b.el.e4, .int .u64 e.b.el.e5, .int .u64 e.b.el.e6, .int .u64 e.b.el.e7, .int .u64 zy]) 62 (HO.out.range hr hbl) Try.underlying52 rfl eqn_info)
          have HST := hide (stA (w := wr) (new := #[.int .i64 e.a.var, .int .u64 e.a.el.e0, .int .u64 e.a.el.e1, .int .u64 e.a.el.e2, .int .u64 e.a.el.e3, .int .u64 e.a.el.e4, .int .u64 e.a.el.e5, .int .u64 e.a.el.e6, .int .u64 e.a.el.e7, .int .i64 e.b.var, .int .u64 e.b.el.e0, .int .u64 e.b.el.e1, .int .u64 e.b.el.e2, .int .u64 e.b.el.e3, .int .u64 e.b.el.e4, .int .u64 e.b.el.e5, .int .u64 e.b.el.e6, .int .u64 e.b.el.e7, .int .u64 zy]) 11 63 eqn_info (by simp [Value.oneCell']))
          clear hr hbl
          go_upto_region 12 with (first | (with_reducible refine HL.out _ _ _ _ _ rfl rfl (by with_unfolding_all rfl) ?_) | (with_reducible refine HST.out _ _ _ _ _ _ rfl rfl rfl rfl (by with_unfolding_all rfl) ?_))
          have HA6 := hide (heap_alloc_last wr (.cells #[.int .i64 e.a.var, .int .u64 e.a.el.e0, .int .u64 e.a.el.e1, .int .u64 e.a.el.e2, .int .u64 e.a.el.e3, .int .u64 e.a.el.e4, .int .u64 e.a.el.e5, .int .u64 e.a.el.e6, .int .u64 e.a.el.e7, .int .i64 e.b.var, .int .u64 e.b.el.e0, .int .u64 e.b.el.e1, .int .u64 e.b.el.e2, .int .u64 e.b.el.e3, .int .u64 e.b.el.e4, .int .u64 e.b.el.e5, .int .u64 e.b.el.e6, .int .u64 e.b.el.e7, .int .u64 zy] 52))
          have HB6 := hide (below_laid wr (.cells #[.int .i64 e.a.var, .int .u64 e.a.el.e0, .int .u64 e.a.el.e1, .int .u64 e.a.el.e2, .int .u64 e.a.el.e3, .int .u64 e.a.el.e4, .int .u64 e.a.el.e5, .int .u64 e.a.el.e6, .int .u64 e.a.el.e7, .int .i64 e.b.var, .int .u64 e.b.el.e0, .int .u64 e.b.el.e1, .int .u64 e.b.el.e2, .int .u64 e.b.el.e3, .int .u64 e.b.el.e4, .int .u64 e.b.el.e5, .int .u64 e.b.el.e6, .int .u64 e.b.el.e7, .int .u64 zy] 52))
          have HAR6 := hide (HAR.out.step HB6.out)
          have HO6 := hide (HO.out.step HB6.out)
          have HLT6 := hide (blk_lt HA6.out)
          have HW6 : Hid ((wr.alloc (.cells #[.int .i64 e.a.var, .int .u64 e.a.el.e0, .int .u64 e.a.el.e1, .int .u64 e.a.el.e2, .int .u64 e.a.el.e3, .int .u64 e.a.el.e4, .int .u64 e.a.el.e5, .int .u64 e.a.el.e6, .int .u64 e.a.el.e7, .int .i64 e.b.var, .int .u64 e.b.el.e0, .int .u64 e.b.el.e1, .int .u64 e.b.el.e2, .int .u64 e.b.el.e3, .int .u64 e.b.el.e4, .int .u64 e.b.el.e5, .int .u64 e.b.el.e6, .int .u64 e.b.el.e7, .int .u64 zy] 52)).cell? ⟨wr.heap.size, 18, none⟩ = some (.int .u64 zy)) := hide (by rw [cell_block HA6.out]; rfl)
          have HRG := hide (eqn_ranges HA6.out)
          clear HL HST HA6
          generalize wr.alloc (Obj.cells _ 52) = w6 at *
          generalize wr.heap.size = p6 at *
          have a2 := HAR6.out.p2
          go_wp2_with fail
          clear a2
          go_loopw [67, 12] (fun kv hv wx => (∃ q : Nat, q ≤ as_.length ∧ kv = .int .i64 (q : Nat)) ∧ (∃ q : Nat, kv = .int .i64 (q : Nat) ∧ ∃ hb, hv = .bool hb ∧ (hb = true → ∀ (j : Nat) x, j < q → as_[j]? = some x → e.why.getLsbD j = true → x.op ≠ 8 → oneV L R x = true)) ∧ Kpt w6 wx) (fun kv _ _ => as_.length - (intOf kv).toNat)
          case atStart => exact ⟨⟨0, by omega, rfl⟩, ⟨0, rfl, true, rfl, fun _ j x hj => by omega⟩, ⟨Below.refl _ _⟩⟩
          case round =>
            obtain ⟨⟨q, hq, rfl⟩, ⟨q', e', hb, rfl, hall⟩, hx⟩ := hrel
            obtain rfl : q = q' := by injection e' with _ e'; omega
            clear e'
            have HX := hide hx
            have HALL := hide hall
            have HARX := hide (HAR6.out.step hx.below)
            clear hx hall
            by_cases hlq : q < as_.length
            · have i1 : (q : Int) < as_.length := by omega
              have i2 : (q : Int) < 64 := by have : as_.length ≤ 64 := HOK.out.1.few; omega
              obtain ⟨bl2, off2, c2, vc, va, vb, e', hbl, hr, ha⟩ := HARX.out.asr.at hlq
              cases e'
              have HXO := hide (HOK.out.1.ok _ (List.getElem_mem hlq))
              have HGT := hide (List.getElem?_eq_getElem hlq)
              generalize as_[q] = x at *
              obtain ⟨Ac, cc, rfl, _, _⟩ := SlAt.form ha.code
              obtain ⟨Aa, ca, rfl, _, _⟩ := SlAt.form ha.fa
              obtain ⟨Ab, cb, rfl, _, _⟩ := SlAt.form ha.fb
              have HA := hide ha
              have HL := hide (ldA (cs := #[.int .i64 x.op, .int .i64 x.lat, (.slice Ac x.code.length cc), .int .i64 x.to_.var, .int .u64 x.to_.el.e0, .int .u64 x.to_.el.e1, .int .u64 x.to_.el.e2, .int .u64 x.to_.el.e3, .int .u64 x.to_.el.e4, .int .u64 x.to_.el.e5, .int .u64 x.to_.el.e6, .int .u64 x.to_.el.e7, (.slice Aa x.a.fields.length ca), .int .i64 x.a.tail, (.slice Ab x.b.fields.length cb), .int .i64 x.b.tail, .int .i64 x.var, .string x.field]) 70 hr Try.underlying70 rfl as_info)
              have HST := hide (stA (w := wr) (new := #[.int .i64 x.op, .int .i64 x.lat, (.slice Ac x.code.length cc), .int .i64 x.to_.var, .int .u64 x.to_.el.e0, .int .u64 x.to_.el.e1, .int .u64 x.to_.el.e2, .int .u64 x.to_.el.e3, .int .u64 x.to_.el.e4, .int .u64 x.to_.el.e5, .int .u64 x.to_.el.e6, .int .u64 x.to_.el.e7, (.slice Aa x.a.fields.length ca), .int .i64 x.a.tail, (.slice Ab x.b.fields.length cb), .int .i64 x.b.tail, .int .i64 x.var, .string x.field]) 14 71 as_info (by simp [Value.oneCell']))
              clear hr ha hbl
              have HNX : Hid (∀ hb' : Bool, (hb' = true → hb = true ∧ (e.why.getLsbD q = true → x.op ≠ 8 → oneV L R x = true)) → hb' = true → ∀ (j : Nat) y, j < q + 1 → as_[j]? = some y → e.why.getLsbD j = true → y.op ≠ 8 → oneV L R y = true) := hide fun hb' h1 h2 j y hj hy hbj hop => by
                obtain ⟨h3, h4⟩ := h1 h2
                rcases Nat.lt_or_ge j q with h | h
                · exact HALL.out h3 j y h hy hbj hop
                · obtain rfl : j = q := by omega
                  rw [HGT.out] at hy
                  injection hy with hy
                  subst hy
                  exact h4 hbj hop
              go_upto_region 16 with (first | (with_reducible refine HL.out _ _ _ _ _ rfl rfl (by with_unfolding_all rfl) ?_) | (with_reducible refine HST.out _ _ _ _ _ _ rfl rfl rfl rfl (by with_unfolding_all rfl) ?_))
              have HB7 := hide (below_laid wr (.cells #[.int .i64 x.op, .int .i64 x.lat, (.slice Ac x.code.length cc), .int .i64 x.to_.var, .int .u64 x.to_.el.e0, .int .u64 x.to_.el.e1, .int .u64 x.to_.el.e2, .int .u64 x.to_.el.e3, .int .u64 x.to_.el.e4, .int .u64 x.to_.el.e5, .int .u64 x.to_.el.e6, .int .u64 x.to_.el.e7, (.slice Aa x.a.fields.length ca), .int .i64 x.a.tail, (.slice Ab x.b.fields.length cb), .int .i64 x.b.tail, .int .i64 x.var, .string x.field] 70))
              have HL2 := hide (ldA (k := 14) (cs := #[.int .i64 x.op, .int .i64 x.lat, (.slice Ac x.code.length cc), .int .i64 x.to_.var, .int .u64 x.to_.el.e0, .int .u64 x.to_.el.e1, .int .u64 x.to_.el.e2, .int .u64 x.to_.el.e3, .int .u64 x.to_.el.e4, .int .u64 x.to_.el.e5, .int .u64 x.to_.el.e6, .int .u64 x.to_.el.e7, (.slice Aa x.a.fields.length ca), .int .i64 x.a.tail, (.slice Ab x.b.fields.length cb), .int .i64 x.b.tail, .int .i64 x.var, .string x.field]) (b := wr.heap.size) (o := 0) (w := wr.alloc (.cells #[.int .i64 x.op, .int .i64 x.lat, (.slice Ac x.code.length cc), .int .i64 x.to_.var, .int .u64 x.to_.el.e0, .int .u64 x.to_.el.e1, .int .u64 x.to_.el.e2, .int .u64 x.to_.el.e3, .int .u64 x.to_.el.e4, .int .u64 x.to_.el.e5, .int .u64 x.to_.el.e6, .int .u64 x.to_.el.e7, (.slice Aa x.a.fields.length ca), .int .i64 x.a.tail, (.slice Ab x.b.fields.length cb), .int .i64 x.b.tail, .int .i64 x.var, .string x.field] 70)) (range_block (heap_alloc_last wr _) 0 _ fun j u hu => by rw [Nat.zero_add]; simpa using hu) Try.underlying70 rfl as_info)
              have k0 : (wr.alloc (.cells #[.int .i64 x.op, .int .i64 x.lat, (.slice Ac x.code.length cc), .int .i64 x.to_.var, .int .u64 x.to_.el.e0, .int .u64 x.to_.el.e1, .int .u64 x.to_.el.e2, .int .u64 x.to_.el.e3, .int .u64 x.to_.el.e4, .int .u64 x.to_.el.e5, .int .u64 x.to_.el.e6, .int .u64 x.to_.el.e7, (.slice Aa x.a.fields.length ca), .int .i64 x.a.tail, (.slice Ab x.b.fields.length cb), .int .i64 x.b.tail, .int .i64 x.var, .string x.field] 70)).cell? ⟨wr.heap.size, 0, none⟩ = some (.int .i64 x.op) := by rw [cell_block (heap_alloc_last wr _)]; rfl
              have HX7 := hide (HX.out.step HB7.out)
              have HAR7 := hide (HARX.out.step HB7.out)
              have HA7 := hide (HA.out.below HB7.out)
              clear HL HST HB7
              generalize wr.alloc (Obj.cells _ 70) = w7 at *
              have k1 := HX7.out.cell HW6.out
              have HBT : Hid ((bits BinOp.and IntKind.u64 (zy / 2 ^ q) 1 == 1) = e.why.getLsbD q) := hide (by rw [← HZY.out]; exact bit_at _ _)
              obtain ⟨bq, hbq⟩ : ∃ bq, e.why.getLsbD q = bq := ⟨_, rfl⟩
              rw [hbq] at HBT HNX
              have hbit := HBT.out
              clear hbq HBT
              cases bq
              · go_wp2_with fail
                exact ⟨⟨⟨q + 1, by omega, rfl⟩, ⟨q + 1, rfl, hb, rfl, HNX.out hb fun h => ⟨h, fun h2 => by cases h2⟩⟩, HX7.out⟩, by simp [intOf]; omega⟩
              by_cases h8 : x.op = 8
              · have hop : (x.op != 8) = false := by simp [h8]
                have H8 := hide h8
                clear h8
                go_wp2_with fail
                exact ⟨⟨⟨q + 1, by omega, rfl⟩, ⟨q + 1, rfl, hb, rfl, HNX.out hb fun h => ⟨h, fun _ h2 => absurd H8.out h2⟩⟩, HX7.out⟩, by simp [intOf]; omega⟩
              · have hop : (x.op != 8) = true := by simp [h8]
                have HONE := hide (one_any B vl vv (.slice Ac x.code.length cc) (.slice Aa x.a.fields.length ca) (.slice Ab x.b.fields.length cb) wl wrs x L R w7 HA7.out HAR7.out.labs HAR7.out.rows ⟨by rw [HOK.out.2.rows]; exact HXO.out, by rcases HXO.out.op with h | h | h <;> first | exact absurd h h8 | exact .inl h | exact .inr h⟩ HFEW.out)
                obtain ⟨ov, hov⟩ : ∃ ov, oneV L R x = ov := ⟨_, rfl⟩
                rw [hov] at HONE HNX
                clear hov h8
                have a0 := HAR7.out.p0
                have a1 := HAR7.out.p1
                have a3 := HAR7.out.q0
                have a4 := HAR7.out.q1
                cases ov
                · go_wp2_with (first | (with_reducible refine HL2.out _ _ _ _ _ rfl rfl (by with_unfolding_all rfl) ?_) | (go_at_call 21; refine HONE.out.mono ?_; rintro e w8 ⟨rfl, hb8⟩; have H8 := hide (HX7.out.step hb8); clear hb8))
                  exact ⟨⟨⟨q + 1, by omega, rfl⟩, ⟨q + 1, rfl, false, rfl, HNX.out false fun h => by cases h⟩, H8.out⟩, by simp [intOf]; omega⟩
                · go_wp2_with (first | (with_reducible refine HL2.out _ _ _ _ _ rfl rfl (by with_unfolding_all rfl) ?_) | (go_at_call 21; refine HONE.out.mono ?_; rintro e w8 ⟨rfl, hb8⟩; have H8 := hide (HX7.out.step hb8); clear hb8))
                  exact ⟨⟨⟨q + 1, by omega, rfl⟩, ⟨q + 1, rfl, hb, rfl, HNX.out hb fun h => ⟨h, fun _ _ => by trivial⟩⟩, H8.out⟩, by simp [intOf]; omega⟩
            · obtain rfl : q = as_.length := by omega
              have HEQ : Hid (hb = true → etaL L e.a = etaL L e.b) := hide fun h => HWE.out fun j y hy => HALL.out h j y (List.getElem?_eq_some_iff.1 hy).1 hy
              have HO9 := hide (HO6.out.step HX.out.below)
              have HLT := HLT6
              have HRA := hide (HX.out.range HRG.out.1 HLT.out)
              have HRB := hide (HX.out.range HRG.out.2 HLT.out)
              have HLT9 := hide (Nat.lt_of_lt_of_le HLT.out HX.out.below.size)
              clear HALL HWE HX HRG
              go_upto_region 19 with fail
              have HSS : Hid (Kpt wr wr.drew) := hide ⟨below_drewN (Below.refl _ _) 1⟩
              cases hb
              · refine wp_region_tree [0, 1, 2, 4, 6, 8, 3, 7] (.step 5 true (.step 9 true (.take 10 (.take 11 .done)) .done) .done) (Kpt wr) (by kernel_rfl) (by kernel_rfl) (fun _ _ _ _ _ h => h) HSS.out ?_
                intro hne
                simp only [picks, List.filterMap_cons, List.filterMap_nil, List.getElem?_cons_zero, List.getElem?_cons_succ]
                iterate 8 (refine wpHeld_step (fun K hK => ?_); go_simp; refine hK _ ?_; clear hK K)
                refine wpHeld_nil ?_
                have HNE := hide hne
                clear hne
                iterate 2 (refine wpTree_step rfl fun K hK => ?_; refine wpList_skip (by with_unfolding_all rfl) ?_; go_wp2_with fail; refine chainF (fun _ => HSS.out) (hK _ _ ?_); clear hK K)
                have hne := HNE.out
                iterate 2 (refine wpTree_take rfl (fun K hK => ?_); go_simp; refine hK _ ?_; clear hK K)
                clear hne HNE
                refine wpTree_end ?_
                have HK9 : Hid (Kpt w5 wr.drew) := hide (HO9.out.step (below_drewN (Below.refl _ _) 1))
                clear HEQ HRA HRB HSS
                generalize wr.drew = w9 at *
                go_wp2_with fail
                exact ⟨⟨⟨k + 1, by omega, rfl⟩, HK9.out⟩, by simp [intOf]; omega⟩
              · have heq := HEQ.out rfl
                have HMA := hide (fun (wq : World) (hq : Kpt wr wq) => means_any B wl wrs L e.a wq (HARX.out.labs.below hq.below))
                have HMB := hide (fun (wq : World) (hq : Kpt wr wq) => means_any B wl wrs L e.b wq (HARX.out.labs.below hq.below))
                have HE2 := hide heq
                clear heq HEQ
                refine wp_region_tree [0, 1, 2, 4, 6, 8, 3, 7] (.step 5 true (.step 9 true (.take 10 (.take 11 .done)) .done) .done) (Kpt wr) (by kernel_rfl) (by kernel_rfl) (fun _ _ _ _ _ h => h) HSS.out ?_
                intro hne
                simp only [picks, List.filterMap_cons, List.filterMap_nil, List.getElem?_cons_zero, List.getElem?_cons_succ]
                have hu1 : ∀ u : HoldW (Kpt wr), u.w.cell? ⟨w.heap.size + 1, 0, none⟩ = some wl := fun u => u.ok.cell HARX.out.q0
                have hu2 : ∀ u : HoldW (Kpt wr), u.w.cell? ⟨w.heap.size + 1, 1, none⟩ = some wrs := fun u => u.ok.cell HARX.out.q1
                iterate 6 (refine wpHeld_step (fun K hK => ?_); go_simp; refine hK _ ?_; clear hK K)
                refine wpHeld_step (fun K hK => ?_)
                rw [if_pos (by with_unfolding_all rfl)]
                refine held_mid (b := p6) (o := 0) (cs := [.int .i64 e.a.var, .int .u64 e.a.el.e0, .int .u64 e.a.el.e1, .int .u64 e.a.el.e2, .int .u64 e.a.el.e3, .int .u64 e.a.el.e4, .int .u64 e.a.el.e5, .int .u64 e.a.el.e6, .int .u64 e.a.el.e7]) rfl rfl (by rintro _ ⟨u, rfl⟩; exact u.ok.range HRA.out HLT9.out) Try.underlying50 rfl at_info (hK _ ?_)
                clear hK K
                refine wpHeld_step (fun K hK => ?_)
                rw [if_pos (by with_unfolding_all rfl)]
                refine held_mid (b := p6) (o := 9) (cs := [.int .i64 e.b.var, .int .u64 e.b.el.e0, .int .u64 e.b.el.e1, .int .u64 e.b.el.e2, .int .u64 e.b.el.e3, .int .u64 e.b.el.e4, .int .u64 e.b.el.e5, .int .u64 e.b.el.e6, .int .u64 e.b.el.e7]) rfl rfl (by rintro _ ⟨u, rfl⟩; exact u.ok.range HRB.out HLT9.out) Try.underlying50 rfl at_info (hK _ ?_)
                clear hK K
                refine wpHeld_nil ?_
                have HNE := hide hne
                clear hne hu1 hu2
                refine wpTree_step rfl fun K hK => ?_
                go_wp2_with (go_at_call 17; refine (HMA.out _ HSS.out).mono ?_; rintro e w10 ⟨⟨z1, rfl, hz1⟩, hb10⟩; have H10 := hide (HSS.out.step hb10); have HZ1 := hide hz1; clear hb10 hz1)
                refine chainF (fun _ => H10.out) (hK _ _ ?_)
                clear hK K
                refine wpTree_step rfl fun K hK => ?_
                go_wp2_with (go_at_call 17; refine (HMB.out _ H10.out).mono ?_; rintro e w11 ⟨⟨z2, rfl, hz2⟩, hb11⟩; have H11 := hide (H10.out.step hb11); obtain rfl : z1 = z2 := HZ1.out.symm.trans (HE2.out.trans hz2); clear hb11 hz2)
                refine chainF (fun _ => H11.out) (hK _ _ ?_)
                clear hK K
                have hne := HNE.out
                iterate 2 (refine wpTree_take rfl (fun K hK => ?_); go_simp; refine hK _ ?_; clear hK K)
                clear hne HNE
                refine wpTree_end ?_
                have HK11 := hide (HO9.out.step H11.out.below)
                go_wp2_with fail
                exact ⟨⟨⟨k + 1, by omega, rfl⟩, HK11.out⟩, by simp [intOf]; omega⟩
        · obtain rfl : k = es.length := by omega
          have HAL := hide (alive_any wr)
          go_wp2_with (go_at_call 10; refine HAL.out.mono ?_; rintro e w7 ⟨rfl, hb⟩; have H7 := hide (HAR.out.step hb); clear hb)
          go_ret
          exact ⟨rfl, H7.out.kp.below⟩
end Go.Proofs.Ythnbhcfpfbimgaa
/- Arguments opened: a problem, an assignment. (Printed by rjopen.py.) -/
namespace Go.Proofs.Ythnbhcfpfbimgaa
open Go.ChangeShapes Go.WideShapes Go.ChangeAt Go.RowKit Go.Deep Go.Joins
open Rw (El At Fld)
theorem list_choose {α : Type} {P : Nat → α → Prop} : ∀ (n : Nat), (∀ i, i < n → ∃ x, P i x) → ∃ l : List α, l.length = n ∧ ∀ (i : Nat) x, l[i]? = some x → P i x
  | 0, _ => ⟨[], rfl, fun i x h => by simp at h⟩
  | n + 1, h => by
    obtain ⟨l, h1, h2⟩ := list_choose n fun i hi => h i (by omega)
    obtain ⟨x, hx⟩ := h n (by omega)
    refine ⟨l ++ [x], by simp [h1], fun i y hy => ?_⟩
    rcases Nat.lt_or_ge i n with hi | hi
    · rw [List.getElem?_append_left (by omega)] at hy
      exact h2 i y hy
    · rw [List.getElem?_append_right (by omega)] at hy
      have hi0 : i - l.length = 0 := by
        have := (List.getElem?_eq_some_iff.1 hy).1
        simp at this
        omega
      rw [hi0] at hy
      simp at hy
      subst hy
      have : i = n := by omega
      subst this
      exact hx
theorem flat_of {α : Type} {f : α → List Value} {Q : α → Prop} (C : Nat) : ∀ (n : Nat) (xs : List Value), xs.length = n * C → (∀ i, i < n → ∃ x, part xs C i = f x ∧ Q x) → ∃ l : List α, l.length = n ∧ xs = l.flatMap f ∧ ∀ x ∈ l, Q x
  | 0, xs, h, _ => ⟨[], rfl, List.eq_nil_of_length_eq_zero (by simpa using h), fun x h => by cases h⟩
  | n + 1, xs, h, hp => by
    have e : (n + 1) * C = n * C + C := Nat.succ_mul n C
    obtain ⟨x, hx, hq⟩ := hp 0 (by omega)
    obtain ⟨l, h1, h2, h3⟩ := flat_of (f := f) (Q := Q) C n (xs.drop C) (by rw [List.length_drop]; omega) (fun i hi => by
      obtain ⟨y, hy, hyq⟩ := hp (i + 1) (by omega)
      refine ⟨y, ?_, hyq⟩
      rw [← hy]
      unfold part
      rw [List.drop_drop, Nat.succ_mul, Nat.add_comm C])
    refine ⟨x :: l, by simp [h1], ?_, fun y hy => ?_⟩
    · rw [List.flatMap_cons, ← h2, ← hx]
      unfold part
      rw [Nat.zero_mul, List.drop_zero, List.take_append_drop]
    · rcases List.mem_cons.1 hy with rfl | hy
      · exact hq
      · exact h3 y hy
section
variable {H : Type} {enc : TypeId × Value → H} {W : World} {r : Reach} {b0 : Nat} {v : Value} {d : DataW H} {p : List MemPlace}
theorem bulk_one (d : DataW H) : 1 ≤ Rows.uptoBulk d := by
  cases d with
  | lit l => cases l <;> simp [Rows.uptoBulk]
  | nil => simp [Rows.uptoBulk]
  | ptr d => simp [Rows.uptoBulk]
  | slice elems spare => simp [Rows.uptoBulk]
  | agg parts => simp [Rows.uptoBulk]
  | iface t d => simp [Rows.uptoBulk]
  | map entries => simp [Rows.uptoBulk]
  | held h => simp [Rows.uptoBulk]
theorem bulk_length (l : List (DataW H)) : l.length ≤ Rows.uptoBulkAll l := by
  induction l with
  | nil => simp [Rows.uptoBulkAll]
  | cons x r ih => have := bulk_one x; simp only [Rows.uptoBulkAll, List.length_cons]; omega
theorem bulk_part {d : DataW H} {l : List (DataW H)} (h : d ∈ l) : Rows.uptoBulk d ≤ Rows.uptoBulkAll l := by
  induction l with
  | nil => cases h
  | cons x r ih =>
    simp only [Rows.uptoBulkAll]
    cases List.mem_cons.1 h with
    | inl e => subst e; omega
    | inr e => have := ih e; omega
theorem bulk_bound {l : List (DataW H)} (hk : Rows.uptoSmall H l = true) : Rows.uptoBulkAll l ≤ 1048576 := of_decide_eq_true hk
theorem i64_cell {n : Nat} {t : TypeId} {v : Value} {y : DataW H × List MemPlace} (ht : Try.prog.underlying t = some (.int .i64)) (h : DataW.trod enc Try.prog W 0 (fun _ => true) true n t [v] = some y) : ∃ z : Int, v = .int .i64 z := by
  obtain ⟨z, h1, _⟩ := DataW.trod_int ht h
  simp at h1
  exact ⟨z, h1⟩
theorem u64_cell {n : Nat} {t : TypeId} {v : Value} {y : DataW H × List MemPlace} (ht : Try.prog.underlying t = some (.int .u64)) (h : DataW.trod enc Try.prog W 0 (fun _ => true) true n t [v] = some y) : ∃ z : Int, v = .int .u64 z := by
  obtain ⟨z, h1, _⟩ := DataW.trod_int ht h
  simp at h1
  exact ⟨z, h1⟩
theorem bool_cell {n : Nat} {t : TypeId} {v : Value} {y : DataW H × List MemPlace} (ht : Try.prog.underlying t = some .bool) (h : DataW.trod enc Try.prog W 0 (fun _ => true) true n t [v] = some y) : ∃ z : Bool, v = .bool z := by
  obtain ⟨z, h1, _⟩ := DataW.trod_bool ht h
  simp at h1
  exact ⟨z, h1⟩
theorem str_cell {n : Nat} {t : TypeId} {v : Value} {y : DataW H × List MemPlace} (ht : Try.prog.underlying t = some .string) (h : DataW.trod enc Try.prog W 0 (fun _ => true) true n t [v] = some y) : ∃ s : ByteArray, v = .string s ∧ s.size ≤ maxLen := by
  obtain ⟨z, h1, _, hw⟩ := DataW.trod_string ht h
  simp at h1
  exact ⟨z, h1, hw⟩
/-- A slice, its elements' cells. -/
theorem open_sl {t e : TypeId} {C n : Nat} {cs : List Value} {x : DataW H × List MemPlace} (ht : Try.prog.underlying t = some (.slice e)) (hC : Try.prog.cellsOf e = C) (hC0 : 0 < C) (h : DataW.trod enc Try.prog W 0 (fun _ => true) true n t cs = some x) :
    ∃ v k xs, cs = [v] ∧ SlAt W W.heap.size e C v k xs ∧ xs.length = k * C ∧ k ≤ Rows.uptoBulk x.1 ∧ ∀ i, i < k → ∃ m y, DataW.trod enc Try.prog W 0 (fun _ => true) true m e (part xs C i) = some y ∧ Rows.uptoBulk y.1 ≤ Rows.uptoBulk x.1 := by
  rcases DataW.trod_slice ht h with ⟨h0, _⟩ | ⟨a, len, cap, elems, rest, m, _, hcs, hx, _, hl, hm, hlen, hel, _⟩
  · exact ⟨_, 0, [], h0, SlAt.nil _ _ _ _, by simp, Nat.zero_le _, fun i hi => by omega⟩
  · rw [hC] at hel
    obtain ⟨cl, hcl, hcp⟩ := list_choose (P := fun i (c : List Value) => ∃ y, W.cells? 0 (a.add (i * C)) C = some c ∧ DataW.trod enc Try.prog W 0 (fun _ => true) true m e c = some y ∧ y ∈ elems) len (fun i hi => by
      have hei := hel i hi
      rw [List.getElem?_eq_getElem (by omega), Option.bind_eq_some_iff] at hei
      obtain ⟨c, h1, h2⟩ := hei
      exact ⟨c, _, h1, h2, List.getElem_mem _⟩)
    have hlenC : ∀ c ∈ cl, c.length = C := fun c hc => by
      obtain ⟨i, hi, rfl⟩ := List.mem_iff_getElem.1 hc
      obtain ⟨y, h1, _, _⟩ := hcp i _ (List.getElem?_eq_getElem hi)
      exact (World.cells?_some h1).2.1
    have hfl : cl.flatten.length = len * C := by
      rw [← hcl]
      clear hcp hcl hel
      induction cl with
      | nil => simp
      | cons c cl ih =>
        rw [List.flatten_cons, List.length_append, ih (fun c hc => hlenC c (by simp [hc])), hlenC c (by simp), List.length_cons, Nat.succ_mul]
        omega
    have hpart : ∀ i c, cl[i]? = some c → part cl.flatten C i = c := by
      clear hcp hcl hel hfl
      induction cl with
      | nil => intro i c h; simp at h
      | cons c0 cl ih =>
        intro i c h
        have h0 := hlenC c0 (by simp)
        cases i with
        | zero =>
          simp at h
          subst h
          unfold part
          rw [Nat.zero_mul, List.drop_zero, List.flatten_cons, List.take_append_of_le_length (by omega), List.take_of_length_le (by omega)]
        | succ i =>
          have := ih (fun c hc => hlenC c (by simp [hc])) i c (by simpa using h)
          rw [← this]
          unfold part
          rw [List.flatten_cons, Nat.succ_mul, Nat.add_comm (i * C), ← List.drop_drop, List.drop_left' h0]
    refine ⟨_, len, cl.flatten, hcs, ⟨some a, cap, rfl, hl, hm, hfl, fun h0 => ?_⟩, hfl, ?_, fun i hi => ?_⟩
    · obtain ⟨b, off, spot⟩ := a
      have hcell : ∀ (i : Nat) u, cl.flatten[i]? = some u → W.cell? ((⟨b, off, spot⟩ : Addr).add i) = some u := fun i u hu => by
        have hil := (List.getElem?_eq_some_iff.1 hu).1
        have hq : i / C < len := by rw [hfl] at hil; exact (Nat.div_lt_iff_lt_mul hC0).2 hil
        obtain ⟨c, hc⟩ : ∃ c, cl[i / C]? = some c := ⟨_, List.getElem?_eq_getElem (by omega)⟩
        obtain ⟨y, h1, _, _⟩ := hcp _ _ hc
        have hp := hpart _ _ hc
        obtain ⟨_, _, hat⟩ := World.cells?_some h1
        have hr : i % C < C := Nat.mod_lt _ hC0
        have h2 := hat (i % C) hr
        rw [Go.Deep.add_add] at h2
        have hi : i / C * C + i % C = i := by rw [Nat.mul_comm]; exact Nat.div_add_mod i C
        rw [hi] at h2
        rw [h2, ← hp]
        unfold part
        rw [List.getElem?_take_of_lt hr, List.getElem?_drop, hi]
        exact hu
      have hz : 0 < cl.flatten.length := by rw [hfl]; exact Nat.mul_pos h0 hC0
      have h00 := hcell 0 _ (List.getElem?_eq_getElem hz)
      have hspot : spot = none := by simpa [Addr.add] using World.cell?_spot h00
      subst hspot
      have hlt := World.block_lt_of_cell? W _ h00
      refine ⟨b, off, rfl, .inl hlt, hlt, fun i u hu => ?_⟩
      have := hcell i u hu
      rwa [add_plain] at this
    · rw [hx]
      have := bulk_length (elems.map (·.1))
      simp only [Rows.uptoBulk, List.length_map] at this ⊢
      omega
    · obtain ⟨c, hc⟩ : ∃ c, cl[i]? = some c := ⟨_, List.getElem?_eq_getElem (by omega)⟩
      obtain ⟨y, _, h2, h3⟩ := hcp _ _ hc
      refine ⟨m, y, by rw [hpart _ _ hc]; exact h2, ?_⟩
      rw [hx]
      have := bulk_part (List.mem_map.2 ⟨y, h3, rfl⟩ : y.1 ∈ elems.map (·.1))
      simp only [Rows.uptoBulk]
      omega
end
end Go.Proofs.Ythnbhcfpfbimgaa
