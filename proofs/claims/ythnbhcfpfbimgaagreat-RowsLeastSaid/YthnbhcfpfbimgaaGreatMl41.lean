/- Texts put together: RyRows RySame. -/
import Derived.Deep.OwnRows
import Derived.Laws.OwnMore
import Derived.Test.YthnbhcfpfbimgaaGreatMl39
import Derived.Test.YthnbhcfpfbimgaaGreatMl40
import Derived.Test.YthnbhcfpfbimgaaGreatMl27
import Derived.Test.YthnbhcfpfbimgaaGreatMl25
/- The walk of chapter 22's reference Rows. (Printed by ryrows.py.) -/
namespace Go.Proofs.YthnbhcfpfbimgaaGreat
open Go.RowKit
open Rw (El At Fld)
open Hd (elZ getV giveV raiseV roundV Rst)
/-- An assertion raised, whichever. -/
theorem raise_any (B : Nat) (vc va vb vl vr : Value) (x : As) (L : List El) (R : List (List Vl)) (w : World) (h : AsAt w B x vc va vb) (h1 : Lbs w B vl L) (h2 : Rws w B vr R) (hB : B ≤ w.heap.size) (hx : AoR R.length x) (hR : R.length ≤ 1000) (hN : ∀ r ∈ R, r.length ≤ 100000) :
    Calls Tryz.prog 30 #[.agg #[.int .i64 x.op, .int .i64 x.lat, vc, .int .i64 x.to_.var, .int .u64 x.to_.el.e0, .int .u64 x.to_.el.e1, .int .u64 x.to_.el.e2, .int .u64 x.to_.el.e3, .int .u64 x.to_.el.e4, .int .u64 x.to_.el.e5, .int .u64 x.to_.el.e6, .int .u64 x.to_.el.e7, va, .int .i64 x.a.tail, vb, .int .i64 x.b.tail, .int .i64 x.var, .string x.field], .agg #[vl, vr]] w fun e w' => RGv w B vl (raiseV L x R) e w' := by
  rcases hx.op with h9 | h10
  · obtain ⟨ha, hb⟩ := hx.ok.rows h9
    exact raise_rows B vc va vb vl vr x L R w h h1 h2 hB h9 ha.tail hb.tail hR hN (by have := ha.few; omega) (by have := hb.few; omega)
  · obtain ⟨h0, hl⟩ := hx.ok.lacks h10
    obtain ⟨q, hq⟩ := Int.eq_ofNat_of_zero_le h0
    exact raise_lacks B vc va vb vl vr x L R w h h1 h2 hB h10 q hq (by omega)
namespace Hd
/-- What follows a round. -/
def afterV (L : List El) (as_ : List As) (m : Nat) : Option (List (List Vl) × Bool) → Option (List (List Vl))
  | none => none
  | some (R', false) => some R'
  | some (R', true) => Hd.rowsV L as_ m R'
theorem rowsV_succ (L : List El) (as_ : List As) (m : Nat) (R : List (List Vl)) : Hd.rowsV L as_ (m + 1) R = afterV L as_ m (roundV L as_ R false) := by
  simp only [Hd.rowsV]
  cases roundV L as_ R false with
  | none => rfl
  | some p => obtain ⟨R', b⟩ := p; cases b <;> rfl
end Hd
open Hd (afterV rowsV_succ)
/-- What Rows answers. -/
structure RRs (w : World) (vl : Value) (o : Option (List (List Vl))) (e : Ending) (w' : World) : Prop where
  ex : ∃ A m c b, e = .returned (.tuple #[.agg #[vl, .slice A m c], .bool b]) ∧ Below w.heap.size w w' ∧ o.isSome = b ∧ ∀ R, o = some R → Rws w' w.heap.size (.slice A m c) R
structure RoW (W : World) (vl : Value) (U : List ByteArray) (n q : Nat) (R : List (List Vl)) (wr : World) : Prop where
  below : Below W.heap.size W wr
  res : wr.heap[W.heap.size]? = some (.cells #[.slice none 0 0, .slice none 0 0] 32 (0, 0))
  box : ∃ A m c, wr.heap[q]? = some (.cells #[vl, .slice A m c] 32 (0, 0)) ∧ Rws wr W.heap.size (.slice A m c) R
  ge : W.heap.size < q
  st : Rst U n R
theorem RoW.step {W : World} {vl : Value} {U : List ByteArray} {n q : Nat} {R : List (List Vl)} {wr w' : World} (h : RoW W vl U n q R wr) (hb : Below wr.heap.size wr w') : RoW W vl U n q R w' := by
  obtain ⟨A, m, c, h1, h2⟩ := h.box
  exact ⟨below_next h.below hb, heap_below h.res hb, ⟨A, m, c, heap_below h1 hb, h2.below hb⟩, h.ge, h.st⟩
structure RoO (W : World) (vl : Value) (U : List ByteArray) (n q : Nat) (L : List El) (as_ : List As) (o : Option (List (List Vl))) (kv : Value) (wr : World) : Prop where
  ex : ∃ (k : Nat) (R : List (List Vl)), k ≤ 2000 ∧ kv = .int .i64 (k : Nat) ∧ o = Hd.rowsV L as_ (2000 - k) R ∧ RoW W vl U n q R wr
structure RoI (W : World) (vl : Value) (U : List ByteArray) (n q m : Nat) (L : List El) (as_ : List As) (o : Option (List (List Vl))) (cv iv : Value) (wr : World) : Prop where
  ex : ∃ (i : Nat) (c : Bool) (R : List (List Vl)), i ≤ as_.length ∧ cv = .bool c ∧ iv = .int .i64 (i : Nat) ∧ o = afterV L as_ m (roundV L (as_.drop i) R c) ∧ RoW W vl U n q R wr
/-- What a round of raise leaves in its boxes. -/
structure RaW (W : World) (B : Nat) (vl : Value) (o : Option (List (List Vl) × Bool)) (bv cv ov : Value) (wx : World) : Prop where
  ex : ∃ q A m c ch ok, bv = .pointer (some ⟨q, 0, none⟩) ∧ cv = .bool ch ∧ ov = .bool ok ∧ wx.heap[q]? = some (.cells #[vl, .slice A m c] 32 (0, 0)) ∧ Below W.heap.size W wx ∧ o.isSome = ok ∧ ∀ p, o = some p → p.2 = ch ∧ Rws wx B (.slice A m c) p.1
theorem rws_made {w : World} {B n : Nat} (hn : n ≤ maxLen) : Rws (w.alloc (.cells (madeCells #[.slice none 0 0] n) 57)) B (.slice (some ⟨w.heap.size, 0, none⟩) n n) (List.replicate n []) := by
  have hm : (madeCells #[.slice none 0 0] n : Array Value) = (List.replicate n (.slice none 0 0)).toArray := by rw [← toList_madeCells_one]
  refine ⟨⟨List.replicate n (.slice none 0 0), ?_, fun i r hr => ?_⟩⟩
  · rw [hm, List.length_replicate]
    exact SlAt.of_row (RowZ.laid w 57 1 n _ (by simp) hn)
  · have hi := (List.getElem?_eq_some_iff.1 hr).1
    rw [List.length_replicate] at hi
    rw [List.getElem?_replicate, if_pos hi] at hr
    injection hr with hr
    subst hr
    exact ⟨.slice none 0 0, by rw [List.getElem?_replicate, if_pos hi], SlAt.nil _ _ _ _, fun x hx => by cases hx⟩
theorem Lbs.far {w : World} {B : Nat} {v : Value} {l : List El} (h : Lbs w B v l) : ∃ A c, v = .slice A l.length c := by
  obtain ⟨A, c, e, _, _⟩ := SlAt.form h.at_
  exact ⟨A, c, e⟩
set_option maxRecDepth 100000 in
set_option maxHeartbeats 8000000 in
theorem rows_any (B n : Nat) (vs vl : Value) (as_ : List As) (L : List El) (w : World) (h : Asrs w B vs as_) (h1 : Lbs w B vl L) (hB : B ≤ w.heap.size) (h64 : as_.length ≤ 64) (hok : ∀ x ∈ as_, AoR n x) (hn : n ≤ 64) :
    Calls Tryz.prog 12 #[vs, .int .i64 (n : Nat), vl] w fun e w' => RRs w vl (Hd.rowsV L as_ 2000 (List.replicate n [])) e w' := by
  obtain ⟨A, c, rfl, _, _⟩ := h.form
  obtain ⟨Al, cl, rfl⟩ := h1.far
  obtain ⟨i1, hj, hy0, hy1, hy2⟩ := info_vls
  have hl9 : (as_.length : Int) ≤ 64 := by omega
  have HAS := hide (h.mono hB)
  have HLB := hide (h1.mono hB)
  have HOK := hide hok
  have HFEW : Hid ((namesU as_).length ≤ 100000) := hide (Nat.le_trans (namesU_len fun x hx h9 => by obtain ⟨ha, hb⟩ := (hok x hx).ok.rows h9; have := ha.few; have := hb.few; omega) (by omega))
  have HN64 := hide hn
  clear h h1 hB hok h64
  generalize ho : Hd.rowsV L as_ 2000 (List.replicate n []) = o at *
  have HO := hide ho
  clear ho
  go_enter Tryz.func12, Tryz.ntmps12
  go_upto_region 1 with fail
  have HX0 := hide (heap_alloc_last w (.cells #[.slice none 0 0, .slice none 0 0] 32))
  have HW0 := hide (below_laid w (.cells #[.slice none 0 0, .slice none 0 0] 32))
  have HP0 : Hid (w.heap.size < (w.alloc (.cells #[.slice none 0 0, .slice none 0 0] 32)).heap.size) := hide (by rw [World.size_alloc]; omega)
  generalize w.alloc (Obj.cells #[.slice none 0 0, .slice none 0 0] 32) = w0 at *
  have HST := hide (stA (T := 32) (w := w0.alloc (.cells (madeCells #[.slice none 0 0] n) 57)) (new := #[.slice Al L.length cl, .slice (some ⟨w0.heap.size, 0, none⟩) n n]) 8 18 asn_info (asn_one rfl))
  go_upto_region 2 with (first | (with_reducible refine HST.out _ _ _ _ _ _ rfl rfl rfl rfl (by with_unfolding_all rfl) ?_) | (at_make; go_must (refine wpList_make_row _ rfl _ _ 30 rfl 57 i1 (.slice none 0 0) Tryz.underlying30 hj hy0 hy1 rfl .i64 .i64 n rfl rfl (by rw [hy2]; omega) (by omega) ?_)))
  have HRW : Hid (RoW w (.slice Al L.length cl) (namesU as_) n (w0.heap.size + 1) (List.replicate n []) ((w0.alloc (.cells (madeCells #[.slice none 0 0] n) 57)).alloc (.cells #[.slice Al L.length cl, .slice (some ⟨w0.heap.size, 0, none⟩) n n] 32))) := hide ⟨below_next HW0.out (below_next (below_laid _ _) (below_laid _ _)), heap_below HX0.out (below_next (below_laid _ _) (below_laid _ _)), ⟨_, _, _, heap_two w0 _ _, (rws_made (by unfold maxLen; omega)).below (below_laid _ _)⟩, by have := HP0.out; omega, Rst.begun _ n⟩
  clear HX0 HW0 HST
  generalize (w0.alloc (Obj.cells (madeCells #[.slice none 0 0] n) 57)).alloc (Obj.cells _ 32) = w1 at *
  generalize w0.heap.size + 1 = q at *
  go_wp2_with fail
  go_loopw [9] (fun kv wr => RoO w (.slice Al L.length cl) (namesU as_) n q L as_ o kv wr) (fun kv _ => 2000 - (intOf kv).toNat)
  case atStart => exact ⟨⟨0, _, by omega, rfl, HO.out.symm, HRW.out⟩⟩
  case round =>
    obtain ⟨⟨k, R, hk, rfl, hor, hrw⟩⟩ := hrel
    clear HRW HO
    by_cases hlt : k < 2000
    · have i0 : (k : Int) < 2000 := by omega
      obtain ⟨m, hm⟩ : ∃ m, 2000 - k = m + 1 := ⟨2000 - k - 1, by omega⟩
      have HM := hide hm
      rw [hm, rowsV_succ] at hor
      have HOR := hide hor
      have HRW := hide hrw
      clear hor hrw hm
      generalize wr = wo at *
      go_wp2_with fail
      clear i0
      go_loopw [10, 11] (fun cv iv wr => RoI w (.slice Al L.length cl) (namesU as_) n q m L as_ o cv iv wr) (fun _ iv _ => as_.length - (intOf iv).toNat)
      case atStart => exact ⟨⟨0, false, R, Nat.zero_le _, rfl, rfl, HOR.out, HRW.out⟩⟩
      case round =>
        obtain ⟨⟨i, cb, Ri, hi, rfl, rfl, hoi, hri⟩⟩ := hrel
        clear HRW HOR
        have HRI := hide hri
        obtain ⟨Aq, nq, cq, hq1, hq2⟩ := hri.box
        by_cases hil : i < as_.length
        · have j0 : (i : Int) < as_.length := by omega
          obtain ⟨bl, off, c', vc, va, vb, e, hbl, hr, ha⟩ := (HAS.out.below hri.below).at hil
          cases e
          have hxo := HOK.out _ (List.getElem_mem hil)
          have hxm : as_[i] ∈ as_ := List.getElem_mem hil
          rw [List.drop_eq_getElem_cons hil] at hoi
          generalize as_[i] = x at *
          obtain ⟨Ac, cc, rfl, _, _⟩ := SlAt.form ha.code
          obtain ⟨Aa, ca, rfl, _, _⟩ := SlAt.form ha.fa
          obtain ⟨Ab, cb', rfl, _, _⟩ := SlAt.form ha.fb
          have HA := hide (And.intro ha (And.intro hxo hxm))
          have HR := hide (And.intro hr hbl)
          have HOI := hide hoi
          have HBX := hide (And.intro hq1 hq2)
          clear hr ha hbl hxo hxm hoi hq1 hq2 hri
          go_upto_region 9 with fail
          clear j0
          go_cut [12, 13, 14] from 29 to 39 (fun bv cv ov wx => RaW wr w.heap.size (.slice Al L.length cl) (raiseV L x Ri) bv cv ov wx)
          case first =>
            have HSS : Hid (Kpt wr wr.drew) := hide ⟨below_drewN (Below.refl _ _) 1⟩
            have HRA := hide (fun (wq : World) (hq : Kpt wr wq) => raise_any w.heap.size _ _ _ (.slice Al L.length cl) (.slice Aq nq cq) x L Ri wq (HA.out.1.below hq.below) (HLB.out.below (below_next HRI.out.below hq.below)) (HBX.out.2.below hq.below) (Nat.le_trans HRI.out.below.size hq.below.size) (by rw [HRI.out.st.len]; exact HA.out.2.1) (by rw [HRI.out.st.len]; have := HN64.out; omega) (fun r hr => Nat.le_trans (HRI.out.st.few r hr) HFEW.out))
            refine wp_region_tree [0, 1, 4, 2, 3] (.step 5 true (.take 6 (.take 7 (.take 8 (.take 9 (.step 10 true (.step 11 true (.step 12 true (.step 13 true .done .done) .done) .done) .done))))) (.step 10 true (.step 5 true (.take 6 (.take 7 (.take 8 (.take 9 (.step 11 true (.step 12 true (.step 13 true .done .done) .done) .done))))) .done) .done)) (Kpt wr) (by kernel_rfl) (by kernel_rfl) (fun _ _ _ _ _ h => h) HSS.out ?_
            intro hne
            simp only [picks, List.filterMap_cons, List.filterMap_nil, List.getElem?_cons_zero, List.getElem?_cons_succ]
            have hu1 : ∀ u : HoldW (Kpt wr), u.w.cell? ⟨q, 0, none⟩ = some (.slice Al L.length cl) := fun u => u.ok.cell (by rw [cell_block HBX.out.1]; rfl)
            have hu2 : ∀ u : HoldW (Kpt wr), u.w.cell? ⟨q, 1, none⟩ = some (.slice Aq nq cq) := fun u => u.ok.cell (by rw [cell_block HBX.out.1]; rfl)
            have i9 : (i : Int) < as_.length := by omega
            iterate 4 (refine wpHeld_step (fun K hK => ?_); go_simp; refine hK _ ?_; clear hK K)
            refine wpHeld_step (fun K hK => ?_)
            rw [if_pos (by with_unfolding_all rfl)]
            refine held_mid (b := bl) (o := off + i * 18) (cs := [.int .i64 x.op, .int .i64 x.lat, (.slice Ac x.code.length cc), .int .i64 x.to_.var, .int .u64 x.to_.el.e0, .int .u64 x.to_.el.e1, .int .u64 x.to_.el.e2, .int .u64 x.to_.el.e3, .int .u64 x.to_.el.e4, .int .u64 x.to_.el.e5, .int .u64 x.to_.el.e6, .int .u64 x.to_.el.e7, (.slice Aa x.a.fields.length ca), .int .i64 x.a.tail, (.slice Ab x.b.fields.length cb'), .int .i64 x.b.tail, .int .i64 x.var, .string x.field]) rfl rfl (by rintro _ ⟨u, rfl⟩; exact u.ok.range HR.out.1 HR.out.2) Tryz.underlying71 rfl as_info (hK _ ?_)
            clear hK K
            refine wpHeld_nil ?_
            have HNE := hide hne
            clear hu1 hu2 hne i9
            generalize wr.drew = wd at *
            refine wpTree_both rfl (fun K hK => ?_) (wpTree_step rfl fun K hK => ?_)
            · go_wp2_with (go_at_call 30; refine (HRA.out _ HSS.out).mono ?_; rintro e w4 ⟨⟨A4, n4, c4, ch, ok, rfl, hb4, hs4, hp4⟩⟩; have H4 := hide (And.intro (HSS.out.step hb4) (And.intro hs4 hp4)); clear hb4 hs4 hp4)
              refine chainF (fun _ => H4.out.1) (hK _ _ ?_)
              clear hK K
              have hne := HNE.out
              iterate 4 (refine wpTree_take rfl (fun K hK => ?_); go_simp; refine hK _ ?_; clear hK K)
              clear hne
              refine wpTree_step rfl fun K hK => ?_
              go_wp2_with fail
              refine chainF (fun _ => H4.out.1.step (below_laid _ _)) (hK _ _ ?_)
              clear hK K
              refine wpTree_step rfl fun K hK => ?_
              have HSA := hide (stA (T := 32) (w := w4) (new := #[.slice Al L.length cl, .slice A4 n4 c4]) 12 36 asn_info (asn_one rfl))
              go_wp2_with (with_reducible refine HSA.out _ _ _ _ _ _ rfl rfl rfl rfl (by with_unfolding_all rfl) ?_)
              refine chainF (fun _ => H4.out.1.step (below_laid _ _)) (hK _ _ ?_)
              clear hK K
              refine wpTree_step rfl fun K hK => ?_
              go_wp2_with fail
              refine chainF (fun _ => H4.out.1.step (below_laid _ _)) (hK _ _ ?_)
              clear hK K
              refine wpTree_step rfl fun K hK => ?_
              go_wp2_with fail
              refine chainF (fun _ => H4.out.1.step (below_laid _ _)) (hK _ _ ?_)
              clear hK K
              refine wpTree_end ?_
              go_wp2_with fail
              go_meet
              exact ⟨⟨w4.heap.size, A4, n4, c4, ch, ok, rfl, rfl, rfl, heap_alloc_last _ _, (H4.out.1.step (below_laid _ _)).below, H4.out.2.1, fun p hp => ⟨(H4.out.2.2 p hp).1, (H4.out.2.2 p hp).2.below (below_laid _ _)⟩⟩⟩
            · go_wp2_with fail
              have HSB : Hid (Kpt wr (wd.alloc (.cells #[.slice none 0 0, .slice none 0 0] 32))) := hide (HSS.out.step (below_laid _ _))
              have HZB : Hid ((wd.alloc (.cells #[.slice none 0 0, .slice none 0 0] 32)).heap[wd.heap.size]? = some (.cells #[.slice none 0 0, .slice none 0 0] 32 (0, 0))) := hide (heap_alloc_last wd _)
              generalize wd.alloc (Obj.cells #[.slice none 0 0, .slice none 0 0] 32) = wz at *
              refine chainF (fun _ => HSB.out) (hK _ _ ?_)
              clear hK K
              refine wpTree_step rfl fun K hK => ?_
              go_wp2_with (go_at_call 30; refine (HRA.out _ HSB.out).mono ?_; rintro e w4 ⟨⟨A4, n4, c4, ch, ok, rfl, hb4, hs4, hp4⟩⟩; have H4 := hide (And.intro (HSB.out.step hb4) (And.intro hs4 (And.intro hp4 (heap_below HZB.out hb4)))); clear hb4 hs4 hp4)
              refine chainF (fun _ => H4.out.1) (hK _ _ ?_)
              clear hK K
              have hne := HNE.out
              iterate 4 (refine wpTree_take rfl (fun K hK => ?_); go_simp; refine hK _ ?_; clear hK K)
              clear hne
              refine wpTree_step rfl fun K hK => ?_
              have HSR : Hid (Kpt wr (w4.setRow wd.heap.size #[.slice Al L.length cl, .slice A4 n4 c4])) := hide ⟨below_setRow H4.out.1.below HSS.out.below.size _⟩
              refine wpList_store_row rfl 32 (.tmp 12) (.tmp 36) rfl wd.heap.size #[.slice Al L.length cl, .slice A4 n4 c4] rfl rfl 32 _ H4.out.2.2.2 asn_info rfl (asn_one rfl) ?_
              have HSH := hide (setRow_heap w4 wd.heap.size #[.slice none 0 0, .slice none 0 0] #[.slice Al L.length cl, .slice A4 n4 c4] 32 (0, 0) H4.out.2.2.2)
              have HPP := hide (fun p hp => And.intro (H4.out.2.2.1 p hp).1 ((H4.out.2.2.1 p hp).2.setRow' (new := #[.slice Al L.length cl, .slice A4 n4 c4]) H4.out.2.2.2 (Nat.le_trans HRI.out.below.size HSS.out.below.size)))
              generalize w4.setRow wd.heap.size #[.slice Al L.length cl, .slice A4 n4 c4] = w6 at *
              go_wp2_with fail
              refine chainF (fun _ => HSR.out) (hK _ _ ?_)
              clear hK K
              refine wpTree_step rfl fun K hK => ?_
              go_wp2_with fail
              refine chainF (fun _ => HSR.out) (hK _ _ ?_)
              clear hK K
              refine wpTree_step rfl fun K hK => ?_
              go_wp2_with fail
              refine chainF (fun _ => HSR.out) (hK _ _ ?_)
              clear hK K
              refine wpTree_end ?_
              go_wp2_with fail
              go_meet
              exact ⟨⟨wd.heap.size, A4, n4, c4, ch, ok, rfl, rfl, rfl, HSH.out, HSR.out.below, H4.out.2.1, HPP.out⟩⟩
          case rest =>
            obtain ⟨⟨q2, A2, m2, c2, ch, ok, rfl, rfl, rfl, hh, hbx, hok, hp⟩⟩ := hcut
            have HRS := hide (HRI.out.step hbx)
            have HBX2 := hide (And.intro (heap_below HBX.out.1 hbx) (HBX.out.2.below hbx))
            clear HBX
            have HBX := HBX2
            clear HBX2
            cases hra : raiseV L x Ri with
            | none =>
              rw [hra] at hok
              have hok : false = ok := hok
              subst hok
              have HE : Hid (o = none) := hide (by rw [HOI.out]; simp only [roundV, hra]; rfl)
              clear hh hbx hp hra
              cases cb
              · have HSO := hide (stO (T := 32) (w := wc) (b := w.heap.size) (new := #[.slice Al L.length cl, .slice Aq nq cq]) 6 41 HRS.out.res asn_info rfl (asn_one rfl))
                have b0 : wc.cell? ⟨q, 0, none⟩ = some (.slice Al L.length cl) := by rw [cell_block HBX.out.1]; rfl
                have b1 : wc.cell? ⟨q, 1, none⟩ = some (.slice Aq nq cq) := by rw [cell_block HBX.out.1]; rfl
                go_wp2_with (with_reducible refine HSO.out _ _ _ _ _ rfl rfl rfl rfl ?_)
                refine bodyPost_ret (results_cell_tmp Tryz.results12 rfl (ld_asn (setRow_heap wc _ _ _ _ _ HRS.out.res))) rfl ⟨⟨_, _, _, _, rfl, below_setRow HRS.out.below (Nat.le_refl _) _, by rw [HE.out]; rfl, fun R hR => by rw [HE.out] at hR; cases hR⟩⟩
              · have HSO := hide (stO (T := 32) (w := wc) (b := w.heap.size) (new := #[.slice Al L.length cl, .slice Aq nq cq]) 6 41 HRS.out.res asn_info rfl (asn_one rfl))
                have b0 : wc.cell? ⟨q, 0, none⟩ = some (.slice Al L.length cl) := by rw [cell_block HBX.out.1]; rfl
                have b1 : wc.cell? ⟨q, 1, none⟩ = some (.slice Aq nq cq) := by rw [cell_block HBX.out.1]; rfl
                go_wp2_with (with_reducible refine HSO.out _ _ _ _ _ rfl rfl rfl rfl ?_)
                refine bodyPost_ret (results_cell_tmp Tryz.results12 rfl (ld_asn (setRow_heap wc _ _ _ _ _ HRS.out.res))) rfl ⟨⟨_, _, _, _, rfl, below_setRow HRS.out.below (Nat.le_refl _) _, by rw [HE.out]; rfl, fun R hR => by rw [HE.out] at hR; cases hR⟩⟩
            | some p =>
              obtain ⟨R1, d⟩ := p
              rw [hra] at hok hp
              have hok : true = ok := hok
              subst hok
              obtain ⟨hpc, hpr⟩ := hp _ rfl
              have hpc : d = ch := hpc
              subst hpc
              have HE : Hid (o = afterV L as_ m (roundV L (as_.drop (i + 1)) R1 (cb || d))) := hide (by rw [HOI.out]; simp only [roundV, hra])
              have HR1 := hide (HRI.out.st.raise HA.out.2.2 (Hd.raise_spec HRI.out.st.up HA.out.2.1.op hra))
              have b0 : wc.cell? ⟨q2, 0, none⟩ = some (.slice Al L.length cl) := by rw [cell_block hh]; rfl
              have b1 : wc.cell? ⟨q2, 1, none⟩ = some (.slice A2 m2 c2) := by rw [cell_block hh]; rfl
              have HSO := hide (stO (T := 32) (w := wc) (b := q) (new := #[.slice Al L.length cl, .slice A2 m2 c2]) 8 46 HBX.out.1 asn_info rfl (asn_one rfl))
              have HNX : Hid (RoW w (.slice Al L.length cl) (namesU as_) n q R1 (wc.setRow q #[.slice Al L.length cl, .slice A2 m2 c2])) := hide ⟨below_setRow HRS.out.below (Nat.le_of_lt HRS.out.ge) _, (heap_row_ne _ (by have := HRS.out.ge; omega)).trans HRS.out.res, ⟨_, _, _, setRow_heap wc q _ _ _ _ HBX.out.1, hpr.setRow' HBX.out.1 (Nat.le_of_lt HRS.out.ge)⟩, HRS.out.ge, HR1.out⟩
              clear hh hbx hpr hra
              cases cb
              · go_wp2_with (with_reducible refine HSO.out _ _ _ _ _ rfl rfl rfl rfl ?_)
                exact ⟨⟨⟨i + 1, d, R1, by omega, rfl, rfl, HE.out, HNX.out⟩⟩, by simp [intOf]; omega⟩
              · go_wp2_with (with_reducible refine HSO.out _ _ _ _ _ rfl rfl rfl rfl ?_)
                exact ⟨⟨⟨i + 1, true, R1, by omega, rfl, rfl, HE.out, HNX.out⟩⟩, by simp [intOf]; omega⟩
        · obtain rfl : i = as_.length := by omega
          rw [List.drop_length] at hoi
          have HBX := hide (And.intro hq1 hq2)
          have HRS := HRI
          clear hq1 hq2 hri
          cases cb
          · have HE : Hid (o = some Ri) := hide hoi
            have HSO := hide (stO (T := 32) (w := wr) (b := w.heap.size) (new := #[.slice Al L.length cl, .slice Aq nq cq]) 6 49 HRS.out.res asn_info rfl (asn_one rfl))
            have b0 : wr.cell? ⟨q, 0, none⟩ = some (.slice Al L.length cl) := by rw [cell_block HBX.out.1]; rfl
            have b1 : wr.cell? ⟨q, 1, none⟩ = some (.slice Aq nq cq) := by rw [cell_block HBX.out.1]; rfl
            go_wp2_with (with_reducible refine HSO.out _ _ _ _ _ rfl rfl rfl rfl ?_)
            refine bodyPost_ret (results_cell_tmp Tryz.results12 rfl (ld_asn (setRow_heap wr _ _ _ _ _ HRS.out.res))) rfl ⟨⟨_, _, _, _, rfl, below_setRow HRS.out.below (Nat.le_refl _) _, by rw [HE.out]; rfl, fun R hR => by rw [HE.out] at hR; injection hR with hR; subst hR; exact HBX.out.2.setRow' HRS.out.res (Nat.le_refl _)⟩⟩
          · have HE : Hid (o = Hd.rowsV L as_ m Ri) := hide hoi
            clear hoi
            go_wp2_with fail
            exact ⟨⟨⟨k + 1, Ri, by omega, rfl, by rw [HE.out, show 2000 - (k + 1) = m by have := HM.out; omega], HRI.out⟩⟩, by simp [intOf]; omega⟩
    · obtain rfl : k = 2000 := by omega
      have HRS := hide hrw
      obtain ⟨Aq, nq, cq, hq1, hq2⟩ := hrw.box
      have HBX := hide (And.intro hq1 hq2)
      have HE : Hid (o = none) := hide hor
      clear hq1 hq2 hrw hor
      have HSO := hide (stO (T := 32) (w := wr) (b := w.heap.size) (new := #[.slice Al L.length cl, .slice Aq nq cq]) 6 50 HRS.out.res asn_info rfl (asn_one rfl))
      have b0 : wr.cell? ⟨q, 0, none⟩ = some (.slice Al L.length cl) := by rw [cell_block HBX.out.1]; rfl
      have b1 : wr.cell? ⟨q, 1, none⟩ = some (.slice Aq nq cq) := by rw [cell_block HBX.out.1]; rfl
      go_wp2_with (with_reducible refine HSO.out _ _ _ _ _ rfl rfl rfl rfl ?_)
      refine bodyPost_ret (results_cell_tmp Tryz.results12 rfl (ld_asn (setRow_heap wr _ _ _ _ _ HRS.out.res))) rfl ⟨⟨_, _, _, _, rfl, below_setRow HRS.out.below (Nat.le_refl _) _, by rw [HE.out]; rfl, fun R hR => by rw [HE.out] at hR; cases hR⟩⟩
end Go.Proofs.YthnbhcfpfbimgaaGreat
/- The walk of chapter 18's Same, at two assignments that are the same. (Printed by rysame.py.) -/
namespace Go.Proofs.YthnbhcfpfbimgaaGreat
open Go.RowKit
open Rw (El At Fld)
open Hd (sameV)
set_option maxRecDepth 100000 in
set_option maxHeartbeats 8000000 in
theorem same18_true (B B2 : Nat) (vl vr vl2 vr2 : Value) (L : List El) (R : List (List Vl)) (w : World) (h1 : Lbs w B vl L) (h2 : Rws w B vr R) (h3 : Lbs w B2 vl2 L) (h4 : Rws w B2 vr2 R) :
    Calls Tryz.prog 17 #[.agg #[vl, vr], .agg #[vl2, vr2]] w fun e w' => e = .returned (.bool true) ∧ Below w.heap.size w w' := by
  obtain ⟨Al, cl, rfl, _, hc1⟩ := SlAt.form h1.at_
  obtain ⟨Ar, cr, rfl, _, hc2⟩ := h2.form
  obtain ⟨Bl, dl, rfl, _, _⟩ := SlAt.form h3.at_
  obtain ⟨Br, dr, rfl, _, _⟩ := h4.form
  have hl9 : (L.length : Int) ≤ 9223372036854775807 := by unfold maxLen at hc1; omega
  have hr9 : (R.length : Int) ≤ 9223372036854775807 := by unfold maxLen at hc2; omega
  have HB := hide (below_next (below_laid w (.cells #[.slice Al L.length cl, .slice Ar R.length cr] 32)) (below_laid _ (.cells #[.slice Bl L.length dl, .slice Br R.length dr] 32)))
  have HA := hide (heap_below (heap_alloc_last w (.cells #[.slice Al L.length cl, .slice Ar R.length cr] 32)) (below_laid _ (.cells #[.slice Bl L.length dl, .slice Br R.length dr] 32)))
  have HA2 := hide (heap_two w (.cells #[.slice Al L.length cl, .slice Ar R.length cr] 32) (.cells #[.slice Bl L.length dl, .slice Br R.length dr] 32))
  have H1 := hide (h1.below HB.out)
  have H2 := hide (h2.below HB.out)
  have H3 := hide (h3.below HB.out)
  have H4 := hide (h4.below HB.out)
  clear h1 h2 h3 h4 hc1 hc2
  go_enter Tryz.func17, Tryz.ntmps17
  go_upto_region 1 with fail
  generalize (w.alloc (Obj.cells #[.slice Al L.length cl, .slice Ar R.length cr] 32)).alloc (Obj.cells #[.slice Bl L.length dl, .slice Br R.length dr] 32) = w0 at *
  have HC : Hid (w0.cell? ⟨w.heap.size, 0, none⟩ = some (.slice Al L.length cl) ∧ w0.cell? ⟨w.heap.size, 1, none⟩ = some (.slice Ar R.length cr) ∧ w0.cell? ⟨w.heap.size + 1, 0, none⟩ = some (.slice Bl L.length dl) ∧ w0.cell? ⟨w.heap.size + 1, 1, none⟩ = some (.slice Br R.length dr)) := hide ⟨by rw [cell_block HA.out]; rfl, by rw [cell_block HA.out]; rfl, by rw [cell_block HA2.out]; rfl, by rw [cell_block HA2.out]; rfl⟩
  clear HA HA2
  have c0 := HC.out.1
  have c1 := HC.out.2.1
  have c2 := HC.out.2.2.1
  have c3 := HC.out.2.2.2
  go_wp2_with fail
  clear c0 c1 c2 c3
  go_loopw [5] (fun kv wr => (∃ k : Nat, k ≤ L.length ∧ kv = .int .i64 (k : Nat)) ∧ Kpt w0 wr) (fun kv _ => L.length - (intOf kv).toNat)
  case atStart => exact ⟨⟨0, by omega, rfl⟩, ⟨Below.refl _ _⟩⟩
  case round =>
    obtain ⟨⟨k, hk, rfl⟩, ho⟩ := hrel
    have HO := hide ho
    clear ho
    have c0 := HO.out.cell HC.out.1
    by_cases hlt : k < L.length
    · have i0 : (k : Int) < L.length := by omega
      obtain ⟨bl, off, c', e, hbl, hr⟩ := SlAt.elem (H1.out.at_.below HO.out.below) (fun _ => rfl) hlt
      cases e
      obtain ⟨bl2, off2, c3', e, hbl2, hr2⟩ := SlAt.elem (H3.out.at_.below HO.out.below) (fun _ => rfl) hlt
      cases e
      generalize L[k] = e at *
      have HR := hide (And.intro hr (And.intro hbl (And.intro hr2 hbl2)))
      clear hr hbl hr2 hbl2
      go_upto_region 6 with fail
      clear c0
      have HSS : Hid (Kpt w0 wr.drew) := hide (HO.out.step (below_drewN (Below.refl _ _) 1))
      have HS2 : Hid (Kpt wr wr.drew) := hide ⟨below_drewN (Below.refl _ _) 1⟩
      refine wp_region_tree [0, 2, 5, 7, 1, 6, 3, 8, 4, 9, 10] .done (Kpt wr) (by kernel_rfl) (by kernel_rfl) (fun _ _ _ _ _ h => h) HS2.out ?_
      intro hne
      simp only [picks, List.filterMap_cons, List.filterMap_nil, List.getElem?_cons_zero, List.getElem?_cons_succ]
      have hu0 : ∀ u : HoldW (Kpt wr), u.w.cell? ⟨w.heap.size, 0, none⟩ = some (.slice (some ⟨bl, off, none⟩) L.length cl) := fun u => u.ok.cell (HO.out.cell HC.out.1)
      have hu1 : ∀ u : HoldW (Kpt wr), u.w.cell? ⟨w.heap.size + 1, 0, none⟩ = some (.slice (some ⟨bl2, off2, none⟩) L.length dl) := fun u => u.ok.cell (HO.out.cell HC.out.2.2.1)
      iterate 8 (refine wpHeld_step (fun K hK => ?_); go_simp; refine hK _ ?_; clear hK K)
      refine wpHeld_step (fun K hK => ?_)
      rw [if_pos (by with_unfolding_all rfl)]
      refine held_mid (b := bl) (o := off + k * 8) (cs := [.int .u64 e.e0, .int .u64 e.e1, .int .u64 e.e2, .int .u64 e.e3, .int .u64 e.e4, .int .u64 e.e5, .int .u64 e.e6, .int .u64 e.e7]) rfl rfl (by rintro _ ⟨u, rfl⟩; exact u.ok.range HR.out.1 HR.out.2.1) Tryz.underlying48 rfl el_info (hK _ ?_)
      clear hK K
      refine wpHeld_step (fun K hK => ?_)
      rw [if_pos (by with_unfolding_all rfl)]
      refine held_mid (b := bl2) (o := off2 + k * 8) (cs := [.int .u64 e.e0, .int .u64 e.e1, .int .u64 e.e2, .int .u64 e.e3, .int .u64 e.e4, .int .u64 e.e5, .int .u64 e.e6, .int .u64 e.e7]) rfl rfl (by rintro _ ⟨u, rfl⟩; exact u.ok.range HR.out.2.2.1 HR.out.2.2.2) Tryz.underlying48 rfl el_info (hK _ ?_)
      clear hK K
      refine wpHeld_step (fun K hK => ?_)
      go_simp
      refine hK _ ?_
      clear hK K hu0 hu1
      refine wpHeld_nil ?_
      clear hne
      refine wpTree_end ?_
      generalize wr.drew = wz at *
      go_wp2_with fail
      exact ⟨⟨⟨k + 1, by omega, rfl⟩, HSS.out⟩, by simp [intOf]; omega⟩
    · obtain rfl : k = L.length := by omega
      generalize wr = wo at *
      go_wp2_with fail
      clear c0
      go_loopw [6] (fun kv wr => (∃ k : Nat, k ≤ R.length ∧ kv = .int .i64 (k : Nat)) ∧ Kpt w0 wr) (fun kv _ => R.length - (intOf kv).toNat)
      case atStart => exact ⟨⟨0, by omega, rfl⟩, HO.out⟩
      case round =>
        obtain ⟨⟨j, hj, rfl⟩, ho⟩ := hrel
        have HJ := hide ho
        clear ho
        have c1 := HJ.out.cell HC.out.2.1
        by_cases hlt : j < R.length
        · have i0 : (j : Int) < R.length := by omega
          obtain ⟨bl, off, c', u1, e, hbl, hcu, hu⟩ := (H2.out.below HJ.out.below).at hlt
          cases e
          obtain ⟨bl2, off2, c3', u2, e, hbl2, hcu2, hu2⟩ := (H4.out.below HJ.out.below).at hlt
          cases e
          generalize R[j] = r at *
          obtain ⟨Au, cu, rfl, _, _⟩ := SlAt.form hu.at_
          obtain ⟨Av, cv, rfl, _, _⟩ := SlAt.form hu2.at_
          have HR := hide (And.intro hcu (And.intro hu (And.intro hcu2 hu2)))
          clear hcu hu hcu2 hu2
          go_upto_region 11 with fail
          clear c1
          have HS2 : Hid (Kpt wr wr.drew) := hide ⟨below_drewN (Below.refl _ _) 1⟩
          have HF := hide (fun (wq : World) (hq : Kpt wr wq) => fields18_any B B2 _ _ r r wq (HR.out.2.1.below hq.below) (HR.out.2.2.2.below hq.below))
          rw [show sameV r r = true from Hd.sameV_iff.2 rfl] at HF
          refine wp_region_tree [0, 2, 5, 7, 1, 6, 3, 8, 4, 9] (.step 10 true (.take 11 .done) .done) (Kpt wr) (by kernel_rfl) (by kernel_rfl) (fun _ _ _ _ _ h => h) HS2.out ?_
          intro hne
          simp only [picks, List.filterMap_cons, List.filterMap_nil, List.getElem?_cons_zero, List.getElem?_cons_succ]
          have hu0 : ∀ u : HoldW (Kpt wr), u.w.cell? ⟨w.heap.size, 1, none⟩ = some (.slice (some ⟨bl, off, none⟩) R.length cr) := fun u => u.ok.cell (HJ.out.cell HC.out.2.1)
          have hu1 : ∀ u : HoldW (Kpt wr), u.w.cell? ⟨w.heap.size + 1, 1, none⟩ = some (.slice (some ⟨bl2, off2, none⟩) R.length dr) := fun u => u.ok.cell (HJ.out.cell HC.out.2.2.2)
          have hu3 : ∀ u : HoldW (Kpt wr), u.w.cell? ⟨bl, off + j, none⟩ = some (.slice Au r.length cu) := fun u => u.ok.cell HR.out.1
          have hu4 : ∀ u : HoldW (Kpt wr), u.w.cell? ⟨bl2, off2 + j, none⟩ = some (.slice Av r.length cv) := fun u => u.ok.cell HR.out.2.2.1
          iterate 10 (refine wpHeld_step (fun K hK => ?_); go_simp; refine hK _ ?_; clear hK K)
          refine wpHeld_nil ?_
          have HNE := hide hne
          clear hu0 hu1 hu3 hu4 hne
          generalize wr.drew = wd at *
          refine wpTree_step rfl fun K hK => ?_
          go_wp2_with (go_at_call 34; refine (HF.out _ HS2.out).mono ?_; rintro e w4 ⟨rfl, hb4⟩; have H5 := hide (HS2.out.step hb4); clear hb4)
          refine chainF (fun _ => H5.out) (hK _ _ ?_)
          clear hK K
          have hne := HNE.out
          refine wpTree_take rfl (fun K hK => ?_)
          go_simp
          refine hK _ ?_
          clear hK K hne
          refine wpTree_end ?_
          have HJ5 := hide (HJ.out.step H5.out.below)
          go_wp2_with fail
          exact ⟨⟨⟨j + 1, by omega, rfl⟩, HJ5.out⟩, by simp [intOf]; omega⟩
        · obtain rfl : j = R.length := by omega
          go_wp2_with fail
          go_ret
          exact ⟨rfl, below_next HB.out HJ.out.below⟩
end Go.Proofs.YthnbhcfpfbimgaaGreat
