/- Texts put together: RhRow. -/
import Derived.Test.YthnbhcfpfbimgaaGreatMl25
/- The walk of chapter 19's Row. (Printed by rhrow.py.) -/
namespace Go.Proofs.YthnbhcfpfbimgaaGreat
open Go.RowKit
open Rw (El At Fld)
open Hd (elZ getV withV atomV fieldsV tailV rowH gather)
namespace Hd
theorem fieldsV_snoc (L : List El) (f : Fld) : ∀ l : List Fld, fieldsV L (l ++ [f]) = match fieldsV L l, atomV L f.at_ with
    | some v, some e => some (v ++ [⟨f.name, e⟩])
    | _, _ => none
  | [] => by
    simp only [List.nil_append, fieldsV]
    cases atomV L f.at_ <;> rfl
  | x :: l => by
    simp only [List.cons_append, fieldsV, fieldsV_snoc L f l]
    cases atomV L x.at_ <;> cases fieldsV L l <;> cases atomV L f.at_ <;> rfl
theorem fieldsV_none (L : List El) : ∀ {l : List Fld} {f : Fld}, f ∈ l → atomV L f.at_ = none → fieldsV L l = none
  | [], f, h, _ => by cases h
  | x :: l, f, h, e => by
    simp only [fieldsV]
    rcases List.mem_cons.1 h with rfl | h
    · rw [e]
    · rw [fieldsV_none L h e]
      cases atomV L x.at_ <;> rfl
end Hd
theorem vls_one (l : List Vl) : ∀ u ∈ l.flatMap vlV, u.oneCell' = true := fun u hu => by
  simp only [List.mem_flatMap] at hu
  obtain ⟨f, _, hf⟩ := hu
  simp only [vlV, elV, List.mem_cons, List.not_mem_nil, or_false] at hf
  rcases hf with rfl | rfl | rfl | rfl | rfl | rfl | rfl | rfl | rfl <;> rfl
/-- What Row hands back. -/
structure RRow (W : World) (r : Option (List Vl)) (e : Ending) (w' : World) : Prop where
  ex : (r = none ∧ e = .returned (.tuple #[.slice none 0 0, .bool false]) ∧ Below W.heap.size W w') ∨ ∃ l v, r = some l ∧ e = .returned (.tuple #[v, .bool true]) ∧ VaS W v l w'
structure RoL (W : World) (L : List El) (fs : List Fld) (tl : List Vl) (kv v : Value) (wr : World) : Prop where
  ex : ∃ (k : Nat) (vs : List Vl), k ≤ fs.length ∧ kv = .int .i64 (k : Nat) ∧ fieldsV L (fs.take k) = some vs ∧ vs.length = k ∧ VaS W v (tl ++ vs) wr
structure RoG (W W5 : World) (al : List Vl) (kv v : Value) (wr : World) : Prop where
  ex : ∃ (k : Nat) (o : List Vl), k ≤ al.length ∧ kv = .int .i64 (k : Nat) ∧ gather [] al = gather o (al.drop k) ∧ o.length ≤ k ∧ VaS W v o wr ∧ Below W5.heap.size W5 wr
/-- An element in a block of its own, all else kept. -/
structure RoS (W : World) (q : Nat) (cs : Array Value) (wr : World) : Prop where
  below : Below W.heap.size W wr
  el : wr.heap[q]? = some (.cells cs 48 (0, 0))
structure RoC (W : World) (o : Option El) (p b : Value) (wx : World) : Prop where
  ex : ∃ (q : Nat) (z : El) (c : Bool), p = .pointer (some ⟨q, 0, none⟩) ∧ b = .bool c ∧ o.getD elZ = z ∧ o.isSome = c ∧ wx.heap[q]? = some (.cells #[.int .u64 z.e0, .int .u64 z.e1, .int .u64 z.e2, .int .u64 z.e3, .int .u64 z.e4, .int .u64 z.e5, .int .u64 z.e6, .int .u64 z.e7] 48 (0, 0)) ∧ Below W.heap.size W wx
set_option maxRecDepth 100000 in
set_option maxHeartbeats 4000000 in
theorem row19_any (B : Nat) (va vl vr : Value) (L : List El) (R : List (List Vl)) (t : Rw.Term) (w : World) (h : SlAt w B 59 10 va t.fields.length (fdsV t.fields)) (hsm : Sml t.fields) (h1 : Lbs w B vl L) (h2 : Rws w B vr R) (hfew : ∀ r ∈ R, r.length ≤ 1048576) (ht : t.fields.length ≤ 1000) : Calls Tryz.prog 55 #[.agg #[va, .int .i64 t.tail], .agg #[vl, vr]] w fun e w' => RRow w (rowH L R t) e w' := by
  obtain ⟨i1, hj, hy0, hy1, hy2⟩ := info_parts info_val
  obtain ⟨Aa, ca, rfl, _, _⟩ := SlAt.form h
  obtain ⟨Al, cl, rfl, _, _⟩ := SlAt.form h1.at_
  obtain ⟨Ar, cr, rfl, _, hcr⟩ := h2.form
  have hr9 : (R.length : Int) ≤ 9223372036854775807 := by unfold maxLen at hcr; omega
  have HB := hide (below_next (below_laid w (.cells #[.slice Aa t.fields.length ca, .int .i64 t.tail] 69)) (below_laid _ (.cells #[.slice Al L.length cl, .slice Ar R.length cr] 32)))
  have HA := hide (heap_below (heap_alloc_last w (.cells #[.slice Aa t.fields.length ca, .int .i64 t.tail] 69)) (below_laid _ (.cells #[.slice Al L.length cl, .slice Ar R.length cr] 32)))
  have HA2 := hide (heap_two w (.cells #[.slice Aa t.fields.length ca, .int .i64 t.tail] 69) (.cells #[.slice Al L.length cl, .slice Ar R.length cr] 32))
  have HFS := hide (And.intro (h.below HB.out) hsm)
  have HLB := hide (h1.below HB.out)
  have HRW := hide (h2.below HB.out)
  have HFEW := hide (And.intro hfew ht)
  have j0 : ((w.alloc (.cells #[.slice Aa t.fields.length ca, .int .i64 t.tail] 69)).alloc (.cells #[.slice Al L.length cl, .slice Ar R.length cr] 32)).cell? ⟨w.heap.size, 0, none⟩ = some (.slice Aa t.fields.length ca) := by rw [cell_block HA.out]; rfl
  have j1 : ((w.alloc (.cells #[.slice Aa t.fields.length ca, .int .i64 t.tail] 69)).alloc (.cells #[.slice Al L.length cl, .slice Ar R.length cr] 32)).cell? ⟨w.heap.size, 1, none⟩ = some (.int .i64 t.tail) := by rw [cell_block HA.out]; rfl
  have k0 : ((w.alloc (.cells #[.slice Aa t.fields.length ca, .int .i64 t.tail] 69)).alloc (.cells #[.slice Al L.length cl, .slice Ar R.length cr] 32)).cell? ⟨w.heap.size + 1, 0, none⟩ = some (.slice Al L.length cl) := by rw [cell_block HA2.out]; rfl
  have k1 : ((w.alloc (.cells #[.slice Aa t.fields.length ca, .int .i64 t.tail] 69)).alloc (.cells #[.slice Al L.length cl, .slice Ar R.length cr] 32)).cell? ⟨w.heap.size + 1, 1, none⟩ = some (.slice Ar R.length cr) := by rw [cell_block HA2.out]; rfl
  clear h h1 h2 hsm hfew ht hcr HA HA2
  go_enter Tryz.func55, Tryz.ntmps55
  go_upto_region 1 with fail
  generalize (w.alloc (Obj.cells _ 69)).alloc (Obj.cells _ 32) = w0 at *
  by_cases hbig : (R.length : Int) ≤ t.tail
  · have d1 : decide ((R.length : Int) ≤ t.tail) = true := decide_eq_true hbig
    have HE : Hid (rowH L R t = none) := hide (by unfold rowH; rw [if_pos hbig])
    clear hbig
    go_wp2_with fail
    refine bodyPost_ret (results_tmp2 Tryz.results55) rfl ⟨.inl ⟨HE.out, rfl, HB.out⟩⟩
  have d1 : decide ((R.length : Int) ≤ t.tail) = false := decide_eq_false hbig
  have HKC := hide (And.intro j0 (And.intro k0 k1))
  have HST : ∀ tl : List Vl, tl = tailV R t.tail → True := fun _ _ => trivial
  clear HST
  by_cases hneg : t.tail < 0
  · have d2 : decide (0 ≤ t.tail) = false := decide_eq_false (by omega)
    have HTL : Hid (tailV R t.tail = [] ∧ ([] : List Vl).length ≤ 1048576) := hide ⟨if_pos hneg, by simp⟩
    have HRV : Hid (∀ l, fieldsV L t.fields = l → rowH L R t = match l with
      | none => none
      | some l => gather [] (tailV R t.tail ++ l)) := hide (fun l hl => by unfold rowH; rw [if_neg hbig, hl]; cases l <;> rfl)
    have H0 : Hid (VaS w0 (.slice none 0 0) [] w0) := hide (VaS.nil (Below.refl _ _))
    go_wp2_with fail
    clear d1 d2 j0 j1 k0 k1 hbig hneg
    generalize ([] : List Vl) = tl at HTL H0
    go_loopw [7, 6] (fun kv v wr => RoL w0 L t.fields tl kv v wr) (fun kv _ _ => t.fields.length - (intOf kv).toNat)
    case atStart => exact ⟨0, [], by omega, rfl, rfl, rfl, by rw [List.append_nil]; exact H0.out⟩
    case round =>
      obtain ⟨k, vs, hk, rfl, hfv, hvl, ho⟩ := hrel
      obtain ⟨Ao, co, hvo, _⟩ := RowZ.form ho.row
      rw [List.length_append] at hvo
      subst hvo
      have hrw := ho.row
      rw [List.length_append] at hrw
      have HRWO := hide hrw
      clear hrw
      have HO := hide ho
      have HFV := hide (And.intro hfv hvl)
      clear ho hfv hvl H0
      have hft : t.fields.length ≤ 1000 := HFEW.out.2
      have HK : Hid (Kpt w0 wr) := hide ⟨HO.out.below⟩
      have j0 := HK.out.cell HKC.out.1
      by_cases hlt : k < t.fields.length
      · have i0 : (k : Int) < t.fields.length := by omega
        obtain ⟨bf, of, c7, e7, hbf, hrf⟩ := SlAt.elem (HFS.out.1.below HO.out.below) fdV_len hlt
        cases e7
        have hget := List.getElem?_eq_getElem hlt
        have HSM := hide (And.intro (HFS.out.2 _ (List.getElem_mem hlt)) (List.getElem_mem hlt))
        have HTK : Hid (fieldsV L (t.fields.take (k + 1)) = match fieldsV L (t.fields.take k), atomV L t.fields[k].at_ with
            | some v, some e => some (v ++ [⟨t.fields[k].name, e⟩])
            | _, _ => none) := hide (by rw [List.take_succ_eq_append_getElem hlt, Hd.fieldsV_snoc])
        generalize hgn : t.fields[k] = fd at *
        have HGN := hide hgn
        clear hgn
        have HFR := hide (And.intro hrf hbf)
        have HNM : Hid (wr.cell? ⟨bf, of + k * 10, none⟩ = some (.string fd.name)) := hide (hrf 0 _ rfl)
        have HRA : Hid (wr.rangeAt bf (of + k * 10 + 1) [.int .i64 fd.at_.var, .int .u64 fd.at_.el.e0, .int .u64 fd.at_.el.e1, .int .u64 fd.at_.el.e2, .int .u64 fd.at_.el.e3, .int .u64 fd.at_.el.e4, .int .u64 fd.at_.el.e5, .int .u64 fd.at_.el.e6, .int .u64 fd.at_.el.e7]) := hide fun j v hv => by
          have := hrf (j + 1) v (by simpa [fdV, atV, elV] using hv)
          rwa [Nat.add_comm j 1, ← Nat.add_assoc] at this
        clear hrf hbf hget
        go_upto_region 9 with fail
        clear j0
        go_cut [8, 9] from 38 to 49 (fun p b wx => RoC wr (atomV L fd.at_) p b wx)
        case first =>
          have HSS : Hid (Kpt wr wr.drew) := hide ⟨below_drewN (Below.refl _ _) 1⟩
          have HAT := hide (fun (wq : World) (hq : Kpt wr wq) => atom_any B (.slice Al L.length cl) (.slice Ar R.length cr) L fd.at_ wq ((HLB.out.below HO.out.below).below hq.below))
          refine wp_region_tree [0, 2, 6, 1, 3, 4, 5] (.step 7 true (.take 8 (.take 9 (.take 10 (.step 11 true (.step 12 true (.step 13 true .done .done) .done) .done)))) (.step 11 true (.step 7 true (.take 8 (.take 9 (.take 10 (.step 12 true (.step 13 true .done .done) .done)))) .done) .done)) (Kpt wr) (by kernel_rfl) (by kernel_rfl) (fun _ _ _ _ _ h => h) HSS.out ?_
          intro hne
          simp only [picks, List.filterMap_cons, List.filterMap_nil, List.getElem?_cons_zero, List.getElem?_cons_succ]
          have hu1 : ∀ u : HoldW (Kpt wr), u.w.cell? ⟨w.heap.size, 0, none⟩ = some (.slice (some ⟨bf, of, none⟩) t.fields.length ca) := fun u => (HK.out.step u.ok.below).cell HKC.out.1
          have hu2 : ∀ u : HoldW (Kpt wr), u.w.cell? ⟨w.heap.size + 1, 0, none⟩ = some (.slice Al L.length cl) := fun u => (HK.out.step u.ok.below).cell HKC.out.2.1
          have hu3 : ∀ u : HoldW (Kpt wr), u.w.cell? ⟨w.heap.size + 1, 1, none⟩ = some (.slice Ar R.length cr) := fun u => (HK.out.step u.ok.below).cell HKC.out.2.2
          iterate 6 (refine wpHeld_step (fun K hK => ?_); go_simp; refine hK _ ?_; clear hK K)
          refine wpHeld_step (fun K hK => ?_)
          rw [if_pos (by with_unfolding_all rfl)]
          refine held_mid (b := bf) (o := of + k * 10 + 1) (cs := [.int .i64 fd.at_.var, .int .u64 fd.at_.el.e0, .int .u64 fd.at_.el.e1, .int .u64 fd.at_.el.e2, .int .u64 fd.at_.el.e3, .int .u64 fd.at_.el.e4, .int .u64 fd.at_.el.e5, .int .u64 fd.at_.el.e6, .int .u64 fd.at_.el.e7]) rfl rfl (by rintro _ ⟨u, rfl⟩; exact u.ok.range HRA.out HFR.out.2) Tryz.underlying50 rfl at_info (hK _ ?_)
          clear hK K
          refine wpHeld_nil ?_
          have HNE := hide hne
          clear hu1 hu2 hu3 hne
          refine wpTree_both rfl (fun K hK => ?_) (wpTree_step rfl fun K hK => ?_)
          · go_wp2_with (go_at_call 60; refine (HAT.out _ HSS.out).mono ?_; rintro e w4 ⟨⟨z, b, rfl, hz, hb⟩, hb4⟩; have H4 := hide (And.intro (HSS.out.step hb4) (And.intro hz hb)); clear hb4 hz hb)
            refine chainF (fun _ => H4.out.1) (hK _ _ ?_)
            clear hK K
            have hne := HNE.out
            iterate 3 (refine wpTree_take rfl (fun K hK => ?_); go_simp; refine hK _ ?_; clear hK K)
            clear hne
            refine wpTree_step rfl fun K hK => ?_
            go_wp2_with fail
            refine chainF (fun _ => H4.out.1.step (below_laid _ _)) (hK _ _ ?_)
            clear hK K
            refine wpTree_step rfl fun K hK => ?_
            have HSA := hide (stA (T := 48) (w := w4) (new := #[.int .u64 z.e0, .int .u64 z.e1, .int .u64 z.e2, .int .u64 z.e3, .int .u64 z.e4, .int .u64 z.e5, .int .u64 z.e6, .int .u64 z.e7]) 8 47 el_info (by simp [Value.oneCell']))
            go_wp2_with (with_reducible refine HSA.out _ _ _ _ _ _ rfl rfl rfl rfl (by with_unfolding_all rfl) ?_)
            refine chainF (fun _ => H4.out.1.step (below_laid _ _)) (hK _ _ ?_)
            clear hK K
            refine wpTree_step rfl fun K hK => ?_
            go_wp2_with fail
            refine chainF (fun _ => H4.out.1.step (below_laid _ _)) (hK _ _ ?_)
            clear hK K
            refine wpTree_end ?_
            go_wp2_with fail
            go_meet
            exact ⟨w4.heap.size, z, b, rfl, rfl, H4.out.2.1, H4.out.2.2, heap_alloc_last _ _, (H4.out.1.step (below_laid _ _)).below⟩
          · have hsz : w.heap.size = w.heap.size := rfl
            clear hsz
            go_wp2_with fail
            refine chainF (fun _ => HSS.out.step (below_laid _ _)) (hK _ _ ?_)
            clear hK K
            refine wpTree_step rfl fun K hK => ?_
            have HSB : Hid (Kpt wr (wr.alloc (.cells #[.int .u64 0, .int .u64 0, .int .u64 0, .int .u64 0, .int .u64 0, .int .u64 0, .int .u64 0, .int .u64 0] 48)).drew) := hide ⟨below_drewN (below_laid _ _) 1⟩
            have HZB : Hid ((wr.alloc (.cells #[.int .u64 0, .int .u64 0, .int .u64 0, .int .u64 0, .int .u64 0, .int .u64 0, .int .u64 0, .int .u64 0] 48)).drew.heap[wr.heap.size]? = some (.cells #[.int .u64 0, .int .u64 0, .int .u64 0, .int .u64 0, .int .u64 0, .int .u64 0, .int .u64 0, .int .u64 0] 48 (0, 0))) := hide (heap_alloc_last wr _)
            generalize (wr.alloc (Obj.cells #[.int .u64 0, .int .u64 0, .int .u64 0, .int .u64 0, .int .u64 0, .int .u64 0, .int .u64 0, .int .u64 0] 48)).drew = wz at *
            go_wp2_with (go_at_call 60; refine (HAT.out _ HSB.out).mono ?_; rintro e w4 ⟨⟨z, b, rfl, hz, hb⟩, hb4⟩; have H4 := hide (And.intro (HSB.out.step hb4) (And.intro hz (And.intro hb (heap_below HZB.out hb4)))); clear hb4 hz hb)
            refine chainF (fun _ => H4.out.1) (hK _ _ ?_)
            clear hK K
            have hne := HNE.out
            iterate 3 (refine wpTree_take rfl (fun K hK => ?_); go_simp; refine hK _ ?_; clear hK K)
            clear hne
            refine wpTree_step rfl fun K hK => ?_
            have HSR : Hid (Kpt wr (w4.setRow wr.heap.size #[.int .u64 z.e0, .int .u64 z.e1, .int .u64 z.e2, .int .u64 z.e3, .int .u64 z.e4, .int .u64 z.e5, .int .u64 z.e6, .int .u64 z.e7])) := hide ⟨below_setRow H4.out.1.below (Nat.le_refl _) _⟩
            refine wpList_store_row rfl 48 (.tmp 8) (.tmp 47) rfl wr.heap.size #[.int .u64 z.e0, .int .u64 z.e1, .int .u64 z.e2, .int .u64 z.e3, .int .u64 z.e4, .int .u64 z.e5, .int .u64 z.e6, .int .u64 z.e7] rfl rfl 48 _ H4.out.2.2.2 el_info rfl (by simp [Value.oneCell']) ?_
            have HSH := hide (setRow_heap w4 wr.heap.size #[.int .u64 0, .int .u64 0, .int .u64 0, .int .u64 0, .int .u64 0, .int .u64 0, .int .u64 0, .int .u64 0] #[.int .u64 z.e0, .int .u64 z.e1, .int .u64 z.e2, .int .u64 z.e3, .int .u64 z.e4, .int .u64 z.e5, .int .u64 z.e6, .int .u64 z.e7] 48 (0, 0) H4.out.2.2.2)
            generalize w4.setRow wr.heap.size #[.int .u64 z.e0, .int .u64 z.e1, .int .u64 z.e2, .int .u64 z.e3, .int .u64 z.e4, .int .u64 z.e5, .int .u64 z.e6, .int .u64 z.e7] = w6 at *
            go_wp2_with fail
            refine chainF (fun _ => HSR.out) (hK _ _ ?_)
            clear hK K
            refine wpTree_step rfl fun K hK => ?_
            go_wp2_with fail
            refine chainF (fun _ => HSR.out) (hK _ _ ?_)
            clear hK K
            refine wpTree_end ?_
            go_wp2_with fail
            go_meet
            exact ⟨wr.heap.size, z, b, rfl, rfl, H4.out.2.1, H4.out.2.2.1, HSH.out, HSR.out.below⟩
        case rest =>
          obtain ⟨pp, z, cb, rfl, rfl, hz, hcb, hh, hbx⟩ := hcut
          have HX := hide (And.intro hz (And.intro hcb (And.intro hh hbx)))
          clear hz hcb hh hbx
          cases cb
          · have HE : Hid (rowH L R t = none) := hide (by
              have hno : atomV L fd.at_ = none := by
                cases h : atomV L fd.at_ with
                | none => rfl
                | some y => have := HX.out.2.1; rw [h] at this; cases this
              rw [HRV.out none (Hd.fieldsV_none L HSM.out.2 hno)])
            go_wp2_with fail
            refine bodyPost_ret (results_tmp2 Tryz.results55) rfl ⟨.inl ⟨HE.out, rfl, below_next HB.out (below_next HO.out.below HX.out.2.2.2)⟩⟩
          · have HSOME : Hid (atomV L fd.at_ = some z) := hide (by
              cases h : atomV L fd.at_ with
              | none => have := HX.out.2.1; rw [h] at this; cases this
              | some y => have := HX.out.1; rw [h] at this; rw [← this]; rfl)
            have HO2 := hide (HO.out.step HX.out.2.2.2)
            have HRW2 := hide (RowZ.below HRWO.out HX.out.2.2.2)
            have HNM2 := hide ((World.cell?_of_block (HX.out.2.2.2.block _ HFR.out.2)).trans HNM.out)
            have HRS : Hid (RoS w0 pp #[.int .u64 z.e0, .int .u64 z.e1, .int .u64 z.e2, .int .u64 z.e3, .int .u64 z.e4, .int .u64 z.e5, .int .u64 z.e6, .int .u64 z.e7] wc.drew) := hide ⟨below_drewN HO2.out.below 1, HX.out.2.2.1⟩
            have HOWN : Hid ((Value.slice Ao (tl.length + vs.length) co).ownBlock ≠ some pp) := hide (RowZ.ne_type HRW2.out HX.out.2.2.1 (by decide))
            go_upto_region 12 with fail
            refine wp_region_chain [0, 1, 3, 7, 2, 4, 5, 6, 8] [(9, true), (10, true), (11, true)] (RoS w0 pp #[.int .u64 z.e0, .int .u64 z.e1, .int .u64 z.e2, .int .u64 z.e3, .int .u64 z.e4, .int .u64 z.e5, .int .u64 z.e6, .int .u64 z.e7]) (by kernel_rfl) (by kernel_rfl) (fun _ _ _ _ _ h => h) HRS.out ?_
            intro hne
            simp only [picks, picksW, List.filterMap_cons, List.filterMap_nil, List.getElem?_cons_zero, List.getElem?_cons_succ, Option.map_some]
            have hu1 : ∀ u : HoldW (RoS w0 pp #[.int .u64 z.e0, .int .u64 z.e1, .int .u64 z.e2, .int .u64 z.e3, .int .u64 z.e4, .int .u64 z.e5, .int .u64 z.e6, .int .u64 z.e7]), u.w.cell? ⟨w.heap.size, 0, none⟩ = some (.slice (some ⟨bf, of, none⟩) t.fields.length ca) := fun u => (Kpt.mk u.ok.below).cell HKC.out.1
            have hu2 : ∀ u : HoldW (RoS w0 pp #[.int .u64 z.e0, .int .u64 z.e1, .int .u64 z.e2, .int .u64 z.e3, .int .u64 z.e4, .int .u64 z.e5, .int .u64 z.e6, .int .u64 z.e7]), u.w.cell? ⟨bf, of + k * 10, none⟩ = some (.string fd.name) := fun u => by
              obtain ⟨b9, o9, c9, e9, hb9, hr9⟩ := SlAt.elem HFS.out.1 fdV_len hlt
              cases e9
              have := (Kpt.mk u.ok.below).range hr9 hb9 0 (.string t.fields[k].name) rfl
              rw [HGN.out] at this
              exact this
            iterate 3 (refine wpHeld_step (fun K hK => ?_); go_simp; refine hK _ ?_; clear hK K)
            refine wpHeld_step (fun K hK => ?_)
            rw [if_pos (by with_unfolding_all rfl)]
            refine held_mid (b := pp) (o := 0) (cs := [.int .u64 z.e0, .int .u64 z.e1, .int .u64 z.e2, .int .u64 z.e3, .int .u64 z.e4, .int .u64 z.e5, .int .u64 z.e6, .int .u64 z.e7]) rfl rfl (by rintro _ ⟨u, rfl⟩; exact range_block u.ok.el 0 _ fun j v hv => by rw [Nat.zero_add]; simpa using hv) Tryz.underlying48 rfl el_info (hK _ ?_)
            clear hK K
            iterate 5 (refine wpHeld_step (fun K hK => ?_); go_simp; refine hK _ ?_; clear hK K)
            refine wpHeld_nil ?_
            clear hu1 hu2 hne
            refine wpChain_cons fun K hK => ?_
            go_wp2_with fail
            have HR5 : Hid (RoS w0 pp #[.int .u64 z.e0, .int .u64 z.e1, .int .u64 z.e2, .int .u64 z.e3, .int .u64 z.e4, .int .u64 z.e5, .int .u64 z.e6, .int .u64 z.e7] (wc.alloc (.cells #[.string fd.name, .int .u64 z.e0, .int .u64 z.e1, .int .u64 z.e2, .int .u64 z.e3, .int .u64 z.e4, .int .u64 z.e5, .int .u64 z.e6, .int .u64 z.e7] 62)).drew) := hide ⟨below_drewN (below_next HO2.out.below (below_laid _ _)) 1, heap_below HX.out.2.2.1 (below_drewN (below_laid _ _) 1)⟩
            have HB5' : Hid (Below wc.heap.size wc (wc.alloc (.cells #[.string fd.name, .int .u64 z.e0, .int .u64 z.e1, .int .u64 z.e2, .int .u64 z.e3, .int .u64 z.e4, .int .u64 z.e5, .int .u64 z.e6, .int .u64 z.e7] 62)).drew) := hide (below_drewN (below_laid wc (.cells #[.string fd.name, .int .u64 z.e0, .int .u64 z.e1, .int .u64 z.e2, .int .u64 z.e3, .int .u64 z.e4, .int .u64 z.e5, .int .u64 z.e6, .int .u64 z.e7] 62)) 1)
            have HZ5 : Hid ((wc.alloc (.cells #[.string fd.name, .int .u64 z.e0, .int .u64 z.e1, .int .u64 z.e2, .int .u64 z.e3, .int .u64 z.e4, .int .u64 z.e5, .int .u64 z.e6, .int .u64 z.e7] 62)).drew.heap[wc.heap.size]? = some (.cells #[.string fd.name, .int .u64 z.e0, .int .u64 z.e1, .int .u64 z.e2, .int .u64 z.e3, .int .u64 z.e4, .int .u64 z.e5, .int .u64 z.e6, .int .u64 z.e7] 62 (0, 0))) := hide (heap_alloc_last wc _)
            generalize hw5 : (wc.alloc (.cells #[.string fd.name, .int .u64 z.e0, .int .u64 z.e1, .int .u64 z.e2, .int .u64 z.e3, .int .u64 z.e4, .int .u64 z.e5, .int .u64 z.e6, .int .u64 z.e7] 62)).drew = w5 at *
            clear hw5
            refine chainF (fun _ => HR5.out) (hK _ _ ?_)
            clear hK K
            refine wpChain_cons fun K hK => ?_
            refine app_rowz rfl (.tmp 51) (.tmp 60) 57 57 rfl 62 i1 _ 9 80 Tryz.underlying57 hj hy0 hy1 hy2 rfl (.slice Ao (tl.length + vs.length) co) (tl.length + vs.length) ((tl ++ vs).flatMap vlV) rfl (RowZ.below HRW2.out HB5'.out) _ 1 [.string fd.name, .int .u64 z.e0, .int .u64 z.e1, .int .u64 z.e2, .int .u64 z.e3, .int .u64 z.e4, .int .u64 z.e5, .int .u64 z.e6, .int .u64 z.e7] rfl (val_news (x := ⟨fd.name, z⟩) HZ5.out) (by have := HTL.out.2; have := HFV.out.2; unfold maxLen; omega) (by have := HTL.out.2; have := HFV.out.2; omega) ?_
            intro A4 c8 w' hr hg hob
            have H9 : Hid (VaS w0 (.slice A4 (tl.length + vs.length + 1) c8) (tl ++ vs ++ [⟨fd.name, z⟩]) w') := hide (HO2.out.pushes (m := [⟨fd.name, z⟩]) (n := tl.length + vs.length + 1) HB5'.out (fun y hy => by simp at hy; subst hy; exact HSM.out.1) (by simp) (by simp only [List.flatMap_cons, List.flatMap_nil, List.append_nil]; exact hr) hg hob)
            have HR9 : Hid (RoS w0 pp #[.int .u64 z.e0, .int .u64 z.e1, .int .u64 z.e2, .int .u64 z.e3, .int .u64 z.e4, .int .u64 z.e5, .int .u64 z.e6, .int .u64 z.e7] w') := hide ⟨H9.out.below, (hg.block pp (blk_lt HR5.out.el) (fun e => HOWN.out e.symm)).trans HR5.out.el⟩
            clear hr hg hob
            refine chainF (fun _ => HR9.out) (hK _ _ ?_)
            clear hK K
            refine wpChain_cons fun K hK => ?_
            go_wp2_with fail
            refine chainF (fun _ => HR9.out) (hK _ _ ?_)
            clear hK K
            refine wpChain_nil ?_
            go_wp2_with fail
            exact ⟨⟨k + 1, vs ++ [⟨fd.name, z⟩], by omega, rfl, by rw [HTK.out, HFV.out.1, HSOME.out], by have := HFV.out.2; simp; omega, by rw [← List.append_assoc]; exact H9.out⟩, by simp [intOf]; omega⟩
      · obtain rfl : k = t.fields.length := by omega
        have HF0 : Hid (fieldsV L t.fields = some vs) := hide (by have := HFV.out.1; rwa [List.take_length] at this)
        have HRR := hide (HRV.out _ HF0.out)
        have HAL : Hid (rowH L R t = gather [] (tl ++ vs)) := hide (by rw [HRR.out, HTL.out.1])
        have hall : tl.length + vs.length ≤ 1060000 := by have := HTL.out.2; have := HFV.out.2; omega
        have hlal : (tl ++ vs).length = tl.length + vs.length := List.length_append
        have HLAL := hide (And.intro hlal hall)
        clear hlal hall HF0 HRR HRV HTL
        generalize hal : tl ++ vs = al at *
        generalize hnal : tl.length + vs.length = n at *
        clear hal hnal
        go_wp2_with fail
        clear j0
        have hn9 : (n : Int) ≤ 9223372036854775807 := by have := HLAL.out.2; omega
        generalize wr = w5 at *
        go_loopw [11, 10] (fun kv v wr => RoG w0 w5 al kv v wr) (fun kv _ _ => n - (intOf kv).toNat)
        case atStart => exact ⟨0, [], by omega, rfl, rfl, by simp, VaS.nil HO.out.below, Below.refl _ _⟩
        case round =>
          obtain ⟨j, o, hj2, rfl, hgt, hol, hvo, hb5⟩ := hrel
          obtain ⟨Ap, cp, rfl, _⟩ := RowZ.form hvo.row
          have HV := hide hvo
          have HGT := hide (And.intro hgt hol)
          have HB5 := hide hb5
          clear hvo hgt hol hb5
          have HALL := hide (HO.out.vls.below HB5.out)
          have HLN := HLAL.out.1
          by_cases hjn : j < n
          · have i0 : (j : Int) < n := by omega
            have hjl : j < al.length := by rw [HLN]; exact hjn
            obtain ⟨b2, o2, c9, e9, hb9, hr9⟩ := SlAt.elem HALL.out.at_ (fun _ => rfl) hjl
            have e1 : Ao = some ⟨b2, o2, none⟩ := by injection e9
            subst e1
            clear e9
            have HDR : Hid (al.drop j = al[j] :: al.drop (j + 1)) := hide (List.drop_eq_getElem_cons hjl)
            have HSN := hide (HALL.out.small _ (List.getElem_mem hjl))
            generalize al[j] = y at *
            have g0 : wr.cell? ⟨b2, o2 + j * 9, none⟩ = some (.string y.name) := hr9 0 _ rfl
            have HRY := hide (And.intro hr9 hb9)
            clear hr9 hb9 HLN
            have HGE := hide (get_any wr.heap.size _ o y.name wr HV.out.vls)
            have HSA := hide (fun (w2 : World) (z : El) => stA (T := 48) (w := w2) (new := #[.int .u64 z.e0, .int .u64 z.e1, .int .u64 z.e2, .int .u64 z.e3, .int .u64 z.e4, .int .u64 z.e5, .int .u64 z.e6, .int .u64 z.e7]) 12 76 el_info (by simp [Value.oneCell']))
            go_upto_region 18 with (first | (with_reducible refine HSA.out _ _ _ _ _ _ _ _ rfl rfl rfl rfl (by with_unfolding_all rfl) ?_) | (go_at_call 54; refine HGE.out.mono ?_; rintro e2 w2 ⟨⟨z2, b3, rfl, hz2, hb2⟩, hbb⟩; have H2 := hide (And.intro hbb hb2); clear hz2 hb2 hbb))
            clear HGE HSA g0
            have H3 : Hid (Below wr.heap.size wr (w2.alloc (.cells #[.int .u64 z2.e0, .int .u64 z2.e1, .int .u64 z2.e2, .int .u64 z2.e3, .int .u64 z2.e4, .int .u64 z2.e5, .int .u64 z2.e6, .int .u64 z2.e7] 48))) := hide (below_next H2.out.1 (below_laid _ _))
            have HHAS := hide H2.out.2
            clear H2
            generalize w2.alloc (Obj.cells #[.int .u64 z2.e0, .int .u64 z2.e1, .int .u64 z2.e2, .int .u64 z2.e3, .int .u64 z2.e4, .int .u64 z2.e5, .int .u64 z2.e6, .int .u64 z2.e7] 48) = w3 at *
            cases b3
            · have HST3 : Hid (Kpt w3 w3.drew) := hide ⟨below_drewN (Below.refl _ _) 1⟩
              have HV3 := hide ((HV.out.step H3.out).step HST3.out.below)
              have HGT2 : Hid (gather [] al = gather (withV o y.name y.el) (al.drop (j + 1))) := hide (by
                rw [HGT.out.1, HDR.out]
                simp only [gather]
                rw [if_neg (by rw [HHAS.out]; exact Bool.false_ne_true)])
              have HLEN := hide (Hd.withV_len o y.name y.el)
              have HWI := hide (with_any w3.drew.heap.size _ o y.name y.el w3.drew HV3.out.vls HSN.out (by have := HGT.out.2; have := HLAL.out.2; omega))
              have HRY3 := hide (range_below HRY.out.1 HRY.out.2 H3.out)
              go_upto_region 20 with fail
              refine wp_region_chain [0, 1, 2, 6, 7, 3, 8, 4, 9, 5, 10] [(11, true), (12, true)] (Kpt w3) (by kernel_rfl) (by kernel_rfl) (fun _ _ _ _ _ h => h) HST3.out ?_
              intro hne
              simp only [picks, picksW, List.filterMap_cons, List.filterMap_nil, List.getElem?_cons_zero, List.getElem?_cons_succ, Option.map_some]
              have hu1 : ∀ u : HoldW (Kpt w3), u.w.cell? ⟨b2, o2 + j * 9, none⟩ = some (.string y.name) := fun u => (Kpt.range u.ok HRY3.out (Nat.lt_of_lt_of_le HRY.out.2 H3.out.size)) 0 _ rfl
              iterate 10 (refine wpHeld_step (fun K hK => ?_); go_simp; refine hK _ ?_; clear hK K)
              refine wpHeld_step (fun K hK => ?_)
              rw [if_pos (by with_unfolding_all rfl)]
              refine held_mid (b := b2) (o := o2 + j * 9 + 1) (cs := [.int .u64 y.el.e0, .int .u64 y.el.e1, .int .u64 y.el.e2, .int .u64 y.el.e3, .int .u64 y.el.e4, .int .u64 y.el.e5, .int .u64 y.el.e6, .int .u64 y.el.e7]) rfl rfl (by rintro _ ⟨u, rfl⟩; exact fun q v hv => by have := (Kpt.range u.ok HRY3.out (Nat.lt_of_lt_of_le HRY.out.2 H3.out.size)) (q + 1) v (by simpa [vlV, elV] using hv); rwa [Nat.add_comm q 1, ← Nat.add_assoc] at this) Tryz.underlying48 rfl el_info (hK _ ?_)
              clear hK K
              refine wpHeld_nil ?_
              clear hu1 hne
              refine wpChain_cons fun K hK => ?_
              go_wp2_with (go_at_call 75; refine HWI.out.mono ?_; rintro e4 w4 ⟨v4, rfl, hv4⟩; have H4 := hide hv4; clear hv4)
              have HK4 : Hid (Kpt w3 w4) := hide (HST3.out.step H4.out.below)
              refine chainF (fun _ => HK4.out) (hK _ _ ?_)
              clear hK K
              obtain ⟨A9, c10, rfl, _⟩ := RowZ.form H4.out.row
              refine wpChain_cons fun K hK => ?_
              go_wp2_with fail
              refine chainF (fun _ => HK4.out) (hK _ _ ?_)
              clear hK K
              refine wpChain_nil ?_
              go_wp2_with fail
              exact ⟨⟨j + 1, withV o y.name y.el, by have := HLAL.out.1; omega, rfl, HGT2.out, by have := HLEN.out; have := HGT.out.2; omega, H4.out.base HV3.out.below, below_next HB5.out (below_next H3.out HK4.out.below)⟩, by simp [intOf]; omega⟩
            · have HE : Hid (rowH L R t = none) := hide (by
                rw [HAL.out, HGT.out.1, HDR.out]
                simp only [gather]
                rw [if_pos HHAS.out])
              go_wp2_with fail
              refine bodyPost_ret (results_tmp2 Tryz.results55) rfl ⟨.inl ⟨HE.out, rfl, below_next HB.out (below_next HV.out.below H3.out)⟩⟩
          · obtain rfl : j = n := by have := HLAL.out.1; omega
            have HE : Hid (rowH L R t = some o) := hide (by
              rw [HAL.out, HGT.out.1, List.drop_of_length_le (by rw [HLN]; exact Nat.le_refl _)]
              simp only [gather])
            clear HLN
            go_wp2_with fail
            refine bodyPost_ret (results_tmp2 Tryz.results55) rfl ⟨.inr ⟨o, _, HE.out, rfl, HV.out.base HB.out⟩⟩

  · have d2 : decide (0 ≤ t.tail) = true := decide_eq_true (by omega)
    obtain ⟨q, hq⟩ := Int.eq_ofNat_of_zero_le (by omega : 0 ≤ t.tail)
    have hql : q < R.length := by omega
    have i0 : (q : Int) < R.length := by omega
    obtain ⟨bl, off, c', u, e, hbl, hcu, hu⟩ := HRW.out.at hql
    cases e
    have HTL : Hid (tailV R t.tail = R[q] ∧ R[q].length ≤ 1048576) := hide ⟨by unfold tailV; rw [if_neg hneg, hq, Int.toNat_natCast, List.getD_eq_getElem?_getD, List.getElem?_eq_getElem hql]; rfl, HFEW.out.1 _ (List.getElem_mem hql)⟩
    have HRV : Hid (∀ l, fieldsV L t.fields = l → rowH L R t = match l with
      | none => none
      | some l => gather [] (tailV R t.tail ++ l)) := hide (fun l hl => by unfold rowH; rw [if_neg hbig, hl]; cases l <;> rfl)
    rw [hq] at j1 d1 d2
    clear hbig hneg hq
    generalize R[q] = tl at *
    obtain ⟨Au, cu, rfl, _, _⟩ := SlAt.form hu.at_
    have HU := hide hu
    clear hu
    go_wp2_with (at_builtin; go_must (refine app_rowz rfl (.tmp 23) (.tmp 29) 57 57 rfl 62 i1 _ 9 80 Tryz.underlying57 hj hy0 hy1 hy2 rfl (.slice none 0 0) 0 [] rfl RowZ.nil (.slice Au tl.length cu) tl.length (tl.flatMap vlV) rfl (SlAt.src Tryz.underlying57 HU.out.at_ (vls_one tl)) (by have := HTL.out.2; unfold maxLen; omega) (by have := HTL.out.2; omega) ?_); intro A' c4 w' hr hg hob; have HG := hide (And.intro hr (And.intro hg hob)); clear hr hg hob)
    have H0 : Hid (VaS w0 (.slice A' (0 + tl.length) c4) tl w') := hide (by
      have := (VaS.nil (Below.refl w0.heap.size w0)).pushes (m := tl) (n := 0 + tl.length) (Below.refl _ _) HU.out.small (by simp) (by simpa using HG.out.1) HG.out.2.1 HG.out.2.2
      simpa using this)
    clear d1 d2 j0 j1 k0 k1 hcu HG HU
    rw [Nat.zero_add] at H0
    generalize Value.slice A' tl.length c4 = v0 at *
    go_loopw [7, 6] (fun kv v wr => RoL w0 L t.fields tl kv v wr) (fun kv _ _ => t.fields.length - (intOf kv).toNat)
    case atStart => exact ⟨0, [], by omega, rfl, rfl, rfl, by rw [List.append_nil]; exact H0.out⟩
    case round =>
      obtain ⟨k, vs, hk, rfl, hfv, hvl, ho⟩ := hrel
      obtain ⟨Ao, co, hvo, _⟩ := RowZ.form ho.row
      rw [List.length_append] at hvo
      subst hvo
      have hrw := ho.row
      rw [List.length_append] at hrw
      have HRWO := hide hrw
      clear hrw
      have HO := hide ho
      have HFV := hide (And.intro hfv hvl)
      clear ho hfv hvl H0
      have hft : t.fields.length ≤ 1000 := HFEW.out.2
      have HK : Hid (Kpt w0 wr) := hide ⟨HO.out.below⟩
      have j0 := HK.out.cell HKC.out.1
      by_cases hlt : k < t.fields.length
      · have i0 : (k : Int) < t.fields.length := by omega
        obtain ⟨bf, of, c7, e7, hbf, hrf⟩ := SlAt.elem (HFS.out.1.below HO.out.below) fdV_len hlt
        cases e7
        have hget := List.getElem?_eq_getElem hlt
        have HSM := hide (And.intro (HFS.out.2 _ (List.getElem_mem hlt)) (List.getElem_mem hlt))
        have HTK : Hid (fieldsV L (t.fields.take (k + 1)) = match fieldsV L (t.fields.take k), atomV L t.fields[k].at_ with
            | some v, some e => some (v ++ [⟨t.fields[k].name, e⟩])
            | _, _ => none) := hide (by rw [List.take_succ_eq_append_getElem hlt, Hd.fieldsV_snoc])
        generalize hgn : t.fields[k] = fd at *
        have HGN := hide hgn
        clear hgn
        have HFR := hide (And.intro hrf hbf)
        have HNM : Hid (wr.cell? ⟨bf, of + k * 10, none⟩ = some (.string fd.name)) := hide (hrf 0 _ rfl)
        have HRA : Hid (wr.rangeAt bf (of + k * 10 + 1) [.int .i64 fd.at_.var, .int .u64 fd.at_.el.e0, .int .u64 fd.at_.el.e1, .int .u64 fd.at_.el.e2, .int .u64 fd.at_.el.e3, .int .u64 fd.at_.el.e4, .int .u64 fd.at_.el.e5, .int .u64 fd.at_.el.e6, .int .u64 fd.at_.el.e7]) := hide fun j v hv => by
          have := hrf (j + 1) v (by simpa [fdV, atV, elV] using hv)
          rwa [Nat.add_comm j 1, ← Nat.add_assoc] at this
        clear hrf hbf hget
        go_upto_region 9 with fail
        clear j0
        go_cut [8, 9] from 38 to 49 (fun p b wx => RoC wr (atomV L fd.at_) p b wx)
        case first =>
          have HSS : Hid (Kpt wr wr.drew) := hide ⟨below_drewN (Below.refl _ _) 1⟩
          have HAT := hide (fun (wq : World) (hq : Kpt wr wq) => atom_any B (.slice Al L.length cl) (.slice (some ⟨bl, off, none⟩) R.length cr) L fd.at_ wq ((HLB.out.below HO.out.below).below hq.below))
          refine wp_region_tree [0, 2, 6, 1, 3, 4, 5] (.step 7 true (.take 8 (.take 9 (.take 10 (.step 11 true (.step 12 true (.step 13 true .done .done) .done) .done)))) (.step 11 true (.step 7 true (.take 8 (.take 9 (.take 10 (.step 12 true (.step 13 true .done .done) .done)))) .done) .done)) (Kpt wr) (by kernel_rfl) (by kernel_rfl) (fun _ _ _ _ _ h => h) HSS.out ?_
          intro hne
          simp only [picks, List.filterMap_cons, List.filterMap_nil, List.getElem?_cons_zero, List.getElem?_cons_succ]
          have hu1 : ∀ u : HoldW (Kpt wr), u.w.cell? ⟨w.heap.size, 0, none⟩ = some (.slice (some ⟨bf, of, none⟩) t.fields.length ca) := fun u => (HK.out.step u.ok.below).cell HKC.out.1
          have hu2 : ∀ u : HoldW (Kpt wr), u.w.cell? ⟨w.heap.size + 1, 0, none⟩ = some (.slice Al L.length cl) := fun u => (HK.out.step u.ok.below).cell HKC.out.2.1
          have hu3 : ∀ u : HoldW (Kpt wr), u.w.cell? ⟨w.heap.size + 1, 1, none⟩ = some (.slice (some ⟨bl, off, none⟩) R.length cr) := fun u => (HK.out.step u.ok.below).cell HKC.out.2.2
          iterate 6 (refine wpHeld_step (fun K hK => ?_); go_simp; refine hK _ ?_; clear hK K)
          refine wpHeld_step (fun K hK => ?_)
          rw [if_pos (by with_unfolding_all rfl)]
          refine held_mid (b := bf) (o := of + k * 10 + 1) (cs := [.int .i64 fd.at_.var, .int .u64 fd.at_.el.e0, .int .u64 fd.at_.el.e1, .int .u64 fd.at_.el.e2, .int .u64 fd.at_.el.e3, .int .u64 fd.at_.el.e4, .int .u64 fd.at_.el.e5, .int .u64 fd.at_.el.e6, .int .u64 fd.at_.el.e7]) rfl rfl (by rintro _ ⟨u, rfl⟩; exact u.ok.range HRA.out HFR.out.2) Tryz.underlying50 rfl at_info (hK _ ?_)
          clear hK K
          refine wpHeld_nil ?_
          have HNE := hide hne
          clear hu1 hu2 hu3 hne
          refine wpTree_both rfl (fun K hK => ?_) (wpTree_step rfl fun K hK => ?_)
          · go_wp2_with (go_at_call 60; refine (HAT.out _ HSS.out).mono ?_; rintro e w4 ⟨⟨z, b, rfl, hz, hb⟩, hb4⟩; have H4 := hide (And.intro (HSS.out.step hb4) (And.intro hz hb)); clear hb4 hz hb)
            refine chainF (fun _ => H4.out.1) (hK _ _ ?_)
            clear hK K
            have hne := HNE.out
            iterate 3 (refine wpTree_take rfl (fun K hK => ?_); go_simp; refine hK _ ?_; clear hK K)
            clear hne
            refine wpTree_step rfl fun K hK => ?_
            go_wp2_with fail
            refine chainF (fun _ => H4.out.1.step (below_laid _ _)) (hK _ _ ?_)
            clear hK K
            refine wpTree_step rfl fun K hK => ?_
            have HSA := hide (stA (T := 48) (w := w4) (new := #[.int .u64 z.e0, .int .u64 z.e1, .int .u64 z.e2, .int .u64 z.e3, .int .u64 z.e4, .int .u64 z.e5, .int .u64 z.e6, .int .u64 z.e7]) 8 47 el_info (by simp [Value.oneCell']))
            go_wp2_with (with_reducible refine HSA.out _ _ _ _ _ _ rfl rfl rfl rfl (by with_unfolding_all rfl) ?_)
            refine chainF (fun _ => H4.out.1.step (below_laid _ _)) (hK _ _ ?_)
            clear hK K
            refine wpTree_step rfl fun K hK => ?_
            go_wp2_with fail
            refine chainF (fun _ => H4.out.1.step (below_laid _ _)) (hK _ _ ?_)
            clear hK K
            refine wpTree_end ?_
            go_wp2_with fail
            go_meet
            exact ⟨w4.heap.size, z, b, rfl, rfl, H4.out.2.1, H4.out.2.2, heap_alloc_last _ _, (H4.out.1.step (below_laid _ _)).below⟩
          · have hsz : w.heap.size = w.heap.size := rfl
            clear hsz
            go_wp2_with fail
            refine chainF (fun _ => HSS.out.step (below_laid _ _)) (hK _ _ ?_)
            clear hK K
            refine wpTree_step rfl fun K hK => ?_
            have HSB : Hid (Kpt wr (wr.alloc (.cells #[.int .u64 0, .int .u64 0, .int .u64 0, .int .u64 0, .int .u64 0, .int .u64 0, .int .u64 0, .int .u64 0] 48)).drew) := hide ⟨below_drewN (below_laid _ _) 1⟩
            have HZB : Hid ((wr.alloc (.cells #[.int .u64 0, .int .u64 0, .int .u64 0, .int .u64 0, .int .u64 0, .int .u64 0, .int .u64 0, .int .u64 0] 48)).drew.heap[wr.heap.size]? = some (.cells #[.int .u64 0, .int .u64 0, .int .u64 0, .int .u64 0, .int .u64 0, .int .u64 0, .int .u64 0, .int .u64 0] 48 (0, 0))) := hide (heap_alloc_last wr _)
            generalize (wr.alloc (Obj.cells #[.int .u64 0, .int .u64 0, .int .u64 0, .int .u64 0, .int .u64 0, .int .u64 0, .int .u64 0, .int .u64 0] 48)).drew = wz at *
            go_wp2_with (go_at_call 60; refine (HAT.out _ HSB.out).mono ?_; rintro e w4 ⟨⟨z, b, rfl, hz, hb⟩, hb4⟩; have H4 := hide (And.intro (HSB.out.step hb4) (And.intro hz (And.intro hb (heap_below HZB.out hb4)))); clear hb4 hz hb)
            refine chainF (fun _ => H4.out.1) (hK _ _ ?_)
            clear hK K
            have hne := HNE.out
            iterate 3 (refine wpTree_take rfl (fun K hK => ?_); go_simp; refine hK _ ?_; clear hK K)
            clear hne
            refine wpTree_step rfl fun K hK => ?_
            have HSR : Hid (Kpt wr (w4.setRow wr.heap.size #[.int .u64 z.e0, .int .u64 z.e1, .int .u64 z.e2, .int .u64 z.e3, .int .u64 z.e4, .int .u64 z.e5, .int .u64 z.e6, .int .u64 z.e7])) := hide ⟨below_setRow H4.out.1.below (Nat.le_refl _) _⟩
            refine wpList_store_row rfl 48 (.tmp 8) (.tmp 47) rfl wr.heap.size #[.int .u64 z.e0, .int .u64 z.e1, .int .u64 z.e2, .int .u64 z.e3, .int .u64 z.e4, .int .u64 z.e5, .int .u64 z.e6, .int .u64 z.e7] rfl rfl 48 _ H4.out.2.2.2 el_info rfl (by simp [Value.oneCell']) ?_
            have HSH := hide (setRow_heap w4 wr.heap.size #[.int .u64 0, .int .u64 0, .int .u64 0, .int .u64 0, .int .u64 0, .int .u64 0, .int .u64 0, .int .u64 0] #[.int .u64 z.e0, .int .u64 z.e1, .int .u64 z.e2, .int .u64 z.e3, .int .u64 z.e4, .int .u64 z.e5, .int .u64 z.e6, .int .u64 z.e7] 48 (0, 0) H4.out.2.2.2)
            generalize w4.setRow wr.heap.size #[.int .u64 z.e0, .int .u64 z.e1, .int .u64 z.e2, .int .u64 z.e3, .int .u64 z.e4, .int .u64 z.e5, .int .u64 z.e6, .int .u64 z.e7] = w6 at *
            go_wp2_with fail
            refine chainF (fun _ => HSR.out) (hK _ _ ?_)
            clear hK K
            refine wpTree_step rfl fun K hK => ?_
            go_wp2_with fail
            refine chainF (fun _ => HSR.out) (hK _ _ ?_)
            clear hK K
            refine wpTree_end ?_
            go_wp2_with fail
            go_meet
            exact ⟨wr.heap.size, z, b, rfl, rfl, H4.out.2.1, H4.out.2.2.1, HSH.out, HSR.out.below⟩
        case rest =>
          obtain ⟨pp, z, cb, rfl, rfl, hz, hcb, hh, hbx⟩ := hcut
          have HX := hide (And.intro hz (And.intro hcb (And.intro hh hbx)))
          clear hz hcb hh hbx
          cases cb
          · have HE : Hid (rowH L R t = none) := hide (by
              have hno : atomV L fd.at_ = none := by
                cases h : atomV L fd.at_ with
                | none => rfl
                | some y => have := HX.out.2.1; rw [h] at this; cases this
              rw [HRV.out none (Hd.fieldsV_none L HSM.out.2 hno)])
            go_wp2_with fail
            refine bodyPost_ret (results_tmp2 Tryz.results55) rfl ⟨.inl ⟨HE.out, rfl, below_next HB.out (below_next HO.out.below HX.out.2.2.2)⟩⟩
          · have HSOME : Hid (atomV L fd.at_ = some z) := hide (by
              cases h : atomV L fd.at_ with
              | none => have := HX.out.2.1; rw [h] at this; cases this
              | some y => have := HX.out.1; rw [h] at this; rw [← this]; rfl)
            have HO2 := hide (HO.out.step HX.out.2.2.2)
            have HRW2 := hide (RowZ.below HRWO.out HX.out.2.2.2)
            have HNM2 := hide ((World.cell?_of_block (HX.out.2.2.2.block _ HFR.out.2)).trans HNM.out)
            have HRS : Hid (RoS w0 pp #[.int .u64 z.e0, .int .u64 z.e1, .int .u64 z.e2, .int .u64 z.e3, .int .u64 z.e4, .int .u64 z.e5, .int .u64 z.e6, .int .u64 z.e7] wc.drew) := hide ⟨below_drewN HO2.out.below 1, HX.out.2.2.1⟩
            have HOWN : Hid ((Value.slice Ao (tl.length + vs.length) co).ownBlock ≠ some pp) := hide (RowZ.ne_type HRW2.out HX.out.2.2.1 (by decide))
            go_upto_region 12 with fail
            refine wp_region_chain [0, 1, 3, 7, 2, 4, 5, 6, 8] [(9, true), (10, true), (11, true)] (RoS w0 pp #[.int .u64 z.e0, .int .u64 z.e1, .int .u64 z.e2, .int .u64 z.e3, .int .u64 z.e4, .int .u64 z.e5, .int .u64 z.e6, .int .u64 z.e7]) (by kernel_rfl) (by kernel_rfl) (fun _ _ _ _ _ h => h) HRS.out ?_
            intro hne
            simp only [picks, picksW, List.filterMap_cons, List.filterMap_nil, List.getElem?_cons_zero, List.getElem?_cons_succ, Option.map_some]
            have hu1 : ∀ u : HoldW (RoS w0 pp #[.int .u64 z.e0, .int .u64 z.e1, .int .u64 z.e2, .int .u64 z.e3, .int .u64 z.e4, .int .u64 z.e5, .int .u64 z.e6, .int .u64 z.e7]), u.w.cell? ⟨w.heap.size, 0, none⟩ = some (.slice (some ⟨bf, of, none⟩) t.fields.length ca) := fun u => (Kpt.mk u.ok.below).cell HKC.out.1
            have hu2 : ∀ u : HoldW (RoS w0 pp #[.int .u64 z.e0, .int .u64 z.e1, .int .u64 z.e2, .int .u64 z.e3, .int .u64 z.e4, .int .u64 z.e5, .int .u64 z.e6, .int .u64 z.e7]), u.w.cell? ⟨bf, of + k * 10, none⟩ = some (.string fd.name) := fun u => by
              obtain ⟨b9, o9, c9, e9, hb9, hr9⟩ := SlAt.elem HFS.out.1 fdV_len hlt
              cases e9
              have := (Kpt.mk u.ok.below).range hr9 hb9 0 (.string t.fields[k].name) rfl
              rw [HGN.out] at this
              exact this
            iterate 3 (refine wpHeld_step (fun K hK => ?_); go_simp; refine hK _ ?_; clear hK K)
            refine wpHeld_step (fun K hK => ?_)
            rw [if_pos (by with_unfolding_all rfl)]
            refine held_mid (b := pp) (o := 0) (cs := [.int .u64 z.e0, .int .u64 z.e1, .int .u64 z.e2, .int .u64 z.e3, .int .u64 z.e4, .int .u64 z.e5, .int .u64 z.e6, .int .u64 z.e7]) rfl rfl (by rintro _ ⟨u, rfl⟩; exact range_block u.ok.el 0 _ fun j v hv => by rw [Nat.zero_add]; simpa using hv) Tryz.underlying48 rfl el_info (hK _ ?_)
            clear hK K
            iterate 5 (refine wpHeld_step (fun K hK => ?_); go_simp; refine hK _ ?_; clear hK K)
            refine wpHeld_nil ?_
            clear hu1 hu2 hne
            refine wpChain_cons fun K hK => ?_
            go_wp2_with fail
            have HR5 : Hid (RoS w0 pp #[.int .u64 z.e0, .int .u64 z.e1, .int .u64 z.e2, .int .u64 z.e3, .int .u64 z.e4, .int .u64 z.e5, .int .u64 z.e6, .int .u64 z.e7] (wc.alloc (.cells #[.string fd.name, .int .u64 z.e0, .int .u64 z.e1, .int .u64 z.e2, .int .u64 z.e3, .int .u64 z.e4, .int .u64 z.e5, .int .u64 z.e6, .int .u64 z.e7] 62)).drew) := hide ⟨below_drewN (below_next HO2.out.below (below_laid _ _)) 1, heap_below HX.out.2.2.1 (below_drewN (below_laid _ _) 1)⟩
            have HB5' : Hid (Below wc.heap.size wc (wc.alloc (.cells #[.string fd.name, .int .u64 z.e0, .int .u64 z.e1, .int .u64 z.e2, .int .u64 z.e3, .int .u64 z.e4, .int .u64 z.e5, .int .u64 z.e6, .int .u64 z.e7] 62)).drew) := hide (below_drewN (below_laid wc (.cells #[.string fd.name, .int .u64 z.e0, .int .u64 z.e1, .int .u64 z.e2, .int .u64 z.e3, .int .u64 z.e4, .int .u64 z.e5, .int .u64 z.e6, .int .u64 z.e7] 62)) 1)
            have HZ5 : Hid ((wc.alloc (.cells #[.string fd.name, .int .u64 z.e0, .int .u64 z.e1, .int .u64 z.e2, .int .u64 z.e3, .int .u64 z.e4, .int .u64 z.e5, .int .u64 z.e6, .int .u64 z.e7] 62)).drew.heap[wc.heap.size]? = some (.cells #[.string fd.name, .int .u64 z.e0, .int .u64 z.e1, .int .u64 z.e2, .int .u64 z.e3, .int .u64 z.e4, .int .u64 z.e5, .int .u64 z.e6, .int .u64 z.e7] 62 (0, 0))) := hide (heap_alloc_last wc _)
            generalize hw5 : (wc.alloc (.cells #[.string fd.name, .int .u64 z.e0, .int .u64 z.e1, .int .u64 z.e2, .int .u64 z.e3, .int .u64 z.e4, .int .u64 z.e5, .int .u64 z.e6, .int .u64 z.e7] 62)).drew = w5 at *
            clear hw5
            refine chainF (fun _ => HR5.out) (hK _ _ ?_)
            clear hK K
            refine wpChain_cons fun K hK => ?_
            refine app_rowz rfl (.tmp 51) (.tmp 60) 57 57 rfl 62 i1 _ 9 80 Tryz.underlying57 hj hy0 hy1 hy2 rfl (.slice Ao (tl.length + vs.length) co) (tl.length + vs.length) ((tl ++ vs).flatMap vlV) rfl (RowZ.below HRW2.out HB5'.out) _ 1 [.string fd.name, .int .u64 z.e0, .int .u64 z.e1, .int .u64 z.e2, .int .u64 z.e3, .int .u64 z.e4, .int .u64 z.e5, .int .u64 z.e6, .int .u64 z.e7] rfl (val_news (x := ⟨fd.name, z⟩) HZ5.out) (by have := HTL.out.2; have := HFV.out.2; unfold maxLen; omega) (by have := HTL.out.2; have := HFV.out.2; omega) ?_
            intro A4 c8 w' hr hg hob
            have H9 : Hid (VaS w0 (.slice A4 (tl.length + vs.length + 1) c8) (tl ++ vs ++ [⟨fd.name, z⟩]) w') := hide (HO2.out.pushes (m := [⟨fd.name, z⟩]) (n := tl.length + vs.length + 1) HB5'.out (fun y hy => by simp at hy; subst hy; exact HSM.out.1) (by simp) (by simp only [List.flatMap_cons, List.flatMap_nil, List.append_nil]; exact hr) hg hob)
            have HR9 : Hid (RoS w0 pp #[.int .u64 z.e0, .int .u64 z.e1, .int .u64 z.e2, .int .u64 z.e3, .int .u64 z.e4, .int .u64 z.e5, .int .u64 z.e6, .int .u64 z.e7] w') := hide ⟨H9.out.below, (hg.block pp (blk_lt HR5.out.el) (fun e => HOWN.out e.symm)).trans HR5.out.el⟩
            clear hr hg hob
            refine chainF (fun _ => HR9.out) (hK _ _ ?_)
            clear hK K
            refine wpChain_cons fun K hK => ?_
            go_wp2_with fail
            refine chainF (fun _ => HR9.out) (hK _ _ ?_)
            clear hK K
            refine wpChain_nil ?_
            go_wp2_with fail
            exact ⟨⟨k + 1, vs ++ [⟨fd.name, z⟩], by omega, rfl, by rw [HTK.out, HFV.out.1, HSOME.out], by have := HFV.out.2; simp; omega, by rw [← List.append_assoc]; exact H9.out⟩, by simp [intOf]; omega⟩
      · obtain rfl : k = t.fields.length := by omega
        have HF0 : Hid (fieldsV L t.fields = some vs) := hide (by have := HFV.out.1; rwa [List.take_length] at this)
        have HRR := hide (HRV.out _ HF0.out)
        have HAL : Hid (rowH L R t = gather [] (tl ++ vs)) := hide (by rw [HRR.out, HTL.out.1])
        have hall : tl.length + vs.length ≤ 1060000 := by have := HTL.out.2; have := HFV.out.2; omega
        have hlal : (tl ++ vs).length = tl.length + vs.length := List.length_append
        have HLAL := hide (And.intro hlal hall)
        clear hlal hall HF0 HRR HRV HTL
        generalize hal : tl ++ vs = al at *
        generalize hnal : tl.length + vs.length = n at *
        clear hal hnal
        go_wp2_with fail
        clear j0
        have hn9 : (n : Int) ≤ 9223372036854775807 := by have := HLAL.out.2; omega
        generalize wr = w5 at *
        go_loopw [11, 10] (fun kv v wr => RoG w0 w5 al kv v wr) (fun kv _ _ => n - (intOf kv).toNat)
        case atStart => exact ⟨0, [], by omega, rfl, rfl, by simp, VaS.nil HO.out.below, Below.refl _ _⟩
        case round =>
          obtain ⟨j, o, hj2, rfl, hgt, hol, hvo, hb5⟩ := hrel
          obtain ⟨Ap, cp, rfl, _⟩ := RowZ.form hvo.row
          have HV := hide hvo
          have HGT := hide (And.intro hgt hol)
          have HB5 := hide hb5
          clear hvo hgt hol hb5
          have HALL := hide (HO.out.vls.below HB5.out)
          have HLN := HLAL.out.1
          by_cases hjn : j < n
          · have i0 : (j : Int) < n := by omega
            have hjl : j < al.length := by rw [HLN]; exact hjn
            obtain ⟨b2, o2, c9, e9, hb9, hr9⟩ := SlAt.elem HALL.out.at_ (fun _ => rfl) hjl
            have e1 : Ao = some ⟨b2, o2, none⟩ := by injection e9
            subst e1
            clear e9
            have HDR : Hid (al.drop j = al[j] :: al.drop (j + 1)) := hide (List.drop_eq_getElem_cons hjl)
            have HSN := hide (HALL.out.small _ (List.getElem_mem hjl))
            generalize al[j] = y at *
            have g0 : wr.cell? ⟨b2, o2 + j * 9, none⟩ = some (.string y.name) := hr9 0 _ rfl
            have HRY := hide (And.intro hr9 hb9)
            clear hr9 hb9 HLN
            have HGE := hide (get_any wr.heap.size _ o y.name wr HV.out.vls)
            have HSA := hide (fun (w2 : World) (z : El) => stA (T := 48) (w := w2) (new := #[.int .u64 z.e0, .int .u64 z.e1, .int .u64 z.e2, .int .u64 z.e3, .int .u64 z.e4, .int .u64 z.e5, .int .u64 z.e6, .int .u64 z.e7]) 12 76 el_info (by simp [Value.oneCell']))
            go_upto_region 18 with (first | (with_reducible refine HSA.out _ _ _ _ _ _ _ _ rfl rfl rfl rfl (by with_unfolding_all rfl) ?_) | (go_at_call 54; refine HGE.out.mono ?_; rintro e2 w2 ⟨⟨z2, b3, rfl, hz2, hb2⟩, hbb⟩; have H2 := hide (And.intro hbb hb2); clear hz2 hb2 hbb))
            clear HGE HSA g0
            have H3 : Hid (Below wr.heap.size wr (w2.alloc (.cells #[.int .u64 z2.e0, .int .u64 z2.e1, .int .u64 z2.e2, .int .u64 z2.e3, .int .u64 z2.e4, .int .u64 z2.e5, .int .u64 z2.e6, .int .u64 z2.e7] 48))) := hide (below_next H2.out.1 (below_laid _ _))
            have HHAS := hide H2.out.2
            clear H2
            generalize w2.alloc (Obj.cells #[.int .u64 z2.e0, .int .u64 z2.e1, .int .u64 z2.e2, .int .u64 z2.e3, .int .u64 z2.e4, .int .u64 z2.e5, .int .u64 z2.e6, .int .u64 z2.e7] 48) = w3 at *
            cases b3
            · have HST3 : Hid (Kpt w3 w3.drew) := hide ⟨below_drewN (Below.refl _ _) 1⟩
              have HV3 := hide ((HV.out.step H3.out).step HST3.out.below)
              have HGT2 : Hid (gather [] al = gather (withV o y.name y.el) (al.drop (j + 1))) := hide (by
                rw [HGT.out.1, HDR.out]
                simp only [gather]
                rw [if_neg (by rw [HHAS.out]; exact Bool.false_ne_true)])
              have HLEN := hide (Hd.withV_len o y.name y.el)
              have HWI := hide (with_any w3.drew.heap.size _ o y.name y.el w3.drew HV3.out.vls HSN.out (by have := HGT.out.2; have := HLAL.out.2; omega))
              have HRY3 := hide (range_below HRY.out.1 HRY.out.2 H3.out)
              go_upto_region 20 with fail
              refine wp_region_chain [0, 1, 2, 6, 7, 3, 8, 4, 9, 5, 10] [(11, true), (12, true)] (Kpt w3) (by kernel_rfl) (by kernel_rfl) (fun _ _ _ _ _ h => h) HST3.out ?_
              intro hne
              simp only [picks, picksW, List.filterMap_cons, List.filterMap_nil, List.getElem?_cons_zero, List.getElem?_cons_succ, Option.map_some]
              have hu1 : ∀ u : HoldW (Kpt w3), u.w.cell? ⟨b2, o2 + j * 9, none⟩ = some (.string y.name) := fun u => (Kpt.range u.ok HRY3.out (Nat.lt_of_lt_of_le HRY.out.2 H3.out.size)) 0 _ rfl
              iterate 10 (refine wpHeld_step (fun K hK => ?_); go_simp; refine hK _ ?_; clear hK K)
              refine wpHeld_step (fun K hK => ?_)
              rw [if_pos (by with_unfolding_all rfl)]
              refine held_mid (b := b2) (o := o2 + j * 9 + 1) (cs := [.int .u64 y.el.e0, .int .u64 y.el.e1, .int .u64 y.el.e2, .int .u64 y.el.e3, .int .u64 y.el.e4, .int .u64 y.el.e5, .int .u64 y.el.e6, .int .u64 y.el.e7]) rfl rfl (by rintro _ ⟨u, rfl⟩; exact fun q v hv => by have := (Kpt.range u.ok HRY3.out (Nat.lt_of_lt_of_le HRY.out.2 H3.out.size)) (q + 1) v (by simpa [vlV, elV] using hv); rwa [Nat.add_comm q 1, ← Nat.add_assoc] at this) Tryz.underlying48 rfl el_info (hK _ ?_)
              clear hK K
              refine wpHeld_nil ?_
              clear hu1 hne
              refine wpChain_cons fun K hK => ?_
              go_wp2_with (go_at_call 75; refine HWI.out.mono ?_; rintro e4 w4 ⟨v4, rfl, hv4⟩; have H4 := hide hv4; clear hv4)
              have HK4 : Hid (Kpt w3 w4) := hide (HST3.out.step H4.out.below)
              refine chainF (fun _ => HK4.out) (hK _ _ ?_)
              clear hK K
              obtain ⟨A9, c10, rfl, _⟩ := RowZ.form H4.out.row
              refine wpChain_cons fun K hK => ?_
              go_wp2_with fail
              refine chainF (fun _ => HK4.out) (hK _ _ ?_)
              clear hK K
              refine wpChain_nil ?_
              go_wp2_with fail
              exact ⟨⟨j + 1, withV o y.name y.el, by have := HLAL.out.1; omega, rfl, HGT2.out, by have := HLEN.out; have := HGT.out.2; omega, H4.out.base HV3.out.below, below_next HB5.out (below_next H3.out HK4.out.below)⟩, by simp [intOf]; omega⟩
            · have HE : Hid (rowH L R t = none) := hide (by
                rw [HAL.out, HGT.out.1, HDR.out]
                simp only [gather]
                rw [if_pos HHAS.out])
              go_wp2_with fail
              refine bodyPost_ret (results_tmp2 Tryz.results55) rfl ⟨.inl ⟨HE.out, rfl, below_next HB.out (below_next HV.out.below H3.out)⟩⟩
          · obtain rfl : j = n := by have := HLAL.out.1; omega
            have HE : Hid (rowH L R t = some o) := hide (by
              rw [HAL.out, HGT.out.1, List.drop_of_length_le (by rw [HLN]; exact Nat.le_refl _)]
              simp only [gather])
            clear HLN
            go_wp2_with fail
            refine bodyPost_ret (results_tmp2 Tryz.results55) rfl ⟨.inr ⟨o, _, HE.out, rfl, HV.out.base HB.out⟩⟩

end Go.Proofs.YthnbhcfpfbimgaaGreat
