/- Texts put together: RwLacks RwSize. -/
import Derived.Test.YthnbhcfpfbimgaaGreatMl06
/- The walk of lacks: a field that a row must not have. -/
namespace Go.Proofs.YthnbhcfpfbimgaaGreat
namespace Rw
theorem Go.fin_ok {rows : List Row} {N : Nat} (hw : Wf rows) : ∀ (m : Nat) {s R : Sp}, Go rows N m s R → (R.fin < 0 ∨ (R.fin < rows.length ∧ ∃ x, rows[R.fin.toNat]? = some x ∧ x.bound = false)) ∧ R.fields.length ≤ N
  | m, s, R, h => by
    by_cases h0 : s.fin < 0
    · have : R = s := by rw [← h.res, spread_neg h0]
      subst this
      exact ⟨.inl h0, by have := h.len; omega⟩
    · have hr : s.fin.toNat < rows.length := by rcases h.fin with h | h <;> omega
      have hx : rows[s.fin.toNat]? = some rows[s.fin.toNat] := List.getElem?_eq_getElem hr
      cases hb : rows[s.fin.toNat].bound with
      | false =>
        have : R = s := by rw [← h.res, spread_free hx hb]
        subst this
        exact ⟨.inr ⟨by omega, _, hx, hb⟩, by have := h.len; omega⟩
      | true =>
        obtain ⟨h1, h2⟩ := h.step hw (by omega) hx hb
        exact Go.fin_ok hw (m - 1) h1
  termination_by m => m
end Rw
open Go.RowKit
open Rw (El At Fld Lk Eqn U T W64 Sp Wf tot)
theorem info_lack : (Tryz.prog.info? 166).map (fun i => (i.zero, i.size, i.bytes)) = some (some (.agg #[.string ByteArray.empty, .int .u64 0]), 2, 24) := by kernel_rfl
theorem lack_news {w : World} {g : Nat} {f : ByteArray} {y : W64} (h : w.heap[g]? = some (.cells #[.string f, .int .u64 (y.toNat : Nat)] 166 (0, 0))) :
    Src Tryz.prog 2 131 (.slice (some ⟨g, 0, none⟩) 1 1) 1 [.string f, .int .u64 (y.toNat : Nat)] w :=
  Src.ofSlice _ Tryz.underlying131 ⟨g, 0, none⟩ 1 1 _ rfl (World.news_of_block (cs := #[.string f, .int .u64 (y.toNat : Nat)]) (t := 166) (fr := (0, 0)) h) (by simp [Value.oneCell'])
theorem lksV_snoc (l : List Lk) (e : Lk) : lksV (l ++ [e]) = lksV l ++ lkV e := by simp [lksV]
theorem modify_set (l : List Rw.Row) (k : Nat) (r : Rw.Row) (q : Rw.Row → Rw.Row) (h : l[k]? = some r) : l.modify k q = l.set k (q r) := by
  refine List.ext_getElem? fun i => ?_
  rw [List.getElem?_modify]
  by_cases hi : k = i
  · subst hi
    rw [h, List.getElem?_set_self (List.getElem?_eq_some_iff.1 h).1]
    simp
  · rw [List.getElem?_set_ne hi]
    cases l[i]? <;> simp [hi]
theorem spC_cells {w : World} {b : Nat} {v : Value} {fin : Int} {y : W64} (h : w.heap[b]? = some (.cells (spC v fin y) 99 (0, 0))) : w.cell? ⟨b, 0, none⟩ = some v ∧ w.cell? ⟨b, 1, none⟩ = some (.int .i64 fin) ∧ w.cell? ⟨b, 2, none⟩ = some (.int .u64 (y.toNat : Nat)) := by
  rw [cell_block h, cell_block h, cell_block h]
  exact ⟨rfl, rfl, rfl⟩
set_option maxRecDepth 100000 in
set_option maxHeartbeats 4000000 in
theorem lacks_any (P B : Nat) (g : Bl) (s : T) (at_ : Int) (f : ByteArray) (y : W64) (w : World) (h : Tb w B P g s) (hwf : Wf s.rows) (hB : B ≤ w.heap.size) (ha : at_ < s.rows.length) (hN : tot s.rows ≤ 1000000000) (hu : s.undo.length ≤ 1000000000) (hll : ∀ (k : Nat) r, s.rows[k]? = some r → r.lacks.length ≤ 1000000000) :
    Calls Tryz.prog 74 #[.pointer (some ⟨P, 0, none⟩), .int .i64 at_, .string f, whyV y] w fun e w' => RetS (.bool (s.lacks at_ f y).1) w B P g (s.lacks at_ f y).2 e w' := by
  have hmf := @makes Tryz.prog
  obtain ⟨i1, hj, hy0, hy1, hy2⟩ := info_parts info_lack
  have hbb := below_laid w (.cells #[.pointer (some ⟨P, 0, none⟩)] 38)
  obtain ⟨hS0, hK0⟩ := (Sg.refl h hB).below hbb
  have hp0 : PBox (w.alloc (.cells #[.pointer (some ⟨P, 0, none⟩)] 38)) P w.heap.size := heap_alloc_new w _
  have k0 := hp0.cell
  have HSp := hide (spreads_any P B g s [] (.slice none 0 0) at_ _ hS0.tb hwf (SlAt.nil _ _ _ _) ha (by simpa using hN))
  have hgo : (((s.spreads [] at_).fin < 0 ∨ ((s.spreads [] at_).fin < s.rows.length ∧ ∃ x, s.rows[(s.spreads [] at_).fin.toNat]? = some x ∧ x.bound = false)) ∧ (s.spreads [] at_).fields.length ≤ 1000000000) := (Rw.Go.start (rows := s.rows) (fs := []) (at_ := at_) (N := 1000000000) ha (by simpa using hN)).fin_ok hwf
  have hlk : s.lacks at_ f y = (let p := s.spreads [] at_
    if Rw.hasF p.fields f then (false, s.stick (y ||| p.why))
    else if p.fin < 0 then (true, s)
    else
      let was := (s.rows.getD p.fin.toNat Rw.row0).lacks
      if was.any fun l => l.field.toList == f.toList then (true, s)
      else (true, ({ s with rows := s.rows.modify p.fin.toNat fun x => { x with lacks := was ++ [⟨f, y ||| p.why⟩] } } : T).did (.lacksBack p.fin.toNat was))) := rfl
  rw [hlk]
  generalize s.spreads [] at_ = p at *
  simp only []
  clear hlk
  have hbo := bits_or y p.why
  have HFd : Hid (∀ vS W, SlAt W B 59 10 vS p.fields.length (fdsV p.fields) → Calls Tryz.prog 33 #[.agg (spC vS p.fin p.why), .string f] W fun e w' => e = .returned (.int .i64 (Rw.findI p.fields f)) ∧ Below W.heap.size W w') := hide fun vS W h => find_any B p.fields vS p.fin p.why f W h
  have H0 := hide (And.intro hS0 (And.intro hp0 hgo))
  clear h hB hbb hS0 hK0 hp0 hgo
  unfold whyV at *
  cases hF : Rw.hasF p.fields f with
  | true =>
    rw [if_pos rfl]
    have hpos : ¬ Rw.findI p.fields f < 0 := by rw [Rw.hasF_iff, hF]; simp
    generalize Rw.findI p.fields f = fi at *
    go_enter Tryz.func74, Tryz.ntmps74
    go_wp2_with (first | (go_at_call 31; refine (HSp.out).mono ?_; rintro e w1 ⟨⟨vS, rfl, hsl, hb1⟩⟩; obtain ⟨AS, cS, rfl, _⟩ := hsl.ex; have h1 := H0.out.1.below hb1; have hb9 := below_laid w1 (.cells #[.slice AS p.fields.length cS, .int .i64 p.fin, .int .u64 (p.why.toNat : Nat)] 99); have h9 := h1.1.below hb9; have e9 := heap_alloc_new w1 (.cells #[.slice AS p.fields.length cS, .int .i64 p.fin, .int .u64 (p.why.toNat : Nat)] 99); have H9 := hide (And.intro h9.1 (And.intro (h9.2.pbox (h1.2.pbox H0.out.2.1)) (And.intro (hsl.below hb9) e9))); obtain ⟨c0, c1, c2⟩ := spC_cells e9; unfold spC; clear hsl hb1 h1 hb9 h9 e9) | (go_at_call 33; refine (HFd.out _ _ H9.out.2.2.1).mono ?_; rintro e w2 ⟨rfl, hb2⟩; have h2 := H9.out.1.below hb2; have e2 := (hb2.block _ (blk_lt H9.out.2.2.2)).trans H9.out.2.2.2; have hp2 := h2.2.pbox H9.out.2.1; have k2 := hp2.cell; obtain ⟨d0, d1, d2⟩ := spC_cells e2; have H2 := hide (And.intro h2.1 (And.intro hp2 e2)); clear hb2 h2 e2 hp2) | (go_at_call 52; refine (stick_any P B g s (y ||| p.why) _ H2.out.1.tb H2.out.1.ge hu).mono ?_; rintro e w3 ⟨rfl, hs3⟩; have H3 := hide hs3; clear hs3))
    go_ret
    obtain ⟨g3, h3, _⟩ := H2.out.1.step H3.out
    exact ⟨rfl, h3.stp⟩
  | false =>
    rw [if_neg (by simp)]
    have hneg : Rw.findI p.fields f < 0 := by rw [Rw.hasF_iff]; exact hF
    generalize Rw.findI p.fields f = fi at *
    by_cases hfin : p.fin < 0
    · rw [if_pos hfin]
      go_enter Tryz.func74, Tryz.ntmps74
      go_wp2_with (first | (go_at_call 31; refine (HSp.out).mono ?_; rintro e w1 ⟨⟨vS, rfl, hsl, hb1⟩⟩; obtain ⟨AS, cS, rfl, _⟩ := hsl.ex; have h1 := H0.out.1.below hb1; have hb9 := below_laid w1 (.cells #[.slice AS p.fields.length cS, .int .i64 p.fin, .int .u64 (p.why.toNat : Nat)] 99); have h9 := h1.1.below hb9; have e9 := heap_alloc_new w1 (.cells #[.slice AS p.fields.length cS, .int .i64 p.fin, .int .u64 (p.why.toNat : Nat)] 99); have H9 := hide (And.intro h9.1 (And.intro (h9.2.pbox (h1.2.pbox H0.out.2.1)) (And.intro (hsl.below hb9) e9))); obtain ⟨c0, c1, c2⟩ := spC_cells e9; unfold spC; clear hsl hb1 h1 hb9 h9 e9) | (go_at_call 33; refine (HFd.out _ _ H9.out.2.2.1).mono ?_; rintro e w2 ⟨rfl, hb2⟩; have h2 := H9.out.1.below hb2; have e2 := (hb2.block _ (blk_lt H9.out.2.2.2)).trans H9.out.2.2.2; have hp2 := h2.2.pbox H9.out.2.1; have k2 := hp2.cell; obtain ⟨d0, d1, d2⟩ := spC_cells e2; have H2 := hide (And.intro h2.1 (And.intro hp2 e2)); clear hb2 h2 e2 hp2))
      go_ret
      exact ⟨rfl, H2.out.1.stp⟩
    · rw [if_neg hfin]
      obtain ⟨k, hk⟩ : ∃ k : Nat, p.fin = k := ⟨p.fin.toNat, by omega⟩
      obtain ⟨r, hr, hrb⟩ : ∃ r, s.rows[k]? = some r ∧ r.bound = false := by
        rcases H0.out.2.2.1 with h | ⟨_, x, hx, hxb⟩
        · exact absurd h hfin
        · rw [hk] at hx; exact ⟨x, hx, hxb⟩
      have hkr := (List.getElem?_eq_some_iff.1 hr).1
      rw [show s.rows.getD p.fin.toNat Rw.row0 = r by rw [hk, List.getD_eq_getElem?_getD, Int.toNat_natCast, hr]; rfl, show p.fin.toNat = k by rw [hk]; rfl]
      clear hF
      obtain ⟨pf, pi, pw⟩ := p
      dsimp only at *
      subst hk
      have hk0 : (k : Int) < s.rows.length := by omega
      have hk1 : (0 : Int) ≤ k := by omega
      obtain ⟨res, hres⟩ : ∃ res : Bool × T, res = (if (r.lacks.any fun l => l.field.toList == f.toList) = true then (true, s) else (true, ({ s with rows := s.rows.modify k fun x => { x with lacks := r.lacks ++ [⟨f, y ||| pw⟩] } } : T).did (.lacksBack k r.lacks))) := ⟨_, rfl⟩
      rw [← hres]
      have HRes := hide hres
      clear hres
      generalize y ||| pw = z at *
      go_enter Tryz.func74, Tryz.ntmps74
      go_upto_region 7 with (first | (go_at_call 31; refine (HSp.out).mono ?_; rintro e w1 ⟨⟨vS, rfl, hsl, hb1⟩⟩; obtain ⟨AS, cS, rfl, _⟩ := hsl.ex; have h1 := H0.out.1.below hb1; have hb9 := below_laid w1 (.cells #[.slice AS pf.length cS, .int .i64 k, .int .u64 (pw.toNat : Nat)] 99); have h9 := h1.1.below hb9; have e9 := heap_alloc_new w1 (.cells #[.slice AS pf.length cS, .int .i64 k, .int .u64 (pw.toNat : Nat)] 99); have H9 := hide (And.intro h9.1 (And.intro (h9.2.pbox (h1.2.pbox H0.out.2.1)) (And.intro (hsl.below hb9) e9))); obtain ⟨c0, c1, c2⟩ := spC_cells e9; unfold spC; clear hsl hb1 h1 hb9 h9 e9) | (go_at_call 33; refine (HFd.out _ _ H9.out.2.2.1).mono ?_; rintro e w2 ⟨rfl, hb2⟩; have h2 := H9.out.1.below hb2; have e2 := (hb2.block _ (blk_lt H9.out.2.2.2)).trans H9.out.2.2.2; have hp2 := h2.2.pbox H9.out.2.1; have k2 := hp2.cell; obtain ⟨d0, d1, d2⟩ := spC_cells e2; have H2 := hide (And.intro h2.1 (And.intro hp2 e2)); clear hb2 h2 e2 hp2))
      obtain ⟨vu, vt, vr, vo, ve, vs, fu, hx2⟩ := H2.out.1.tb
      have hb3 := below_laid w2 (.cells #[.int .i64 (k : Nat)] 3)
      have h3 := H2.out.1.below hb3
      have hx3 := hx2.below hb3
      have hi3 := hx2.ibox (Nat.le_refl _) (heap_alloc_new w2 (.cells #[.int .i64 (k : Nat)] 3))
      have hp3 := h3.2.pbox H2.out.2.1
      have e3 := (hb3.block _ (blk_lt H2.out.2.2)).trans H2.out.2.2
      obtain ⟨br, cr, v1, v2, rfl, hvk, hra, t0, t1, t2, t3, t4, tf, htl, htB, htP⟩ := hx3.rowCells hr
      obtain ⟨A2, c2', e2, h2a, h2b, h2l, _⟩ := hra.lacks.ex
      obtain rfl : v2 = .slice A2 r.lacks.length c2' := e2
      have k3 := hp3.cell
      have i3 := hi3.cell
      have c3 := hx3.cells.2.2.1
      have H3 := hide (And.intro hx3 (And.intro h3.1 (And.intro hp3 (And.intro hi3 (And.intro e3 (And.intro hra (And.intro hvk (And.intro htl htP))))))))
      clear hx2 hb3 h3 hx3 hi3 hp3 e3 hvk hra t0 t1 t2 t3 tf htl htB htP c0 c1 c2 d0 d1 d2 k2 k0
      generalize hW : w2.alloc (.cells #[.int .i64 (k : Nat)] 3) = W at *
      clear hW
      obtain ⟨F, hF, hFF⟩ : ∃ F : World → Prop, (∀ w'', F w'' ↔ w''.cell? ⟨w.heap.size, 0, none⟩ = some (.pointer (some ⟨P, 0, none⟩)) ∧ w''.cell? ⟨P, 2, none⟩ = some (.slice (some ⟨br, 0, none⟩) s.rows.length cr) ∧ w''.cell? ⟨w2.heap.size, 0, none⟩ = some (.int .i64 (k : Nat)) ∧ w''.cell? ⟨br, k * 5 + 4, none⟩ = some (.slice A2 r.lacks.length c2')) ∧ ∀ u : HoldW F, u.w.cell? ⟨w.heap.size, 0, none⟩ = some (.pointer (some ⟨P, 0, none⟩)) ∧ u.w.cell? ⟨P, 2, none⟩ = some (.slice (some ⟨br, 0, none⟩) s.rows.length cr) ∧ u.w.cell? ⟨w2.heap.size, 0, none⟩ = some (.int .i64 (k : Nat)) ∧ u.w.cell? ⟨br, k * 5 + 4, none⟩ = some (.slice A2 r.lacks.length c2') := ⟨fun w'' => w''.cell? ⟨w.heap.size, 0, none⟩ = some (.pointer (some ⟨P, 0, none⟩)) ∧ w''.cell? ⟨P, 2, none⟩ = some (.slice (some ⟨br, 0, none⟩) s.rows.length cr) ∧ w''.cell? ⟨w2.heap.size, 0, none⟩ = some (.int .i64 (k : Nat)) ∧ w''.cell? ⟨br, k * 5 + 4, none⟩ = some (.slice A2 r.lacks.length c2'), fun _ => Iff.rfl, fun u => u.ok⟩
      have hu0 : ∀ u : HoldW F, u.w.cell? ⟨w.heap.size, 0, none⟩ = some (.pointer (some ⟨P, 0, none⟩)) := fun u => (hFF u).1
      have hu1 : ∀ u : HoldW F, u.w.cell? ⟨P, 2, none⟩ = some (.slice (some ⟨br, 0, none⟩) s.rows.length cr) := fun u => (hFF u).2.1
      have hu2 : ∀ u : HoldW F, u.w.cell? ⟨w2.heap.size, 0, none⟩ = some (.int .i64 (k : Nat)) := fun u => (hFF u).2.2.1
      have hu3 : ∀ u : HoldW F, u.w.cell? ⟨br, k * 5 + 4, none⟩ = some (.slice A2 r.lacks.length c2') := fun u => (hFF u).2.2.2
      have hFk : ∀ w'', w''.heap[w.heap.size]? = W.heap[w.heap.size]? → w''.heap[P]? = W.heap[P]? → w''.heap[w2.heap.size]? = W.heap[w2.heap.size]? → w''.heap[br]? = W.heap[br]? → F w'' := fun w'' q0 q1 q2 q3 => by
        rw [hF]
        exact ⟨(World.cell?_of_block q0).trans k3, (World.cell?_of_block q1).trans c3, (World.cell?_of_block q2).trans i3, (World.cell?_of_block q3).trans t4⟩
      refine wp_region_chain [0, 1, 2, 3, 4, 5, 6, 7] [(8, true), (9, false)] F (by kernel_rfl) (by kernel_rfl) (fun _ _ _ _ _ h => h) (hFk _ rfl rfl rfl rfl) ?_
      intro hne
      simp only [picks, picksW, List.filterMap_cons, List.filterMap_nil, List.getElem?_cons_zero, List.getElem?_cons_succ, Option.map_some]
      repeat (refine wpHeld_step (fun K hK => ?_); go_simp; refine hK _ ?_; clear hK K)
      refine wpHeld_nil ?_
      clear hu0 hu1 hu2 hu3 hne hFF
      have HK := hide hFk
      clear hFk hF
      refine wpChain_cons fun K hK => ?_
      go_wp2_with fail
      have hbz := below_laidD W (.cells #[.slice none 0 0] 131)
      refine chainF (fun _ => HK.out _ (hbz.block _ (blk_lt H3.out.2.2.1)) (hbz.block _ H3.out.1.lt) (hbz.block _ (blk_lt H3.out.2.2.2.1.1)) (hbz.block _ H3.out.2.2.2.2.2.2.2.1)) (hK _ _ ?_)
      clear hK K hbz
      refine wpChain_cons fun K hK => ?_
      go_wp2_with fail
      refine chainSkip (hK _ _ ?_)
      clear hK K
      refine wpChain_nil ?_
      have hb4 := below_laidD W (.cells #[.slice A2 r.lacks.length c2'] 131)
      have h4 := H3.out.2.1.below hb4
      have e4 : ((W.alloc (.cells #[.slice A2 r.lacks.length c2'] 131)).drew).heap[W.heap.size]? = _ := heap_alloc_new W _
      have l4 : ((W.alloc (.cells #[.slice A2 r.lacks.length c2'] 131)).drew).cell? ⟨W.heap.size, 0, none⟩ = some (.slice A2 r.lacks.length c2') := by rw [cell_block e4]; rfl
      have H4 := hide (And.intro (H3.out.1.below hb4) (And.intro h4.1 (And.intro (h4.2.pbox H3.out.2.2.1) (And.intro (h4.2.ibox H3.out.2.2.2.1) (And.intro ((hb4.block _ (blk_lt H3.out.2.2.2.2.1)).trans H3.out.2.2.2.2.1) (And.intro (h4.2.rowAt H3.out.2.2.2.2.2.1) (And.intro e4 H3.out.2.2.2.2.2.2)))))))
      clear hb4 h4 e4 k3 i3 c3 t4 HK
      generalize hV : (W.alloc (.cells #[.slice A2 r.lacks.length c2'] 131)).drew = V at *
      have hmx : r.lacks.length ≤ 1000000000 := hll k r hr
      go_wp2_with fail
      clear hV
      go_loopw [42] (fun i wr => ∃ q : Nat, q ≤ r.lacks.length ∧ i = .int .i64 q ∧ (∀ (j : Nat) x, j < q → r.lacks[j]? = some x → (x.field.toList == f.toList) = false) ∧ Below V.heap.size V wr) (fun i _ => r.lacks.length - (intOf i).toNat)
      case atStart => exact ⟨0, Nat.zero_le _, rfl, fun j x hj => by omega, Below.refl _ _⟩
      case round =>
        obtain ⟨q, hq, rfl, heq, hd⟩ := hrel
        have h5 := H4.out.2.1.below hd
        by_cases hl : q < r.lacks.length
        · obtain ⟨x, hx⟩ : ∃ x, r.lacks[q]? = some x := ⟨r.lacks[q], List.getElem?_eq_getElem hl⟩
          obtain ⟨A', c', e1, _, _, _, hc⟩ := (h5.2.rowAt H4.out.2.2.2.2.2.1).lacks.ex
          cases e1
          obtain ⟨b0, off, rfl, _, _, hcell⟩ := hc (by omega)
          have n0 := hcell (q * 2 + 0) (.string x.field) ((lksV_get hx (by omega)).trans rfl)
          have n1 := hcell (q * 2 + 1) (.int .u64 (x.why.toNat : Nat)) ((lksV_get hx (by omega)).trans rfl)
          rw [show off + (q * 2 + 0) = off + q * 2 by omega] at n0
          rw [show off + (q * 2 + 1) = off + q * 2 + 1 by omega] at n1
          have hq0 : (q : Int) < r.lacks.length := by omega
          have hq1 : (0 : Int) ≤ q := by omega
          have HE := hide (And.intro heq (And.intro hx (And.intro hd h5)))
          clear heq hx hd h5 hcell hc
          cases hm : x.field.toList == f.toList
          · go_wp2_with fail
            refine ⟨⟨q + 1, by omega, rfl, fun j z hj hz => ?_, HE.out.2.2.1.alloc HE.out.2.2.1.size _⟩, by simp [intOf]; omega⟩
            rcases Nat.lt_or_ge j q with h | h
            · exact HE.out.1 j z h hz
            · obtain rfl : j = q := by omega
              rw [HE.out.2.1] at hz
              cases hz
              exact hm
          · have hany : (r.lacks.any fun l => l.field.toList == f.toList) = true := by
              rw [List.any_eq_true]
              exact ⟨x, List.mem_iff_getElem?.2 ⟨q, HE.out.2.1⟩, hm⟩
            have HA := hide hany
            clear hany
            go_wp2_with fail
            go_ret
            rw [HRes.out, if_pos HA.out]
            exact ⟨rfl, (HE.out.2.2.2.1.below (below_laid _ _)).1.stp⟩
        · obtain rfl : q = r.lacks.length := by omega
          have hany : (r.lacks.any fun l => l.field.toList == f.toList) = false := by
            rw [List.any_eq_false]
            intro x hx
            obtain ⟨j, hj⟩ := List.mem_iff_getElem?.1 hx
            have := heq j x (List.getElem?_eq_some_iff.1 hj).1 hj
            rw [this]; simp
          rw [if_neg (by rw [hany]; simp)] at HRes
          clear hany heq hl
          have hx5 := H4.out.1.below hd
          have hp5 := h5.2.pbox H4.out.2.2.1
          have hi5 := h5.2.ibox H4.out.2.2.2.1
          have e5 := (hd.block _ (blk_lt H4.out.2.2.2.2.1)).trans H4.out.2.2.2.2.1
          have g5 := (hd.block _ (blk_lt H4.out.2.2.2.2.2.2.1)).trans H4.out.2.2.2.2.2.2.1
          have hra5 := h5.2.rowAt H4.out.2.2.2.2.2.1
          have H5 := hide (And.intro hx5 (And.intro h5.1 (And.intro hp5 (And.intro hi5 (And.intro e5 (And.intro hra5 g5))))))
          clear hx5 h5 hp5 hi5 e5 g5 hra5 hd
          go_upto_region 14 with (fail)
          obtain ⟨F, hF, hFF⟩ : ∃ F : World → Prop, (∀ w'', F w'' ↔ w''.cell? ⟨w.heap.size, 0, none⟩ = some (.pointer (some ⟨P, 0, none⟩)) ∧ w''.cell? ⟨P, 2, none⟩ = some (.slice (some ⟨br, 0, none⟩) s.rows.length cr) ∧ w''.cell? ⟨w2.heap.size, 0, none⟩ = some (.int .i64 (k : Nat)) ∧ w''.cell? ⟨W.heap.size, 0, none⟩ = some (.slice A2 r.lacks.length c2') ∧ w''.cell? ⟨w1.heap.size, 2, none⟩ = some (.int .u64 (pw.toNat : Nat))) ∧ ∀ u : HoldW F, u.w.cell? ⟨w.heap.size, 0, none⟩ = some (.pointer (some ⟨P, 0, none⟩)) ∧ u.w.cell? ⟨P, 2, none⟩ = some (.slice (some ⟨br, 0, none⟩) s.rows.length cr) ∧ u.w.cell? ⟨w2.heap.size, 0, none⟩ = some (.int .i64 (k : Nat)) ∧ u.w.cell? ⟨W.heap.size, 0, none⟩ = some (.slice A2 r.lacks.length c2') ∧ u.w.cell? ⟨w1.heap.size, 2, none⟩ = some (.int .u64 (pw.toNat : Nat)) := ⟨fun w'' => w''.cell? ⟨w.heap.size, 0, none⟩ = some (.pointer (some ⟨P, 0, none⟩)) ∧ w''.cell? ⟨P, 2, none⟩ = some (.slice (some ⟨br, 0, none⟩) s.rows.length cr) ∧ w''.cell? ⟨w2.heap.size, 0, none⟩ = some (.int .i64 (k : Nat)) ∧ w''.cell? ⟨W.heap.size, 0, none⟩ = some (.slice A2 r.lacks.length c2') ∧ w''.cell? ⟨w1.heap.size, 2, none⟩ = some (.int .u64 (pw.toNat : Nat)), fun _ => Iff.rfl, fun u => u.ok⟩
          have hu0 : ∀ u : HoldW F, u.w.cell? ⟨w.heap.size, 0, none⟩ = some (.pointer (some ⟨P, 0, none⟩)) := fun u => (hFF u).1
          have hu1 : ∀ u : HoldW F, u.w.cell? ⟨P, 2, none⟩ = some (.slice (some ⟨br, 0, none⟩) s.rows.length cr) := fun u => (hFF u).2.1
          have hu2 : ∀ u : HoldW F, u.w.cell? ⟨w2.heap.size, 0, none⟩ = some (.int .i64 (k : Nat)) := fun u => (hFF u).2.2.1
          have hu3 : ∀ u : HoldW F, u.w.cell? ⟨W.heap.size, 0, none⟩ = some (.slice A2 r.lacks.length c2') := fun u => (hFF u).2.2.2.1
          have hu4 : ∀ u : HoldW F, u.w.cell? ⟨w1.heap.size, 2, none⟩ = some (.int .u64 (pw.toNat : Nat)) := fun u => (hFF u).2.2.2.2
          have hFk : ∀ w'', w''.heap[w.heap.size]? = wr.heap[w.heap.size]? → w''.heap[P]? = wr.heap[P]? → w''.heap[w2.heap.size]? = wr.heap[w2.heap.size]? → w''.heap[W.heap.size]? = wr.heap[W.heap.size]? → w''.heap[w1.heap.size]? = wr.heap[w1.heap.size]? → F w'' := fun w'' q0 q1 q2 q3 q4 => by
            rw [hF]
            exact ⟨(World.cell?_of_block q0).trans H5.out.2.2.1.cell, (World.cell?_of_block q1).trans H5.out.1.cells.2.2.1, (World.cell?_of_block q2).trans H5.out.2.2.2.1.cell, (by rw [cell_block (q3.trans H5.out.2.2.2.2.2.2)]; rfl), (spC_cells (q4.trans H5.out.2.2.2.2.1)).2.2⟩
          have hcap1 : ((r.lacks.length : Nat) : Int) ≤ c2' := by omega
          have hcap2 : (0 : Int) ≤ (r.lacks.length : Nat) := by omega
          refine wp_region_chain [0, 1, 2, 3, 4, 5, 6, 7, 8, 9, 10, 11, 12, 13, 14, 15, 16] [(17, true), (18, true), (19, false), (20, false), (21, false)] F (by kernel_rfl) (by kernel_rfl) (fun _ _ _ _ _ h => h) (hFk _ rfl rfl rfl rfl rfl) ?_
          intro hne
          simp only [picks, picksW, List.filterMap_cons, List.filterMap_nil, List.getElem?_cons_zero, List.getElem?_cons_succ, Option.map_some]
          repeat (refine wpHeld_step (fun K hK => ?_); go_simp; refine hK _ ?_; clear hK K)
          refine wpHeld_nil ?_
          clear hu0 hu1 hu2 hu3 hu4 hne hFF
          have HK := hide hFk
          clear hFk hF
          refine wpChain_cons fun K hK => ?_
          go_wp2_with fail
          have hba := below_laidD wr (.cells #[.string f, .int .u64 (z.toNat : Nat)] 166)
          refine chainF (fun _ => HK.out _ (hba.block _ (blk_lt H5.out.2.2.1)) (hba.block _ H5.out.1.lt) (hba.block _ (blk_lt H5.out.2.2.2.1.1)) (hba.block _ (blk_lt H5.out.2.2.2.2.2.2)) (hba.block _ (blk_lt H5.out.2.2.2.2.1))) (hK _ _ ?_)
          clear hK K
          have h10 := H5.out.2.1.below hba
          have hx10 := H5.out.1.below hba
          have e10 : ((wr.alloc (.cells #[.string f, .int .u64 (z.toNat : Nat)] 166)).drew).heap[wr.heap.size]? = _ := heap_alloc_new wr _
          have hra10 := h10.2.rowAt H5.out.2.2.2.2.2.1
          have hbr : wr.heap[br]? ≠ none := fun e => by
            have h1 := RowZ.lt H5.out.1.rows br rfl
            rw [Array.getElem?_eq_getElem h1] at e; cases e
          have H10 := hide (And.intro hx10 (And.intro h10.1 (And.intro (h10.2.pbox H5.out.2.2.1) (And.intro (h10.2.ibox H5.out.2.2.2.1) (And.intro hra10 (And.intro e10 (And.intro hba (And.intro h10.2 (H4.out.2.2.2.2.2.2.2.1)))))))))
          clear h10 hx10 e10 hra10 hba hbr
          generalize hX : (wr.alloc (.cells #[.string f, .int .u64 (z.toNat : Nat)] 166)).drew = X at *
          refine wpChain_cons fun K hK => ?_
          refine app_full rfl (.tmp 61) (.tmp 68) 131 131 rfl 166 i1 _ 2 24 Tryz.underlying131 hj hy0 hy1 hy2 rfl A2 r.lacks.length (lksV r.lacks) rfl (lksV_len _) (fun hn => by
            obtain ⟨A', c'', e1, _, _, _, hc10⟩ := H10.out.2.2.2.2.1.lacks.ex
            cases e1
            obtain ⟨b, off, h1, _, _, h2⟩ := hc10 hn
            exact ⟨b, off, h1, h2⟩) _ 1 [.string f, .int .u64 (z.toNat : Nat)] rfl (lack_news H10.out.2.2.2.2.2.1) (by omega) (by unfold maxLen; omega) (by omega) ?_
          intro c' w' hr' hb'
          have h11 := H10.out.2.1.below hb'
          have hx11 := H10.out.1.below hb'
          have hra11 : RowAt w' B { r with lacks := r.lacks ++ [⟨f, z⟩] } (v1, .slice (some ⟨X.heap.size, 0, none⟩) (r.lacks.length + 1) c') := ⟨(h11.2.rowAt H10.out.2.2.2.2.1).fields, SlAt.of_row (by rw [List.length_append, lksV_snoc]; exact hr')⟩
          have hset := TbX.setRow hx11 hr H10.out.2.2.2.2.2.2.2.2 (show 4 < 5 by omega) (r' := { r with lacks := r.lacks ++ [⟨f, z⟩] }) (v' := (v1, .slice (some ⟨X.heap.size, 0, none⟩) (r.lacks.length + 1) c')) (u := .slice (some ⟨X.heap.size, 0, none⟩) (r.lacks.length + 1) c') rfl (fun i hi => by
            match i, hi with
            | 0, _ => rfl
            | 1, _ => rfl
            | 2, _ => rfl
            | 3, _ => rfl
            | 4, hi => exact absurd rfl hi
            | i + 5, _ => rfl) hra11
          obtain ⟨hS12, hK12⟩ := h11.1.stepG ⟨_, _, _, _, _, _, _, hset.1⟩ hset.2 (Gn.refl _ _)
          obtain ⟨b', c'', v1', v2', e1, _, _, _, _, _, _, t4, tf, _⟩ := hx11.rowCells hr
          cases e1
          have tf4 := tf (k * 5 + 4)
          have g11 := (hb'.block _ (Nat.lt_of_lt_of_le (blk_lt H5.out.2.2.2.2.2.2) H10.out.2.2.2.2.2.2.1.size)).trans ((H10.out.2.2.2.2.2.2.1.block _ (blk_lt H5.out.2.2.2.2.2.2)).trans H5.out.2.2.2.2.2.2)
          have g12 := (hK12.block _ (blk_lt g11) (.inr ⟨_, _, g11, .inr (.inr (.inl rfl))⟩)).trans g11
          have hsl := hK12.lacks (h11.2.rowAt H10.out.2.2.2.2.1).lacks
          have H12 := hide (And.intro hS12 (And.intro (hK12.pbox (h11.2.pbox H10.out.2.2.1)) (And.intro (hK12.ibox (h11.2.ibox H10.out.2.2.2.1)) (And.intro g12 hsl))))
          have hsz := H10.out.2.2.2.2.2.2.1
          refine chainF (fun _ => HK.out _ ((hb'.block _ (Nat.lt_of_lt_of_le (blk_lt H5.out.2.2.1) hsz.size)).trans (hsz.block _ (blk_lt H5.out.2.2.1))) ((hb'.block _ (Nat.lt_of_lt_of_le H5.out.1.lt hsz.size)).trans (hsz.block _ H5.out.1.lt)) ((hb'.block _ (Nat.lt_of_lt_of_le (blk_lt H5.out.2.2.2.1.1) hsz.size)).trans (hsz.block _ (blk_lt H5.out.2.2.2.1.1))) ((hb'.block _ (Nat.lt_of_lt_of_le (blk_lt H5.out.2.2.2.2.2.2) hsz.size)).trans (hsz.block _ (blk_lt H5.out.2.2.2.2.2.2))) ((hb'.block _ (Nat.lt_of_lt_of_le (blk_lt H5.out.2.2.2.2.1) hsz.size)).trans (hsz.block _ (blk_lt H5.out.2.2.2.2.1)))) (hK _ _ ?_)
          clear hK K hsz h11 hx11 hra11 hset hS12 hK12 tf g11 g12 hsl hr' hb'
          refine wpChain_cons fun K hK => ?_
          go_wp2_with fail
          refine chainSkip (hK _ _ ?_)
          clear hK K
          refine wpChain_cons fun K hK => ?_
          go_wp2_with fail
          refine chainSkip (hK _ _ ?_)
          clear hK K
          refine wpChain_cons fun K hK => ?_
          go_wp2_with fail
          refine chainSkip (hK _ _ ?_)
          clear hK K
          refine wpChain_nil ?_
          clear t4 tf4
          generalize w'.setCell ⟨br, k * 5 + 4, none⟩ (.slice (some ⟨X.heap.size, 0, none⟩) (r.lacks.length + 1) c') = Y at *
          have y0 := H12.out.2.1.cell
          have HD := hide (did_any P B _ (.func 90) #[.pointer (some ⟨W.heap.size, 0, none⟩), .pointer (some ⟨w.heap.size, 0, none⟩), .pointer (some ⟨w2.heap.size, 0, none⟩)] (.lacksBack k r.lacks) _ Y H12.out.1.tb ⟨W.heap.size, w.heap.size, w2.heap.size, _, rfl, H12.out.2.2.2.1, H12.out.2.2.2.2, H12.out.2.1, H12.out.2.2.1.1, H12.out.2.2.1.2.1, H12.out.2.2.1.2.2⟩ H12.out.1.ge hu)
          go_wp2_with (go_at_call 47; refine (HD.out).mono ?_; rintro e w6 ⟨⟨rfl, hS⟩, _⟩; obtain ⟨g7, hS7, hK7⟩ := H12.out.1.step hS; have HE := hide hS7; clear hS hS7 hK7)
          go_ret
          rw [HRes.out, modify_set _ _ _ _ hr]
          exact ⟨rfl, HE.out.stp⟩
end Go.Proofs.YthnbhcfpfbimgaaGreat
/- Plain: how a table grows; its rows still lead onwards. -/
namespace Go.Proofs.YthnbhcfpfbimgaaGreat
namespace Rw

/-- The table's lists are no longer than n. -/
structure Sz (s : T) (n : Nat) : Prop where
  tot : tot s.rows ≤ n
  lacks : ∀ (k : Nat) r, s.rows[k]? = some r → r.lacks.length ≤ n
  undo : s.undo.length ≤ n
  rows : s.rows.length ≤ n
  own : s.own.length ≤ n
  eqs : s.eqs.length ≤ n
  times : s.times.length ≤ n
theorem Sz.mono {s : T} {n m : Nat} (h : Sz s n) (hm : n ≤ m) : Sz s m :=
  ⟨Nat.le_trans h.tot hm, fun k r hr => Nat.le_trans (h.lacks k r hr) hm, Nat.le_trans h.undo hm, Nat.le_trans h.rows hm, Nat.le_trans h.own hm, Nat.le_trans h.eqs hm, Nat.le_trans h.times hm⟩
theorem Sz.did {s : T} {n : Nat} (h : Sz s n) (u : U) : Sz (s.did u) (n + 1) :=
  ⟨Nat.le_succ_of_le h.tot, fun k r hr => Nat.le_succ_of_le (h.lacks k r hr), by have := h.undo; simp [T.did]; omega, Nat.le_succ_of_le h.rows, Nat.le_succ_of_le h.own, Nat.le_succ_of_le h.eqs, Nat.le_succ_of_le h.times⟩
theorem Sz.stick {s : T} {n : Nat} (h : Sz s n) (w : W64) : Sz (s.stick w) (n + 1) := by
  unfold T.stick
  split
  · exact h.mono (by omega)
  · exact Sz.did (s := { s with stuck := true, why := w }) ⟨h.tot, h.lacks, h.undo, h.rows, h.own, h.eqs, h.times⟩ _
theorem stick_rows (s : T) (w : W64) : (s.stick w).rows = s.rows ∧ (s.stick w).own = s.own := by
  unfold T.stick
  split <;> exact ⟨rfl, rfl⟩
theorem tot_modify (l : List Row) (k : Nat) (q : Row → Row) (hq : ∀ r, (q r).fields = r.fields) : tot (l.modify k q) = tot l := by
  unfold tot
  congr 1
  refine List.ext_getElem? fun i => ?_
  rw [List.getElem?_map, List.getElem?_map, List.getElem?_modify]
  cases l[i]? with
  | none => rfl
  | some a => by_cases h : k = i <;> simp [h, hq]
theorem modify_get {l : List Row} {k i : Nat} {q : Row → Row} {r : Row} (h : (l.modify k q)[i]? = some r) : ∃ r0, l[i]? = some r0 ∧ r = if k = i then q r0 else r0 := by
  rw [List.getElem?_modify] at h
  cases hl : l[i]? with
  | none => rw [hl] at h; simp at h
  | some a =>
    rw [hl] at h
    refine ⟨a, rfl, ?_⟩
    by_cases hk : k = i <;> simp [hk] at h ⊢ <;> exact h.symm
/-- What lacks leaves: the same bound rows, no more rows; one step more at most. -/
structure Nx (s s' : T) : Prop where
  len : s'.rows.length = s.rows.length
  own : s'.own = s.own
  row : ∀ (i : Nat) r, s'.rows[i]? = some r → ∃ r0, s.rows[i]? = some r0 ∧ r.bound = r0.bound ∧ r.tail = r0.tail ∧ r.fields = r0.fields ∧ r.why = r0.why
theorem Nx.refl (s : T) : Nx s s := ⟨rfl, rfl, fun _ r h => ⟨r, h, rfl, rfl, rfl, rfl⟩⟩
theorem Nx.wf {s s' : T} (h : Nx s s') (hw : Wf s.rows) : Wf s'.rows := ⟨fun i r hr hb => by
  obtain ⟨r0, h1, h2, h3, _⟩ := h.row i r hr
  rw [h3, h.len]
  exact hw.tail i r0 h1 (by rw [← h2]; exact hb)⟩
theorem Nx.trans {a b c : T} (h : Nx a b) (k : Nx b c) : Nx a c := ⟨k.len.trans h.len, k.own.trans h.own, fun i r hr => by
  obtain ⟨r1, h1, h2, h3, h4, h5⟩ := k.row i r hr
  obtain ⟨r0, g1, g2, g3, g4, g5⟩ := h.row i r1 h1
  exact ⟨r0, g1, h2.trans g2, h3.trans g3, h4.trans g4, h5.trans g5⟩⟩
theorem Nx.stick (s : T) (w : W64) : Nx s (s.stick w) := by
  obtain ⟨h1, h2⟩ := stick_rows s w
  exact ⟨by rw [h1], h2, fun i r h => ⟨r, by rw [← h1]; exact h, rfl, rfl, rfl, rfl⟩⟩
theorem lacks_nx (s : T) (at_ : Int) (f : ByteArray) (w : W64) {n : Nat} (h : Sz s n) : Nx s (s.lacks at_ f w).2 ∧ Sz (s.lacks at_ f w).2 (n + 1) := by
  unfold T.lacks
  simp only []
  split
  · exact ⟨Nx.stick _ _, h.stick _⟩
  split
  · exact ⟨Nx.refl _, h.mono (by omega)⟩
  split
  · exact ⟨Nx.refl _, h.mono (by omega)⟩
  · generalize hk : (s.spreads [] at_).fin.toNat = k
    generalize w ||| (s.spreads [] at_).why = y
    refine ⟨⟨by simp [T.did], rfl, fun i r hr => ?_⟩, ?_⟩
    · obtain ⟨r0, h1, h2⟩ := modify_get (show (s.rows.modify k _)[i]? = some r from hr)
      refine ⟨r0, h1, ?_⟩
      rw [h2]
      split <;> exact ⟨rfl, rfl, rfl, rfl⟩
    · refine ⟨Nat.le_succ_of_le (Nat.le_trans (Nat.le_of_eq (tot_modify s.rows k _ (by intro _; rfl))) h.tot), fun i r hr => ?_, by have := h.undo; simp [T.did]; omega, by simpa [T.did] using Nat.le_succ_of_le h.rows, Nat.le_succ_of_le h.own, Nat.le_succ_of_le h.eqs, Nat.le_succ_of_le h.times⟩
      obtain ⟨r0, h1, h2⟩ := modify_get (show (s.rows.modify k _)[i]? = some r from hr)
      have hr0 := h.lacks i r0 h1
      rw [h2]
      split
      · rename_i hki
        subst hki
        have hg : s.rows.getD k row0 = r0 := by rw [List.getD_eq_getElem?_getD, h1]; rfl
        simp only [hg, List.length_append, List.length_singleton]
        omega
      · omega
end Rw
end Go.Proofs.YthnbhcfpfbimgaaGreat
