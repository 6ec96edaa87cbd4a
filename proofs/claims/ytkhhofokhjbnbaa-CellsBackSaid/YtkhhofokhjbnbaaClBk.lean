/- The walk of CellsBack. -/
import Derived.Test.YtkhhofokhjbnbaaClPlays
namespace Go.Proofs.Ytkhhofokhjbnbaa
open Go.RowKit

/-- Behind a mark. -/
def Behind (s : Cl.S) (m : Nat) (l : List Int) : Prop := m ≤ s.2.length ∧ Cl.at_ s.2 s.1 m = l
theorem behind_do {s : Cl.S} {m : Nat} {l : List Int} (h : Behind s m l) (k n x : Int) (hk : k = 3 → m ≤ n) : Behind (Cl.cdo s k n x) m l := by
  obtain ⟨hm, hl⟩ := h
  unfold Cl.cdo
  by_cases h1 : k = 1
  · simp only [h1, if_true]
    unfold Cl.cset
    cases hi : inR n s.1.length
    · exact ⟨hm, hl⟩
    · obtain ⟨i, rfl, hlt⟩ := inR_nat hi
      simp only [if_true, Int.toNat_natCast]
      by_cases hx : s.1.getD i 0 = x
      · simp only [hx, if_true]; exact ⟨hm, hl⟩
      · simp only [hx, if_false]
        exact ⟨by simp; omega, by rw [Cl.at_snoc hm, Cl.app_set s.1 i x hlt]; exact hl⟩
  by_cases h2 : k = 2
  · simp only [h2, if_true]; exact ⟨hm, hl⟩
  by_cases h3 : k = 3
  · have hn := hk h3
    rw [if_neg h1, if_neg h2, if_pos h3]
    unfold Cl.cundo
    by_cases hle : n ≤ s.2.length
    · simp only [hle, if_true]
      exact ⟨by simp; omega, by rw [Cl.at_take (by omega)]; exact hl⟩
    · simp only [hle, if_false]; exact ⟨hm, hl⟩
  · simp only [h1, h2, h3, if_false]
    exact ⟨by simp [Cl.cadd]; omega, by simp only [Cl.cadd]; rw [Cl.at_snoc hm, Cl.app_add]; exact hl⟩

structure CInv (w W : World) (P : Nat) (gw gu : Option Nat) (s : Cl.S) : Prop where
  cel : CelP W P gw gu s.1 s.2
  below : Below w.heap.size w W
  newW : ∀ g, gw = some g → w.heap.size ≤ g
  newU : ∀ g, gu = some g → w.heap.size ≤ g
  newP : w.heap.size ≤ P
section
variable {w W W' : World} {P : Nat} {gw gu : Option Nat} {s s' : Cl.S} {v : Value} {M : List (List Int)} {k n x : Int}
theorem CInv.step (h : CInv w W P gw gu s) (hb : Below W.heap.size W W') : CInv w W' P gw gu s := ⟨h.cel.below hb, h.below.trans (hb.mono h.below.size), h.newW, h.newU, h.newP⟩
theorem CInv.next (h : CInv w W P gw gu s) (ho : Step W W' P gw gu s'.1 s'.2) : ∃ gw' gu', CInv w W' P gw' gu' s' ∧ ∀ r l, RowG W (Bad P gw gu) r l → RowG W' (Bad P gw' gu') r l := by
  obtain ⟨gw', gu', hC, hF, h1, h2⟩ := ho
  exact ⟨gw', gu', ⟨hC, h.below.trans (hF.below h.newP h.newW h.newU h.below.size), h1.ge h.below.size h.newW, h2.ge h.below.size h.newU, h.newP⟩,
    fun r l hr => hr.keep (fun k hk hb => hF.block k hk (fun e => hb (.inl e)) (fun e => hb (.inr (.inl e))) (fun e => hb (.inr (.inr e)))) fun k hk hb => Bad.back hb hk h1 h2⟩
theorem Out.toStep (h : Out W W' P gw gu s' v M) : Step W W' P gw gu s'.1 s'.2 := by
  obtain ⟨gw', gu', hC, hF, h1, h2, _⟩ := h
  exact ⟨gw', gu', hC, hF, h1, h2⟩
theorem CInv.mat (h : CInv w W P gw gu s) (hr : Row W' 36 v [.slice none 0 0]) (hn : ∀ g, v.ownBlock = some g → W.heap.size ≤ g) : Mat W' (Bad P gw gu) v [[]] := by
  refine mat_new hr fun g hg hb => ?_
  have h1 := hn g hg
  have h2 := h.cel.bad_lt g hb
  omega
/-- The argument's box, at a block of its own. -/
theorem op_cells {b : Nat} {W : World} (h : W.heap[b]? = some (.cells #[.int .i64 k, .int .i64 n, .int .u64 x] 32 (0, 0))) : W.cell? ⟨b, 0, none⟩ = some (.int .i64 k) ∧ W.cell? ⟨b, 1, none⟩ = some (.int .i64 n) ∧ W.cell? ⟨b, 2, none⟩ = some (.int .u64 x) := by
  refine ⟨?_, ?_, ?_⟩ <;> rw [cell_block h] <;> rfl
theorem cdo_len (s : Cl.S) (k n x : Int) : (Cl.cdo s k n x).1.length ≤ s.1.length + 1 ∧ (Cl.cdo s k n x).2.length ≤ s.2.length + 1 := (play s k n x).2.2
end

set_option maxHeartbeats 6400000 in
theorem backs_any (A : Option Addr) (n c : Nat) (os : List Op3) (A2 : Option Addr) (n2 c2 : Nat) (os2 : List Op3) (w : World) (ho : HasOp w w.heap.size A n os) (hnc : n ≤ c) (_ : c ≤ maxLen) (ho2 : HasOp w w.heap.size A2 n2 os2) (hnc2 : n2 ≤ c2) (_ : c2 ≤ maxLen) :
    Calls Try.prog 4 #[.slice A n c, .slice A2 n2 c2] w fun e w' => e = .returned (.bool true) ∧ Below w.heap.size w w' := by
  obtain ⟨i0, hi, hz0, hz1, hz2⟩ := info_parts info_u64
  by_cases hn : n ≤ 60
  · by_cases hn2 : n2 ≤ 60
    · have hn1 : ¬ (60 : Int) < n := by omega
      have hn12 : ¬ (60 : Int) < n2 := by omega
      have hd1 : decide ((60 : Int) < n) = false := by simp; omega
      have HO := hide ho
      have HO2 := hide ho2
      clear ho ho2
      go_enter Try.func4, Try.ntmps4
      go_wp2_with fail
      refine (new_any _).mono ?_
      rintro e w1 ⟨rfl, hb1, hC1, hs1⟩
      have HI := hide (show CInv w w1 w.heap.size none none ([], []) from ⟨hC1, hb1, fun g h => (by cases h), fun g h => (by cases h), Nat.le_refl _⟩)
      clear hb1 hC1
      go_wp2_with fail
      go_loopw [25] (fun i wr => ∃ (k : Nat) (gw gu : Option Nat) (s : Cl.S), k ≤ n ∧ i = .int .i64 k ∧ s.1.length ≤ k ∧ s.2.length ≤ k ∧ CInv w wr w.heap.size gw gu s) (fun i _ => n - (intOf i).toNat)
      case atStart => exact ⟨0, none, none, ([], []), Nat.zero_le _, rfl, Nat.le_refl _, Nat.le_refl _, HI.out⟩
      case round =>
        obtain ⟨k, gw, gu, s, hk, rfl, hs1, hs2, hI⟩ := hrel
        by_cases hlt : k < n
        · obtain ⟨b, off, rfl, hbB, hcell⟩ := (HO.out.below hI.below).2 (by omega)
          obtain ⟨q, hq⟩ : ∃ q, os[k]? = some q := ⟨os[k]'(by rw [HO.out.1]; exact hlt), List.getElem?_eq_getElem _⟩
          obtain ⟨kd, m, x⟩ := q
          obtain ⟨d0, d1, d2⟩ := hcell k kd m x hq
          have hk0 : (k : Int) < n := by omega
          have hk1 : (0 : Int) ≤ k := by omega
          have HII := hide hI
          clear hcell hq hI
          go_wp2_with fail
          have hbl := below_laid wr (.cells #[.int .i64 kd, .int .i64 m, .int .u64 x] 32)
          have hI1 := HII.out.step hbl
          have hbx := heap_alloc_new wr (.cells #[.int .i64 kd, .int .i64 m, .int .u64 x] 32)
          have H1 := hide (And.intro hI1 hbx)
          clear hbl hI1 hbx
          generalize wr.alloc (.cells #[.int .i64 kd, .int .i64 m, .int .u64 x] 32) = W at *
          have hF0 := op_cells H1.out.2
          refine wp_region_chain [0, 2] [(1, true), (3, false)] (fun w' => w'.cell? ⟨wr.heap.size, 0, none⟩ = some (.int .i64 kd) ∧ w'.cell? ⟨wr.heap.size, 1, none⟩ = some (.int .i64 m) ∧ w'.cell? ⟨wr.heap.size, 2, none⟩ = some (.int .u64 x)) (by kernel_rfl) (by kernel_rfl) (fun _ _ _ _ _ h => h) hF0 ?_
          intro hne
          simp only [picks, picksW, List.filterMap_cons, List.filterMap_nil, List.getElem?_cons_zero, List.getElem?_cons_succ, Option.map_some]
          have hu1 : ∀ u : HoldW (fun w' => w'.cell? ⟨wr.heap.size, 0, none⟩ = some (.int .i64 kd) ∧ w'.cell? ⟨wr.heap.size, 1, none⟩ = some (.int .i64 m) ∧ w'.cell? ⟨wr.heap.size, 2, none⟩ = some (.int .u64 x)), u.w.cell? ⟨wr.heap.size, 0, none⟩ = some (.int .i64 kd) := fun u => u.ok.1
          have hu2 : ∀ u : HoldW (fun w' => w'.cell? ⟨wr.heap.size, 0, none⟩ = some (.int .i64 kd) ∧ w'.cell? ⟨wr.heap.size, 1, none⟩ = some (.int .i64 m) ∧ w'.cell? ⟨wr.heap.size, 2, none⟩ = some (.int .u64 x)), u.w.cell? ⟨wr.heap.size, 1, none⟩ = some (.int .i64 m) := fun u => u.ok.2.1
          have hu3 : ∀ u : HoldW (fun w' => w'.cell? ⟨wr.heap.size, 0, none⟩ = some (.int .i64 kd) ∧ w'.cell? ⟨wr.heap.size, 1, none⟩ = some (.int .i64 m) ∧ w'.cell? ⟨wr.heap.size, 2, none⟩ = some (.int .u64 x)), u.w.cell? ⟨wr.heap.size, 2, none⟩ = some (.int .u64 x) := fun u => u.ok.2.2
          repeat (refine wpHeld_step (fun K hK => ?_); go_simp; refine hK _ ?_; clear hK K)
          refine wpHeld_nil ?_
          clear hu1 hu2 hu3 hne hF0
          refine wpChain_cons fun K hK => ?_
          go_wp2_with fail
          refine (rnew_any _).mono ?_
          rintro e w3 ⟨v0, rfl, hb3, hr3, hn3⟩
          obtain ⟨A0, c0, rfl, _, _⟩ := hr3.form
          have hId := H1.out.1.step (below_drewN (Below.refl _ W) 1)
          have hm3 := hId.mat hr3 hn3
          have hI3 := hId.step hb3
          have ha3 := op_cells ((hb3.block _ (blk_lt H1.out.2)).trans H1.out.2)
          have HB3 := hide hb3
          have H3 := hide (And.intro hI3 hm3)
          clear hb3 hr3 hn3 hId hm3 hI3
          go_wp2_with fail
          refine chainF (fun _ => ha3) (hK _ _ ?_)
          clear hK K
          refine wpChain_cons fun K hK => ?_
          go_wp2_with fail
          refine (do_all w.heap.size gw gu s _ [[]] kd m x _ H3.out.1.cel H3.out.2 (by simp) (by omega) (by omega) (by simp) (by simp [lastL])).mono ?_
          rintro e w4 ⟨v1, rfl, hout⟩
          obtain ⟨gw', gu', hI4, hkeep⟩ := H3.out.1.next hout.toStep
          obtain ⟨cl1, cl2⟩ := cdo_len s kd m x
          have H4 := hide (And.intro hI4 (And.intro cl1 cl2))
          clear hI4 hkeep cl1 cl2 hout
          go_wp2_with fail
          refine chainSkip (hK _ _ ?_)
          clear hK K
          refine wpChain_nil ?_
          go_wp2_with fail
          exact ⟨⟨k + 1, gw', gu', Cl.cdo s kd m x, by omega, rfl, by have := H4.out.2.1; omega, by have := H4.out.2.2; omega, H4.out.1⟩, by simp [intOf]; omega⟩
        · obtain rfl : k = n := by omega
          have HII := hide hI
          clear hI
          go_wp2_with fail
          refine (len_all HII.out.cel).mono ?_
          rintro e w' ⟨rfl, rfl⟩
          go_wp2_with fail
          obtain ⟨wo, rfl⟩ : ∃ wo, wo = wr := ⟨_, rfl⟩
          go_loopw [36, 6] (fun i vw wr => ∃ (j : Nat), j ≤ s.1.length ∧ i = .int .i64 j ∧ Below wo.heap.size wo wr ∧ Row wr 30 vw (wordsV (s.1.take j)) ∧ ∀ g, vw.ownBlock = some g → wo.heap.size ≤ g) (fun i _ _ => s.1.length - (intOf i).toNat)
          case atStart => exact ⟨0, Nat.zero_le _, rfl, Below.refl _ _, Row.nil, fun g h => by cases h⟩
          case round =>
            obtain ⟨j, hj, rfl, hbw, hrow, hnew⟩ := hrel
            by_cases hjl : j < s.1.length
            · have hget := get_all (j : Int) (HII.out.cel.below hbw)
              rw [getR_nat hjl] at hget
              have HGet := hide hget
              have hjl2 : (j : Int) < s.1.length := by omega
              have hwl : (wordsV (s.1.take j)).length = j := by simp [wordsV]; omega
              have HWL := hide hwl
              obtain ⟨Aw, cw, rfl, _, _⟩ := hrow.form
              rw [hwl] at hrow hnew ⊢
              clear hwl
              have HR := hide (And.intro hrow (And.intro hbw hnew))
              clear hget hrow hbw hnew
              generalize hy : s.1.getD j 0 = y at HGet
              go_wp2_with fail
              refine HGet.out.mono ?_
              rintro e w' ⟨rfl, rfl⟩
              go_wp2_with (at_builtin; refine app_row rfl (.tmp 39) (.tmp 43) 36 36 rfl 30 i0 _ 8 Try.underlying36 hi hz0 hz1 hz2 rfl (.slice Aw j cw) (wordsV (s.1.take j)) rfl (HR.out.1.below (below_laid wr _)) _ 1 [.int .u64 y] rfl (Src.ofSlice _ Try.underlying36 ⟨wr.heap.size, 0, none⟩ 1 1 _ rfl (World.news_of_block (cs := #[.int .u64 y]) (t := 30) (fr := (0, 0)) (heap_alloc_new wr _)) (by simp [Value.oneCell'])) (by rw [HWL.out]; unfold maxLen; omega) (by rw [HWL.out]; omega) ?_)
              intro A4 c4 w4 hrow4 hgr4 hob4
              rw [HWL.out] at hrow4 hob4 ⊢
              have hb4 := grown_new (HR.out.2.1.trans ((below_laid wr (.cells #[.int .u64 y] 30)).mono HR.out.2.1.size)) hgr4 HR.out.2.2
              have hob4' : ∀ g, (Value.slice A4 (j + 1) c4).ownBlock = some g → wo.heap.size ≤ g := fun g hg => by
                rcases hob4 with h | h
                · exact HR.out.2.2 g (h ▸ hg)
                · rw [h] at hg; have := HR.out.2.1.size; simp at hg; omega
              have hrow4' : Row w4 30 (.slice A4 (j + 1) c4) (wordsV (s.1.take (j + 1))) := by
                have e1 : s.1.take (j + 1) = s.1.take j ++ [y] := by
                  rw [← hy, List.take_succ_eq_append_getElem hjl, List.getD_eq_getElem?_getD, List.getElem?_eq_getElem hjl]; rfl
                rw [e1]
                simpa only [wordsV, List.map_append, List.map_cons, List.map_nil] using hrow4
              have HR4 := hide (And.intro hb4 (And.intro hrow4' hob4'))
              clear hrow4 hgr4 hob4 hb4 hob4' hrow4'
              go_wp2_with fail
              exact ⟨⟨j + 1, by omega, rfl, HR4.out.1, HR4.out.2.1, HR4.out.2.2⟩, by simp [intOf]; omega⟩
            · obtain rfl : j = s.1.length := by omega
              rw [List.take_length] at hrow
              have HR := hide (And.intro hrow (And.intro hbw hnew))
              clear hrow hbw hnew
              go_wp2_with fail
              have hI2 := HII.out.step HR.out.2.1
              refine (mark_all hI2.cel).mono ?_
              rintro e w' ⟨rfl, rfl⟩
              have hbeh : Behind s s.2.length s.1 := ⟨Nat.le_refl _, Cl.at_len _ _⟩
              have hrg : RowG wr (Bad w.heap.size gw gu) u6 s.1 := ⟨HR.out.1, fun g hg hb => by have h1 := HR.out.2.2 g hg; have h2 := HII.out.cel.bad_lt g hb; omega⟩
              generalize hmk : s.2.length = mk at *
              generalize hws : s.1 = ws at hbeh hrg ⊢
              have hwl : ws.length ≤ 60 := by rw [← hws]; omega
              have HST := hide (And.intro hI2 (And.intro hbeh hrg))
              clear hI2 hbeh hrg HII HR
              go_wp2_with fail
              go_loopw [50] (fun i wr => ∃ (k : Nat) (gw gu : Option Nat) (s : Cl.S), k ≤ n2 ∧ i = .int .i64 k ∧ s.1.length ≤ 60 + k ∧ s.2.length ≤ 60 + k ∧ CInv w wr w.heap.size gw gu s ∧ Behind s mk ws ∧ RowG wr (Bad w.heap.size gw gu) u6 ws) (fun i _ => n2 - (intOf i).toNat)
              case atStart => exact ⟨0, gw, gu, s, Nat.zero_le _, rfl, by omega, by omega, HST.out.1, HST.out.2.1, HST.out.2.2⟩
              case round =>
                clear HST
                obtain ⟨k, gw, gu, s, hk, rfl, hs1, hs2, hI, hbh, hrg⟩ := hrel
                by_cases hlt : k < n2
                · obtain ⟨b, off, rfl, hbB, hcell⟩ := (HO2.out.below hI.below).2 (by omega)
                  obtain ⟨q, hq⟩ : ∃ q, os2[k]? = some q := ⟨os2[k]'(by rw [HO2.out.1]; exact hlt), List.getElem?_eq_getElem _⟩
                  obtain ⟨kd, m, x⟩ := q
                  obtain ⟨d0, d1, d2⟩ := hcell k kd m x hq
                  have hk0 : (k : Int) < n2 := by omega
                  have hk1 : (0 : Int) ≤ k := by omega
                  have HII := hide hI
                  have HBh := hide hbh
                  have hbl := below_laid wr (.cells #[.int .i64 kd, .int .i64 m, .int .u64 x] 32)
                  have hI1 := HII.out.step hbl
                  have hbx := heap_alloc_new wr (.cells #[.int .i64 kd, .int .i64 m, .int .u64 x] 32)
                  have H1 := hide (And.intro hI1 hbx)
                  have HV1 := hide (hrg.below hbl)
                  have hcc := op_cells hbx
                  obtain ⟨hcc0, hcc1, hcc2⟩ := hcc
                  clear hcell hq hI hbh hrg hbl hI1 hbx
                  by_cases h3 : kd = 3
                  · by_cases hmm : (mk : Int) ≤ m
                    · have hg1 : decide ((mk : Int) ≤ m) = true := by simpa using hmm
                      subst h3
                      go_wp2_with fail
                      generalize wr.alloc (.cells #[.int .i64 3, .int .i64 m, .int .u64 x] 32) = W at *
                      have hF0 := op_cells H1.out.2
                      refine wp_region_chain [0, 2] [(1, true), (3, false)] (fun w' => w'.cell? ⟨wr.heap.size, 0, none⟩ = some (.int .i64 3) ∧ w'.cell? ⟨wr.heap.size, 1, none⟩ = some (.int .i64 m) ∧ w'.cell? ⟨wr.heap.size, 2, none⟩ = some (.int .u64 x)) (by kernel_rfl) (by kernel_rfl) (fun _ _ _ _ _ h => h) hF0 ?_
                      intro hne
                      simp only [picks, picksW, List.filterMap_cons, List.filterMap_nil, List.getElem?_cons_zero, List.getElem?_cons_succ, Option.map_some]
                      have hu1 : ∀ u : HoldW (fun w' => w'.cell? ⟨wr.heap.size, 0, none⟩ = some (.int .i64 3) ∧ w'.cell? ⟨wr.heap.size, 1, none⟩ = some (.int .i64 m) ∧ w'.cell? ⟨wr.heap.size, 2, none⟩ = some (.int .u64 x)), u.w.cell? ⟨wr.heap.size, 0, none⟩ = some (.int .i64 3) := fun u => u.ok.1
                      have hu2 : ∀ u : HoldW (fun w' => w'.cell? ⟨wr.heap.size, 0, none⟩ = some (.int .i64 3) ∧ w'.cell? ⟨wr.heap.size, 1, none⟩ = some (.int .i64 m) ∧ w'.cell? ⟨wr.heap.size, 2, none⟩ = some (.int .u64 x)), u.w.cell? ⟨wr.heap.size, 1, none⟩ = some (.int .i64 m) := fun u => u.ok.2.1
                      have hu3 : ∀ u : HoldW (fun w' => w'.cell? ⟨wr.heap.size, 0, none⟩ = some (.int .i64 3) ∧ w'.cell? ⟨wr.heap.size, 1, none⟩ = some (.int .i64 m) ∧ w'.cell? ⟨wr.heap.size, 2, none⟩ = some (.int .u64 x)), u.w.cell? ⟨wr.heap.size, 2, none⟩ = some (.int .u64 x) := fun u => u.ok.2.2
                      repeat (refine wpHeld_step (fun K hK => ?_); go_simp; refine hK _ ?_; clear hK K)
                      refine wpHeld_nil ?_
                      clear hu1 hu2 hu3 hne hF0
                      refine wpChain_cons fun K hK => ?_
                      go_wp2_with fail
                      refine (rnew_any _).mono ?_
                      rintro e w3 ⟨v0, rfl, hb3, hr3, hn3⟩
                      obtain ⟨A0, c0, rfl, _, _⟩ := hr3.form
                      have hId := H1.out.1.step (below_drewN (Below.refl _ W) 1)
                      have hm3 := hId.mat hr3 hn3
                      have hI3 := hId.step hb3
                      have ha3 := op_cells ((hb3.block _ (blk_lt H1.out.2)).trans H1.out.2)
                      have HV3 := hide ((HV1.out.below (below_drewN (Below.refl _ W) 1)).below hb3)
                      have H3 := hide (And.intro hI3 hm3)
                      clear hb3 hr3 hn3 hId hm3 hI3
                      go_wp2_with fail
                      refine chainF (fun _ => ha3) (hK _ _ ?_)
                      clear hK K
                      refine wpChain_cons fun K hK => ?_
                      go_wp2_with fail
                      refine (do_all w.heap.size gw gu s _ [[]] 3 m x _ H3.out.1.cel H3.out.2 (by simp) (by omega) (by omega) (by simp) (by simp [lastL])).mono ?_
                      rintro e w4 ⟨v1, rfl, hout⟩
                      obtain ⟨gw', gu', hI4, hkeep⟩ := H3.out.1.next hout.toStep
                      obtain ⟨cl1, cl2⟩ := cdo_len s 3 m x
                      have H4 := hide (And.intro hI4 (And.intro cl1 cl2))
                      have HK := hide (hkeep _ _ (HV3.out.below (Below.refl _ _)))
                      clear hI4 hkeep cl1 cl2 hout
                      go_wp2_with fail
                      refine chainSkip (hK _ _ ?_)
                      clear hK K
                      refine wpChain_nil ?_
                      go_wp2_with fail
                      exact ⟨⟨k + 1, gw', gu', Cl.cdo s 3 m x, by omega, rfl, by have := H4.out.2.1; omega, by have := H4.out.2.2; omega, H4.out.1, behind_do HBh.out 3 m x (by omega), HK.out⟩, by simp [intOf]; omega⟩
                    · have hmm2 : m < mk := by omega
                      subst h3
                      go_wp2_with fail
                      exact ⟨⟨k + 1, gw, gu, s, by omega, rfl, by omega, by omega, H1.out.1, HBh.out, HV1.out⟩, by simp [intOf]; omega⟩
                  · go_wp2_with fail
                    generalize wr.alloc (.cells #[.int .i64 kd, .int .i64 m, .int .u64 x] 32) = W at *
                    have hF0 := op_cells H1.out.2
                    refine wp_region_chain [0, 2] [(1, true), (3, false)] (fun w' => w'.cell? ⟨wr.heap.size, 0, none⟩ = some (.int .i64 kd) ∧ w'.cell? ⟨wr.heap.size, 1, none⟩ = some (.int .i64 m) ∧ w'.cell? ⟨wr.heap.size, 2, none⟩ = some (.int .u64 x)) (by kernel_rfl) (by kernel_rfl) (fun _ _ _ _ _ h => h) hF0 ?_
                    intro hne
                    simp only [picks, picksW, List.filterMap_cons, List.filterMap_nil, List.getElem?_cons_zero, List.getElem?_cons_succ, Option.map_some]
                    have hu1 : ∀ u : HoldW (fun w' => w'.cell? ⟨wr.heap.size, 0, none⟩ = some (.int .i64 kd) ∧ w'.cell? ⟨wr.heap.size, 1, none⟩ = some (.int .i64 m) ∧ w'.cell? ⟨wr.heap.size, 2, none⟩ = some (.int .u64 x)), u.w.cell? ⟨wr.heap.size, 0, none⟩ = some (.int .i64 kd) := fun u => u.ok.1
                    have hu2 : ∀ u : HoldW (fun w' => w'.cell? ⟨wr.heap.size, 0, none⟩ = some (.int .i64 kd) ∧ w'.cell? ⟨wr.heap.size, 1, none⟩ = some (.int .i64 m) ∧ w'.cell? ⟨wr.heap.size, 2, none⟩ = some (.int .u64 x)), u.w.cell? ⟨wr.heap.size, 1, none⟩ = some (.int .i64 m) := fun u => u.ok.2.1
                    have hu3 : ∀ u : HoldW (fun w' => w'.cell? ⟨wr.heap.size, 0, none⟩ = some (.int .i64 kd) ∧ w'.cell? ⟨wr.heap.size, 1, none⟩ = some (.int .i64 m) ∧ w'.cell? ⟨wr.heap.size, 2, none⟩ = some (.int .u64 x)), u.w.cell? ⟨wr.heap.size, 2, none⟩ = some (.int .u64 x) := fun u => u.ok.2.2
                    repeat (refine wpHeld_step (fun K hK => ?_); go_simp; refine hK _ ?_; clear hK K)
                    refine wpHeld_nil ?_
                    clear hu1 hu2 hu3 hne hF0
                    refine wpChain_cons fun K hK => ?_
                    go_wp2_with fail
                    refine (rnew_any _).mono ?_
                    rintro e w3 ⟨v0, rfl, hb3, hr3, hn3⟩
                    obtain ⟨A0, c0, rfl, _, _⟩ := hr3.form
                    have hId := H1.out.1.step (below_drewN (Below.refl _ W) 1)
                    have hm3 := hId.mat hr3 hn3
                    have hI3 := hId.step hb3
                    have ha3 := op_cells ((hb3.block _ (blk_lt H1.out.2)).trans H1.out.2)
                    have HV3 := hide ((HV1.out.below (below_drewN (Below.refl _ W) 1)).below hb3)
                    have H3 := hide (And.intro hI3 hm3)
                    clear hb3 hr3 hn3 hId hm3 hI3
                    go_wp2_with fail
                    refine chainF (fun _ => ha3) (hK _ _ ?_)
                    clear hK K
                    refine wpChain_cons fun K hK => ?_
                    go_wp2_with fail
                    refine (do_all w.heap.size gw gu s _ [[]] kd m x _ H3.out.1.cel H3.out.2 (by simp) (by omega) (by omega) (by simp) (by simp [lastL])).mono ?_
                    rintro e w4 ⟨v1, rfl, hout⟩
                    obtain ⟨gw', gu', hI4, hkeep⟩ := H3.out.1.next hout.toStep
                    obtain ⟨cl1, cl2⟩ := cdo_len s kd m x
                    have H4 := hide (And.intro hI4 (And.intro cl1 cl2))
                    have HK := hide (hkeep _ _ (HV3.out.below (Below.refl _ _)))
                    clear hI4 hkeep cl1 cl2 hout
                    go_wp2_with fail
                    refine chainSkip (hK _ _ ?_)
                    clear hK K
                    refine wpChain_nil ?_
                    go_wp2_with fail
                    exact ⟨⟨k + 1, gw', gu', Cl.cdo s kd m x, by omega, rfl, by have := H4.out.2.1; omega, by have := H4.out.2.2; omega, H4.out.1, behind_do HBh.out kd m x (by omega), HK.out⟩, by simp [intOf]; omega⟩
                · obtain rfl : k = n2 := by omega
                  have HST := hide (And.intro hI (And.intro hbh hrg))
                  clear hI hbh hrg
                  go_wp2_with fail
                  have hge : (mk : Int) ≤ s.2.length := by have := HST.out.2.1.1; omega
                  refine (mark_all HST.out.1.cel).mono ?_
                  rintro e w' ⟨rfl, rfl⟩
                  go_wp2_with fail
                  refine (undo_all (s := s) mk HST.out.1.cel (by omega) (by omega)).mono ?_
                  rintro e w5 ⟨rfl, hst⟩
                  have hcu : Cl.cundo s mk = (ws, s.2.take mk) := by
                    have h1 := HST.out.2.1.2
                    unfold Cl.cundo
                    rw [if_pos hge, Int.toNat_natCast, h1]
                  rw [show decide ((mk : Int) ≤ s.2.length) = true from by simpa using hge]
                  rw [hcu] at hst
                  obtain ⟨gw', gu', hI5, hkeep⟩ := HST.out.1.next (s' := (ws, s.2.take mk)) hst
                  have hlk := like_any w.heap.size gw' gu' (ws, s.2.take mk) _ ws w5 hI5.cel (hkeep _ _ HST.out.2.2).1 (by omega)
                  rw [show decide (((ws, s.2.take mk) : Cl.S).1 = ws) = true from by simp] at hlk
                  have HLk := hide hlk
                  have HI5 := hide hI5
                  have hmkl : (s.2.take mk).length = mk := by simp; omega
                  have HMK := hide hmkl
                  clear hlk hI5 hkeep hst hcu hmkl
                  go_wp2_with fail
                  refine HLk.out.mono ?_
                  rintro e w6 ⟨rfl, hd6⟩
                  have HI6 := hide (HI5.out.step (hd6.below _))
                  clear hd6
                  go_wp2_with fail
                  refine (mark_all HI6.out.cel).mono ?_
                  rintro e w' ⟨rfl, rfl⟩
                  rw [HMK.out]
                  go_wp2_with fail
                  refine (alive_any _).mono ?_
                  rintro e w7 ⟨rfl, hb7⟩
                  have HB7 := hide (HI6.out.below.trans (hb7.mono HI6.out.below.size))
                  clear hb7
                  go_wp2_with fail
                  go_ret
                  exact ⟨rfl, HB7.out⟩
    · have hn1 : ¬ (60 : Int) < n := by omega
      have hn12 : (60 : Int) < n2 := by omega
      have hd1 : decide ((60 : Int) < n) = false := by simp; omega
      clear ho ho2
      go_enter Try.func4, Try.ntmps4
      go_wp2_with fail
      refine (alive_any _).mono ?_
      rintro e w7 ⟨rfl, hb7⟩
      have HB7 := hide hb7
      clear hb7
      go_wp2_with fail
      go_ret
      exact ⟨rfl, HB7.out⟩
  · have hn1 : (60 : Int) < n := by omega
    have hd1 : decide ((60 : Int) < n) = true := by simp; omega
    clear ho ho2
    go_enter Try.func4, Try.ntmps4
    go_wp2_with fail
    refine (alive_any _).mono ?_
    rintro e w7 ⟨rfl, hb7⟩
    have HB7 := hide hb7
    clear hb7
    go_wp2_with fail
    go_ret
    exact ⟨rfl, HB7.out⟩
end Go.Proofs.Ytkhhofokhjbnbaa
