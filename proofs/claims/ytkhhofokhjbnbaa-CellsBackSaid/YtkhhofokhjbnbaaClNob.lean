/- The walk of CellsNobody. -/
import Derived.Test.YtkhhofokhjbnbaaClLike
namespace Go.Proofs.Ytkhhofokhjbnbaa
open Go.RowKit

/-- The document's cells answer as these do: for a new store. -/
theorem nob_plain (k n x : Int) : Cl.ans ([], []) [[]] k n = true ∧ (Cl.cdo ([], []) k n x).1 = lastL (Cl.rdo [[]] k n x) ∧ Cl.rdo [[]] k n x ≠ [] ∧ (Cl.rdo [[]] k n x).length ≤ 10 ∧ (lastL (Cl.rdo [[]] k n x)).length ≤ 10 := by
  have hin : inR n 0 = false := by simp [inR]
  unfold Cl.ans Cl.cdo Cl.rdo
  by_cases h1 : k = 1
  · simp [h1, Cl.cset, Cl.rset, lastL, hin]
  by_cases h2 : k = 2
  · simp [h2, lastL]
  by_cases h3 : k = 3
  · by_cases hn : n ≤ 0
    · simp [h3, Cl.cundo, Cl.runo, hn, lastL, Cl.at_]
    · simp [h3, Cl.cundo, Cl.runo, hn, lastL]
  · simp [h1, h2, h3, Cl.cadd, Cl.radd, lastL]

theorem plain_cells (w : World) : CelP (w.alloc (.cells #[.slice none 0 0, .slice none 0 0] 48)) w.heap.size none none [] [] :=
  ⟨.slice none 0 0, .slice none 0 0, [], ⟨heap_alloc_new w _, Row.nil, Row.nil, rfl, fun k f u h => by simp at h⟩, rfl, rfl, Cl.ok_nil _⟩
theorem mat_new {w : World} {bad : Nat → Prop} {v : Value} (h : Row w 36 v [.slice none 0 0]) (hg : ∀ g, v.ownBlock = some g → ¬ bad g) : Mat w bad v [[]] := by
  refine ⟨⟨_, h, rfl, fun k r l h1 h2 => ?_⟩, hg⟩
  match k with
  | 0 => simp at h1 h2; subst h1; subst h2; exact ⟨Row.nil, fun g h => by cases h⟩
  | k + 1 => simp at h1

/-- What stands behind the call. -/
def Fin (w W : World) (P b : Nat) (v : Value) (s : Cl.S) (M : List (List Int)) : Prop :=
  ∃ gw gu, CelP W P gw gu s.1 s.2 ∧ Mat W (Bad P gw gu) v M ∧ Below w.heap.size w W ∧ W.cell? ⟨b, 0, none⟩ = some v

/-- The argument's box. -/
def Arg (w W : World) (k n x : Int) : Prop := W.heap[w.heap.size]? = some (.cells #[.int .i64 k, .int .i64 n, .int .u64 x] 32 (0, 0))
theorem Arg.f {w W : World} {k n x : Int} (h : Arg w W k n x) : W.cell? ⟨w.heap.size, 0, none⟩ = some (.int .i64 k) ∧ W.cell? ⟨w.heap.size, 1, none⟩ = some (.int .i64 n) ∧ W.cell? ⟨w.heap.size, 2, none⟩ = some (.int .u64 x) := by
  unfold Arg at h
  refine ⟨?_, ?_, ?_⟩ <;> rw [cell_block h] <;> rfl

/-- The store that the call of New and of do walk in. -/
structure Pre (w W : World) (P : Nat) (k n x : Int) : Prop where
  cel : CelP W P none none [] []
  below : Below w.heap.size w W
  arg : Arg w W k n x
  old : w.heap.size < P
theorem Pre.step {w W W' : World} {P : Nat} {k n x : Int} (h : Pre w W P k n x) (hb : Below W.heap.size W W') : Pre w W' P k n x :=
  ⟨CelP.below (s := ([], [])) h.cel hb, h.below.trans (hb.mono h.below.size), (hb.block _ (blk_lt h.arg)).trans h.arg, h.old⟩
theorem Pre.mat {w W W' : World} {P : Nat} {k n x : Int} {v : Value} (h : Pre w W P k n x) (hr : Row W' 36 v [.slice none 0 0]) (hn : ∀ g, v.ownBlock = some g → W.heap.size ≤ g) : Mat W' (Bad P none none) v [[]] := by
  refine mat_new hr fun g hg hb => ?_
  have := hn g hg
  have h2 := CelP.bad_lt (s := ([], [])) h.cel g hb
  omega
theorem Pre.out {w W W' : World} {P : Nat} {k n x : Int} {v : Value} {s : Cl.S} {M : List (List Int)} (h : Pre w W P k n x) (ho : Out W W' P none none s v M) : Below w.heap.size w W' ∧ Arg w W' k n x ∧ ∀ b, b < W.heap.size → b ≠ P → W'.heap[b]? = W.heap[b]? := by
  obtain ⟨gw, gu, hC, hF, h1, h2, hm⟩ := ho
  have hk : ∀ b, b < W.heap.size → b ≠ P → W'.heap[b]? = W.heap[b]? := fun b hb hne => hF.block b hb hne (by simp) (by simp)
  have hlt := h.old
  refine ⟨h.below.trans (hF.below (Nat.le_of_lt hlt) (fun g e => by cases e) (fun g e => by cases e) h.below.size), (hk _ (blk_lt h.arg) (by omega)).trans h.arg, hk⟩

set_option maxHeartbeats 1600000 in
theorem nobody_any (k n x : Int) (w : World) :
    Calls Try.prog 5 #[.agg #[.int .i64 k, .int .i64 n, .int .u64 x]] w fun e w' => e = .returned (.bool true) ∧ Below w.heap.size w w' := by
  have hb0 := below_laid w (.cells #[.int .i64 k, .int .i64 n, .int .u64 x] 32)
  have hn0 := heap_alloc_new w (.cells #[.int .i64 k, .int .i64 n, .int .u64 x] 32)
  have H0 := hide (And.intro hb0 hn0)
  clear hb0 hn0
  go_enter Try.func5, Try.ntmps5
  go_wp2_with fail
  refine (len_nil _).mono ?_
  rintro e w1 ⟨rfl, rfl⟩
  go_wp2_with fail
  refine (add_nil _ _).mono ?_
  rintro e w1 ⟨rfl, hb1⟩
  have hq1 : w1.heap[w.heap.size]? = some (.cells #[.int .i64 k, .int .i64 n, .int .u64 x] 32 (0, 0)) := (hb1.block _ (by simp)).trans H0.out.2
  have c1 : w1.cell? ⟨w.heap.size, 1, none⟩ = some (.int .i64 n) := by rw [cell_block hq1]; rfl
  have c2 : w1.cell? ⟨w.heap.size, 2, none⟩ = some (.int .u64 x) := by rw [cell_block hq1]; rfl
  have hB1 := H0.out.1.trans (hb1.mono H0.out.1.size)
  have hs1 : w.heap.size < w1.heap.size := blk_lt hq1
  have H1 := hide (And.intro hB1 hq1)
  clear hB1 hq1 hb1
  go_wp2_with fail
  refine (get_nil _ _).mono ?_
  rintro e w2 ⟨rfl, rfl⟩
  go_wp2_with fail
  refine (set_nil _ _ _).mono ?_
  rintro e w2 ⟨rfl, hb2⟩
  have hq2 := (hb2.block _ hs1).trans H1.out.2
  have e1 : w2.cell? ⟨w.heap.size, 1, none⟩ = some (.int .i64 n) := by rw [cell_block hq2]; rfl
  have e0 : w2.cell? ⟨w.heap.size, 0, none⟩ = some (.int .i64 k) := by rw [cell_block hq2]; rfl
  have e2 : w2.cell? ⟨w.heap.size, 2, none⟩ = some (.int .u64 x) := by rw [cell_block hq2]; rfl
  have hB2 := H1.out.1.trans (hb2.mono (Nat.le_of_lt hs1))
  have hs2 : w.heap.size < w2.heap.size := blk_lt hq2
  have H2 := hide (And.intro hB2 hq2)
  clear hB2 hq2 hb2 c1 c2
  go_wp2_with fail
  refine (mark_nil _).mono ?_
  rintro e w3 ⟨rfl, rfl⟩
  go_wp2_with fail
  refine (undo_nil _ _).mono ?_
  rintro e w3 ⟨rfl, rfl⟩
  go_wp2_with fail
  refine (len_nil _).mono ?_
  rintro e w3 ⟨rfl, rfl⟩
  go_wp2_with fail
  have hbP := below_laid w2 (.cells #[.slice none 0 0, .slice none 0 0] 48)
  have hpre : Pre w (w2.alloc (.cells #[.slice none 0 0, .slice none 0 0] 48)) w2.heap.size k n x :=
    ⟨plain_cells w2, H2.out.1.trans (hbP.mono (Nat.le_of_lt hs2)), (hbP.block _ hs2).trans H2.out.2, hs2⟩
  generalize w2.alloc (.cells #[.slice none 0 0, .slice none 0 0] 48) = W at hpre ⊢
  have hF0 := hpre.arg.f
  have HPre := hide (hpre.step (below_drewN (Below.refl _ _) 1))
  have HNP := hide (nob_plain k n x)
  clear hbP hpre e0 e1 e2 H2
  generalize w2.heap.size = P at *
  refine wp_region_tree [1] (.step 0 true (.step 2 true (.take 3 (.take 4 (.take 5 (.step 6 true (.step 7 true (.step 8 false .done .done) .done) .done)))) (.step 6 true (.step 2 true (.take 3 (.take 4 (.take 5 (.step 7 true (.step 8 false .done .done) .done)))) .done) .done))
    (.step 6 true (.step 0 true (.step 2 true (.take 3 (.take 4 (.take 5 (.step 7 true (.step 8 false .done .done) .done)))) .done) .done) .done)) (fun w' => w'.cell? ⟨w.heap.size, 0, none⟩ = some (.int .i64 k) ∧ w'.cell? ⟨w.heap.size, 1, none⟩ = some (.int .i64 n) ∧ w'.cell? ⟨w.heap.size, 2, none⟩ = some (.int .u64 x)) (by kernel_rfl) (by kernel_rfl) (fun _ _ _ _ _ h => h) hF0 ?_
  intro hne
  simp only [picks, List.filterMap_cons, List.filterMap_nil, List.getElem?_cons_zero, List.getElem?_cons_succ]
  have hu1 : ∀ u : HoldW (fun w' => w'.cell? ⟨w.heap.size, 0, none⟩ = some (.int .i64 k) ∧ w'.cell? ⟨w.heap.size, 1, none⟩ = some (.int .i64 n) ∧ w'.cell? ⟨w.heap.size, 2, none⟩ = some (.int .u64 x)), u.w.cell? ⟨w.heap.size, 0, none⟩ = some (.int .i64 k) := fun u => u.ok.1
  have hu2 : ∀ u : HoldW (fun w' => w'.cell? ⟨w.heap.size, 0, none⟩ = some (.int .i64 k) ∧ w'.cell? ⟨w.heap.size, 1, none⟩ = some (.int .i64 n) ∧ w'.cell? ⟨w.heap.size, 2, none⟩ = some (.int .u64 x)), u.w.cell? ⟨w.heap.size, 1, none⟩ = some (.int .i64 n) := fun u => u.ok.2.1
  have hu3 : ∀ u : HoldW (fun w' => w'.cell? ⟨w.heap.size, 0, none⟩ = some (.int .i64 k) ∧ w'.cell? ⟨w.heap.size, 1, none⟩ = some (.int .i64 n) ∧ w'.cell? ⟨w.heap.size, 2, none⟩ = some (.int .u64 x)), u.w.cell? ⟨w.heap.size, 2, none⟩ = some (.int .u64 x) := fun u => u.ok.2.2
  repeat (refine wpHeld_step (fun K hK => ?_); go_simp; refine hK _ ?_; clear hK K)
  refine wpHeld_nil ?_
  clear hu1 hu2 hu3
  refine wpTree_both rfl (fun K hK => ?_) (wpTree_step rfl fun K hK => ?_)
  · go_wp2_with fail
    refine (rnew_any _).mono ?_
    rintro e w3 ⟨v0, rfl, hb3, hr3, hn3⟩
    obtain ⟨A0, c0, rfl, _, _⟩ := hr3.form
    have hp3 := HPre.out.step hb3
    have ha3 := hp3.arg.f
    have hP3 : P < w3.heap.size := CelP.bad_lt (s := ([], [])) hp3.cel P (.inl rfl)
    have HP3 := hide (And.intro hp3 (HPre.out.mat hr3 hn3))
    clear hb3 hr3 hn3 hp3
    go_wp2_with fail
    refine chainF (fun _ => ha3) (hK _ _ ?_)
    clear hK K
    refine wpTree_both rfl (fun K hK => ?_) (wpTree_step rfl fun K hK => ?_)
    · go_wp2_with fail
      refine (do_all P none none ([], []) _ [[]] k n x _ HP3.out.1.cel HP3.out.2 (by simp) (by simp) (by simp) (by simp) (by simp [lastL])).mono ?_
      rintro e w4 ⟨v1, rfl, ho⟩
      obtain ⟨A1, n1, c1, rfl⟩ : ∃ A n c, v1 = .slice A n c := by obtain ⟨_, _, _, _, _, _, hm⟩ := ho; exact hm.form
      rw [HNP.out.1]
      obtain ⟨hb4, ha4, hk4⟩ := HP3.out.1.out ho
      have hf4 := ha4.f
      obtain ⟨gw, gu, hC4, _, _, _, hm4⟩ := ho
      have H4 := hide (And.intro hC4 (And.intro hm4 (And.intro hb4 ha4)))
      clear hC4 hm4 hb4 ha4 hk4
      go_wp2_with fail
      refine chainF (fun _ => hf4) (hK _ _ ?_)
      clear hK K
      refine wpTree_take rfl fun K hK => ?_
      go_simp
      refine hK _ ?_
      clear hK K
      refine wpTree_take rfl fun K hK => ?_
      go_simp
      refine hK _ ?_
      clear hK K
      refine wpTree_take rfl fun K hK => ?_
      go_simp
      refine hK _ ?_
      clear hK K
      refine wpTree_step rfl fun K hK => ?_
      go_wp2_with fail
      have ha5 : Arg w (w4.alloc (.cells #[.slice none 0 0] 28)) k n x := ((below_laid w4 _).block _ (blk_lt H4.out.2.2.2)).trans H4.out.2.2.2
      refine chainF (fun _ => ha5.f) (hK _ _ ?_)
      clear hK K
      refine wpTree_step rfl fun K hK => ?_
      go_wp2_with fail
      have ha6 : Arg w (w4.alloc (.cells #[.slice A1 n1 c1] 28)) k n x := ((below_laid w4 _).block _ (blk_lt H4.out.2.2.2)).trans H4.out.2.2.2
      refine chainF (fun _ => ha6.f) (hK _ _ ?_)
      clear hK K
      refine wpTree_step rfl fun K hK => ?_
      go_wp2_with fail
      refine chainSkip (hK _ _ ?_)
      clear hK K
      refine wpTree_end ?_
      have hfin : Fin w (w4.alloc (.cells #[.slice A1 n1 c1] 28)) P w4.heap.size (.slice A1 n1 c1) (Cl.cdo ([], []) k n x) (Cl.rdo [[]] k n x) := by
        have hbl := below_laid w4 (.cells #[.slice A1 n1 c1] 28)
        refine ⟨gw, gu, H4.out.1.below hbl, H4.out.2.1.below hbl, H4.out.2.2.1.trans (hbl.mono H4.out.2.2.1.size), ?_⟩
        rw [cell_block (heap_alloc_new w4 _)]; rfl
      clear hf4 ha5 ha6 H4
      obtain ⟨gwf, guf, hCf, hMf, hBf, hcf⟩ := hfin
      have HFin := hide (And.intro hCf (And.intro hMf hBf))
      clear hCf hMf hBf
      go_wp2_with fail
      refine (mwords_any _ _ _ _ HFin.out.2.1 HNP.out.2.2.1 (by have := HNP.out.2.2.2.1; omega)).mono ?_
      rintro e w5 ⟨r, rfl, hrg, hb5⟩
      have HC5 := hide (HFin.out.1.below hb5)
      have HR5 := hide (hrg.below hb5).1
      have HB5 := hide (HFin.out.2.2.trans (hb5.mono HFin.out.2.2.size))
      clear hrg hb5
      go_wp2_with fail
      refine (like_any P gwf guf (Cl.cdo ([], []) k n x) r _ w5 HC5.out HR5.out (by have := HNP.out.2.2.2.2; omega)).mono ?_
      rintro e w6 ⟨rfl, hd6⟩
      have hdec : decide ((Cl.cdo ([], []) k n x).1 = lastL (Cl.rdo [[]] k n x)) = true := by simp [HNP.out.2.1]
      rw [hdec]
      have HB6 := hide (HB5.out.trans (hd6.below _))
      clear hd6 hdec
      go_wp2_with fail
      refine (alive_any _).mono ?_
      rintro e w7 ⟨rfl, hb7⟩
      have HB7 := hide (HB6.out.trans (hb7.mono HB6.out.size))
      clear hb7
      go_wp2_with fail
      go_ret
      exact ⟨rfl, HB7.out⟩
    · go_wp2_with fail
      have hbl5 := below_laid w3 (.cells #[.slice none 0 0] 28)
      have hp5 := HP3.out.1.step hbl5
      have ha5 := hp5.arg.f
      have HP5 := hide (And.intro hp5 (HP3.out.2.below hbl5))
      have HBK := hide (heap_alloc_new w3 (.cells #[.slice none 0 0] 28))
      clear hbl5 hp5
      refine chainF (fun _ => ha5) (hK _ _ ?_)
      clear hK K
      refine wpTree_step rfl fun K hK => ?_
      go_wp2_with fail
      refine (do_all P none none ([], []) _ [[]] k n x _ HP5.out.1.cel HP5.out.2 (by simp) (by simp) (by simp) (by simp) (by simp [lastL])).mono ?_
      rintro e w4 ⟨v1, rfl, ho⟩
      obtain ⟨A1, n1, c1, rfl⟩ : ∃ A n c, v1 = .slice A n c := by obtain ⟨_, _, _, _, _, _, hm⟩ := ho; exact hm.form
      rw [HNP.out.1]
      obtain ⟨hb4, ha4, hk4⟩ := HP5.out.1.out ho
      have hf4 := ha4.f
      obtain ⟨gw, gu, hC4, _, _, _, hm4⟩ := ho
      have hbk4 := (hk4 w3.heap.size (by simp) (by omega)).trans HBK.out
      have hcb4 : w4.cell? ⟨w3.heap.size, 0, none⟩ = some (.slice none 0 0) := by rw [cell_block hbk4]; rfl
      have hfb4 : w4.frozen? ⟨w3.heap.size, 0, none⟩ = false := frozen_of_row w4 _ 0 _ _ hbk4
      have H4 := hide (And.intro hC4 (And.intro hm4 (And.intro hb4 (And.intro ha4 hbk4))))
      clear hC4 hm4 hb4 ha4 hk4 hbk4
      go_wp2_with fail
      refine chainF (fun _ => hf4) (hK _ _ ?_)
      clear hK K
      refine wpTree_take rfl fun K hK => ?_
      go_simp
      refine hK _ ?_
      clear hK K
      refine wpTree_take rfl fun K hK => ?_
      go_simp
      refine hK _ ?_
      clear hK K
      refine wpTree_take rfl fun K hK => ?_
      go_simp
      refine hK _ ?_
      clear hK K
      refine wpTree_step rfl fun K hK => ?_
      go_wp2_with fail
      have ha6 : Arg w (w4.setCell ⟨w3.heap.size, 0, none⟩ (.slice A1 n1 c1)) k n x := (Below.heap_setCell _ _ _ _ (show w.heap.size ≠ w3.heap.size by have := HPre.out.old; omega)).trans H4.out.2.2.2.1
      refine chainF (fun _ => ha6.f) (hK _ _ ?_)
      clear hK K
      refine wpTree_step rfl fun K hK => ?_
      go_wp2_with fail
      refine chainSkip (hK _ _ ?_)
      clear hK K
      refine wpTree_end ?_
      have hfin : Fin w (w4.setCell ⟨w3.heap.size, 0, none⟩ (.slice A1 n1 c1)) P w3.heap.size (.slice A1 n1 c1) (Cl.cdo ([], []) k n x) (Cl.rdo [[]] k n x) := by
        refine ⟨gw, gu, H4.out.1.far H4.out.2.2.2.2 _, H4.out.2.1.far H4.out.2.2.2.2 _, H4.out.2.2.1.setCell (by show w.heap.size ≤ w3.heap.size; have := HPre.out.old; omega) _, ?_⟩
        rw [cell_block (heap_setCell_same w4 _ 0 _ _ _ H4.out.2.2.2.2)]; rfl
      clear hf4 ha6 H4 hcb4 hfb4
      obtain ⟨gwf, guf, hCf, hMf, hBf, hcf⟩ := hfin
      have HFin := hide (And.intro hCf (And.intro hMf hBf))
      clear hCf hMf hBf
      go_wp2_with fail
      refine (mwords_any _ _ _ _ HFin.out.2.1 HNP.out.2.2.1 (by have := HNP.out.2.2.2.1; omega)).mono ?_
      rintro e w5 ⟨r, rfl, hrg, hb5⟩
      have HC5 := hide (HFin.out.1.below hb5)
      have HR5 := hide (hrg.below hb5).1
      have HB5 := hide (HFin.out.2.2.trans (hb5.mono HFin.out.2.2.size))
      clear hrg hb5
      go_wp2_with fail
      refine (like_any P gwf guf (Cl.cdo ([], []) k n x) r _ w5 HC5.out HR5.out (by have := HNP.out.2.2.2.2; omega)).mono ?_
      rintro e w6 ⟨rfl, hd6⟩
      have hdec : decide ((Cl.cdo ([], []) k n x).1 = lastL (Cl.rdo [[]] k n x)) = true := by simp [HNP.out.2.1]
      rw [hdec]
      have HB6 := hide (HB5.out.trans (hd6.below _))
      clear hd6 hdec
      go_wp2_with fail
      refine (alive_any _).mono ?_
      rintro e w7 ⟨rfl, hb7⟩
      have HB7 := hide (HB6.out.trans (hb7.mono HB6.out.size))
      clear hb7
      go_wp2_with fail
      go_ret
      exact ⟨rfl, HB7.out⟩
  · go_wp2_with fail
    have hbl1 := below_laid W.drew (.cells #[.slice none 0 0] 28)
    have hPW : P < W.heap.size := CelP.bad_lt (s := ([], [])) HPre.out.cel P (.inl rfl)
    have hp1 := HPre.out.step hbl1
    have ha1 := hp1.arg.f
    have HP1 := hide hp1
    have HBK0 := hide (heap_alloc_new W.drew (.cells #[.slice none 0 0] 28))
    clear hbl1 hp1
    refine chainF (fun _ => ha1) (hK _ _ ?_)
    clear hK K
    refine wpTree_step rfl fun K hK => ?_
    go_wp2_with fail
    refine (rnew_any _).mono ?_
    rintro e w3 ⟨v0, rfl, hb3, hr3, hn3⟩
    obtain ⟨A0, c0, rfl, _, _⟩ := hr3.form
    have hp3 := HP1.out.step hb3
    have ha3 := hp3.arg.f
    have hP3 : P < w3.heap.size := CelP.bad_lt (s := ([], [])) hp3.cel P (.inl rfl)
    have HP3 := hide (And.intro hp3 (HP1.out.mat hr3 hn3))
    have HBK := hide ((hb3.block _ (by simp)).trans HBK0.out)
    have hW3 : W.heap.size < w3.heap.size := blk_lt HBK.out
    clear hb3 hr3 hn3 hp3
    go_wp2_with fail
    refine chainF (fun _ => ha3) (hK _ _ ?_)
    clear hK K
    refine wpTree_step rfl fun K hK => ?_
    go_wp2_with fail
    refine (do_all P none none ([], []) _ [[]] k n x _ HP3.out.1.cel HP3.out.2 (by simp) (by simp) (by simp) (by simp) (by simp [lastL])).mono ?_
    rintro e w4 ⟨v1, rfl, ho⟩
    obtain ⟨A1, n1, c1, rfl⟩ : ∃ A n c, v1 = .slice A n c := by obtain ⟨_, _, _, _, _, _, hm⟩ := ho; exact hm.form
    rw [HNP.out.1]
    obtain ⟨hb4, ha4, hk4⟩ := HP3.out.1.out ho
    have hf4 := ha4.f
    obtain ⟨gw, gu, hC4, _, _, _, hm4⟩ := ho
    have hbk4 := (hk4 W.heap.size hW3 (by omega)).trans HBK.out
    have hcb4 : w4.cell? ⟨W.heap.size, 0, none⟩ = some (.slice none 0 0) := by rw [cell_block hbk4]; rfl
    have hfb4 : w4.frozen? ⟨W.heap.size, 0, none⟩ = false := frozen_of_row w4 _ 0 _ _ hbk4
    have H4 := hide (And.intro hC4 (And.intro hm4 (And.intro hb4 (And.intro ha4 hbk4))))
    clear hC4 hm4 hb4 ha4 hk4 hbk4
    go_wp2_with fail
    refine chainF (fun _ => hf4) (hK _ _ ?_)
    clear hK K
    refine wpTree_take rfl fun K hK => ?_
    go_simp
    refine hK _ ?_
    clear hK K
    refine wpTree_take rfl fun K hK => ?_
    go_simp
    refine hK _ ?_
    clear hK K
    refine wpTree_take rfl fun K hK => ?_
    go_simp
    refine hK _ ?_
    clear hK K
    refine wpTree_step rfl fun K hK => ?_
    go_wp2_with fail
    have ha6 : Arg w (w4.setCell ⟨W.heap.size, 0, none⟩ (.slice A1 n1 c1)) k n x := (Below.heap_setCell _ _ _ _ (show w.heap.size ≠ W.heap.size by have := HPre.out.old; omega)).trans H4.out.2.2.2.1
    refine chainF (fun _ => ha6.f) (hK _ _ ?_)
    clear hK K
    refine wpTree_step rfl fun K hK => ?_
    go_wp2_with fail
    refine chainSkip (hK _ _ ?_)
    clear hK K
    refine wpTree_end ?_
    have hfin : Fin w (w4.setCell ⟨W.heap.size, 0, none⟩ (.slice A1 n1 c1)) P W.heap.size (.slice A1 n1 c1) (Cl.cdo ([], []) k n x) (Cl.rdo [[]] k n x) := by
      refine ⟨gw, gu, H4.out.1.far H4.out.2.2.2.2 _, H4.out.2.1.far H4.out.2.2.2.2 _, H4.out.2.2.1.setCell (by show w.heap.size ≤ W.heap.size; have := HPre.out.old; omega) _, ?_⟩
      rw [cell_block (heap_setCell_same w4 _ 0 _ _ _ H4.out.2.2.2.2)]; rfl
    clear hf4 ha6 H4 hcb4 hfb4
    obtain ⟨gwf, guf, hCf, hMf, hBf, hcf⟩ := hfin
    have HFin := hide (And.intro hCf (And.intro hMf hBf))
    clear hCf hMf hBf
    go_wp2_with fail
    refine (mwords_any _ _ _ _ HFin.out.2.1 HNP.out.2.2.1 (by have := HNP.out.2.2.2.1; omega)).mono ?_
    rintro e w5 ⟨r, rfl, hrg, hb5⟩
    have HC5 := hide (HFin.out.1.below hb5)
    have HR5 := hide (hrg.below hb5).1
    have HB5 := hide (HFin.out.2.2.trans (hb5.mono HFin.out.2.2.size))
    clear hrg hb5
    go_wp2_with fail
    refine (like_any P gwf guf (Cl.cdo ([], []) k n x) r _ w5 HC5.out HR5.out (by have := HNP.out.2.2.2.2; omega)).mono ?_
    rintro e w6 ⟨rfl, hd6⟩
    have hdec : decide ((Cl.cdo ([], []) k n x).1 = lastL (Cl.rdo [[]] k n x)) = true := by simp [HNP.out.2.1]
    rw [hdec]
    have HB6 := hide (HB5.out.trans (hd6.below _))
    clear hd6 hdec
    go_wp2_with fail
    refine (alive_any _).mono ?_
    rintro e w7 ⟨rfl, hb7⟩
    have HB7 := hide (HB6.out.trans (hb7.mono HB6.out.size))
    clear hb7
    go_wp2_with fail
    go_ret
    exact ⟨rfl, HB7.out⟩
end Go.Proofs.Ytkhhofokhjbnbaa
