/- The law KnotLeads, walked. -/
import Derived.Test.YtgmppddlgbkjmaaKnLaw
import Derived.Test.YtgmppddlgbkjmaaKnOrd2
namespace Go.Proofs.Ytgmppddlgbkjmaa
open Go.RowKit

theorem leads_val (n cg B i j : Nat) (Ag : Option Addr) (g : Kn.G) (w : World) (hG : HasG w B Ag n g) (hB : B ≤ w.heap.size) (hn : n ≤ 100000) (hA : ∀ i, (Kn.arcs g i).length ≤ 1000000) (hi : i < n) (hj : j < n) (b : Bool) (hb : b = true ↔ Kn.Reach g i j) :
    Calls Try.prog 14 #[.slice Ag n cg, .int .i64 (i : Nat), .int .i64 (j : Nat)] w fun e w' => e = .returned (.bool b) ∧ Below w.heap.size w w' :=
  (leads_any n cg B i j Ag g w hG hB hn hA hi hj).mono fun e w' ⟨⟨b', h1, h2⟩, h3⟩ => by
    have : b' = b := by
      rw [Bool.eq_iff_iff, h2, hb]
    exact ⟨by rw [h1, this], h3⟩
def Iff1 (b : Bool) (P : Prop) : Prop := b = true ↔ P
theorem inB_no {l : List Nat} {j : Int} {n : Nat} (h : ∀ x ∈ l, x < n) (hj : j < 0 ∨ (n : Int) ≤ j) : Kn.inB l j = false := by
  simp only [Kn.inB, List.any_eq_false, decide_eq_true_eq]
  intro x hx e
  have := h x hx
  omega
set_option maxRecDepth 100000 in
set_option maxHeartbeats 4000000 in
theorem lawLeads (A : Option Addr) (n c : Nat) (g : Kn.G) (i j : Int) (w : World) (hG : HasG w w.heap.size A n g) (hn : n ≤ maxLen) (hA : ∀ i, (Kn.arcs g i).length ≤ maxLen) (_ : (Lit.int .i64 i).wf = true) (_ : (Lit.int .i64 j).wf = true) :
    Calls Try.prog 6 #[.slice A n c, .int .i64 i, .int .i64 j] w fun e w' => AliveE w e w' := by
  have hgl := hG.1
  have HC := hide (big_any n c w.heap.size A g w hG hA hn)
  cases hb : Kn.bigB g with
  | true =>
    rw [hb] at HC
    clear hb hG hn hA hgl
    go_enter Try.func6, Try.ntmps6
    go_wp2_with (first | (go_at_call 7; refine (HC.out).mono ?_; rintro e w1 ⟨rfl, rfl⟩) | (go_at_call 8; refine (alive_any _).mono ?_; rintro e w2 ⟨rfl, hb2⟩; have H2 := hide hb2; clear hb2))
    go_ret
    exact ⟨rfl, H2.out⟩
  | false =>
    rw [hb] at HC
    obtain ⟨h1, h2⟩ := Kn.bigB_false hb
    have h3 : ∀ i, (Kn.arcs g i).length ≤ 1000000 := fun i => Nat.le_trans (h2 i) (by decide)
    have HG := hide (And.intro hG (And.intro h3 hgl))
    have hn8 : n ≤ 80 := by omega
    clear hb hG hn hA hgl h1 h2 h3
    by_cases hin : (0 ≤ i ∧ i < n) ∧ (0 ≤ j ∧ j < n)
    · obtain ⟨⟨i0, i1⟩, j0, j1⟩ := hin
      obtain ⟨a, rfl⟩ : ∃ a : Nat, i = a := ⟨i.toNat, by omega⟩
      obtain ⟨b, rfl⟩ : ∃ b : Nat, j = b := ⟨j.toNat, by omega⟩
      have han : a < n := by omega
      have hbn : b < n := by omega
      have d0 : decide ((a : Int) < 0) = false := by simp
      have d1 : decide ((n : Int) ≤ a) = false := by simp; omega
      have d2 : decide (n ≤ a) = false := by simp; omega
      have d3 : decide ((b : Int) < 0) = false := by simp
      have d4 : decide ((n : Int) ≤ b) = false := by simp; omega
      have d5 : decide (n ≤ b) = false := by simp; omega
      obtain ⟨b1, hb1⟩ : ∃ b1 : Bool, Iff1 b1 (Kn.Reach g a b) := by classical exact ⟨decide (Kn.Reach g a b), decide_eq_true_iff⟩
      obtain ⟨b2, hb2⟩ : ∃ b2 : Bool, Iff1 b2 (Kn.Reach g b a) := by classical exact ⟨decide (Kn.Reach g b a), decide_eq_true_iff⟩
      have HB := hide (And.intro hb1 hb2)
      clear hb1 hb2
      cases b1 <;> cases b2
      · go_enter Try.func6, Try.ntmps6
        go_upto_region 10 with (first | (go_at_call 7; refine (HC.out).mono ?_; rintro e w1 ⟨rfl, rfl⟩) | (go_at_call 14; refine (leads_val n c w.heap.size a b A g w HG.out.1 (Nat.le_refl _) (by omega) HG.out.2.1 han hbn _ HB.out.1).mono ?_; rintro e w1 ⟨rfl, hb1⟩; have H1 := hide hb1; clear hb1) | (go_at_call 16; refine (rreach_any n c w.heap.size a A g w1 (HG.out.1.below H1.out) H1.out.size (by omega) han HG.out.2.1).mono ?_; rintro e w2 ⟨⟨A2, m2, c2, l2, rfl, hI2, hm2, hl2⟩, hb2⟩; have H2 := hide (And.intro hI2 (And.intro hm2 (And.intro hl2 (H1.out.trans (hb2.mono H1.out.size))))); clear hI2 hm2 hl2 hb2) | (go_at_call 15; refine (in_any m2 c2 w2.heap.size A2 l2 (b : Nat) w2 H2.out.1.has (by have := H2.out.2.1; omega)).mono ?_; rintro e w3 ⟨rfl, rfl⟩; rw [Bool.eq_iff_iff.2 ((Kn.inB_iff l2 b).trans ((H2.out.2.2.1 b).trans HB.out.1.symm))]) | (go_at_call 10; refine (of_any n c w.heap.size A g w2 (HG.out.1.below H2.out.2.2.2) H2.out.2.2.2.size (by omega) HG.out.2.1).mono ?_; rintro e w4 ⟨⟨A4, c4, of4, rfl, hI4, ho4⟩, hb4⟩; have H4 := hide (And.intro hI4 (And.intro ho4 (H2.out.2.2.2.trans (hb4.mono H2.out.2.2.2.size)))); clear hI4 ho4 hb4))
        clear d0 d1 d2 d3 d4 d5
        obtain ⟨ma, hma, hma2⟩ : ∃ ma, of4[a]? = some ma ∧ of4.getD a 0 = ma := ⟨_, List.getElem?_eq_getElem (by have := H4.out.1.len; omega), by rw [List.getD_eq_getElem?_getD, List.getElem?_eq_getElem (by have := H4.out.1.len; omega)]; rfl⟩
        obtain ⟨mb, hmb, hmb2⟩ : ∃ mb, of4[b]? = some mb ∧ of4.getD b 0 = mb := ⟨_, List.getElem?_eq_getElem (by have := H4.out.1.len; omega), by rw [List.getD_eq_getElem?_getD, List.getElem?_eq_getElem (by have := H4.out.1.len; omega)]; rfl⟩
        obtain ⟨g4, rfl, _, hg4, hca⟩ := H4.out.1.cell hma
        obtain ⟨_, e, _, _, hcb⟩ := H4.out.1.cell hmb
        cases e
        have hle : (ma : Int) ≤ a := by have := H4.out.2.1.lt (i := a) (by have := HG.out.2.2; omega); omega
        have hsame := H4.out.2.1.same (i := a) (j := b) (by have := HG.out.2.2; omega) (by have := HG.out.2.2; omega)
        rw [hma2, hmb2] at hsame
        have hu0 : ∀ u : Calm w4.heap.size w4, u.w.cell? ⟨g4, a, none⟩ = some (.int .i64 (ma : Nat)) := fun u => (u.below.cell (p := ⟨g4, a, none⟩) hg4).trans hca
        have hu1 : ∀ u : Calm w4.heap.size w4, u.w.cell? ⟨g4, b, none⟩ = some (.int .i64 (mb : Nat)) := fun u => (u.below.cell (p := ⟨g4, b, none⟩) hg4).trans hcb
        have HLa := hide (fun u : Calm w4.heap.size w4 => leads_val n c w.heap.size a b A g u.w (HG.out.1.below (H4.out.2.2.trans (u.below.mono H4.out.2.2.size))) (Nat.le_trans H4.out.2.2.size u.below.size) (by omega) HG.out.2.1 han hbn _ HB.out.1)
        have HLb := hide (fun u : Calm w4.heap.size w4 => leads_val n c w.heap.size b a A g u.w (HG.out.1.below (H4.out.2.2.trans (u.below.mono H4.out.2.2.size))) (Nat.le_trans H4.out.2.2.size u.below.size) (by omega) HG.out.2.1 hbn han _ HB.out.2)
        have HAl := hide (fun u : Calm w4.heap.size w4 => (alive_any u.w).mono (fun e w' h => (⟨h.ret, h.below⟩ : e = .returned (.bool true) ∧ Below u.w.heap.size u.w w')))
        have hmm : (((ma : Nat) : Int) == (mb : Nat)) = false := by rw [beq_eq_false_iff_ne]; intro e; exact absurd (HB.out.1.2 (hsame.1 (by omega)).1) (by decide)
        clear hma hmb hma2 hmb2 hsame hca hcb hg4
        refine wp_region_calm w4.heap.size (by kernel_rfl) (by kernel_rfl) ?_
        repeat (go_big_quiet_step ((first | (go_at_call 14; (first | (with_reducible exact calm_call (Nat.le_refl _) (HLa.out _)) | (with_reducible exact calm_call (Nat.le_refl _) (HLb.out _)))) | (go_at_call 8; exact calm_call (Nat.le_refl _) (HAl.out _)))))
        refine wpQuiet_nil ?_
        rintro _ ⟨u, rfl⟩
        have HU := hide (H4.out.2.2.trans (u.below.mono H4.out.2.2.size))
        clear hu0 hu1
        generalize u.w = U at *
        go_wp2_with fail
        go_ret
        exact ⟨rfl, HU.out⟩
      · go_enter Try.func6, Try.ntmps6
        go_upto_region 10 with (first | (go_at_call 7; refine (HC.out).mono ?_; rintro e w1 ⟨rfl, rfl⟩) | (go_at_call 14; refine (leads_val n c w.heap.size a b A g w HG.out.1 (Nat.le_refl _) (by omega) HG.out.2.1 han hbn _ HB.out.1).mono ?_; rintro e w1 ⟨rfl, hb1⟩; have H1 := hide hb1; clear hb1) | (go_at_call 16; refine (rreach_any n c w.heap.size a A g w1 (HG.out.1.below H1.out) H1.out.size (by omega) han HG.out.2.1).mono ?_; rintro e w2 ⟨⟨A2, m2, c2, l2, rfl, hI2, hm2, hl2⟩, hb2⟩; have H2 := hide (And.intro hI2 (And.intro hm2 (And.intro hl2 (H1.out.trans (hb2.mono H1.out.size))))); clear hI2 hm2 hl2 hb2) | (go_at_call 15; refine (in_any m2 c2 w2.heap.size A2 l2 (b : Nat) w2 H2.out.1.has (by have := H2.out.2.1; omega)).mono ?_; rintro e w3 ⟨rfl, rfl⟩; rw [Bool.eq_iff_iff.2 ((Kn.inB_iff l2 b).trans ((H2.out.2.2.1 b).trans HB.out.1.symm))]) | (go_at_call 10; refine (of_any n c w.heap.size A g w2 (HG.out.1.below H2.out.2.2.2) H2.out.2.2.2.size (by omega) HG.out.2.1).mono ?_; rintro e w4 ⟨⟨A4, c4, of4, rfl, hI4, ho4⟩, hb4⟩; have H4 := hide (And.intro hI4 (And.intro ho4 (H2.out.2.2.2.trans (hb4.mono H2.out.2.2.2.size)))); clear hI4 ho4 hb4))
        clear d0 d1 d2 d3 d4 d5
        obtain ⟨ma, hma, hma2⟩ : ∃ ma, of4[a]? = some ma ∧ of4.getD a 0 = ma := ⟨_, List.getElem?_eq_getElem (by have := H4.out.1.len; omega), by rw [List.getD_eq_getElem?_getD, List.getElem?_eq_getElem (by have := H4.out.1.len; omega)]; rfl⟩
        obtain ⟨mb, hmb, hmb2⟩ : ∃ mb, of4[b]? = some mb ∧ of4.getD b 0 = mb := ⟨_, List.getElem?_eq_getElem (by have := H4.out.1.len; omega), by rw [List.getD_eq_getElem?_getD, List.getElem?_eq_getElem (by have := H4.out.1.len; omega)]; rfl⟩
        obtain ⟨g4, rfl, _, hg4, hca⟩ := H4.out.1.cell hma
        obtain ⟨_, e, _, _, hcb⟩ := H4.out.1.cell hmb
        cases e
        have hle : (ma : Int) ≤ a := by have := H4.out.2.1.lt (i := a) (by have := HG.out.2.2; omega); omega
        have hsame := H4.out.2.1.same (i := a) (j := b) (by have := HG.out.2.2; omega) (by have := HG.out.2.2; omega)
        rw [hma2, hmb2] at hsame
        have hu0 : ∀ u : Calm w4.heap.size w4, u.w.cell? ⟨g4, a, none⟩ = some (.int .i64 (ma : Nat)) := fun u => (u.below.cell (p := ⟨g4, a, none⟩) hg4).trans hca
        have hu1 : ∀ u : Calm w4.heap.size w4, u.w.cell? ⟨g4, b, none⟩ = some (.int .i64 (mb : Nat)) := fun u => (u.below.cell (p := ⟨g4, b, none⟩) hg4).trans hcb
        have HLa := hide (fun u : Calm w4.heap.size w4 => leads_val n c w.heap.size a b A g u.w (HG.out.1.below (H4.out.2.2.trans (u.below.mono H4.out.2.2.size))) (Nat.le_trans H4.out.2.2.size u.below.size) (by omega) HG.out.2.1 han hbn _ HB.out.1)
        have HLb := hide (fun u : Calm w4.heap.size w4 => leads_val n c w.heap.size b a A g u.w (HG.out.1.below (H4.out.2.2.trans (u.below.mono H4.out.2.2.size))) (Nat.le_trans H4.out.2.2.size u.below.size) (by omega) HG.out.2.1 hbn han _ HB.out.2)
        have HAl := hide (fun u : Calm w4.heap.size w4 => (alive_any u.w).mono (fun e w' h => (⟨h.ret, h.below⟩ : e = .returned (.bool true) ∧ Below u.w.heap.size u.w w')))
        have hmm : (((ma : Nat) : Int) == (mb : Nat)) = false := by rw [beq_eq_false_iff_ne]; intro e; exact absurd (HB.out.1.2 (hsame.1 (by omega)).1) (by decide)
        clear hma hmb hma2 hmb2 hsame hca hcb hg4
        refine wp_region_calm w4.heap.size (by kernel_rfl) (by kernel_rfl) ?_
        repeat (go_big_quiet_step ((first | (go_at_call 14; (first | (with_reducible exact calm_call (Nat.le_refl _) (HLa.out _)) | (with_reducible exact calm_call (Nat.le_refl _) (HLb.out _)))) | (go_at_call 8; exact calm_call (Nat.le_refl _) (HAl.out _)))))
        refine wpQuiet_nil ?_
        rintro _ ⟨u, rfl⟩
        have HU := hide (H4.out.2.2.trans (u.below.mono H4.out.2.2.size))
        clear hu0 hu1
        generalize u.w = U at *
        go_wp2_with fail
        go_ret
        exact ⟨rfl, HU.out⟩
      · go_enter Try.func6, Try.ntmps6
        go_upto_region 10 with (first | (go_at_call 7; refine (HC.out).mono ?_; rintro e w1 ⟨rfl, rfl⟩) | (go_at_call 14; refine (leads_val n c w.heap.size a b A g w HG.out.1 (Nat.le_refl _) (by omega) HG.out.2.1 han hbn _ HB.out.1).mono ?_; rintro e w1 ⟨rfl, hb1⟩; have H1 := hide hb1; clear hb1) | (go_at_call 16; refine (rreach_any n c w.heap.size a A g w1 (HG.out.1.below H1.out) H1.out.size (by omega) han HG.out.2.1).mono ?_; rintro e w2 ⟨⟨A2, m2, c2, l2, rfl, hI2, hm2, hl2⟩, hb2⟩; have H2 := hide (And.intro hI2 (And.intro hm2 (And.intro hl2 (H1.out.trans (hb2.mono H1.out.size))))); clear hI2 hm2 hl2 hb2) | (go_at_call 15; refine (in_any m2 c2 w2.heap.size A2 l2 (b : Nat) w2 H2.out.1.has (by have := H2.out.2.1; omega)).mono ?_; rintro e w3 ⟨rfl, rfl⟩; rw [Bool.eq_iff_iff.2 ((Kn.inB_iff l2 b).trans ((H2.out.2.2.1 b).trans HB.out.1.symm))]) | (go_at_call 10; refine (of_any n c w.heap.size A g w2 (HG.out.1.below H2.out.2.2.2) H2.out.2.2.2.size (by omega) HG.out.2.1).mono ?_; rintro e w4 ⟨⟨A4, c4, of4, rfl, hI4, ho4⟩, hb4⟩; have H4 := hide (And.intro hI4 (And.intro ho4 (H2.out.2.2.2.trans (hb4.mono H2.out.2.2.2.size)))); clear hI4 ho4 hb4))
        clear d0 d1 d2 d3 d4 d5
        obtain ⟨ma, hma, hma2⟩ : ∃ ma, of4[a]? = some ma ∧ of4.getD a 0 = ma := ⟨_, List.getElem?_eq_getElem (by have := H4.out.1.len; omega), by rw [List.getD_eq_getElem?_getD, List.getElem?_eq_getElem (by have := H4.out.1.len; omega)]; rfl⟩
        obtain ⟨mb, hmb, hmb2⟩ : ∃ mb, of4[b]? = some mb ∧ of4.getD b 0 = mb := ⟨_, List.getElem?_eq_getElem (by have := H4.out.1.len; omega), by rw [List.getD_eq_getElem?_getD, List.getElem?_eq_getElem (by have := H4.out.1.len; omega)]; rfl⟩
        obtain ⟨g4, rfl, _, hg4, hca⟩ := H4.out.1.cell hma
        obtain ⟨_, e, _, _, hcb⟩ := H4.out.1.cell hmb
        cases e
        have hle : (ma : Int) ≤ a := by have := H4.out.2.1.lt (i := a) (by have := HG.out.2.2; omega); omega
        have hsame := H4.out.2.1.same (i := a) (j := b) (by have := HG.out.2.2; omega) (by have := HG.out.2.2; omega)
        rw [hma2, hmb2] at hsame
        have hu0 : ∀ u : Calm w4.heap.size w4, u.w.cell? ⟨g4, a, none⟩ = some (.int .i64 (ma : Nat)) := fun u => (u.below.cell (p := ⟨g4, a, none⟩) hg4).trans hca
        have hu1 : ∀ u : Calm w4.heap.size w4, u.w.cell? ⟨g4, b, none⟩ = some (.int .i64 (mb : Nat)) := fun u => (u.below.cell (p := ⟨g4, b, none⟩) hg4).trans hcb
        have HLa := hide (fun u : Calm w4.heap.size w4 => leads_val n c w.heap.size a b A g u.w (HG.out.1.below (H4.out.2.2.trans (u.below.mono H4.out.2.2.size))) (Nat.le_trans H4.out.2.2.size u.below.size) (by omega) HG.out.2.1 han hbn _ HB.out.1)
        have HLb := hide (fun u : Calm w4.heap.size w4 => leads_val n c w.heap.size b a A g u.w (HG.out.1.below (H4.out.2.2.trans (u.below.mono H4.out.2.2.size))) (Nat.le_trans H4.out.2.2.size u.below.size) (by omega) HG.out.2.1 hbn han _ HB.out.2)
        have HAl := hide (fun u : Calm w4.heap.size w4 => (alive_any u.w).mono (fun e w' h => (⟨h.ret, h.below⟩ : e = .returned (.bool true) ∧ Below u.w.heap.size u.w w')))
        have hmm : (((ma : Nat) : Int) == (mb : Nat)) = false := by rw [beq_eq_false_iff_ne]; intro e; exact absurd (HB.out.2.2 (hsame.1 (by omega)).2) (by decide)
        clear hma hmb hma2 hmb2 hsame hca hcb hg4
        refine wp_region_calm w4.heap.size (by kernel_rfl) (by kernel_rfl) ?_
        repeat (go_big_quiet_step ((first | (go_at_call 14; (first | (with_reducible exact calm_call (Nat.le_refl _) (HLa.out _)) | (with_reducible exact calm_call (Nat.le_refl _) (HLb.out _)))) | (go_at_call 8; exact calm_call (Nat.le_refl _) (HAl.out _)))))
        refine wpQuiet_nil ?_
        rintro _ ⟨u, rfl⟩
        have HU := hide (H4.out.2.2.trans (u.below.mono H4.out.2.2.size))
        clear hu0 hu1
        generalize u.w = U at *
        go_wp2_with fail
        go_ret
        exact ⟨rfl, HU.out⟩
      · go_enter Try.func6, Try.ntmps6
        go_upto_region 10 with (first | (go_at_call 7; refine (HC.out).mono ?_; rintro e w1 ⟨rfl, rfl⟩) | (go_at_call 14; refine (leads_val n c w.heap.size a b A g w HG.out.1 (Nat.le_refl _) (by omega) HG.out.2.1 han hbn _ HB.out.1).mono ?_; rintro e w1 ⟨rfl, hb1⟩; have H1 := hide hb1; clear hb1) | (go_at_call 16; refine (rreach_any n c w.heap.size a A g w1 (HG.out.1.below H1.out) H1.out.size (by omega) han HG.out.2.1).mono ?_; rintro e w2 ⟨⟨A2, m2, c2, l2, rfl, hI2, hm2, hl2⟩, hb2⟩; have H2 := hide (And.intro hI2 (And.intro hm2 (And.intro hl2 (H1.out.trans (hb2.mono H1.out.size))))); clear hI2 hm2 hl2 hb2) | (go_at_call 15; refine (in_any m2 c2 w2.heap.size A2 l2 (b : Nat) w2 H2.out.1.has (by have := H2.out.2.1; omega)).mono ?_; rintro e w3 ⟨rfl, rfl⟩; rw [Bool.eq_iff_iff.2 ((Kn.inB_iff l2 b).trans ((H2.out.2.2.1 b).trans HB.out.1.symm))]) | (go_at_call 10; refine (of_any n c w.heap.size A g w2 (HG.out.1.below H2.out.2.2.2) H2.out.2.2.2.size (by omega) HG.out.2.1).mono ?_; rintro e w4 ⟨⟨A4, c4, of4, rfl, hI4, ho4⟩, hb4⟩; have H4 := hide (And.intro hI4 (And.intro ho4 (H2.out.2.2.2.trans (hb4.mono H2.out.2.2.2.size)))); clear hI4 ho4 hb4))
        clear d0 d1 d2 d3 d4 d5
        obtain ⟨ma, hma, hma2⟩ : ∃ ma, of4[a]? = some ma ∧ of4.getD a 0 = ma := ⟨_, List.getElem?_eq_getElem (by have := H4.out.1.len; omega), by rw [List.getD_eq_getElem?_getD, List.getElem?_eq_getElem (by have := H4.out.1.len; omega)]; rfl⟩
        obtain ⟨mb, hmb, hmb2⟩ : ∃ mb, of4[b]? = some mb ∧ of4.getD b 0 = mb := ⟨_, List.getElem?_eq_getElem (by have := H4.out.1.len; omega), by rw [List.getD_eq_getElem?_getD, List.getElem?_eq_getElem (by have := H4.out.1.len; omega)]; rfl⟩
        obtain ⟨g4, rfl, _, hg4, hca⟩ := H4.out.1.cell hma
        obtain ⟨_, e, _, _, hcb⟩ := H4.out.1.cell hmb
        cases e
        have hle : (ma : Int) ≤ a := by have := H4.out.2.1.lt (i := a) (by have := HG.out.2.2; omega); omega
        have hsame := H4.out.2.1.same (i := a) (j := b) (by have := HG.out.2.2; omega) (by have := HG.out.2.2; omega)
        rw [hma2, hmb2] at hsame
        have hu0 : ∀ u : Calm w4.heap.size w4, u.w.cell? ⟨g4, a, none⟩ = some (.int .i64 (ma : Nat)) := fun u => (u.below.cell (p := ⟨g4, a, none⟩) hg4).trans hca
        have hu1 : ∀ u : Calm w4.heap.size w4, u.w.cell? ⟨g4, b, none⟩ = some (.int .i64 (mb : Nat)) := fun u => (u.below.cell (p := ⟨g4, b, none⟩) hg4).trans hcb
        have HLa := hide (fun u : Calm w4.heap.size w4 => leads_val n c w.heap.size a b A g u.w (HG.out.1.below (H4.out.2.2.trans (u.below.mono H4.out.2.2.size))) (Nat.le_trans H4.out.2.2.size u.below.size) (by omega) HG.out.2.1 han hbn _ HB.out.1)
        have HLb := hide (fun u : Calm w4.heap.size w4 => leads_val n c w.heap.size b a A g u.w (HG.out.1.below (H4.out.2.2.trans (u.below.mono H4.out.2.2.size))) (Nat.le_trans H4.out.2.2.size u.below.size) (by omega) HG.out.2.1 hbn han _ HB.out.2)
        have HAl := hide (fun u : Calm w4.heap.size w4 => (alive_any u.w).mono (fun e w' h => (⟨h.ret, h.below⟩ : e = .returned (.bool true) ∧ Below u.w.heap.size u.w w')))
        have hmm : (((ma : Nat) : Int) == (mb : Nat)) = true := by have h9 := hsame.2 ⟨HB.out.1.1 rfl, HB.out.2.1 rfl⟩; rw [beq_iff_eq]; omega
        clear hma hmb hma2 hmb2 hsame hca hcb hg4
        refine wp_region_calm w4.heap.size (by kernel_rfl) (by kernel_rfl) ?_
        repeat (go_big_quiet_step ((first | (go_at_call 14; (first | (with_reducible exact calm_call (Nat.le_refl _) (HLa.out _)) | (with_reducible exact calm_call (Nat.le_refl _) (HLb.out _)))) | (go_at_call 8; exact calm_call (Nat.le_refl _) (HAl.out _)))))
        refine wpQuiet_nil ?_
        rintro _ ⟨u, rfl⟩
        have HU := hide (H4.out.2.2.trans (u.below.mono H4.out.2.2.size))
        clear hu0 hu1
        generalize u.w = U at *
        go_wp2_with fail
        go_ret
        exact ⟨rfl, HU.out⟩
    · have hL : Calls Try.prog 14 #[.slice A n c, .int .i64 i, .int .i64 j] w fun e w' => e = .returned (.bool false) ∧ w = w' := leads_out n c i j A w (by omega)
      have HL := hide hL
      clear hL
      by_cases hi : 0 ≤ i ∧ i < n
      · obtain ⟨i0, i1⟩ := hi
        obtain ⟨a, rfl⟩ : ∃ a : Nat, i = a := ⟨i.toNat, by omega⟩
        have hj : j < 0 ∨ (n : Int) ≤ j := by omega
        have han : a < n := by omega
        have hways : (j < 0) ∨ ((n : Int) ≤ j ∧ decide (j < 0) = false) := by
          by_cases h : j < 0
          · exact .inl h
          · exact .inr ⟨by omega, by simp; omega⟩
        have d0 : decide ((a : Int) < 0) = false := by simp
        have d1 : decide ((n : Int) ≤ a) = false := by simp; omega
        have d2 : decide (n ≤ a) = false := by simp; omega
        have HJ := hide hj
        clear hin hj
        rcases hways with hj | ⟨hj, hj2⟩
        all_goals
          go_enter Try.func6, Try.ntmps6
          go_wp2_with (first | (go_at_call 7; refine (HC.out).mono ?_; rintro e w1 ⟨rfl, rfl⟩) | (go_at_call 14; refine (HL.out).mono ?_; rintro e w1 ⟨rfl, rfl⟩) | (go_at_call 16; refine (rreach_any n c w.heap.size a A g w HG.out.1 (Nat.le_refl _) (by omega) han HG.out.2.1).mono ?_; rintro e w2 ⟨⟨A2, m2, c2, l2, rfl, hI2, hm2, hl2⟩, hb2⟩; have H2 := hide (And.intro hI2 (And.intro hm2 (And.intro hl2 hb2))); clear hI2 hm2 hl2 hb2) | (go_at_call 15; refine (in_any m2 c2 w2.heap.size A2 l2 j w2 H2.out.1.has (by have := H2.out.2.1; omega)).mono ?_; rintro e w3 ⟨rfl, rfl⟩; rw [inB_no (l := l2) (n := n) (fun x hx => by have h1 := ((H2.out.2.2.1 x).1 hx).lt (by have := HG.out.2.2; omega); have := HG.out.2.2; omega) HJ.out]) | (go_at_call 10; refine (of_any n c w.heap.size A g w2 (HG.out.1.below H2.out.2.2.2) H2.out.2.2.2.size (by omega) HG.out.2.1).mono ?_; rintro e w4 ⟨⟨A4, c4, of4, rfl, hI4, ho4⟩, hb4⟩; have H4 := hide (H2.out.2.2.2.trans (hb4.mono H2.out.2.2.2.size)); clear hI4 ho4 hb4) | (go_at_call 8; refine (alive_any _).mono ?_; rintro e w7 ⟨rfl, hb7⟩; have H7 := hide (H4.out.trans (hb7.mono H4.out.size)); clear hb7))
          go_ret
          exact ⟨rfl, H7.out⟩
      · have hi' : i < 0 ∨ (n : Int) ≤ i := by omega
        have hways : (i < 0) ∨ ((n : Int) ≤ i ∧ decide (i < 0) = false ∧ ((j < 0) ∨ decide (j < 0) = false)) := by
          by_cases h : i < 0
          · exact .inl h
          · refine .inr ⟨by omega, by simp; omega, ?_⟩
            by_cases h2 : j < 0
            · exact .inl h2
            · exact .inr (by simp; omega)
        have HI := hide hi'
        clear hin hi hi'
        rcases hways with hj | ⟨hj, hj2, hj3 | hj3⟩
        all_goals
          go_enter Try.func6, Try.ntmps6
          go_wp2_with (first | (go_at_call 7; refine (HC.out).mono ?_; rintro e w1 ⟨rfl, rfl⟩) | (go_at_call 14; refine (HL.out).mono ?_; rintro e w1 ⟨rfl, rfl⟩) | (go_at_call 16; refine (rreach_out n c i A w HI.out).mono ?_; rintro e w2 ⟨rfl, rfl⟩) | (go_at_call 15; refine (in_any 0 0 w.heap.size none [] j w Has.nil (by decide)).mono ?_; rintro e w3 ⟨rfl, rfl⟩; rw [show Kn.inB [] j = false from rfl]) | (go_at_call 10; refine (of_any n c w.heap.size A g w HG.out.1 (Nat.le_refl _) (by omega) HG.out.2.1).mono ?_; rintro e w4 ⟨⟨A4, c4, of4, rfl, hI4, ho4⟩, hb4⟩; have H4 := hide hb4; clear hI4 ho4 hb4) | (go_at_call 8; refine (alive_any _).mono ?_; rintro e w7 ⟨rfl, hb7⟩; have H7 := hide (H4.out.trans (hb7.mono H4.out.size)); clear hb7))
          go_ret
          exact ⟨rfl, H7.out⟩
end Go.Proofs.Ytgmppddlgbkjmaa
