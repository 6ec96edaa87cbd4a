/- The walk of CellsPlays. -/
import Derived.Test.YtkhhofokhjbnbaaClOpen
import Derived.Test.YtkhhofokhjbnbaaClNob
namespace Go.Proofs.Ytkhhofokhjbnbaa
open Go.RowKit

theorem hist_last (us : List Cl.U) (ws : List Int) : lastL (Cl.hist us ws) = ws := by
  unfold lastL
  rw [Cl.hist_length, Nat.add_sub_cancel, List.getD_eq_getElem?_getD, Cl.hist_get (Nat.le_refl _), Cl.at_len]
  rfl
theorem hist_ne (us : List Cl.U) (ws : List Int) : Cl.hist us ws ≠ [] := fun h => by
  have := Cl.hist_length us ws
  rw [h] at this
  simp at this

/-- What the document says is what the cells do. -/
theorem play (s : Cl.S) (k n x : Int) : Cl.ans s (Cl.hist s.2 s.1) k n = true ∧ Cl.rdo (Cl.hist s.2 s.1) k n x = Cl.hist (Cl.cdo s k n x).2 (Cl.cdo s k n x).1 ∧
    (Cl.cdo s k n x).1.length ≤ s.1.length + 1 ∧ (Cl.cdo s k n x).2.length ≤ s.2.length + 1 := by
  have hlen : ((Cl.hist s.2 s.1).length : Int) - 1 = s.2.length := by rw [Cl.hist_length]; omega
  unfold Cl.ans Cl.rdo Cl.cdo
  by_cases h1 : k = 1
  · simp only [h1, if_true, hist_last, beq_self_eq_true, true_and]
    unfold Cl.rset Cl.cset
    rw [hist_last]
    cases hi : inR n s.1.length
    · simp
    · obtain ⟨i, rfl, hlt⟩ := inR_nat hi
      simp only [if_true, Int.toNat_natCast]
      by_cases hx : s.1.getD i 0 = x
      · simp only [hx, if_true]; exact ⟨trivial, by omega, by omega⟩
      · simp only [hx, if_false]
        exact ⟨(Cl.hist_snoc (Cl.app_set s.1 i x hlt)).symm, by simp, by simp⟩
  by_cases h2 : k = 2
  · simp [h2, hist_last]
  by_cases h3 : k = 3
  · simp only [h3, if_true, hlen, beq_self_eq_true]
    unfold Cl.runo Cl.cundo
    rw [hlen]
    have e1 : (3 : Int) ≠ 1 := by decide
    have e2 : (3 : Int) ≠ 2 := by decide
    simp only [e1, e2, if_false]
    by_cases hn : n ≤ s.2.length
    · simp only [hn, if_true]
      refine ⟨trivial, Cl.hist_take (by omega), ?_, ?_⟩
      · exact Nat.le_trans (Cl.at_le _ _ _) (by omega)
      · simp; omega
    · simp only [hn, if_false]; exact ⟨trivial, trivial, by omega, by omega⟩
  · simp only [h1, h2, h3, if_false, hist_last, beq_self_eq_true, true_and]
    unfold Cl.radd Cl.cadd
    rw [hist_last]
    exact ⟨(Cl.hist_snoc (Cl.app_add s.1 x)).symm, by simp, by simp⟩

structure PInv (w W : World) (P b4 : Nat) (gw gu : Option Nat) (s : Cl.S) (v : Value) (M : List (List Int)) : Prop where
  cel : CelP W P gw gu s.1 s.2
  mat : Mat W (Bad P gw gu) v M
  box : W.heap[b4]? = some (.cells #[v] 28 (0, 0))
  below : Below w.heap.size w W
  newW : ∀ g, gw = some g → w.heap.size ≤ g
  newU : ∀ g, gu = some g → w.heap.size ≤ g
  newP : w.heap.size ≤ P
  newB : w.heap.size ≤ b4

section
variable {w W W' : World} {P b4 : Nat} {gw gu : Option Nat} {s s' : Cl.S} {v v' v0 : Value} {M M' : List (List Int)}
/-- The box holds v0, the document's cells are in v. -/
structure PMid (w W : World) (P b4 : Nat) (gw gu : Option Nat) (s : Cl.S) (v0 v : Value) (M : List (List Int)) : Prop where
  cel : CelP W P gw gu s.1 s.2
  mat : Mat W (Bad P gw gu) v M
  box : W.heap[b4]? = some (.cells #[v0] 28 (0, 0))
  below : Below w.heap.size w W
  newW : ∀ g, gw = some g → w.heap.size ≤ g
  newU : ∀ g, gu = some g → w.heap.size ≤ g
  newP : w.heap.size ≤ P
  newB : w.heap.size ≤ b4
theorem PInv.step (h : PInv w W P b4 gw gu s v M) (hb : Below W.heap.size W W') : PInv w W' P b4 gw gu s v M :=
  ⟨h.cel.below hb, h.mat.below hb, (hb.block _ (blk_lt h.box)).trans h.box, h.below.trans (hb.mono h.below.size), h.newW, h.newU, h.newP, h.newB⟩
theorem PMid.step (h : PMid w W P b4 gw gu s v0 v M) (hb : Below W.heap.size W W') : PMid w W' P b4 gw gu s v0 v M :=
  ⟨h.cel.below hb, h.mat.below hb, (hb.block _ (blk_lt h.box)).trans h.box, h.below.trans (hb.mono h.below.size), h.newW, h.newU, h.newP, h.newB⟩
theorem PMid.put (h : PMid w W P b4 gw gu s v0 v M) : PInv w (W.setCell ⟨b4, 0, none⟩ v) P b4 gw gu s v M :=
  ⟨h.cel.far h.box v, h.mat.far h.box v, by rw [heap_setCell_same W b4 0 _ _ v h.box]; rfl, h.below.setCell h.newB v, h.newW, h.newU, h.newP, h.newB⟩
theorem NewOr.ge {a : World} {g g' : Option Nat} {B : Nat} (h : NewOr a g g') (hB : B ≤ a.heap.size) (hg : ∀ k, g = some k → B ≤ k) : ∀ k, g' = some k → B ≤ k := fun k hk => by
  rcases h with h | ⟨j, h, hj⟩
  · exact hg k (h ▸ hk)
  · rw [h] at hk; simp only [Option.some.injEq] at hk; omega
theorem box_ok (h : CelP W P gw gu s.1 s.2) (hb : W.heap[b4]? = some (.cells #[v] 28 (0, 0))) : ¬ Bad P gw gu b4 := by
  obtain ⟨vw, vu, fs, hC, rfl, rfl, _⟩ := h
  rintro (e | e | e)
  · have := hC.blk; rw [← e, hb] at this; simp only [Option.some.injEq, Obj.cells.injEq] at this; exact absurd this.2.1 (by decide)
  · exact hC.words.ne_type hb (by decide) e
  · exact hC.undo.ne_type hb (by decide) e
theorem PInv.next (h : PInv w W P b4 gw gu s v M) (ho : Out W W' P gw gu s' v' M') : ∃ gw' gu', PMid w W' P b4 gw' gu' s' v v' M' := by
  have hbk := ho.block (blk_lt h.box) (box_ok h.cel h.box)
  obtain ⟨gw', gu', hC, hF, h1, h2, hm⟩ := ho
  exact ⟨gw', gu', hC, hm, hbk.trans h.box, h.below.trans (hF.below h.newP h.newW h.newU h.below.size), h1.ge h.below.size h.newW, h2.ge h.below.size h.newU, h.newP, h.newB⟩
end

set_option maxHeartbeats 3200000 in
theorem plays_any (A : Option Addr) (n c : Nat) (os : List Op3) (w : World) (ho : HasOp w w.heap.size A n os) (hnc : n ≤ c) (_ : c ≤ maxLen) :
    Calls Try.prog 3 #[.slice A n c] w fun e w' => e = .returned (.bool true) ∧ Below w.heap.size w w' := by
  by_cases hn : n ≤ 120
  · have hn1 : ¬ (120 : Int) < n := by omega
    have HO := hide ho
    clear ho
    go_enter Try.func3, Try.ntmps3
    go_wp2_with fail
    refine (new_any _).mono ?_
    rintro e w1 ⟨rfl, hb1, hC1, hs1⟩
    have H1 := hide (And.intro hb1 hC1)
    clear hb1 hC1
    go_wp2_with fail
    refine (rnew_any _).mono ?_
    rintro e w2 ⟨v0, rfl, hb2, hr2, hn2⟩
    obtain ⟨A0, c0, rfl, _, _⟩ := hr2.form
    have hinv : PInv w (w2.alloc (.cells #[.slice A0 1 c0] 28)) w.heap.size w2.heap.size none none ([], []) (.slice A0 1 c0) (Cl.hist [] []) := by
      have hbl := below_laid w2 (.cells #[.slice A0 1 c0] 28)
      refine ⟨CelP.below (s := ([], [])) (CelP.below (s := ([], [])) H1.out.2 hb2) hbl, ?_, heap_alloc_new w2 _, (H1.out.1.trans (hb2.mono H1.out.1.size)).trans (hbl.mono (Nat.le_trans H1.out.1.size hb2.size)), fun g h => (by cases h), fun g h => (by cases h), Nat.le_refl _, Nat.le_trans H1.out.1.size hb2.size⟩
      rw [Cl.hist_nil]
      refine mat_new (hr2.below hbl) fun g hg hb => ?_
      have h1 := hn2 g hg
      have h2 := CelP.bad_lt (s := ([], [])) H1.out.2 g hb
      omega
    have HI := hide hinv
    clear hb2 hr2 hn2 hinv H1
    go_wp2_with fail
    generalize w2.alloc (.cells #[.slice A0 1 c0] 28) = W0 at HI ⊢
    generalize w2.heap.size = b4 at *
    go_loopw [17] (fun i wr => ∃ (k : Nat) (gw gu : Option Nat) (s : Cl.S) (v : Value), k ≤ n ∧ i = .int .i64 k ∧ s.1.length ≤ k ∧ s.2.length ≤ k ∧ PInv w wr w.heap.size b4 gw gu s v (Cl.hist s.2 s.1)) (fun i _ => n - (intOf i).toNat)
    case atStart => exact ⟨0, none, none, ([], []), .slice A0 1 c0, Nat.zero_le _, rfl, Nat.le_refl _, Nat.le_refl _, HI.out⟩
    case round =>
      obtain ⟨k, gw, gu, s, v, hk, rfl, hs1, hs2, hI⟩ := hrel
      by_cases hlt : k < n
      · obtain ⟨b, off, rfl, hbB, hcell⟩ := (HO.out.below hI.below).2 (by omega)
        obtain ⟨q, hq⟩ : ∃ q, os[k]? = some q := ⟨os[k]'(by rw [HO.out.1]; exact hlt), List.getElem?_eq_getElem _⟩
        obtain ⟨kd, m, x⟩ := q
        obtain ⟨d0, d1, d2⟩ := hcell k kd m x hq
        have hk0 : (k : Int) < n := by omega
        have hk1 : (0 : Int) ≤ k := by omega
        have HII := hide hI
        clear hcell hq hI
        obtain ⟨Av, nv, cv, rfl⟩ := HII.out.mat.form
        have hbl := below_laid wr (.cells #[.int .i64 kd, .int .i64 m, .int .u64 x] 32)
        have hI1 := HII.out.step hbl
        have hc4 : (wr.alloc (.cells #[.int .i64 kd, .int .i64 m, .int .u64 x] 32)).cell? ⟨b4, 0, none⟩ = some (.slice Av nv cv) := by rw [cell_block hI1.box]; rfl
        have hcr : wr.cell? ⟨b4, 0, none⟩ = some (.slice Av nv cv) := by rw [cell_block HII.out.box]; rfl
        have hlr : b4 < wr.heap.size := blk_lt HII.out.box
        have HI1 := hide hI1
        clear hbl hI1
        go_wp2_with fail
        have hMl := Cl.hist_length s.2 s.1
        have hll : (lastL (Cl.hist s.2 s.1)).length = s.1.length := by rw [hist_last]
        refine (do_all w.heap.size gw gu s _ _ kd m x _ HI1.out.cel HI1.out.mat (hist_ne _ _) (by omega) (by omega) (by omega) (by omega)).mono ?_
        rintro e w3 ⟨v1, rfl, hout⟩
        obtain ⟨A1, n1, c1, rfl⟩ : ∃ A n c, v1 = .slice A n c := by obtain ⟨_, _, _, _, _, _, hm⟩ := hout; exact hm.form
        obtain ⟨pl1, pl2, pl3, pl4⟩ := play s kd m x
        rw [pl1]
        rw [pl2] at hout
        obtain ⟨gw', gu', hI2⟩ := HI1.out.next hout
        have hbl2 := below_laid w3 (.cells #[.slice A1 n1 c1] 28)
        have hI3 := hI2.step hbl2
        have hc4' : (w3.alloc (.cells #[.slice A1 n1 c1] 28)).cell? ⟨b4, 0, none⟩ = some (.slice Av nv cv) := by rw [cell_block hI3.box]; rfl
        have hf4' : (w3.alloc (.cells #[.slice A1 n1 c1] 28)).frozen? ⟨b4, 0, none⟩ = false := frozen_of_row _ _ 0 _ _ hI3.box
        have hI4 := hI3.put
        have hc5 : ((w3.alloc (.cells #[.slice A1 n1 c1] 28)).setCell ⟨b4, 0, none⟩ (.slice A1 n1 c1)).cell? ⟨b4, 0, none⟩ = some (.slice A1 n1 c1) := by rw [cell_block hI4.box]; rfl
        have HI4 := hide hI4
        have HPL := hide (And.intro pl3 pl4)
        clear hbl2 hI2 hI3 hI4 hout pl1 pl2 pl3 pl4 hc4 HI1
        go_wp2_with fail
        generalize (w3.alloc (.cells #[.slice A1 n1 c1] 28)).setCell ⟨b4, 0, none⟩ (.slice A1 n1 c1) = W4 at *
        generalize Cl.cdo s kd m x = s' at *
        obtain ⟨r, rows, hrow, hrl, hpos, hlast, hrg⟩ := HI4.out.mat.last (hist_ne _ _)
        rw [hist_last] at hrg
        rw [Cl.hist_length] at hrl
        obtain ⟨Ar, cr, rfl, _, _⟩ := hrg.1.form
        have hpl := HPL.out
        have HW := hide (fun u : Calm W4.heap.size W4 => words_any _ _ rows u.w (hrow.below u.below) hpos (by omega) hlast)
        have hlk := fun u : Calm W4.heap.size W4 => like_any w.heap.size gw' gu' s' _ s'.1 u.w (HI4.out.cel.below u.below) (hrg.1.below u.below) (by omega)
        rw [show decide (s'.1 = s'.1) = true from by simp] at hlk
        have HLk := hide hlk
        have HMk := hide (fun u : Calm W4.heap.size W4 => mark_all (HI4.out.cel.below u.below))
        have hrm := fun u : Calm W4.heap.size W4 => rmark_any _ rows u.w (hrow.below u.below) (by omega)
        rw [show (rows.length : Int) - 1 = s'.2.length from by omega] at hrm
        have HRm := hide hrm
        have hu1 : ∀ u : Calm W4.heap.size W4, u.w.cell? ⟨b4, 0, none⟩ = some (.slice A1 n1 c1) := fun u => (u.below.cell (p := ⟨b4, 0, none⟩) (blk_lt HI4.out.box)).trans hc5
        clear hlk hrm hrow hrl hpos hlast hrg hpl
        refine wp_region_calm W4.heap.size (by kernel_rfl) (by kernel_rfl) ?_
        repeat (go_big_quiet_step ((first | (go_at_call 11; exact calm_call (Nat.le_refl _) (HW.out _)) | (go_at_call 10; exact calm_dr (HLk.out _)) | (go_at_call 12; exact calm_same (HMk.out _)) | (go_at_call 13; exact calm_call (Nat.le_refl _) (HRm.out _)))))
        refine wpQuiet_nil ?_
        rintro _ ⟨u, rfl⟩
        have HI5 := hide (HI4.out.step u.below)
        clear hu1 hc5
        go_wp2_with fail
        exact ⟨⟨k + 1, gw', gu', s', _, by omega, rfl, by have := HPL.out.1; omega, by have := HPL.out.2; omega, HI5.out⟩, by simp [intOf]; omega⟩
      · obtain rfl : k = n := by omega
        have HII := hide hI
        clear hI
        go_wp2_with fail
        refine (alive_any _).mono ?_
        rintro e w7 ⟨rfl, hb7⟩
        have HB7 := hide (HII.out.below.trans (hb7.mono HII.out.below.size))
        clear hb7
        go_wp2_with fail
        go_ret
        exact ⟨rfl, HB7.out⟩
  · have hn1 : (120 : Int) < n := by omega
    clear ho
    go_enter Try.func3, Try.ntmps3
    go_wp2_with fail
    refine (alive_any _).mono ?_
    rintro e w7 ⟨rfl, hb7⟩
    have HB7 := hide hb7
    clear hb7
    go_wp2_with fail
    go_ret
    exact ⟨rfl, HB7.out⟩
end Go.Proofs.Ytkhhofokhjbnbaa
