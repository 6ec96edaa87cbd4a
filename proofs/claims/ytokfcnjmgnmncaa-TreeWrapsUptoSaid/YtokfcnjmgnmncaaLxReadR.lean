/- The walk of the document's Read. -/
import Derived.Test.YtokfcnjmgnmncaaLxRead
namespace Go.Proofs.Ytokfcnjmgnmncaa
open Go.RowKit

theorem Lx.end_goes {s : ByteArray} {i : Nat} (h : i < Lx.end_ s i) : Nm.goes (Nm.byte s i) = true := by
  cases hg : Nm.goes (Nm.byte s i)
  · have := Lx.end_stop (s := s) (i := i) (by rw [hg]; simp)
    omega
  · rfl
theorem Lx.goes_not {c : Nat} (h : Nm.goes c = true) : c ≠ 32 ∧ c ≠ 9 ∧ c ≠ 45 ∧ Lx.sg c = false := by
  have h' : (97 ≤ c ∧ c ≤ 122) ∨ (48 ≤ c ∧ c ≤ 57) ∨ c = 95 := by simpa [Nm.goes] using h
  refine ⟨by omega, by omega, by omega, ?_⟩
  cases hs : Lx.sg c
  · rfl
  · have : c = 35 ∨ c = 43 ∨ c = 38 ∨ c = 40 ∨ c = 41 ∨ c = 123 ∨ c = 125 ∨ c = 91 ∨ c = 93 ∨ c = 44 ∨ c = 58 ∨ c = 61 ∨ c = 124 ∨ c = 60 := by simpa [Lx.sg] using hs
    omega
theorem Lx.sg_not {c : Nat} (h : Lx.sg c = true) : c ≠ 32 ∧ c ≠ 9 ∧ c ≠ 45 := by
  have : c = 35 ∨ c = 43 ∨ c = 38 ∨ c = 40 ∨ c = 41 ∨ c = 123 ∨ c = 125 ∨ c = 91 ∨ c = 93 ∨ c = 44 ∨ c = 58 ∨ c = 61 ∨ c = 124 ∨ c = 60 := by simpa [Lx.sg] using h
  omega

set_option maxHeartbeats 3200000 in
set_option maxRecDepth 100000 in
theorem rread_any (s : ByteArray) (w : World) (hs : s.size ≤ 1000000) : Calls Try.prog 29 #[.string s] w fun e w' =>
    ∃ v, e = .returned (.tuple #[v, faultV (Lx.read s).2]) ∧ TokRow w' v (Lx.read s).1 ∧ (∀ g, v.ownBlock = some g → w.heap.size ≤ g) ∧ Below w.heap.size w w' := by
  obtain ⟨i0, hi, hz0, hz1, hz2⟩ := info_parts info_tok
  have HB := hide (And.intro (below_laid w (.cells #[.int .i64 0, .int .i64 0] 27)) (heap_alloc_new w (.cells #[.int .i64 0, .int .i64 0] 27)))
  go_enter Try.func29, Try.ntmps29
  go_wp2_with fail
  generalize w.alloc (.cells #[.int .i64 0, .int .i64 0] 27) = W0 at HB ⊢
  go_loopw [5, 4] (fun p v wr => ∃ (i : Nat) (out : List Lx.T), i ≤ s.size ∧ p = .int .i64 i ∧ out.length ≤ i ∧ Lx.Reach s i out ∧ TokRow wr v out ∧ (∀ g, v.ownBlock = some g → W0.heap.size ≤ g) ∧ Below W0.heap.size W0 wr) (fun p _ _ => s.size - (intOf p).toNat)
  case atStart => exact ⟨0, [], Nat.zero_le _, rfl, Nat.le_refl _, Lx.reach_start s, RowZ.nil, fun g h => (by cases h), Below.refl _ _⟩
  case round =>
    obtain ⟨i, out, hi1, rfl, hol, hre, hrow, hnew, hbw⟩ := hrel
    have hres := (hbw.block _ (blk_lt HB.out.2)).trans HB.out.2
    have hr0 : wr.cell? ⟨w.heap.size, 0, none⟩ = some (.int .i64 0) := by rw [cell_block hres]; rfl
    have hr1 : wr.cell? ⟨w.heap.size, 1, none⟩ = some (.int .i64 0) := by rw [cell_block hres]; rfl
    have hf0 : wr.frozen? ⟨w.heap.size, 0, none⟩ = false := frozen_of_row wr _ 0 _ _ hres
    have hf1 : wr.frozen? ⟨w.heap.size, 1, none⟩ = false := frozen_of_row wr _ 1 _ _ hres
    obtain ⟨Av, cv, rfl, _, _⟩ := RowZ.form hrow
    have HR := hide (And.intro hre (And.intro hrow (And.intro hnew (And.intro hbw hres))))
    clear hre hrow hnew hbw hres
    by_cases hlt : i < s.size
    · have hi2 : (0 : Int) ≤ i := by omega
      have hi3 : (i : Int) < s.size := by omega
      have HRun := hide (run_any s i wr hi1 hs)
      by_cases hco : Nm.byte s i = 45 ∧ i + 1 < s.size ∧ Nm.byte s (i + 1) = 45
      · have hlk : Lx.look s i = .stop := by unfold Lx.look; rw [if_neg (by omega), if_pos hco]
        have HRD := hide (Lx.reach_stop HR.out.1 hlt hlk)
        have h45 : ((s[i]'hlt).toNat : Int) = 45 := by have := hco.1; rw [Nm.byte_eq hlt] at this; omega
        have hnx : i + 1 < s.size := hco.2.1
        have hnx1 : (i : Int) + 1 < s.size := by omega
        have hnx2 : (0 : Int) ≤ (i : Int) + 1 := by omega
        have h45b : ((s[i + 1]'hnx).toNat : Int) = 45 := by have := hco.2.2; rw [Nm.byte_eq hnx] at this; omega
        clear hlk hco
        go_wp2_with fail
        refine HRun.out.mono ?_
        rintro e w' ⟨rfl, rfl⟩
        go_wp2_with fail
        have HF := hide (fault_put HR.out.2.2.2.2 (.int .i64 0) (.int .i64 0))
        obtain ⟨hq0, hq1⟩ := HF.out
        have hb0 := HB.out.1.trans (HR.out.2.2.2.1.mono HB.out.1.size)
        refine bodyPost_ret (v := .tuple #[.slice Av out.length cv, .agg #[.int .i64 0, .int .i64 0]]) (by simp [results, Try.results29, go_sem, hq0, hq1]) rfl ⟨_, by rw [HRD.out]; rfl, by rw [HRD.out]; exact fault_row HR.out.2.2.2.2 HR.out.2.1 _ _, fun g hg => by have := HR.out.2.2.1 g hg; have := HB.out.1.size; omega, fault_below hb0 (Nat.le_refl _) _ _⟩
      · by_cases h45n : (s[i]'hlt).toNat = 45
        · have hg45 : Nm.goes (Nm.byte s i) = false := by rw [Nm.byte_eq hlt, h45n]; rfl
          have hend0 : Lx.end_ s i = i := Lx.end_stop (by rw [hg45]; simp)
          have hend : Lx.end_ s i = i := by have := Lx.end_le s i; omega
          have hrun := HRun.out
          rw [hend, Nat.sub_self] at hrun
          have hrun : Calls Try.prog 34 #[.string s, .int .i64 i] wr fun e w' => e = .returned (.int .i64 0) ∧ wr = w' := hrun
          have hr0x : Nm.right (s.extract i (Lx.end_ s i)) = false := by rw [hend]; exact Nm.right_small (by simp)
          have HRun2 := hide hrun
          have HX0 := hide hr0x
          clear hrun hr0x
          have HSG := hide (show Lx.sg (s[i]'hlt).toNat = false by rw [h45n]; rfl)
          have h45 : ((s[i]'hlt).toNat : Int) = 45 := by omega
          have hlk : Lx.look s i = .bad := by
            unfold Lx.look
            rw [if_neg (by rw [Nm.byte_eq hlt]; omega), if_neg hco, Nm.byte_eq hlt, if_neg (by rw [HSG.out]; simp), if_neg (by rw [HX0.out]; simp)]
          have HRD := hide (Lx.reach_bad HR.out.1 hlt hlk)
          clear hlk
          clear hg45 hend0 hend
          by_cases hnx : i + 1 < s.size
          · have hnx1 : (i : Int) + 1 < s.size := by omega
            have hnx2 : (0 : Int) ≤ (i : Int) + 1 := by omega
            have h45b : ((s[i + 1]'hnx).toNat : Int) ≠ 45 := fun h => hco ⟨by rw [Nm.byte_eq hlt]; exact h45n, hnx, by rw [Nm.byte_eq hnx]; omega⟩
            have h45c : (((s[i + 1]'hnx).toNat : Int) == 45) = false := by simpa using h45b
            clear h45b
            go_wp2_with fail
            refine HRun2.out.mono ?_
            rintro e w' ⟨rfl, rfl⟩
            go_wp2_with fail
            refine (rsign_any 45 wr).mono ?_
            rintro e w1 ⟨rfl, hb1⟩
            rw [show Lx.sg 45 = false from rfl]
            have hres1 := (hb1.block _ (blk_lt HR.out.2.2.2.2)).trans HR.out.2.2.2.2
            have hbw1 := HR.out.2.2.2.1.trans (hb1.mono HR.out.2.2.2.1.size)
            have hrow1 := RowZ.below HR.out.2.1 hb1
            have g0 : w1.cell? ⟨w.heap.size, 0, none⟩ = some (.int .i64 0) := by rw [cell_block hres1]; rfl
            have g1 : w1.cell? ⟨w.heap.size, 1, none⟩ = some (.int .i64 0) := by rw [cell_block hres1]; rfl
            have gf0 : w1.frozen? ⟨w.heap.size, 0, none⟩ = false := frozen_of_row w1 _ 0 _ _ hres1
            have gf1 : w1.frozen? ⟨w.heap.size, 1, none⟩ = false := frozen_of_row w1 _ 1 _ _ hres1
            have H1 := hide (And.intro hres1 (And.intro hbw1 hrow1))
            clear hb1 hres1 hbw1 hrow1
            go_wp2_with fail
            have HF := hide (fault_put H1.out.1 (.int .i64 1) (.int .i64 i))
            obtain ⟨hq0, hq1⟩ := HF.out
            have hb0 := HB.out.1.trans (H1.out.2.1.mono HB.out.1.size)
            refine bodyPost_ret (v := .tuple #[.slice none 0 0, .agg #[.int .i64 1, .int .i64 i]]) (by simp [results, Try.results29, go_sem, hq0, hq1]) rfl ⟨_, by rw [HRD.out]; rfl, by rw [HRD.out]; exact RowZ.nil, fun g hg => (by cases hg), fault_below hb0 (Nat.le_refl _) _ _⟩
          · have hnx1 : ¬ (i : Int) + 1 < s.size := by omega
            go_wp2_with fail
            refine HRun2.out.mono ?_
            rintro e w' ⟨rfl, rfl⟩
            go_wp2_with fail
            refine (rsign_any 45 wr).mono ?_
            rintro e w1 ⟨rfl, hb1⟩
            rw [show Lx.sg 45 = false from rfl]
            have hres1 := (hb1.block _ (blk_lt HR.out.2.2.2.2)).trans HR.out.2.2.2.2
            have hbw1 := HR.out.2.2.2.1.trans (hb1.mono HR.out.2.2.2.1.size)
            have hrow1 := RowZ.below HR.out.2.1 hb1
            have g0 : w1.cell? ⟨w.heap.size, 0, none⟩ = some (.int .i64 0) := by rw [cell_block hres1]; rfl
            have g1 : w1.cell? ⟨w.heap.size, 1, none⟩ = some (.int .i64 0) := by rw [cell_block hres1]; rfl
            have gf0 : w1.frozen? ⟨w.heap.size, 0, none⟩ = false := frozen_of_row w1 _ 0 _ _ hres1
            have gf1 : w1.frozen? ⟨w.heap.size, 1, none⟩ = false := frozen_of_row w1 _ 1 _ _ hres1
            have H1 := hide (And.intro hres1 (And.intro hbw1 hrow1))
            clear hb1 hres1 hbw1 hrow1
            go_wp2_with fail
            have HF := hide (fault_put H1.out.1 (.int .i64 1) (.int .i64 i))
            obtain ⟨hq0, hq1⟩ := HF.out
            have hb0 := HB.out.1.trans (H1.out.2.1.mono HB.out.1.size)
            refine bodyPost_ret (v := .tuple #[.slice none 0 0, .agg #[.int .i64 1, .int .i64 i]]) (by simp [results, Try.results29, go_sem, hq0, hq1]) rfl ⟨_, by rw [HRD.out]; rfl, by rw [HRD.out]; exact RowZ.nil, fun g hg => (by cases hg), fault_below hb0 (Nat.le_refl _) _ _⟩
        · have h45 : ((s[i]'hlt).toNat : Int) ≠ 45 := by omega
          have h45b : (((s[i]'hlt).toNat : Int) == 45) = false := by simpa using h45
          by_cases hnn : i < Lx.end_ s i
          · have hn0 : i < Lx.end_ s i := hnn
            have hgo := Lx.goes_not (Lx.end_goes hn0)
            have hes := Lx.end_size hi1
            have he4 : (i : Int) + ((Lx.end_ s i - i : Nat) : Int) = (Lx.end_ s i : Int) := by omega
            have he5 : ((Lx.end_ s i : Int)).toNat = Lx.end_ s i := by omega
            have he6 : (i : Int) ≤ (Lx.end_ s i : Int) := by omega
            have he7 : (Lx.end_ s i : Int) ≤ s.size := by omega
            have he8 : (0 : Int) < ((Lx.end_ s i - i : Nat) : Int) := by omega
            have he9 : (0 : Int) ≤ (Lx.end_ s i : Int) := by omega
            have hrt := rightR_any (s.extract i (Lx.end_ s i)) wr (by simp; unfold maxLen; omega)
            cases hrb : Nm.right (s.extract i (Lx.end_ s i))
            · rw [hrb] at hrt
              have HRT := hide hrt
              have HX0 := hide hrb
              have HSG := hide (show Lx.sg (s[i]'hlt).toNat = false by have := hgo.2.2.2; rwa [Nm.byte_eq hlt] at this)
              have n32 : (s[i]'hlt).toNat ≠ 32 := by have := hgo.1; rwa [Nm.byte_eq hlt] at this
              have n9 : (s[i]'hlt).toNat ≠ 9 := by have := hgo.2.1; rwa [Nm.byte_eq hlt] at this
              have n32b : (((s[i]'hlt).toNat : Int) == 32) = false := by simp; omega
              have n9b : (((s[i]'hlt).toNat : Int) == 9) = false := by simp; omega
              have hlk : Lx.look s i = .bad := by
                unfold Lx.look
                rw [if_neg (by rw [Nm.byte_eq hlt]; omega), if_neg hco, Nm.byte_eq hlt, if_neg (by rw [HSG.out]; simp), if_neg (by rw [HX0.out]; simp)]
              have HRD := hide (Lx.reach_bad HR.out.1 hlt hlk)
              clear hlk
              clear hrt hrb hgo
              generalize Lx.end_ s i = m at *
              generalize hd : (m - i : Nat) = d at *
              go_wp2_with fail
              refine HRun.out.mono ?_
              rintro e w' ⟨rfl, rfl⟩
              go_wp2_with fail
              refine HRT.out.mono ?_
              rintro e w' ⟨rfl, rfl⟩
              go_wp2_with fail
              refine (rsign_any (s[i]'hlt).toNat wr).mono ?_
              rintro e w1 ⟨rfl, hb1⟩
              rw [HSG.out]
              have hres1 := (hb1.block _ (blk_lt HR.out.2.2.2.2)).trans HR.out.2.2.2.2
              have hbw1 := HR.out.2.2.2.1.trans (hb1.mono HR.out.2.2.2.1.size)
              have hrow1 := RowZ.below HR.out.2.1 hb1
              have g0 : w1.cell? ⟨w.heap.size, 0, none⟩ = some (.int .i64 0) := by rw [cell_block hres1]; rfl
              have g1 : w1.cell? ⟨w.heap.size, 1, none⟩ = some (.int .i64 0) := by rw [cell_block hres1]; rfl
              have gf0 : w1.frozen? ⟨w.heap.size, 0, none⟩ = false := frozen_of_row w1 _ 0 _ _ hres1
              have gf1 : w1.frozen? ⟨w.heap.size, 1, none⟩ = false := frozen_of_row w1 _ 1 _ _ hres1
              have H1 := hide (And.intro hres1 (And.intro hbw1 hrow1))
              clear hb1 hres1 hbw1 hrow1
              go_wp2_with fail
              have HF := hide (fault_put H1.out.1 (.int .i64 1) (.int .i64 i))
              obtain ⟨hq0, hq1⟩ := HF.out
              have hb0 := HB.out.1.trans (H1.out.2.1.mono HB.out.1.size)
              refine bodyPost_ret (v := .tuple #[.slice none 0 0, .agg #[.int .i64 1, .int .i64 i]]) (by simp [results, Try.results29, go_sem, hq0, hq1]) rfl ⟨_, by rw [HRD.out]; rfl, by rw [HRD.out]; exact RowZ.nil, fun g hg => (by cases hg), fault_below hb0 (Nat.le_refl _) _ _⟩
            · rw [hrb] at hrt
              have HRT := hide hrt
              have hlk : Lx.look s i = .tok ⟨97, s.extract i (Lx.end_ s i), i⟩ (Lx.end_ s i) := by
                unfold Lx.look
                rw [if_neg (by have := hgo.1; have := hgo.2.1; omega), if_neg hco, if_neg (by rw [hgo.2.2.2]; simp), if_pos hrb]
              have HN := hide (Lx.reach_tok HR.out.1 hlt hlk)
              clear hrt hrb hgo hlk
              generalize Lx.end_ s i = m at *
              generalize hd : (m - i : Nat) = d at *
              go_wp2_with fail
              refine HRun.out.mono ?_
              rintro e w' ⟨rfl, rfl⟩
              go_wp2_with fail
              refine HRT.out.mono ?_
              rintro e w' ⟨rfl, rfl⟩
              go_wp2_with (at_builtin; refine app_rowz rfl (.tmp 47) (.tmp 56) 22 22 rfl 35 i0 _ 3 32 Try.underlying22 hi hz0 hz1 hz2 rfl (.slice Av out.length cv) out.length (toksV out) rfl (RowZ.below HR.out.2.1 (below_laid wr _)) _ 1 (tokV ⟨97, s.extract i m, i⟩) rfl (tok_news (t := ⟨97, s.extract i m, i⟩) (heap_alloc_new wr _)) (by unfold maxLen; omega) (by omega) ?_)
              intro A4 c4 w4 hrow4 hgr4 hob4
              have hb4 : Below W0.heap.size W0 w4 := grown_new (HR.out.2.2.2.1.trans ((below_laid wr (.cells #[.int .u8 97, .string (s.extract i m), .int .i64 i] 35)).mono HR.out.2.2.2.1.size)) hgr4 HR.out.2.2.1
              have hob4' : ∀ g, (Value.slice A4 (out.length + 1) c4).ownBlock = some g → W0.heap.size ≤ g := fun g hg => by
                rcases hob4 with h | h
                · exact HR.out.2.2.1 g (h ▸ hg)
                · rw [h] at hg; have := HR.out.2.2.2.1.size; simp at hg; omega
              have hrow4' : TokRow w4 (.slice A4 (out.length + 1) c4) (out ++ [⟨97, s.extract i m, i⟩]) := by
                unfold TokRow
                rw [toksV_snoc, List.length_append, List.length_singleton]
                exact hrow4
              have HR4 := hide (And.intro hb4 (And.intro hrow4' hob4'))
              clear hrow4 hgr4 hob4 hb4 hob4' hrow4'
              go_wp2_with fail
              exact ⟨⟨m, out ++ [⟨97, s.extract i m, i⟩], by omega, by first | rfl | go_num, by simp; omega, HN.out, HR4.out.2.1, HR4.out.2.2, HR4.out.1⟩, by simp [intOf]; omega⟩
          · have hend : Lx.end_ s i = i := by have := Lx.end_le s i; omega
            have hrun := HRun.out
            rw [hend, Nat.sub_self] at hrun
            have hrun : Calls Try.prog 34 #[.string s, .int .i64 i] wr fun e w' => e = .returned (.int .i64 0) ∧ wr = w' := hrun
            have hr0x : Nm.right (s.extract i (Lx.end_ s i)) = false := by rw [hend]; exact Nm.right_small (by simp)
            have HRun2 := hide hrun
            have HX0 := hide hr0x
            clear hrun hr0x
            clear hend
            cases hsg : Lx.sg (s[i]'hlt).toNat
            · have HSG := hide hsg
              clear hsg
              by_cases hbl : (s[i]'hlt).toNat = 32 ∨ (s[i]'hlt).toNat = 9
              · have hlk : Lx.look s i = .skip (i + 1) := by unfold Lx.look; rw [Nm.byte_eq hlt, if_pos hbl]
                have HN := hide (Lx.reach_skip HR.out.1 hlt hlk)
                clear hlk
                rcases hbl with h32 | h32
                · have h32' : ((s[i]'hlt).toNat : Int) = 32 := by omega
                  go_wp2_with fail
                  refine HRun2.out.mono ?_
                  rintro e w' ⟨rfl, rfl⟩
                  go_wp2_with fail
                  refine (rsign_any 32 wr).mono ?_
                  rintro e w1 ⟨rfl, hb1⟩
                  rw [show Lx.sg 32 = false from rfl]
                  have hres1 := (hb1.block _ (blk_lt HR.out.2.2.2.2)).trans HR.out.2.2.2.2
                  have hbw1 := HR.out.2.2.2.1.trans (hb1.mono HR.out.2.2.2.1.size)
                  have hrow1 := RowZ.below HR.out.2.1 hb1
                  have g0 : w1.cell? ⟨w.heap.size, 0, none⟩ = some (.int .i64 0) := by rw [cell_block hres1]; rfl
                  have g1 : w1.cell? ⟨w.heap.size, 1, none⟩ = some (.int .i64 0) := by rw [cell_block hres1]; rfl
                  have gf0 : w1.frozen? ⟨w.heap.size, 0, none⟩ = false := frozen_of_row w1 _ 0 _ _ hres1
                  have gf1 : w1.frozen? ⟨w.heap.size, 1, none⟩ = false := frozen_of_row w1 _ 1 _ _ hres1
                  have H1 := hide (And.intro hres1 (And.intro hbw1 hrow1))
                  clear hb1 hres1 hbw1 hrow1
                  go_wp2_with fail
                  exact ⟨⟨i + 1, out, by omega, rfl, by omega, HN.out, H1.out.2.2, HR.out.2.2.1, H1.out.2.1⟩, by simp [intOf]; omega⟩
                · have h32' : ((s[i]'hlt).toNat : Int) = 9 := by omega
                  go_wp2_with fail
                  refine HRun2.out.mono ?_
                  rintro e w' ⟨rfl, rfl⟩
                  go_wp2_with fail
                  refine (rsign_any 9 wr).mono ?_
                  rintro e w1 ⟨rfl, hb1⟩
                  rw [show Lx.sg 9 = false from rfl]
                  have hres1 := (hb1.block _ (blk_lt HR.out.2.2.2.2)).trans HR.out.2.2.2.2
                  have hbw1 := HR.out.2.2.2.1.trans (hb1.mono HR.out.2.2.2.1.size)
                  have hrow1 := RowZ.below HR.out.2.1 hb1
                  have g0 : w1.cell? ⟨w.heap.size, 0, none⟩ = some (.int .i64 0) := by rw [cell_block hres1]; rfl
                  have g1 : w1.cell? ⟨w.heap.size, 1, none⟩ = some (.int .i64 0) := by rw [cell_block hres1]; rfl
                  have gf0 : w1.frozen? ⟨w.heap.size, 0, none⟩ = false := frozen_of_row w1 _ 0 _ _ hres1
                  have gf1 : w1.frozen? ⟨w.heap.size, 1, none⟩ = false := frozen_of_row w1 _ 1 _ _ hres1
                  have H1 := hide (And.intro hres1 (And.intro hbw1 hrow1))
                  clear hb1 hres1 hbw1 hrow1
                  go_wp2_with fail
                  exact ⟨⟨i + 1, out, by omega, rfl, by omega, HN.out, H1.out.2.2, HR.out.2.2.1, H1.out.2.1⟩, by simp [intOf]; omega⟩
              · have n32b : (((s[i]'hlt).toNat : Int) == 32) = false := by simp; omega
                have n9b : (((s[i]'hlt).toNat : Int) == 9) = false := by simp; omega
                have hlk : Lx.look s i = .bad := by
                  unfold Lx.look
                  rw [if_neg (by rw [Nm.byte_eq hlt]; omega), if_neg hco, Nm.byte_eq hlt, if_neg (by rw [HSG.out]; simp), if_neg (by rw [HX0.out]; simp)]
                have HRD := hide (Lx.reach_bad HR.out.1 hlt hlk)
                clear hlk
                go_wp2_with fail
                refine HRun2.out.mono ?_
                rintro e w' ⟨rfl, rfl⟩
                go_wp2_with fail
                refine (rsign_any (s[i]'hlt).toNat wr).mono ?_
                rintro e w1 ⟨rfl, hb1⟩
                rw [HSG.out]
                have hres1 := (hb1.block _ (blk_lt HR.out.2.2.2.2)).trans HR.out.2.2.2.2
                have hbw1 := HR.out.2.2.2.1.trans (hb1.mono HR.out.2.2.2.1.size)
                have hrow1 := RowZ.below HR.out.2.1 hb1
                have g0 : w1.cell? ⟨w.heap.size, 0, none⟩ = some (.int .i64 0) := by rw [cell_block hres1]; rfl
                have g1 : w1.cell? ⟨w.heap.size, 1, none⟩ = some (.int .i64 0) := by rw [cell_block hres1]; rfl
                have gf0 : w1.frozen? ⟨w.heap.size, 0, none⟩ = false := frozen_of_row w1 _ 0 _ _ hres1
                have gf1 : w1.frozen? ⟨w.heap.size, 1, none⟩ = false := frozen_of_row w1 _ 1 _ _ hres1
                have H1 := hide (And.intro hres1 (And.intro hbw1 hrow1))
                clear hb1 hres1 hbw1 hrow1
                go_wp2_with fail
                have HF := hide (fault_put H1.out.1 (.int .i64 1) (.int .i64 i))
                obtain ⟨hq0, hq1⟩ := HF.out
                have hb0 := HB.out.1.trans (H1.out.2.1.mono HB.out.1.size)
                refine bodyPost_ret (v := .tuple #[.slice none 0 0, .agg #[.int .i64 1, .int .i64 i]]) (by simp [results, Try.results29, go_sem, hq0, hq1]) rfl ⟨_, by rw [HRD.out]; rfl, by rw [HRD.out]; exact RowZ.nil, fun g hg => (by cases hg), fault_below hb0 (Nat.le_refl _) _ _⟩
            · have HSG := hide hsg
              have hns := Lx.sg_not hsg
              have hlk : Lx.look s i = .tok ⟨(s[i]'hlt).toNat, s.extract i (i + 1), i⟩ (i + 1) := by
                unfold Lx.look
                rw [if_neg (by rw [Nm.byte_eq hlt]; omega), if_neg hco, Nm.byte_eq hlt, if_pos hsg]
              have HN := hide (Lx.reach_tok HR.out.1 hlt hlk)
              clear hsg hns hlk
              go_wp2_with fail
              refine HRun2.out.mono ?_
              rintro e w' ⟨rfl, rfl⟩
              go_wp2_with fail
              refine (rsign_any (s[i]'hlt).toNat wr).mono ?_
              rintro e w1 ⟨rfl, hb1⟩
              rw [HSG.out]
              have hres1 := (hb1.block _ (blk_lt HR.out.2.2.2.2)).trans HR.out.2.2.2.2
              have hbw1 := HR.out.2.2.2.1.trans (hb1.mono HR.out.2.2.2.1.size)
              have hrow1 := RowZ.below HR.out.2.1 hb1
              have g0 : w1.cell? ⟨w.heap.size, 0, none⟩ = some (.int .i64 0) := by rw [cell_block hres1]; rfl
              have g1 : w1.cell? ⟨w.heap.size, 1, none⟩ = some (.int .i64 0) := by rw [cell_block hres1]; rfl
              have gf0 : w1.frozen? ⟨w.heap.size, 0, none⟩ = false := frozen_of_row w1 _ 0 _ _ hres1
              have gf1 : w1.frozen? ⟨w.heap.size, 1, none⟩ = false := frozen_of_row w1 _ 1 _ _ hres1
              have H1 := hide (And.intro hres1 (And.intro hbw1 hrow1))
              clear hb1 hres1 hbw1 hrow1
              go_wp2_with (at_builtin; refine app_rowz rfl (.tmp 63) (.tmp 72) 22 22 rfl 35 i0 _ 3 32 Try.underlying22 hi hz0 hz1 hz2 rfl (.slice Av out.length cv) out.length (toksV out) rfl (RowZ.below H1.out.2.2 (below_laid w1 _)) _ 1 (tokV ⟨(s[i]'hlt).toNat, s.extract i (i + 1), i⟩) rfl (tok_news (t := ⟨(s[i]'hlt).toNat, s.extract i (i + 1), i⟩) (heap_alloc_new w1 _)) (by unfold maxLen; omega) (by omega) ?_)
              intro A4 c4 w4 hrow4 hgr4 hob4
              have hb4 : Below W0.heap.size W0 w4 := grown_new (H1.out.2.1.trans ((below_laid w1 (.cells #[.int .u8 (s[i]'hlt).toNat, .string (s.extract i (i + 1)), .int .i64 i] 35)).mono H1.out.2.1.size)) hgr4 HR.out.2.2.1
              have hob4' : ∀ g, (Value.slice A4 (out.length + 1) c4).ownBlock = some g → W0.heap.size ≤ g := fun g hg => by
                rcases hob4 with h | h
                · exact HR.out.2.2.1 g (h ▸ hg)
                · rw [h] at hg; have := H1.out.2.1.size; simp at hg; omega
              have hrow4' : TokRow w4 (.slice A4 (out.length + 1) c4) (out ++ [⟨(s[i]'hlt).toNat, s.extract i (i + 1), i⟩]) := by
                unfold TokRow
                rw [toksV_snoc, List.length_append, List.length_singleton]
                exact hrow4
              have HR4 := hide (And.intro hb4 (And.intro hrow4' hob4'))
              clear hrow4 hgr4 hob4 hb4 hob4' hrow4'
              go_wp2_with fail
              exact ⟨⟨i + 1, out ++ [⟨(s[i]'hlt).toNat, s.extract i (i + 1), i⟩], by omega, by first | rfl | go_num, by simp; omega, HN.out, HR4.out.2.1, HR4.out.2.2, HR4.out.1⟩, by simp [intOf]; omega⟩
    · obtain rfl : i = s.size := by omega
      have HRD := hide (Lx.reach_end HR.out.1 hlt)
      go_wp2_with fail
      have HF := hide (fault_put HR.out.2.2.2.2 (.int .i64 0) (.int .i64 0))
      obtain ⟨hq0, hq1⟩ := HF.out
      have hb0 := HB.out.1.trans (HR.out.2.2.2.1.mono HB.out.1.size)
      refine bodyPost_ret (v := .tuple #[.slice Av out.length cv, .agg #[.int .i64 0, .int .i64 0]]) (by simp [results, Try.results29, go_sem, hq0, hq1]) rfl ⟨_, by rw [HRD.out]; rfl, by rw [HRD.out]; exact fault_row HR.out.2.2.2.2 HR.out.2.1 _ _, fun g hg => by have := HR.out.2.2.1 g hg; have := HB.out.1.size; omega, fault_below hb0 (Nat.le_refl _) _ _⟩
end Go.Proofs.Ytokfcnjmgnmncaa
