/- The walk of LexPlaces. -/
import Derived.Test.YtncaifdcmiblgaaLxLaw
import Derived.Test.YtncaifdcmiblgaaLxReads
namespace Go.Proofs.Ytncaifdcmiblgaa
open Go.RowKit

set_option maxHeartbeats 4000000 in
theorem lexPlaces_bad (s : ByteArray) (i : Nat) (w : World) (hs : s.size ≤ 3000) (hi : i < s.size) (hr : Lx.read s = ([], some i)) (hr2 : (Lx.read (s.extract 0 i)).2 = none) : Calls Try.prog 4 #[.string s] w fun e w' => e = .returned (.bool true) ∧ Below w.heap.size w w' := by
  have hs1 : ¬ (3000 : Int) < s.size := by omega
  have h1 : Calls Try.prog 8 #[.string s] w fun e w' => ∃ A c, e = .returned (.tuple #[.slice A 0 c, .agg #[.int .i64 1, .int .i64 i]]) ∧ Below w.heap.size w w' := (lread_any s w (by omega)).mono fun e w' ⟨v, he, hrow, _, hb⟩ => by
    rw [hr] at he hrow
    obtain ⟨A, c, rfl, _, _⟩ := RowZ.form hrow
    exact ⟨A, c, he, hb⟩
  have h2 : ∀ W, Calls Try.prog 8 #[.string (s.extract 0 i)] W fun e w' => ∃ v, e = .returned (.tuple #[v, .agg #[.int .i64 0, .int .i64 0]]) ∧ Below W.heap.size W w' := fun W =>
    (lread_any (s.extract 0 i) W (by rw [Lx.size_extract (by omega)]; omega)).mono fun e w' ⟨v, he, hrow, _, hb⟩ => by
      rw [hr2] at he
      exact ⟨v, he, hb⟩
  have H1 := hide h1
  have H2 := hide h2
  have hi0 : (0 : Int) ≤ i := by omega
  have hi1 : (i : Int) < s.size := by omega
  have hi2 : ¬ (s.size : Int) ≤ i := by omega
  have hi3 : ¬ (i : Int) < 0 := by omega
  have hi4 : (i : Int) ≤ s.size := by omega
  clear h1 h2 hr hr2 hs
  go_enter Try.func4, Try.ntmps4
  go_wp2_with fail
  refine H1.out.mono ?_
  rintro e w1 ⟨A, c, rfl, hb1⟩
  have HB1 := hide hb1
  have hf1 := heap_alloc_new w1 (.cells #[.int .i64 1, .int .i64 i] 25)
  have c10 : (w1.alloc (.cells #[.int .i64 1, .int .i64 i] 25)).cell? ⟨w1.heap.size, 0, none⟩ = some (.int .i64 1) := by rw [cell_block hf1]; rfl
  have c11 : (w1.alloc (.cells #[.int .i64 1, .int .i64 i] 25)).cell? ⟨w1.heap.size, 1, none⟩ = some (.int .i64 i) := by rw [cell_block hf1]; rfl
  have HBl := hide (below_laid w1 (.cells #[.int .i64 1, .int .i64 i] 25))
  clear hb1 hf1
  go_wp2_with fail
  refine (H2.out _).mono ?_
  rintro e w2 ⟨v2, rfl, hb2⟩
  have hf2 := heap_alloc_new w2 (.cells #[.int .i64 0, .int .i64 0] 25)
  have c20 : (w2.alloc (.cells #[.int .i64 0, .int .i64 0] 25)).cell? ⟨w2.heap.size, 0, none⟩ = some (.int .i64 0) := by rw [cell_block hf2]; rfl
  have c21 : (w2.alloc (.cells #[.int .i64 0, .int .i64 0] 25)).cell? ⟨w2.heap.size, 1, none⟩ = some (.int .i64 0) := by rw [cell_block hf2]; rfl
  have HB2 := hide (below_next (below_next HB1.out (below_next HBl.out hb2)) (below_laid w2 (.cells #[.int .i64 0, .int .i64 0] 25)))
  clear hb2 hf2
  go_wp2_with fail
  refine (alive_any _).mono ?_
  rintro e w4 ⟨rfl, hb4⟩
  have HB4 := hide (below_next HB2.out hb4)
  clear hb4
  go_wp2_with fail
  go_ret
  exact ⟨rfl, HB4.out⟩

set_option maxRecDepth 100000 in
set_option maxHeartbeats 8000000 in
theorem lexPlaces_good (s : ByteArray) (w : World) (hs : s.size ≤ 3000) (hr : (Lx.read s).2 = none) (hg : Lx.Good s (Lx.read s).1) (hlen : (Lx.read s).1.length ≤ 100000) : Calls Try.prog 4 #[.string s] w fun e w' => e = .returned (.bool true) ∧ Below w.heap.size w w' := by
  have hs1 : ¬ (3000 : Int) < s.size := by omega
  have h1 : Calls Try.prog 8 #[.string s] w fun e w' => ∃ A c, e = .returned (.tuple #[.slice A (Lx.read s).1.length c, .agg #[.int .i64 0, .int .i64 0]]) ∧ HasT w' w'.heap.size A (Lx.read s).1.length (Lx.read s).1 ∧ Below w.heap.size w w' := (lread_any s w (by omega)).mono fun e w' ⟨v, he, hrow, _, hb⟩ => by
    rw [hr] at he
    obtain ⟨A, c, rfl, _, _⟩ := RowZ.form hrow
    exact ⟨A, c, he, HasT.of_row hrow, hb⟩
  generalize hl : (Lx.read s).1 = l at *
  have H1 := hide h1
  have HG := hide hg
  clear h1 hr hl hg
  go_enter Try.func4, Try.ntmps4
  go_wp2_with fail
  refine H1.out.mono ?_
  rintro e w1 ⟨A, c, rfl, hT, hb1⟩
  have HB1 := hide (below_next hb1 (below_laid w1 (.cells #[.int .i64 0, .int .i64 0] 25)))
  have hf1 := heap_alloc_new w1 (.cells #[.int .i64 0, .int .i64 0] 25)
  have c10 : (w1.alloc (.cells #[.int .i64 0, .int .i64 0] 25)).cell? ⟨w1.heap.size, 0, none⟩ = some (.int .i64 0) := by rw [cell_block hf1]; rfl
  have c11 : (w1.alloc (.cells #[.int .i64 0, .int .i64 0] 25)).cell? ⟨w1.heap.size, 1, none⟩ = some (.int .i64 0) := by rw [cell_block hf1]; rfl
  have HT := hide (hT.below (below_laid w1 (.cells #[.int .i64 0, .int .i64 0] 25)))
  have hsz : w1.heap.size < (w1.alloc (.cells #[.int .i64 0, .int .i64 0] 25)).heap.size := by simp
  clear hb1 hf1 hT
  go_wp2_with fail
  clear c10 c11
  generalize w1.alloc (.cells #[.int .i64 0, .int .i64 0] 25) = W at *
  have HSz := hide hsz
  clear hsz
  go_loopw [58, 7] (fun i v wr => ∃ k : Nat, k ≤ l.length ∧ i = .int .i64 k ∧ v = .int .i64 (Lx.ends l k : Nat) ∧ Below W.heap.size W wr) (fun i _ _ => l.length - (intOf i).toNat)
  case atStart => exact ⟨0, Nat.zero_le _, rfl, rfl, Below.refl _ _⟩
  case round =>
    obtain ⟨k, hk, rfl, rfl, hbw⟩ := hrel
    have HW := hide hbw
    by_cases hlt : k < l.length
    · obtain ⟨t, ht⟩ : ∃ t, l[k]? = some t := ⟨l[k]'(by omega), List.getElem?_eq_getElem _⟩
      obtain ⟨p, hp, hep, hps, hpe, hpo, hpb⟩ := HG.out k t ht
      obtain ⟨b, off, rfl, hbB, hcell⟩ := (HT.out.below (hbw.mono (Nat.le_of_lt HSz.out))).2 (by omega)
      obtain ⟨d0, d1, d2⟩ := hcell k t ht
      have hnext : Lx.ends l (k + 1) = p + t.text.size := by
        simp only [Lx.ends, ht, hp]; omega
      have HN := hide hnext
      have HT' := hide ht
      have HPB := hide hpb
      have hk0 : (k : Int) < l.length := by omega
      have hk1 : (0 : Int) ≤ k := by omega
      have hlr := fun W' => lright_any t W' (by omega)
      rw [hpo, hp] at hlr
      rw [hp] at d2
      have HLr := hide hlr
      have HP := hide hp
      clear hcell ht hbw hnext hpb hpo hlr hp
      generalize Lx.ends l k = e0 at *
      have hbl := below_laid wr (.cells #[.int .u8 t.kind, .string t.text, .int .i64 (p : Nat)] 31)
      have hbx := heap_alloc_new wr (.cells #[.int .u8 t.kind, .string t.text, .int .i64 (p : Nat)] 31)
      have hzz : wr.heap.size < (wr.alloc (.cells #[.int .u8 t.kind, .string t.text, .int .i64 (p : Nat)] 31)).heap.size := by simp
      have x0 : (wr.alloc (.cells #[.int .u8 t.kind, .string t.text, .int .i64 (p : Nat)] 31)).cell? ⟨wr.heap.size, 0, none⟩ = some (.int .u8 t.kind) := by rw [cell_block hbx]; rfl
      have x1 : (wr.alloc (.cells #[.int .u8 t.kind, .string t.text, .int .i64 (p : Nat)] 31)).cell? ⟨wr.heap.size, 1, none⟩ = some (.string t.text) := by rw [cell_block hbx]; rfl
      have x2 : (wr.alloc (.cells #[.int .u8 t.kind, .string t.text, .int .i64 (p : Nat)] 31)).cell? ⟨wr.heap.size, 2, none⟩ = some (.int .i64 (p : Nat)) := by rw [cell_block hbx]; rfl
      have HBl := hide (HW.out.trans (hbl.mono HW.out.size))
      clear hbl hbx
      go_wp2_with fail
      generalize wr.alloc (.cells #[.int .u8 t.kind, .string t.text, .int .i64 (p : Nat)] 31) = W2 at *
      have hu0 : ∀ u : Calm W2.heap.size W2, u.w.cell? ⟨wr.heap.size, 0, none⟩ = some (.int .u8 t.kind) := fun u => (u.below.cell (p := ⟨wr.heap.size, 0, none⟩) hzz).trans x0
      have hu1 : ∀ u : Calm W2.heap.size W2, u.w.cell? ⟨wr.heap.size, 1, none⟩ = some (.string t.text) := fun u => (u.below.cell (p := ⟨wr.heap.size, 1, none⟩) hzz).trans x1
      have hu2 : ∀ u : Calm W2.heap.size W2, u.w.cell? ⟨wr.heap.size, 2, none⟩ = some (.int .i64 (p : Nat)) := fun u => (u.below.cell (p := ⟨wr.heap.size, 2, none⟩) hzz).trans x2
      have g1 : ¬ (p : Int) < e0 := by omega
      have g2 : ¬ (s.size : Int) < p := by omega
      have g3 : IntKind.i64.wrap ((s.size : Int) - p) = (s.size : Int) - p := IntWalk.i64_in _ (by omega)
      have g4 : ¬ (s.size : Int) - p < t.text.size := by omega
      have g5 : IntKind.i64.wrap ((p : Int) + t.text.size) = (p : Int) + t.text.size := IntWalk.i64_in _ (by omega)
      have g6 : ((p : Int) + t.text.size).toNat = p + t.text.size := by omega
      have g7 : (0 : Int) ≤ p := by omega
      have g8 : (p : Int) ≤ (p : Int) + t.text.size := by omega
      have g9 : (p : Int) + t.text.size ≤ s.size := by omega
      clear hzz
      refine wp_region_calm W2.heap.size (by kernel_rfl) (by kernel_rfl) ?_
      iterate 38 (go_big_quiet_step (fail))
      clear g1 g2 g3 g4 g5 g6 g7 g8 g9 hpe
      repeat (go_big_quiet_step ((go_at_call 11; exact calm_call (Nat.le_refl _) (HLr.out _))))
      refine wpQuiet_nil ?_
      rintro _ ⟨u, rfl⟩
      have HU := hide (HBl.out.trans (u.below.mono HBl.out.size))
      have hv1 := hu1 u
      have hv2 := hu2 u
      clear hu0 hu1 hu2 x0 x1 x2
      generalize u.w = U at *
      clear u
      go_wp2_with fail
      go_loop [7] (fun v => ∃ j : Nat, e0 ≤ j ∧ j ≤ p ∧ v = .int .i64 j) (fun v => p - (intOf v).toNat)
      case atStart => exact ⟨e0, Nat.le_refl _, hep, rfl⟩
      case round =>
        obtain ⟨j, hj1, hj2, rfl⟩ := hrel
        by_cases hjp : j < p
        · have hb := HPB.out j hj1 hjp
          have hjs : j < s.size := by omega
          rw [Nm.byte_eq hjs] at hb
          have r0 : (0 : Int) ≤ j := by omega
          have r1 : (j : Int) < s.size := by omega
          have r2 : (j : Int) < p := by omega
          rcases hb with hb | hb
          all_goals
            first | have hb' : (((s[j]'hjs).toNat : Nat) : Int) = 32 := by omega
                  | have hb' : (((s[j]'hjs).toNat : Nat) : Int) = 9 := by omega
            clear hb
            go_wp2_with fail
            go_round
            case rel => exact ⟨j + 1, by omega, by omega, by go_num⟩
            case measure => simp [intOf]; omega
        · obtain rfl : j = p := by omega
          go_wp2_with fail
          exact ⟨⟨k + 1, by omega, rfl, by rw [HN.out]; go_num, HU.out⟩, by simp [intOf]; omega⟩
    · obtain rfl : k = l.length := by omega
      clear hbw
      go_wp2_with fail
      refine (alive_any _).mono ?_
      rintro e w4 ⟨rfl, hb4⟩
      have HB4 := hide (HB1.out.trans ((below_next HW.out hb4).mono HB1.out.size))
      clear hb4
      go_wp2_with fail
      go_ret
      exact ⟨rfl, HB4.out⟩

theorem lexPlaces_any (s : ByteArray) (w : World) : Calls Try.prog 4 #[.string s] w fun e w' => e = .returned (.bool true) ∧ Below w.heap.size w w' := by
  by_cases hs : (3000 : Int) < s.size
  · go_enter Try.func4, Try.ntmps4
    go_wp2_with fail
    refine (alive_any _).mono ?_
    rintro e w1 ⟨rfl, hb1⟩
    have HB := hide hb1
    clear hb1
    go_wp2_with fail
    go_ret
    exact ⟨rfl, HB.out⟩
  · rcases Lx.read_good s with ⟨h1, h2⟩ | ⟨i, h1, h2, h3⟩
    · exact lexPlaces_good s w (by omega) h1 h2 (by have := Lx.readF_len s (s.size + 1) 0 []; simp only [List.length_nil] at this; unfold Lx.read; omega)
    · exact lexPlaces_bad s i w (by omega) h1 h2 h3
end Go.Proofs.Ytncaifdcmiblgaa
