/- The walk of the document's Set. -/
import Derived.Test.YtkhhofokhjbnbaaClRef2
namespace Go.Proofs.Ytkhhofokhjbnbaa
open Go.RowKit

theorem rset_out (bad : Nat → Prop) (v : Value) (M : List (List Int)) (i x : Int) (w : World) (h : Mat w bad v M) (hp : M ≠ []) (hl : M.length ≤ 10000) (hi : inR i (lastL M).length = false) :
    Calls Try.prog 19 #[.agg #[v], .int .i64 i, .int .u64 x] w fun e w' => e = .returned (.tuple #[.agg #[v], .bool false]) ∧ Below w.heap.size w w' := by
  have hlr : (wordsV (lastL M)).length = (lastL M).length := by simp [wordsV]
  obtain ⟨A0, n0, c0, rfl⟩ := h.form
  have HS := hide (St.new w (.slice A0 n0 c0))
  have HM := hide h
  have HP := hide hp
  by_cases hi0 : i < 0
  · clear h hp
    go_enter Try.func19, Try.ntmps19
    go_wp2_with fail
    refine bodyPost_ret (v := .tuple #[.agg #[.slice A0 n0 c0], .bool false]) (by simp [results, Try.results19, go_sem]) rfl ⟨rfl, (box2 w _ _ _ _).1⟩
  · have hi1 : 0 ≤ i := by omega
    have hi2 : ((lastL M).length : Int) ≤ i := by
      simp [inR] at hi
      omega
    clear h hp
    go_enter Try.func19, Try.ntmps19
    go_wp2_with fail
    refine (HS.out.words HM.out HP.out hl).mono ?_
    rintro e w1 ⟨r1, rfl, hr1, hS1, hb1⟩
    obtain ⟨A, c, rfl, _, _⟩ := hr1.1.form
    rw [hlr]
    have hc0 := hS1.cell0
    have hc1 := hS1.cell1
    have hf1 := hS1.free1
    have hset := hS1.set (.slice A0 n0 c0)
    have HS1 := hide hS1
    clear hS1 hr1 hb1
    go_wp2_with fail
    refine bodyPost_ret (v := .tuple #[.agg #[.slice A0 n0 c0], .bool false]) (by simp [results, Try.results19, go_sem, hset]) rfl ⟨rfl, HS1.out.out _⟩

theorem rset_same (bad : Nat → Prop) (v : Value) (M : List (List Int)) (k : Nat) (x : Int) (w : World) (h : Mat w bad v M) (hp : M ≠ []) (hl : M.length ≤ 10000) (hk : k < (lastL M).length) (hx : (lastL M).getD k 0 = x) :
    Calls Try.prog 19 #[.agg #[v], .int .i64 k, .int .u64 x] w fun e w' => e = .returned (.tuple #[.agg #[v], .bool true]) ∧ Below w.heap.size w w' := by
  have hlr : (wordsV (lastL M)).length = (lastL M).length := by simp [wordsV]
  obtain ⟨A0, n0, c0, rfl⟩ := h.form
  have HS := hide (St.new w (.slice A0 n0 c0))
  have HM := hide h
  have HP := hide hp
  have hk0 : ¬ ((k : Int) < 0) := by omega
  have hk3 : (0 : Int) ≤ k := by omega
  have hk1 : ¬ (((lastL M).length : Int) ≤ k) := by omega
  have hk2 : (k : Int) < (lastL M).length := by omega
  clear h hp
  go_enter Try.func19, Try.ntmps19
  go_wp2_with fail
  refine (HS.out.words HM.out HP.out hl).mono ?_
  rintro e w1 ⟨r1, rfl, hr1, hS1, hb1⟩
  obtain ⟨A, c, rfl, _, _⟩ := hr1.1.form
  rw [hlr]
  have hc0 := hS1.cell0
  have HS1 := hide hS1
  clear hS1 hr1 hb1
  go_wp2_with fail
  refine (HS1.out.words HM.out HP.out hl).mono ?_
  rintro e w2 ⟨r2, rfl, hr2, hS2, hb2⟩
  obtain ⟨A2, c2, rfl, _, _⟩ := hr2.1.form
  rw [hlr]
  obtain ⟨g, rfl⟩ := hr2.1.addr (by omega)
  have hrow2 := hr2.1.below hb2
  rw [hlr] at hrow2
  have hcell : w2.cell? ⟨g, k, none⟩ = some (.int .u64 x) := by
    rw [hrow2.cell (by rw [hlr]; exact hk), ← hx]
    simp [wordsV, List.getElem?_eq_getElem hk, List.getD_eq_getElem?_getD]
  have hc2 := hS2.cell0
  have hd2 := hS2.cell1
  have hf2 := hS2.free1
  have hset := hS2.set (.slice A0 n0 c0)
  have HS2 := hide hS2
  clear hS2 hr2 hb2 hrow2 hc0
  go_wp2_with fail
  refine bodyPost_ret (v := .tuple #[.agg #[.slice A0 n0 c0], .bool true]) (by simp [results, Try.results19, go_sem, hset]) rfl ⟨rfl, HS2.out.out _⟩

set_option maxHeartbeats 1600000 in
theorem rset_in (bad : Nat → Prop) (v : Value) (M : List (List Int)) (k : Nat) (x : Int) (w : World) (h : Mat w bad v M) (hp : M ≠ []) (hl : M.length ≤ 10000) (hll : (lastL M).length ≤ 10000) (hk : k < (lastL M).length) (hx : (lastL M).getD k 0 ≠ x) (hbad : ∀ g, bad g → g < w.heap.size) :
    Calls Try.prog 19 #[.agg #[v], .int .i64 k, .int .u64 x] w fun e w' => ∃ v', e = .returned (.tuple #[.agg #[v'], .bool true]) ∧ Below w.heap.size w w' ∧ Mat w' bad v' (M ++ [(lastL M).set k x]) := by
  obtain ⟨i0, hi, hz0, hz1, hz2⟩ := info_parts info_u64
  have hlr : (wordsV (lastL M)).length = (lastL M).length := by simp [wordsV]
  have HS := hide (St.new w v)
  have HM := hide h
  have HP := hide hp
  have HBad := hide hbad
  have hk0 : ¬ ((k : Int) < 0) := by omega
  have hk3 : (0 : Int) ≤ k := by omega
  have hk1 : ¬ (((lastL M).length : Int) ≤ k) := by omega
  have hk2 : (k : Int) < (lastL M).length := by omega
  clear h hp hbad
  go_enter Try.func19, Try.ntmps19
  go_wp2_with fail
  refine (HS.out.words HM.out HP.out hl).mono ?_
  rintro e w1 ⟨r1, rfl, hr1, hS1, hb1⟩
  obtain ⟨A, c, rfl, _, _⟩ := hr1.1.form
  rw [hlr]
  have hc0 := hS1.cell0
  have HS1 := hide hS1
  clear hS1 hr1 hb1
  go_wp2_with fail
  refine (HS1.out.words HM.out HP.out hl).mono ?_
  rintro e w2 ⟨r2, rfl, hr2, hS2, hb2⟩
  obtain ⟨A2, c2, rfl, _, _⟩ := hr2.1.form
  rw [hlr]
  obtain ⟨g, rfl⟩ := hr2.1.addr (by omega)
  have hrow2 := hr2.1.below hb2
  rw [hlr] at hrow2
  have hcell : w2.cell? ⟨g, k, none⟩ = some (.int .u64 ((lastL M).getD k 0)) := by
    rw [hrow2.cell (by rw [hlr]; exact hk)]
    simp [wordsV, List.getElem?_eq_getElem hk, List.getD_eq_getElem?_getD]
  have hS2a := hS2.alloc (.cells #[] 30)
  have hc2 := hS2a.cell0
  have HS2 := hide (And.intro hS2 hS2a)
  clear hS2 hr2 hb2 hrow2 hc0 hS2a
  generalize hy : (lastL M).getD k 0 = y at hcell hx
  go_wp2_with fail
  refine (HS2.out.2.words HM.out HP.out hl).mono ?_
  rintro e w3 ⟨r3, rfl, hr3, hS3, hb3⟩
  obtain ⟨A3, c3, rfl, _, _⟩ := hr3.1.form
  rw [hlr]
  have hrow3 : Row w3 30 (.slice (some ⟨w2.heap.size, 0, none⟩) 0 0) [] := by
    have := (Row.laid w2 30 [] (by decide)).below hb3
    simpa using this
  have hhas3 := (hr3.1.below hb3).has
  have hz2' := HS2.out.1.size
  rw [hlr] at hhas3
  have HS3 := hide (And.intro hS3 (And.intro hrow3 hhas3))
  clear hS3 hr3 hb3 hrow3 hhas3 hc2
  go_wp2_with (at_builtin; refine app_row rfl (.tmp 27) (.tmp 29) 36 36 rfl 30 i0 _ 8 Try.underlying36 hi hz0 hz1 hz2 rfl (.slice (some ⟨w2.heap.size, 0, none⟩) 0 0) [] rfl HS3.out.2.1 _ (lastL M).length (wordsV (lastL M)) rfl (Src.of_has Try.underlying36 HS3.out.2.2 (oneCell_words _)) (by simp; unfold maxLen; omega) (by simp; omega) ?_)
  intro A4 c4 w4 hrow4 hgr4 hob4
  have hS4 := HS3.out.1.grown hgr4 (fun g hg => by simp [Value.ownBlock] at hg; omega)
  have hob4' : ∀ g, (Value.slice A4 (lastL M).length c4).ownBlock = some g → w.heap.size + 2 ≤ g := fun g hg => by
    have := HS3.out.1.size
    rcases hob4 with h | h <;> rw [h] at hg <;> simp [Value.ownBlock] at hg <;> omega
  have hrow4' : Row w4 30 (.slice A4 (wordsV (lastL M)).length c4) (wordsV (lastL M)) := by rw [hlr]; exact hrow4
  obtain ⟨g4, rfl⟩ := hrow4'.addr (by omega)
  have hcell4 : w4.cell? ⟨g4, k, none⟩ = some (.int .u64 y) := by
    rw [hrow4'.cell (by omega), ← hy]
    simp [wordsV, List.getElem?_eq_getElem hk, List.getD_eq_getElem?_getD]
  have hf4 := hrow4'.free k
  have hS5 := hS4.put (p := ⟨g4, k, none⟩) (hob4' g4 rfl) (.int .u64 x)
  have hrow5 := hrow4'.set k (.int .u64 x)
  rw [hlr] at hrow5
  have hrg : RowG (w4.setCell ⟨g4, k, none⟩ (.int .u64 x)) bad (.slice (some ⟨g4, 0, none⟩) (lastL M).length c4) ((lastL M).set k x) := ⟨by simpa [wordsV, List.map_set] using hrow5, fun g hg hb => by have := hob4' g hg; have := HBad.out g hb; omega⟩
  have hc5 := hS5.cell0
  have HS5 := hide (And.intro hS5 hrg)
  clear hS4 hrow4 hgr4 hob4 hob4' hrow4' hS5 hrow5 hrg
  go_wp2_with fail
  refine (mthen_any bad v _ M _ _ (HM.out.below HS5.out.1.below) hl HS5.out.2 (fun g hb => by have := HBad.out g hb; have := HS5.out.1.size; omega)).mono ?_
  rintro e w6 ⟨v6, rfl, hb6, hm6⟩
  obtain ⟨A6, n6, c6, rfl⟩ := hm6.form
  have hS6 := HS5.out.1.step hb6
  have hd6 := hS6.cell1
  have hf6 := hS6.free1
  have hset := hS6.set (.slice A6 n6 c6)
  have HS6 := hide (And.intro hS6 hm6)
  clear hS6 hm6 hb6
  go_wp2_with fail
  refine bodyPost_ret (v := .tuple #[.agg #[.slice A6 n6 c6], .bool true]) (by simp [results, Try.results19, go_sem, hset]) rfl ⟨_, rfl, HS6.out.1.out _, HS6.out.1.mat _ HS6.out.2⟩
end Go.Proofs.Ytkhhofokhjbnbaa
