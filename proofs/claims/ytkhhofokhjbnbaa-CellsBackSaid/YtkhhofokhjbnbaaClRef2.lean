/- The walks of the document's calls: Add, Get, Set, Undo. -/
import Derived.Test.YtkhhofokhjbnbaaClRef
namespace Go.Proofs.Ytkhhofokhjbnbaa
open Go.RowKit

/-- The argument's box and the result's lie behind what was; new blocks behind them. -/
structure St (w W : World) (v : Value) : Prop where
  below : Below w.heap.size w W
  size : w.heap.size + 2 ≤ W.heap.size
  b0 : W.heap[w.heap.size]? = some (.cells #[v] 28 (0, 0))
  b1 : W.heap[w.heap.size + 1]? = some (.cells #[.slice none 0 0] 28 (0, 0))

theorem St.new (w : World) (v : Value) : St w ((w.alloc (.cells #[v] 28)).alloc (.cells #[.slice none 0 0] 28)) v := by
  refine ⟨(box2 w _ _ _ _).1, by simp, ?_, ?_⟩
  · rw [Below.heap_alloc _ _ _ (by simp)]; exact heap_alloc_new w _
  · have := heap_alloc_new (w.alloc (.cells #[v] 28)) (.cells #[.slice none 0 0] 28)
    simpa using this
section
variable {w W W' : World} {v : Value}
theorem St.step (h : St w W v) (hb : Below W.heap.size W W') : St w W' v :=
  ⟨h.below.trans (hb.mono (by have := h.size; omega)), Nat.le_trans h.size hb.size, (hb.block _ (by have := h.size; omega)).trans h.b0, (hb.block _ (by have := h.size; omega)).trans h.b1⟩
theorem St.alloc (h : St w W v) (o : Obj) : St w (W.alloc o) v := h.step (below_laid W o)
theorem St.grown (h : St w W v) {own : Option Nat} (hg : W.grownBy W' own) (ho : ∀ g, own = some g → w.heap.size + 2 ≤ g) : St w W' v :=
  ⟨grown_new h.below hg (fun g e => by have := ho g e; omega), Nat.le_trans h.size hg.size,
    (hg.block _ (by have := h.size; omega) (fun e => by have := ho _ e.symm; omega)).trans h.b0, (hg.block _ (by have := h.size; omega) (fun e => by have := ho _ e.symm; omega)).trans h.b1⟩
theorem St.put (h : St w W v) {p : Addr} (hp : w.heap.size + 2 ≤ p.block) (u : Value) : St w (W.setCell p u) v :=
  ⟨h.below.setCell (by omega) u, by simpa [World.setCell] using h.size, (Below.heap_setCell _ _ _ _ (by omega)).trans h.b0, (Below.heap_setCell _ _ _ _ (by omega)).trans h.b1⟩
theorem St.cell0 (h : St w W v) : W.cell? ⟨w.heap.size, 0, none⟩ = some v := by rw [cell_block h.b0]; rfl
theorem St.cell1 (h : St w W v) : W.cell? ⟨w.heap.size + 1, 0, none⟩ = some (.slice none 0 0) := by rw [cell_block h.b1]; rfl
theorem St.free1 (h : St w W v) : W.frozen? ⟨w.heap.size + 1, 0, none⟩ = false := frozen_of_row W _ 0 _ _ h.b1
theorem St.set (h : St w W v) (u : Value) : (W.setCell ⟨w.heap.size + 1, 0, none⟩ u).cell? ⟨w.heap.size + 1, 0, none⟩ = some u := by
  rw [cell_block (heap_setCell_same W _ 0 _ _ _ h.b1)]; rfl
theorem St.out (h : St w W v) (u : Value) : Below w.heap.size w (W.setCell ⟨w.heap.size + 1, 0, none⟩ u) := h.below.setCell (by show w.heap.size ≤ w.heap.size + 1; omega) u
theorem St.mat {bad : Nat → Prop} {v' : Value} {M : List (List Int)} (h : St w W v) (u : Value) (hm : Mat W bad v' M) : Mat (W.setCell ⟨w.heap.size + 1, 0, none⟩ u) bad v' M := by
  obtain ⟨⟨rows, hr, hl, hx⟩, hg⟩ := hm
  exact ⟨⟨rows, hr.far (p := ⟨w.heap.size + 1, 0, none⟩) (hr.ne_type h.b1 (by decide)) u, hl, fun k r l h1 h2 => ⟨(hx k r l h1 h2).1.far (p := ⟨w.heap.size + 1, 0, none⟩) ((hx k r l h1 h2).1.ne_type h.b1 (by decide)) u, (hx k r l h1 h2).2⟩⟩, hg⟩
end

theorem St.words {w W : World} {bad : Nat → Prop} {v : Value} {M : List (List Int)} (hS : St w W v) (h : Mat w bad v M) (hp : M ≠ []) (hl : M.length ≤ 10000) :
    Calls Try.prog 11 #[.agg #[v]] W fun e w' => ∃ r, e = .returned r ∧ RowG W bad r (lastL M) ∧ St w w' v ∧ Below W.heap.size W w' :=
  (mwords_any bad v M W (h.below hS.below) hp (by omega)).mono fun e w' ⟨r, h1, h2, h3⟩ => ⟨r, h1, h2, hS.step h3, h3⟩

set_option maxHeartbeats 1600000 in
theorem radd_any (bad : Nat → Prop) (v : Value) (M : List (List Int)) (x : Int) (w : World) (h : Mat w bad v M) (hp : M ≠ []) (hl : M.length ≤ 10000) (hll : (lastL M).length ≤ 10000) (hbad : ∀ g, bad g → g < w.heap.size) :
    Calls Try.prog 22 #[.agg #[v], .int .u64 x] w fun e w' => ∃ v', e = .returned (.tuple #[.agg #[v'], .int .i64 (lastL M).length]) ∧ Below w.heap.size w w' ∧ Mat w' bad v' (M ++ [lastL M ++ [x]]) := by
  obtain ⟨i0, hi, hz0, hz1, hz2⟩ := info_parts info_u64
  have HS := hide (St.new w v)
  have HM := hide h
  have HP := hide hp
  have HBad := hide hbad
  clear h hp hbad
  go_enter Try.func22, Try.ntmps22
  go_wp2_with fail
  refine (HS.out.words HM.out HP.out hl).mono ?_
  rintro e w1 ⟨r1, rfl, hr1, hS1, hb1⟩
  obtain ⟨A, c, rfl, _, _⟩ := hr1.1.form
  rw [show (wordsV (lastL M)).length = (lastL M).length from by simp [wordsV]]
  have hS1a := hS1.alloc (.cells #[] 30)
  have hc1 := hS1a.cell0
  have HS1 := hide (And.intro hS1 hS1a)
  clear hS1 hr1 hb1 hS1a
  go_wp2_with fail
  refine (HS1.out.2.words HM.out HP.out hl).mono ?_
  rintro e w2 ⟨r2, rfl, hr2, hS2, hb2⟩
  obtain ⟨A2, c2, rfl, _, _⟩ := hr2.1.form
  have hlr : (wordsV (lastL M)).length = (lastL M).length := by simp [wordsV]
  rw [hlr]
  have hrow2 : Row w2 30 (.slice (some ⟨w1.heap.size, 0, none⟩) 0 0) [] := by
    have := (Row.laid w1 30 [] (by decide)).below hb2
    simpa using this
  have hhas2 := (hr2.1.below hb2).has
  have hz1' := HS1.out.1.size
  rw [hlr] at hhas2
  have HS2 := hide (And.intro hS2 (And.intro hrow2 hhas2))
  clear hS2 hr2 hb2 hrow2 hhas2 hc1
  go_wp2_with (at_builtin; refine app_row rfl (.tmp 11) (.tmp 13) 36 36 rfl 30 i0 _ 8 Try.underlying36 hi hz0 hz1 hz2 rfl (.slice (some ⟨w1.heap.size, 0, none⟩) 0 0) [] rfl HS2.out.2.1 _ (lastL M).length (wordsV (lastL M)) rfl (Src.of_has Try.underlying36 HS2.out.2.2 (oneCell_words _)) (by simp; unfold maxLen; omega) (by simp; omega) ?_)
  intro A3 c3 w3 hrow3 hgr3 hob3
  have hS3 := HS2.out.1.grown hgr3 (fun g hg => by simp [Value.ownBlock] at hg; omega)
  have hob3' : ∀ g, (Value.slice A3 (lastL M).length c3).ownBlock = some g → w.heap.size + 2 ≤ g := fun g hg => by
    have := HS2.out.1.size
    rcases hob3 with h | h <;> rw [h] at hg <;> simp [Value.ownBlock] at hg <;> omega
  have HS3 := hide (And.intro hS3 (And.intro hrow3 hob3'))
  clear hS3 hrow3 hgr3 hob3 hob3'
  go_wp2_with (at_builtin; refine app_row rfl (.tmp 15) (.tmp 17) 36 36 rfl 30 i0 _ 8 Try.underlying36 hi hz0 hz1 hz2 rfl (.slice A3 (lastL M).length c3) (wordsV (lastL M)) rfl (HS3.out.2.1.below (below_laid w3 _)) _ 1 [.int .u64 x] rfl (Src.ofSlice _ Try.underlying36 ⟨w3.heap.size, 0, none⟩ 1 1 _ rfl (World.news_of_block (cs := #[.int .u64 x]) (t := 30) (fr := (0, 0)) (heap_alloc_new w3 _)) (by simp [Value.oneCell'])) (by rw [hlr]; unfold maxLen; omega) (by rw [hlr]; omega) ?_)
  intro A4 c4 w4 hrow4 hgr4 hob4
  have hS4 := (HS3.out.1.alloc _).grown hgr4 HS3.out.2.2
  have hob4' : ∀ g, (Value.slice A4 ((lastL M).length + 1) c4).ownBlock = some g → w.heap.size + 2 ≤ g := fun g hg => by
    have := HS3.out.1.size
    rcases hob4 with h | h
    · rw [h] at hg; exact HS3.out.2.2 g hg
    · rw [h] at hg; simp at hg; omega
  have hrg : RowG w4 bad (.slice A4 ((lastL M).length + 1) c4) (lastL M ++ [x]) := ⟨by simpa [wordsV] using hrow4, fun g hg hb => by have := hob4' g hg; have := HBad.out g hb; omega⟩
  have hc4 := hS4.cell0
  have HS4 := hide (And.intro hS4 hrg)
  clear hS4 hrow4 hgr4 hob4 hob4' hrg
  go_wp2_with fail
  refine (mthen_any bad v _ M _ w4 (HM.out.below HS4.out.1.below) hl HS4.out.2 (fun g hb => by have := HBad.out g hb; have := HS4.out.1.size; omega)).mono ?_
  rintro e w5 ⟨v5, rfl, hb5, hm5⟩
  obtain ⟨A5, n5, c5, rfl⟩ := hm5.form
  have hS5 := HS4.out.1.step hb5
  have hc5 := hS5.cell1
  have hf5 := hS5.free1
  have hset5 := hS5.set (.slice A5 n5 c5)
  have HS5 := hide (And.intro hS5 hm5)
  clear hS5 hm5 hb5
  go_wp2_with fail
  refine bodyPost_ret (v := .tuple #[.agg #[.slice A5 n5 c5], .int .i64 (lastL M).length]) (by simp [results, Try.results22, go_sem, hset5]) rfl ⟨_, rfl, HS5.out.1.out _, HS5.out.1.mat _ HS5.out.2⟩

structure St1 (w W : World) (v : Value) : Prop where
  below : Below w.heap.size w W
  size : w.heap.size + 1 ≤ W.heap.size
  b0 : W.heap[w.heap.size]? = some (.cells #[v] 28 (0, 0))
theorem St1.new (w : World) (v : Value) : St1 w (w.alloc (.cells #[v] 28)) v := ⟨below_laid w _, by simp, heap_alloc_new w _⟩
theorem St1.step {w W W' : World} {v : Value} (h : St1 w W v) (hb : Below W.heap.size W W') : St1 w W' v :=
  ⟨h.below.trans (hb.mono (by have := h.size; omega)), Nat.le_trans h.size hb.size, (hb.block _ (by have := h.size; omega)).trans h.b0⟩
theorem St1.cell0 {w W : World} {v : Value} (h : St1 w W v) : W.cell? ⟨w.heap.size, 0, none⟩ = some v := by rw [cell_block h.b0]; rfl
theorem St1.words {w W : World} {bad : Nat → Prop} {v : Value} {M : List (List Int)} (hS : St1 w W v) (h : Mat w bad v M) (hp : M ≠ []) (hl : M.length ≤ 10000) :
    Calls Try.prog 11 #[.agg #[v]] W fun e w' => ∃ r, e = .returned r ∧ RowG w' bad r (lastL M) ∧ St1 w w' v :=
  (mwords_any bad v M W (h.below hS.below) hp (by omega)).mono fun e w' ⟨r, h1, h2, h3⟩ => ⟨r, h1, h2.below h3, hS.step h3⟩

theorem rget_any (bad : Nat → Prop) (v : Value) (M : List (List Int)) (i : Int) (w : World) (h : Mat w bad v M) (hp : M ≠ []) (hl : M.length ≤ 10000) :
    Calls Try.prog 20 #[.agg #[v], .int .i64 i] w fun e w' => e = .returned (.int .u64 (getR (lastL M) i)) ∧ Below w.heap.size w w' := by
  have hlr : (wordsV (lastL M)).length = (lastL M).length := by simp [wordsV]
  have HS := hide (St1.new w v)
  have HM := hide h
  have HP := hide hp
  by_cases hi0 : i < 0
  · have HR := hide (show getR (lastL M) i = 0 by simp [getR, inR]; omega)
    clear h hp
    go_enter Try.func20, Try.ntmps20
    go_wp2_with fail
    go_ret
    exact ⟨ret_int HR.out.symm, HS.out.below⟩
  · have hi1 : 0 ≤ i := by omega
    obtain ⟨k, rfl⟩ := Int.eq_ofNat_of_zero_le hi1
    have hk0 : ¬ ((k : Int) < 0) := by omega
    by_cases hk : k < (lastL M).length
    · have hk1 : ¬ (((lastL M).length : Int) ≤ k) := by omega
      have hk2 : (k : Int) < (lastL M).length := by omega
      have HR := hide (show getR (lastL M) k = (lastL M).getD k 0 by simp [getR, inR, hk])
      clear h hp
      go_enter Try.func20, Try.ntmps20
      go_wp2_with fail
      refine (HS.out.words HM.out HP.out hl).mono ?_
      rintro e w1 ⟨r1, rfl, hr1, hS1⟩
      obtain ⟨A, c, rfl, _, _⟩ := hr1.1.form
      rw [hlr]
      have hc1 := hS1.cell0
      have HS1 := hide hS1
      clear hS1 hr1
      go_wp2_with fail
      refine (HS1.out.words HM.out HP.out hl).mono ?_
      rintro e w2 ⟨r2, rfl, hr2, hS2⟩
      obtain ⟨A2, c2, rfl, _, _⟩ := hr2.1.form
      rw [hlr]
      obtain ⟨g, rfl⟩ := hr2.1.addr (by omega)
      have hrow2 := hr2.1
      rw [hlr] at hrow2
      have hcell : w2.cell? ⟨g, k, none⟩ = some (.int .u64 ((lastL M).getD k 0)) := by
        rw [hrow2.cell (by rw [hlr]; exact hk)]
        simp [wordsV, List.getElem?_eq_getElem hk, List.getD_eq_getElem?_getD]
      have HS2 := hide hS2
      clear hS2 hr2 hrow2 hc1
      generalize (lastL M).getD k 0 = y at hcell HR
      go_wp2_with fail
      go_ret
      exact ⟨ret_int HR.out.symm, HS2.out.below⟩
    · have hk1 : ((lastL M).length : Int) ≤ k := by omega
      have HR := hide (show getR (lastL M) k = 0 by simp [getR, inR, hk])
      clear h hp
      go_enter Try.func20, Try.ntmps20
      go_wp2_with fail
      refine (HS.out.words HM.out HP.out hl).mono ?_
      rintro e w1 ⟨r1, rfl, hr1, hS1⟩
      obtain ⟨A, c, rfl, _, _⟩ := hr1.1.form
      rw [hlr]
      have HS1 := hide hS1
      clear hS1 hr1
      go_wp2_with fail
      go_ret
      exact ⟨ret_int HR.out.symm, HS1.out.below⟩
end Go.Proofs.Ytkhhofokhjbnbaa
