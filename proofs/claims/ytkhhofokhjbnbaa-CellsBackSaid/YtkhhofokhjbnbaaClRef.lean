/- The walks of the document's cells. -/
import Derived.Test.YtkhhofokhjbnbaaClSet
namespace Go.Proofs.Ytkhhofokhjbnbaa
open Go.RowKit

theorem words_any (v r : Value) (rows : List Value) (w : World) (h : Row w 36 v rows) (hp : 0 < rows.length) (hl : rows.length ≤ 1000000) (hr : rows[rows.length - 1]? = some r) :
    Calls Try.prog 11 #[.agg #[v]] w fun e w' => e = .returned r ∧ Below w.heap.size w w' := by
  obtain ⟨A, c, rfl, hc, hm⟩ := h.form
  obtain ⟨g, rfl⟩ := h.addr hp
  obtain ⟨n, hn⟩ : ∃ n, rows.length = n + 1 := ⟨rows.length - 1, by omega⟩
  have hg := h.lt g rfl
  rw [hn] at h hr hc hl ⊢
  have hcell : w.cell? ⟨g, n, none⟩ = some r := by rw [h.cell (by omega)]; simpa using hr
  clear h hr hn hp
  go_enter Try.func11, Try.ntmps11
  go_wp2_with fail
  go_ret
  exact ⟨rfl, below_laid _ _⟩

theorem rmark_any (v : Value) (rows : List Value) (w : World) (h : Row w 36 v rows) (hl : rows.length ≤ 1000000) :
    Calls Try.prog 13 #[.agg #[v]] w fun e w' => e = .returned (.int .i64 (rows.length - 1)) ∧ Below w.heap.size w w' := by
  obtain ⟨A, c, rfl, hc, hm⟩ := h.form
  clear h
  go_enter Try.func13, Try.ntmps13
  go_wp2_with fail
  go_ret
  exact ⟨rfl, below_laid _ _⟩

theorem rnew_any (w : World) :
    Calls Try.prog 8 #[] w fun e w' => ∃ v, e = .returned (.agg #[v]) ∧ Below w.heap.size w w' ∧ Row w' 36 v [.slice none 0 0] ∧ ∀ g, v.ownBlock = some g → w.heap.size ≤ g := by
  go_enter Try.func8, Try.ntmps8
  go_wp2_with fail
  refine bodyPost_ret (v := .agg #[.slice (some ⟨w.heap.size + 1, 0, none⟩) 1 1]) (by simp [results, Try.results8, go_sem]) rfl ⟨_, rfl, ?_, ?_, fun g hg => ?_⟩
  · exact (box2 w _ _ _ _).1
  · have := Row.laid (w.alloc (.cells #[.slice (some ⟨w.heap.size + 1, 0, none⟩) 1 1] 28)) 36 [.slice none 0 0] (by decide)
    simpa using this
  · simp [Value.ownBlock] at hg; omega

theorem grown_new {w W w2 : World} {own : Option Nat} (hb : Below w.heap.size w W) (hg : W.grownBy w2 own) (h : ∀ g, own = some g → w.heap.size ≤ g) : Below w.heap.size w w2 :=
  ⟨hg.os.trans hb.os, hg.tape.trans hb.tape, hg.output.trans hb.output, Nat.le_trans hb.size hg.size, fun k hk =>
    (hg.block k (Nat.lt_of_lt_of_le hk hb.size) (fun e => by have := h k e.symm; omega)).trans (hb.block k hk)⟩

theorem info_us : (Try.prog.info? 36).map (fun i => (i.zero, i.size, i.bytes)) = some (some (.slice none 0 0), 1, 24) := by kernel_rfl

set_option maxHeartbeats 1600000 in
theorem then_any (v : Value) (Al : Option Addr) (nl cl : Nat) (rows : List Value) (w : World) (h : Row w 36 v rows) (hl : rows.length ≤ 10000) (h1 : ∀ u ∈ rows, u.oneCell' = true) :
    Calls Try.prog 26 #[.agg #[v], .slice Al nl cl] w fun e w' => ∃ v', e = .returned (.agg #[v']) ∧ Below w.heap.size w w' ∧ Row w' 36 v' (rows ++ [.slice Al nl cl]) ∧ ∀ g, v'.ownBlock = some g → w.heap.size ≤ g := by
  obtain ⟨i0, hi, hz0, hz1, hz2⟩ := info_parts info_us
  obtain ⟨A, c, rfl, hc, hm⟩ := h.form
  have HR := hide h
  have HL := hide h1
  clear h h1
  go_enter Try.func26, Try.ntmps26
  go_wp2_with (at_builtin; refine app_row rfl (.tmp 5) (.tmp 7) 26 26 rfl 36 i0 _ 24 Try.underlying26 hi hz0 hz1 hz2 rfl (.slice (some ⟨w.heap.size + 1 + 1, 0, none⟩) 0 0) [] rfl (by simpa using Row.laid ((w.alloc _).alloc _) 36 [] (by decide)) _ rows.length rows rfl (Src.of_has Try.underlying26 ((HR.out.below (((below_laid w _).trans (below_laid _ _ |>.mono (by simp))).trans (below_laid _ _ |>.mono (by simp; omega)))).has) HL.out) (by simp; unfold maxLen; omega) (by simp; omega) ?_)
  intro A2 c2 w2 hrow2 hgr2 hob2
  have hb2 : Below w.heap.size w w2 := grown_new (((below_laid w _).trans (below_laid _ _ |>.mono (by simp))).trans (below_laid _ _ |>.mono (by simp; omega))) hgr2 (fun g hg => by simp [Value.ownBlock] at hg; omega)
  have hs2 : w.heap.size + 3 ≤ w2.heap.size := by have := hgr2.size; simp at this; omega
  have hk2 : w2.heap[w.heap.size + 1]? = some (.cells #[.slice none 0 0] 28 (0, 0)) := by
    rw [hgr2.block (w.heap.size + 1) (by simp) (by simp [Value.ownBlock]), Below.heap_alloc _ _ _ (by simp)]
    have := heap_alloc_new (w.alloc (.cells #[.slice A rows.length c] 28)) (.cells #[.slice none 0 0] 28)
    simpa using this
  have hob2' : ∀ g, (Value.slice A2 rows.length c2).ownBlock = some g → w.heap.size + 2 ≤ g := fun g hg => by
    rcases hob2 with h | h <;> rw [h] at hg <;> simp [Value.ownBlock] at hg <;> omega
  have H2 := hide (And.intro hrow2 (And.intro hb2 (And.intro hk2 hob2')))
  clear hrow2 hgr2 hob2 hb2 hk2 hob2'
  go_wp2_with (at_builtin; refine app_row rfl (.tmp 8) (.tmp 10) 26 26 rfl 36 i0 _ 24 Try.underlying26 hi hz0 hz1 hz2 rfl (.slice A2 rows.length c2) rows rfl (H2.out.1.below (below_laid w2 _)) _ 1 [.slice Al nl cl] rfl (Src.ofSlice _ Try.underlying26 ⟨w2.heap.size, 0, none⟩ 1 1 _ rfl (World.news_of_block (cs := #[.slice Al nl cl]) (t := 36) (fr := (0, 0)) (heap_alloc_new w2 _)) (by simp [Value.oneCell'])) (by unfold maxLen; omega) (by omega) ?_)
  intro A3 c3 w3 hrow3 hgr3 hob3
  have hb3 : Below w.heap.size w w3 := grown_new (H2.out.2.1.trans ((below_laid w2 _).mono (by omega))) hgr3 (fun g hg => by have := H2.out.2.2.2 g hg; omega)
  have hk3 : w3.heap[w.heap.size + 1]? = some (.cells #[.slice none 0 0] 28 (0, 0)) := by
    rw [hgr3.block (w.heap.size + 1) (by simp; omega) (fun e => by have := H2.out.2.2.2 _ e.symm; omega), Below.heap_alloc _ _ _ (by omega)]
    exact H2.out.2.2.1
  have hob3' : ∀ g, (Value.slice A3 (rows.length + 1) c3).ownBlock = some g → w.heap.size + 2 ≤ g := fun g hg => by
    rcases hob3 with h | h <;> rw [h] at hg
    · exact H2.out.2.2.2 g hg
    · simp at hg; omega
  have hc3 : w3.cell? ⟨w.heap.size + 1, 0, none⟩ = some (.slice none 0 0) := by rw [cell_block hk3]; rfl
  have hf3 : w3.frozen? ⟨w.heap.size + 1, 0, none⟩ = false := frozen_of_row w3 _ 0 _ _ hk3
  have H3 := hide (And.intro hrow3 (And.intro hb3 (And.intro hob3' hk3)))
  clear hrow3 hgr3 hob3 hb3 hob3' hk3 H2
  go_wp2_with fail
  have hcs : (w3.setCell ⟨w.heap.size + 1, 0, none⟩ (.slice A3 (rows.length + 1) c3)).cell? ⟨w.heap.size + 1, 0, none⟩ = some (.slice A3 (rows.length + 1) c3) := by
    rw [cell_block (heap_setCell_same w3 _ 0 _ _ _ H3.out.2.2.2)]; rfl
  refine bodyPost_ret (v := .agg #[.slice A3 (rows.length + 1) c3]) (by simp [results, Try.results26, go_sem, hcs]) rfl ⟨_, rfl, H3.out.2.1.setCell (by show w.heap.size ≤ w.heap.size + 1; omega) _, H3.out.1.far (p := ⟨w.heap.size + 1, 0, none⟩) (H3.out.1.ne_type H3.out.2.2.2 (by decide)) _, fun g hg => by have := H3.out.2.2.1 g hg; omega⟩

/-- The rows of the document's cells, apart from the blocks named. -/
def RowG (w : World) (bad : Nat → Prop) (r : Value) (l : List Int) : Prop := Row w 30 r (wordsV l) ∧ ∀ g, r.ownBlock = some g → ¬ bad g
structure Mat (w : World) (bad : Nat → Prop) (v : Value) (M : List (List Int)) : Prop where
  ex : ∃ rows : List Value, Row w 36 v rows ∧ rows.length = M.length ∧ ∀ (k : Nat) r l, rows[k]? = some r → M[k]? = some l → RowG w bad r l
  good : ∀ g, v.ownBlock = some g → ¬ bad g

theorem RowG.below {w w' : World} {bad : Nat → Prop} {r : Value} {l : List Int} (h : RowG w bad r l) (hb : Below w.heap.size w w') : RowG w' bad r l := ⟨h.1.below hb, h.2⟩
theorem RowG.keep {w w' : World} {bad bad' : Nat → Prop} {r : Value} {l : List Int} (h : RowG w bad r l) (hb : ∀ k, k < w.heap.size → ¬ bad k → w'.heap[k]? = w.heap[k]?) (hbad : ∀ k, k < w.heap.size → bad' k → bad k) : RowG w' bad' r l :=
  ⟨h.1.keep fun g hg => hb g (h.1.lt g hg) (h.2 g hg), fun g hg hk => h.2 g hg (hbad g (h.1.lt g hg) hk)⟩
theorem Mat.keep {w w' : World} {bad bad' : Nat → Prop} {v : Value} {M : List (List Int)} (h : Mat w bad v M) (hb : ∀ k, k < w.heap.size → ¬ bad k → w'.heap[k]? = w.heap[k]?) (hbad : ∀ k, k < w.heap.size → bad' k → bad k) : Mat w' bad' v M := by
  obtain ⟨⟨rows, hr, hl, hx⟩, hg⟩ := h
  exact ⟨⟨rows, hr.keep fun g h => hb g (hr.lt g h) (hg g h), hl, fun k r l h1 h2 => (hx k r l h1 h2).keep hb hbad⟩, fun g h hk => hg g h (hbad g (hr.lt g h) hk)⟩
theorem Mat.below {w w' : World} {bad : Nat → Prop} {v : Value} {M : List (List Int)} (h : Mat w bad v M) (hb : Below w.heap.size w w') : Mat w' bad v M := h.keep (fun k hk _ => hb.block k hk) fun _ _ h => h

theorem Mat.form {w : World} {bad : Nat → Prop} {v : Value} {M : List (List Int)} (h : Mat w bad v M) : ∃ A n c, v = .slice A n c := by
  obtain ⟨⟨rows, hr, hl, _⟩, _⟩ := h
  obtain ⟨A, c, h, _, _⟩ := hr.form
  exact ⟨A, _, c, h⟩

def lastL (M : List (List Int)) : List Int := M.getD (M.length - 1) []

theorem Mat.last {w : World} {bad : Nat → Prop} {v : Value} {M : List (List Int)} (h : Mat w bad v M) (hp : M ≠ []) : ∃ r rows, Row w 36 v rows ∧ rows.length = M.length ∧ 0 < rows.length ∧ rows[rows.length - 1]? = some r ∧ RowG w bad r (lastL M) := by
  obtain ⟨⟨rows, hr, hl, hx⟩, hg⟩ := h
  have hpos : 0 < M.length := List.length_pos_iff.2 hp
  have h1 : rows[rows.length - 1]? = some rows[rows.length - 1] := List.getElem?_eq_getElem (by omega)
  have h2 : M[M.length - 1]? = some M[M.length - 1] := List.getElem?_eq_getElem (by omega)
  refine ⟨_, rows, hr, hl, by omega, h1, ?_⟩
  have := hx (rows.length - 1) _ _ h1 (by rw [hl]; exact h2)
  simpa [lastL, List.getD_eq_getElem?_getD, h2] using this

/-- What words tells, of a matrix. -/
theorem mwords_any (bad : Nat → Prop) (v : Value) (M : List (List Int)) (w : World) (h : Mat w bad v M) (hp : M ≠ []) (hl : M.length ≤ 1000000) :
    Calls Try.prog 11 #[.agg #[v]] w fun e w' => ∃ r, e = .returned r ∧ RowG w bad r (lastL M) ∧ Below w.heap.size w w' := by
  obtain ⟨r, rows, hr, hlr, hpos, hlast, hg⟩ := h.last hp
  exact (words_any v r rows w hr hpos (by omega) hlast).mono fun e w' h => ⟨r, h.1, hg, h.2⟩

theorem mthen_any (bad : Nat → Prop) (v r : Value) (M : List (List Int)) (l : List Int) (w : World) (h : Mat w bad v M) (hl : M.length ≤ 10000) (hr : RowG w bad r l) (hbad : ∀ g, bad g → g < w.heap.size) :
    Calls Try.prog 26 #[.agg #[v], r] w fun e w' => ∃ v', e = .returned (.agg #[v']) ∧ Below w.heap.size w w' ∧ Mat w' bad v' (M ++ [l]) := by
  obtain ⟨⟨rows, hrow, hlr, hx⟩, hg⟩ := h
  obtain ⟨A, c, rfl, _, _⟩ := hr.1.form
  refine (then_any v A _ c rows w hrow (by omega) (fun u hu => ?_)).mono ?_
  · obtain ⟨k, hk, rfl⟩ := List.getElem_of_mem hu
    obtain ⟨A', c', he, _, _⟩ := (hx k _ _ (List.getElem?_eq_getElem hk) (List.getElem?_eq_getElem (show k < M.length by omega))).1.form
    rw [he]; rfl
  · rintro e w' ⟨v', rfl, hb, hrow', hnew⟩
    refine ⟨v', rfl, hb, ⟨⟨_, hrow', by simp [hlr], fun k r2 l2 h1 h2 => ?_⟩, fun g hg hk => ?_⟩⟩
    · rcases Nat.lt_or_ge k rows.length with hk | hk
      · rw [List.getElem?_append_left hk] at h1
        rw [List.getElem?_append_left (by omega)] at h2
        exact (hx k r2 l2 h1 h2).below hb
      · have hk' : k = rows.length := by
          have := (List.getElem?_eq_some_iff.1 h1).1
          simp at this; omega
        subst hk'
        simp at h1
        rw [hlr] at h2
        simp at h2
        subst h1
        subst h2
        exact hr.below hb
    · have := hnew g hg
      have := hbad g hk
      omega
end Go.Proofs.Ytkhhofokhjbnbaa
