/- The walk of do: one call, both ways. -/
import Derived.Test.YtkhhofokhjbnbaaClAll
import Derived.Test.YtkhhofokhjbnbaaTree
namespace Go.Proofs.Ytkhhofokhjbnbaa
open Go.RowKit

def Bad (P : Nat) (gw gu : Option Nat) (g : Nat) : Prop := g = P ∨ gw = some g ∨ gu = some g

/-- Both behind one call more. -/
def Out (w w' : World) (P : Nat) (gw gu : Option Nat) (s : Cl.S) (v : Value) (M : List (List Int)) : Prop :=
  ∃ gw' gu', CelP w' P gw' gu' s.1 s.2 ∧ Fr w w' P gw gu ∧ NewOr w gw gw' ∧ NewOr w gu gu' ∧ Mat w' (Bad P gw' gu') v M

section
variable {w w' W W' : World} {P : Nat} {gw gu gw' gu' : Option Nat} {s : Cl.S} {v : Value} {M : List (List Int)}
theorem Bad.back {k : Nat} (h : Bad P gw' gu' k) (hk : k < w.heap.size) (h1 : NewOr w gw gw') (h2 : NewOr w gu gu') : Bad P gw gu k := by
  rcases h with h | h | h
  · exact .inl h
  · rcases h1 with h1 | ⟨g, h1, hg⟩
    · exact .inr (.inl (h1 ▸ h))
    · rw [h1] at h; simp only [Option.some.injEq] at h; omega
  · rcases h2 with h1 | ⟨g, h1, hg⟩
    · exact .inr (.inr (h1 ▸ h))
    · rw [h1] at h; simp only [Option.some.injEq] at h; omega
theorem CelP.bad_lt (h : CelP w P gw gu s.1 s.2) : ∀ g, Bad P gw gu g → g < w.heap.size := by
  obtain ⟨vw, vu, fs, hC, rfl, rfl, _⟩ := h
  rintro g (rfl | h | h)
  · exact hC.lt
  · exact hC.words.lt g h
  · exact hC.undo.lt g h
theorem Step.out (h : Step w w' P gw gu s.1 s.2) (hm : Mat w (Bad P gw gu) v M) : Out w w' P gw gu s v M := by
  obtain ⟨gw', gu', hC, hF, h1, h2⟩ := h
  exact ⟨gw', gu', hC, hF, h1, h2, hm.keep (fun k hk hb => hF.block k hk (fun e => hb (.inl e)) (fun e => hb (.inr (.inl e))) (fun e => hb (.inr (.inr e)))) fun k hk hb => Bad.back hb hk h1 h2⟩
theorem Out.pre (hb : Below w.heap.size w W) (h : Out W w' P gw gu s v M) : Out w w' P gw gu s v M := by
  obtain ⟨gw', gu', hC, hF, h1, h2, hm⟩ := h
  exact ⟨gw', gu', hC, (Fr.of_below hb).trans (.inl rfl) (.inl rfl) hF, (NewOr.refl w gw).trans hb.size h1, (NewOr.refl w gu).trans hb.size h2, hm⟩
/-- A block that holds the document's cells is none of theirs. -/
theorem CelP.far (h : CelP w P gw gu s.1 s.2) {b : Nat} {cs : Array Value} (hb : w.heap[b]? = some (.cells cs 28 (0, 0))) (u : Value) : CelP (w.setCell ⟨b, 0, none⟩ u) P gw gu s.1 s.2 := by
  obtain ⟨vw, vu, fs, hC, h1, h2, h3⟩ := h
  have hset : ∀ k, k ≠ b → (w.setCell ⟨b, 0, none⟩ u).heap[k]? = w.heap[k]? := fun k hk => Below.heap_setCell _ _ _ _ hk
  have hPb : P ≠ b := fun e => by have := hC.blk; rw [e, hb] at this; simp only [Option.some.injEq, Obj.cells.injEq] at this; exact absurd this.2.1 (by decide)
  refine ⟨vw, vu, fs, ⟨(hset P hPb).trans hC.blk, hC.words.far (p := ⟨b, 0, none⟩) (hC.words.ne_type hb (by decide)) u, hC.undo.far (p := ⟨b, 0, none⟩) (hC.undo.ne_type hb (by decide)) u, hC.len, fun k f x h1 h2 => (hC.funcs k f x h1 h2).keep (fun k t cs' hc ht => hset k fun e => ?_) fun k _ hn => hn⟩, h1, h2, h3⟩
  rw [e, hb] at hc
  simp only [Option.some.injEq, Obj.cells.injEq] at hc
  rcases ht with h | h | h
  · rw [h] at hc; exact absurd hc.2.1 (by decide)
  · rw [h] at hc; exact absurd hc.2.1 (by decide)
  · rw [h.1] at hc; exact absurd hc.2.1 (by decide)
theorem Mat.far {bad : Nat → Prop} (hm : Mat W bad v M) {b : Nat} {cs : Array Value} (hb : W.heap[b]? = some (.cells cs 28 (0, 0))) (u : Value) : Mat (W.setCell ⟨b, 0, none⟩ u) bad v M := by
  obtain ⟨⟨rows, hr, hl, hx⟩, hg⟩ := hm
  exact ⟨⟨rows, hr.far (p := ⟨b, 0, none⟩) (hr.ne_type hb (by decide)) u, hl, fun k r l h1 h2 => ⟨(hx k r l h1 h2).1.far (p := ⟨b, 0, none⟩) ((hx k r l h1 h2).1.ne_type hb (by decide)) u, (hx k r l h1 h2).2⟩⟩, hg⟩
/-- The result is written. -/
theorem Out.put (h : Out w W P gw gu s v M) {b : Nat} {cs : Array Value} (hb : W.heap[b]? = some (.cells cs 28 (0, 0))) (hn : w.heap.size ≤ b) (u : Value) : Out w (W.setCell ⟨b, 0, none⟩ u) P gw gu s v M := by
  obtain ⟨gw', gu', hC, hF, h1, h2, hm⟩ := h
  refine ⟨gw', gu', hC.far hb u, ⟨hF.os, hF.tape, hF.output, by simpa [World.setCell] using hF.size, fun k hk h3 h4 h5 => (Below.heap_setCell _ _ _ _ (show k ≠ b by omega)).trans (hF.block k hk h3 h4 h5)⟩, h1, h2, hm.far hb u⟩
theorem Out.below (h : Out w W P gw gu s v M) (hb : Below W.heap.size W W') : Out w W' P gw gu s v M := by
  obtain ⟨gw', gu', hC, hF, h1, h2, hm⟩ := h
  exact ⟨gw', gu', hC.below hb, hF.trans (.inl rfl) (.inl rfl) (Fr.of_below hb), h1, h2, hm.below hb⟩
/-- A new block stays. -/
theorem Out.block (h : Out w W P gw gu s v M) {k : Nat} (hk : k < w.heap.size) (hb : ¬ Bad P gw gu k) : W.heap[k]? = w.heap[k]? := by
  obtain ⟨gw', gu', hC, hF, h1, h2, hm⟩ := h
  exact hF.block k hk (fun e => hb (.inl e)) (fun e => hb (.inr (.inl e))) (fun e => hb (.inr (.inr e)))
end

/-- The boxes of do. -/
structure Dst (w W : World) (v : Value) (k n x : Int) : Prop where
  size : w.heap.size + 3 ≤ W.heap.size
  b0 : W.heap[w.heap.size]? = some (.cells #[v] 28 (0, 0))
  b1 : W.heap[w.heap.size + 1]? = some (.cells #[.int .i64 k, .int .i64 n, .int .u64 x] 32 (0, 0))
  b2 : W.heap[w.heap.size + 1 + 1]? = some (.cells #[.slice none 0 0] 28 (0, 0))
section
variable {w W W' : World} {v : Value} {k n x : Int}
abbrev world3 (w : World) (v : Value) (k n x : Int) : World := ((w.alloc (.cells #[v] 28)).alloc (.cells #[.int .i64 k, .int .i64 n, .int .u64 x] 32)).alloc (.cells #[.slice none 0 0] 28)
theorem below3 (w : World) (v : Value) (k n x : Int) : Below w.heap.size w (world3 w v k n x) := (((Below.refl _ _).alloc (Nat.le_refl _) _).alloc (by simp) _).alloc (by simp; omega) _
theorem Dst.new (w : World) (v : Value) (k n x : Int) : Dst w (world3 w v k n x) v k n x := by
  refine ⟨by simp, ?_, ?_, ?_⟩
  · rw [Below.heap_alloc _ _ _ (by simp; omega), Below.heap_alloc _ _ _ (by simp)]; exact heap_alloc_new w _
  · rw [Below.heap_alloc _ _ _ (by simp)]
    have := heap_alloc_new (w.alloc (.cells #[v] 28)) (.cells #[.int .i64 k, .int .i64 n, .int .u64 x] 32)
    simpa using this
  · have := heap_alloc_new ((w.alloc (.cells #[v] 28)).alloc (.cells #[.int .i64 k, .int .i64 n, .int .u64 x] 32)) (.cells #[.slice none 0 0] 28)
    simpa using this
theorem Dst.keep (h : Dst w W v k n x) (hs : W.heap.size ≤ W'.heap.size) (hk : ∀ j, w.heap.size ≤ j → j < w.heap.size + 3 → W'.heap[j]? = W.heap[j]?) : Dst w W' v k n x :=
  ⟨Nat.le_trans h.size hs, (hk _ (by omega) (by omega)).trans h.b0, (hk _ (by omega) (by omega)).trans h.b1, (hk _ (by omega) (by omega)).trans h.b2⟩
theorem Dst.step (h : Dst w W v k n x) (hb : Below W.heap.size W W') : Dst w W' v k n x := h.keep hb.size fun j _ hj => hb.block j (by have := h.size; omega)
theorem Dst.c0 (h : Dst w W v k n x) : W.cell? ⟨w.heap.size, 0, none⟩ = some v := by rw [cell_block h.b0]; rfl
theorem Dst.c1 (h : Dst w W v k n x) : W.cell? ⟨w.heap.size + 1, 1, none⟩ = some (.int .i64 n) := by rw [cell_block h.b1]; rfl
theorem Dst.c2 (h : Dst w W v k n x) : W.cell? ⟨w.heap.size + 1, 2, none⟩ = some (.int .u64 x) := by rw [cell_block h.b1]; rfl
theorem Dst.c3 (h : Dst w W v k n x) : W.cell? ⟨w.heap.size + 1 + 1, 0, none⟩ = some (.slice none 0 0) := by rw [cell_block h.b2]; rfl
theorem Dst.f3 (h : Dst w W v k n x) : W.frozen? ⟨w.heap.size + 1 + 1, 0, none⟩ = false := frozen_of_row W _ 0 _ _ h.b2
theorem Dst.set (h : Dst w W v k n x) (u : Value) : (W.setCell ⟨w.heap.size + 1 + 1, 0, none⟩ u).cell? ⟨w.heap.size + 1 + 1, 0, none⟩ = some u := by
  rw [cell_block (heap_setCell_same W _ 0 _ _ _ h.b2)]; rfl
end

/-- The bad blocks lie ahead of the boxes. -/
theorem CelP.bad_old {w : World} {P : Nat} {gw gu : Option Nat} {s : Cl.S} (h : CelP w P gw gu s.1 s.2) {k : Nat} (hk : w.heap.size ≤ k) : ¬ Bad P gw gu k := fun hb => by have := h.bad_lt k hb; omega

set_option maxHeartbeats 1600000 in
theorem do_set (P : Nat) (gw gu : Option Nat) (s : Cl.S) (v : Value) (M : List (List Int)) (n x : Int) (w : World) (h : CelP w P gw gu s.1 s.2) (hm : Mat w (Bad P gw gu) v M) (hp : M ≠ []) (hl : s.1.length ≤ 10000) (hu : s.2.length ≤ 10000) (hML : M.length ≤ 10000) (hll : (lastL M).length ≤ 10000) :
    Calls Try.prog 9 #[.pointer (some ⟨P, 0, none⟩), .agg #[v], .agg #[.int .i64 1, .int .i64 n, .int .u64 x]] w fun e w' => ∃ v', e = .returned (.tuple #[.agg #[v'], .bool (inR n s.1.length == inR n (lastL M).length)]) ∧ Out w w' P gw gu (Cl.cset s n x) v' (Cl.rset M n x) := by
  obtain ⟨A0, n0, c0, rfl⟩ := hm.form
  have HB := hide (below3 w (.slice A0 n0 c0) 1 n x)
  have HD := hide (Dst.new w (.slice A0 n0 c0) 1 n x)
  have HC := hide (h.below HB.out)
  have HM := hide (hm.below HB.out)
  have H0 := hide h
  have hbad := HC.out.bad_lt
  have HP := hide hp
  have HBad := hide hbad
  clear h hm hp hbad
  go_enter Try.func9, Try.ntmps9
  go_wp2_with fail
  refine (rset_all n x HM.out HP.out hML hll HBad.out).mono ?_
  rintro e w1 ⟨v1, rfl, hb1, hm1⟩
  obtain ⟨A1, n1, c1, rfl⟩ := hm1.form
  have hD1 := HD.out.step hb1
  have hC1 := HC.out.below hb1
  have hb2 : Below w1.heap.size w1 (w1.alloc (.cells #[.slice A1 n1 c1] 28)) := below_laid w1 _
  have hD2 := hD1.step hb2
  have hC2 := hC1.below hb2
  have hm2 := hm1.below hb2
  have hB2 := HB.out.trans ((hb1.trans (hb2.mono hb1.size)).mono (by have := HB.out.size; omega))
  have hr2 := heap_alloc_new w1 (.cells #[.slice A1 n1 c1] 28)
  have hsz1 : w.heap.size + 3 ≤ w1.heap.size := hD1.size
  have H2 := hide (And.intro hD2 (And.intro hC2 (And.intro hm2 (And.intro hB2 hr2))))
  clear hD1 hC1 hb2 hD2 hC2 hm2 hb1 hm1 hB2 hr2
  go_wp2_with fail
  generalize w1.alloc (.cells #[.slice A1 n1 c1] 28) = W at H2 ⊢
  obtain ⟨hD, hC, hm, hB, hr⟩ := H2.out
  have d1 := hD.c1
  have d2 := hD.c2
  have d3 : W.cell? ⟨w1.heap.size, 0, none⟩ = some (.slice A1 n1 c1) := by rw [cell_block hr]; rfl
  have HX := hide (And.intro hD (And.intro hC (And.intro hm (And.intro hB hr))))
  clear hD hC hm hB hr H2
  refine wp_region_tree [0, 1, 2, 3, 4, 5, 7] (.step 6 true (.step 8 true (.step 9 true (.step 10 false .done .done) .done) (.step 9 true (.step 8 true (.step 10 false .done .done) .done) .done)) .done) (fun w' => w'.cell? ⟨w.heap.size + 1, 1, none⟩ = some (.int .i64 n) ∧ w'.cell? ⟨w.heap.size + 1, 2, none⟩ = some (.int .u64 x) ∧ w'.cell? ⟨w1.heap.size, 0, none⟩ = some (.slice A1 n1 c1)) (by kernel_rfl) (by kernel_rfl) (fun _ _ _ _ _ h => h) ⟨d1, d2, d3⟩ ?_
  intro hne
  simp only [picks, List.filterMap_cons, List.filterMap_nil, List.getElem?_cons_zero, List.getElem?_cons_succ]
  have hu1 : ∀ u : HoldW (fun w' => w'.cell? ⟨w.heap.size + 1, 1, none⟩ = some (.int .i64 n) ∧ w'.cell? ⟨w.heap.size + 1, 2, none⟩ = some (.int .u64 x) ∧ w'.cell? ⟨w1.heap.size, 0, none⟩ = some (.slice A1 n1 c1)), u.w.cell? ⟨w.heap.size + 1, 1, none⟩ = some (.int .i64 n) := fun u => u.ok.1
  have hu2 : ∀ u : HoldW (fun w' => w'.cell? ⟨w.heap.size + 1, 1, none⟩ = some (.int .i64 n) ∧ w'.cell? ⟨w.heap.size + 1, 2, none⟩ = some (.int .u64 x) ∧ w'.cell? ⟨w1.heap.size, 0, none⟩ = some (.slice A1 n1 c1)), u.w.cell? ⟨w.heap.size + 1, 2, none⟩ = some (.int .u64 x) := fun u => u.ok.2.1
  have hu3 : ∀ u : HoldW (fun w' => w'.cell? ⟨w.heap.size + 1, 1, none⟩ = some (.int .i64 n) ∧ w'.cell? ⟨w.heap.size + 1, 2, none⟩ = some (.int .u64 x) ∧ w'.cell? ⟨w1.heap.size, 0, none⟩ = some (.slice A1 n1 c1)), u.w.cell? ⟨w1.heap.size, 0, none⟩ = some (.slice A1 n1 c1) := fun u => u.ok.2.2
  repeat (refine wpHeld_step (fun K hK => ?_); go_simp; refine hK _ ?_; clear hK K)
  refine wpHeld_nil ?_
  clear hu1 hu2 hu3 hne
  refine wpTree_step rfl fun K hK => ?_
  go_wp2_with fail
  obtain ⟨hD, hC, hm, hB, hr⟩ := HX.out
  refine (set_all n x (hC.below (below_drewN (Below.refl _ _) 1)) (by omega) (by omega)).mono ?_
  rintro e w2 ⟨rfl, hst⟩
  have hO : Out w w2 P gw gu (Cl.cset s n x) (.slice A1 n1 c1) (Cl.rset M n x) := (hst.out (hm.below (below_drewN (Below.refl _ _) 1))).pre (hB.trans ((below_drewN (Below.refl _ W) 1).mono hB.size))
  have hk2 : ∀ j, w.heap.size ≤ j → j < W.heap.size → w2.heap[j]? = W.heap[j]? := fun j hj hj2 => by
    obtain ⟨gw', gu', _, hF, _⟩ := hst
    have hnb := H0.out.bad_old hj
    exact hF.block j hj2 (fun e => hnb (.inl e)) (fun e => hnb (.inr (.inl e))) (fun e => hnb (.inr (.inr e)))
  have hs2 : W.heap.size ≤ w2.heap.size := by obtain ⟨gw', gu', _, hF, _⟩ := hst; exact hF.size
  have hDs := hD.size
  have hD2 := hD.keep hs2 fun j hj hj2 => hk2 j hj (by omega)
  have hr2 := (hk2 w1.heap.size (by omega) (blk_lt hr)).trans hr
  have e1 := hD2.c1
  have e2 := hD2.c2
  have e4 := hD2.c3
  have e5 := hD2.f3
  have hset := hD2.set (.slice A1 n1 c1)
  have e3 : w2.cell? ⟨w1.heap.size, 0, none⟩ = some (.slice A1 n1 c1) := by rw [cell_block hr2]; rfl
  have hkk : ∀ k, k ≠ w.heap.size + 1 + 1 → (w2.setCell ⟨w.heap.size + 1 + 1, 0, none⟩ (.slice A1 n1 c1)).heap[k]? = w2.heap[k]? := fun k hk => Below.heap_setCell _ _ _ _ hk
  have hFs : (w2.setCell ⟨w.heap.size + 1 + 1, 0, none⟩ (.slice A1 n1 c1)).cell? ⟨w.heap.size + 1, 1, none⟩ = some (.int .i64 n) ∧ (w2.setCell ⟨w.heap.size + 1 + 1, 0, none⟩ (.slice A1 n1 c1)).cell? ⟨w.heap.size + 1, 2, none⟩ = some (.int .u64 x) ∧
      (w2.setCell ⟨w.heap.size + 1 + 1, 0, none⟩ (.slice A1 n1 c1)).cell? ⟨w1.heap.size, 0, none⟩ = some (.slice A1 n1 c1) :=
    ⟨(World.cell?_of_block (a := ⟨w.heap.size + 1, 1, none⟩) (hkk _ (by show w.heap.size + 1 ≠ _; omega))).trans e1, (World.cell?_of_block (a := ⟨w.heap.size + 1, 2, none⟩) (hkk _ (by show w.heap.size + 1 ≠ _; omega))).trans e2, (World.cell?_of_block (a := ⟨w1.heap.size, 0, none⟩) (hkk _ (by show w1.heap.size ≠ _; omega))).trans e3⟩
  have hO2 := hO.put hD2.b2 (by omega) (.slice A1 n1 c1)
  have HZ := hide (And.intro hO2 hFs)
  have HE := hide (And.intro e1 (And.intro e2 e3))
  clear hD hC hm hB hr hst hk2 hs2 hDs hD2 hr2 hO hkk hO2 hFs d1 d2 d3 HX
  go_wp2_with fail
  refine chainF (fun _ => HE.out) (hK _ _ ?_)
  clear hK K
  refine wpTree_both rfl (fun K hK => ?_) (wpTree_step rfl fun K hK => ?_)
  · go_wp2_with fail
    refine chainF (fun _ => HE.out) (hK _ _ ?_)
    clear hK K
    refine wpTree_step rfl fun K hK => ?_
    go_wp2_with fail
    refine chainF (fun _ => HZ.out.2) (hK _ _ ?_)
    clear hK K
    refine wpTree_step rfl fun K hK => ?_
    go_wp2_with fail
    refine chainSkip (hK _ _ ?_)
    clear hK K
    refine wpTree_end ?_
    go_wp2_with fail
    refine bodyPost_ret (v := .tuple #[.agg #[.slice A1 n1 c1], .bool (inR n s.1.length == inR n (lastL M).length)]) (by simp [results, Try.results9, go_sem, hset]) rfl ⟨_, rfl, HZ.out.1⟩
  · go_wp2_with fail
    refine chainF (fun _ => HZ.out.2) (hK _ _ ?_)
    clear hK K
    refine wpTree_step rfl fun K hK => ?_
    go_wp2_with fail
    refine chainF (fun _ => HZ.out.2) (hK _ _ ?_)
    clear hK K
    refine wpTree_step rfl fun K hK => ?_
    go_wp2_with fail
    refine chainSkip (hK _ _ ?_)
    clear hK K
    refine wpTree_end ?_
    go_wp2_with fail
    refine bodyPost_ret (v := .tuple #[.agg #[.slice A1 n1 c1], .bool (inR n s.1.length == inR n (lastL M).length)]) (by simp [results, Try.results9, go_sem, hset]) rfl ⟨_, rfl, HZ.out.1⟩
end Go.Proofs.Ytkhhofokhjbnbaa
