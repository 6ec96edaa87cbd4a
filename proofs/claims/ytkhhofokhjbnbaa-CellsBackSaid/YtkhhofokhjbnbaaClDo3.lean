/- The walk of do, for Add. -/
import Derived.Test.YtkhhofokhjbnbaaClDo2
namespace Go.Proofs.Ytkhhofokhjbnbaa
open Go.RowKit

set_option maxHeartbeats 1600000 in
theorem do_add (P : Nat) (gw gu : Option Nat) (s : Cl.S) (v : Value) (M : List (List Int)) (k n x : Int) (hk1 : k ≠ 1) (hk2 : k ≠ 2) (hk3 : k ≠ 3) (w : World) (h : CelP w P gw gu s.1 s.2) (hm : Mat w (Bad P gw gu) v M) (hp : M ≠ []) (hl : s.1.length ≤ 10000) (hu : s.2.length ≤ 10000) (hML : M.length ≤ 10000) (hll : (lastL M).length ≤ 10000) :
    Calls Try.prog 9 #[.pointer (some ⟨P, 0, none⟩), .agg #[v], .agg #[.int .i64 k, .int .i64 n, .int .u64 x]] w fun e w' => ∃ v', e = .returned (.tuple #[.agg #[v'], .bool (((s.1.length : Int) == ((lastL M).length : Int)))]) ∧ Out w w' P gw gu (Cl.cadd s x) v' (Cl.radd M x) := by
  obtain ⟨A0, n0, c0, rfl⟩ := hm.form
  have HB := hide (below3 w (.slice A0 n0 c0) k n x)
  have HD := hide (Dst.new w (.slice A0 n0 c0) k n x)
  have HC := hide (h.below HB.out)
  have HM := hide (hm.below HB.out)
  have H0 := hide h
  have hbad := HC.out.bad_lt
  have HP := hide hp
  have HBad := hide hbad
  clear h hm hp hbad
  go_enter Try.func9, Try.ntmps9
  go_wp2_with fail
  refine (radd_any _ _ M x _ HM.out HP.out hML hll HBad.out).mono ?_
  rintro e w1 ⟨v1, rfl, hb1, hm1⟩
  obtain ⟨A1, n1, c1, rfl⟩ := hm1.form
  have hD1 := HD.out.step hb1
  have hC1 := HC.out.below hb1
  have hb2 : Below w1.heap.size w1 (w1.alloc (.cells #[.slice A1 n1 c1] 28)) := below_laid w1 _
  have hD2 := hD1.step hb2
  have hC2 := hC1.below hb2
  have hm2 := hm1.below hb2
  have hB2 := HB.out.trans ((hb1.trans (hb2.mono hb1.size)).mono (by have := HB.out.size; omega))
  have hr2 := heap_alloc_new w1 (.cells #[.slice A1 n1 c1] 28)
  have hsz1 : w.heap.size + 3 ≤ w1.heap.size := hD1.size
  have H2 := hide (And.intro hD2 (And.intro hC2 (And.intro hm2 (And.intro hB2 hr2))))
  clear hD1 hC1 hb2 hD2 hC2 hm2 hb1 hm1 hB2 hr2
  go_wp2_with fail
  generalize w1.alloc (.cells #[.slice A1 n1 c1] 28) = W at H2 ⊢
  obtain ⟨hD, hC, hm, hB, hr⟩ := H2.out
  have d1 := hD.c1
  have d2 := hD.c2
  have d3 : W.cell? ⟨w1.heap.size, 0, none⟩ = some (.slice A1 n1 c1) := by rw [cell_block hr]; rfl
  have HX := hide (And.intro hD (And.intro hC (And.intro hm (And.intro hB hr))))
  clear hD hC hm hB hr H2
  refine wp_region_tree [0, 1, 2, 3, 5] (.step 4 true (.step 6 true (.step 7 true (.step 8 false .done .done) .done) (.step 7 true (.step 6 true (.step 8 false .done .done) .done) .done)) .done) (fun w' => w'.cell? ⟨w.heap.size + 1, 1, none⟩ = some (.int .i64 n) ∧ w'.cell? ⟨w.heap.size + 1, 2, none⟩ = some (.int .u64 x) ∧ w'.cell? ⟨w1.heap.size, 0, none⟩ = some (.slice A1 n1 c1)) (by kernel_rfl) (by kernel_rfl) (fun _ _ _ _ _ h => h) ⟨d1, d2, d3⟩ ?_
  intro hne
  simp only [picks, List.filterMap_cons, List.filterMap_nil, List.getElem?_cons_zero, List.getElem?_cons_succ]
  have hu1 : ∀ u : HoldW (fun w' => w'.cell? ⟨w.heap.size + 1, 1, none⟩ = some (.int .i64 n) ∧ w'.cell? ⟨w.heap.size + 1, 2, none⟩ = some (.int .u64 x) ∧ w'.cell? ⟨w1.heap.size, 0, none⟩ = some (.slice A1 n1 c1)), u.w.cell? ⟨w.heap.size + 1, 1, none⟩ = some (.int .i64 n) := fun u => u.ok.1
  have hu2 : ∀ u : HoldW (fun w' => w'.cell? ⟨w.heap.size + 1, 1, none⟩ = some (.int .i64 n) ∧ w'.cell? ⟨w.heap.size + 1, 2, none⟩ = some (.int .u64 x) ∧ w'.cell? ⟨w1.heap.size, 0, none⟩ = some (.slice A1 n1 c1)), u.w.cell? ⟨w.heap.size + 1, 2, none⟩ = some (.int .u64 x) := fun u => u.ok.2.1
  have hu3 : ∀ u : HoldW (fun w' => w'.cell? ⟨w.heap.size + 1, 1, none⟩ = some (.int .i64 n) ∧ w'.cell? ⟨w.heap.size + 1, 2, none⟩ = some (.int .u64 x) ∧ w'.cell? ⟨w1.heap.size, 0, none⟩ = some (.slice A1 n1 c1)), u.w.cell? ⟨w1.heap.size, 0, none⟩ = some (.slice A1 n1 c1) := fun u => u.ok.2.2
  repeat (refine wpHeld_step (fun K hK => ?_); go_simp; refine hK _ ?_; clear hK K)
  refine wpHeld_nil ?_
  clear hu1 hu2 hu3 hne
  refine wpTree_step rfl fun K hK => ?_
  go_wp2_with fail
  obtain ⟨hD, hC, hm, hB, hr⟩ := HX.out
  refine (add_all x (hC.below (below_drewN (Below.refl _ _) 1)) (by omega) (by omega)).mono ?_
  rintro e w2 ⟨rfl, hst⟩
  have hO : Out w w2 P gw gu (Cl.cadd s x) (.slice A1 n1 c1) (Cl.radd M x) := (hst.out (hm.below (below_drewN (Below.refl _ _) 1))).pre (hB.trans ((below_drewN (Below.refl _ W) 1).mono hB.size))
  have hq2 : ∀ j, w.heap.size ≤ j → j < W.heap.size → w2.heap[j]? = W.heap[j]? := fun j hj hj2 => by
    obtain ⟨gw', gu', _, hF, _⟩ := hst
    have hnb := H0.out.bad_old hj
    exact hF.block j hj2 (fun e => hnb (.inl e)) (fun e => hnb (.inr (.inl e))) (fun e => hnb (.inr (.inr e)))
  have hs2 : W.heap.size ≤ w2.heap.size := by obtain ⟨gw', gu', _, hF, _⟩ := hst; exact hF.size
  have hDs := hD.size
  have hD2 := hD.keep hs2 fun j hj hj2 => hq2 j hj (by omega)
  have hr2 := (hq2 w1.heap.size (by omega) (blk_lt hr)).trans hr
  have e1 := hD2.c1
  have e2 := hD2.c2
  have e4 := hD2.c3
  have e5 := hD2.f3
  have hset := hD2.set (.slice A1 n1 c1)
  have e3 : w2.cell? ⟨w1.heap.size, 0, none⟩ = some (.slice A1 n1 c1) := by rw [cell_block hr2]; rfl
  have hkk : ∀ k, k ≠ w.heap.size + 1 + 1 → (w2.setCell ⟨w.heap.size + 1 + 1, 0, none⟩ (.slice A1 n1 c1)).heap[k]? = w2.heap[k]? := fun k hk => Below.heap_setCell _ _ _ _ hk
  have hFs : (w2.setCell ⟨w.heap.size + 1 + 1, 0, none⟩ (.slice A1 n1 c1)).cell? ⟨w.heap.size + 1, 1, none⟩ = some (.int .i64 n) ∧ (w2.setCell ⟨w.heap.size + 1 + 1, 0, none⟩ (.slice A1 n1 c1)).cell? ⟨w.heap.size + 1, 2, none⟩ = some (.int .u64 x) ∧
      (w2.setCell ⟨w.heap.size + 1 + 1, 0, none⟩ (.slice A1 n1 c1)).cell? ⟨w1.heap.size, 0, none⟩ = some (.slice A1 n1 c1) :=
    ⟨(World.cell?_of_block (a := ⟨w.heap.size + 1, 1, none⟩) (hkk _ (by show w.heap.size + 1 ≠ _; omega))).trans e1, (World.cell?_of_block (a := ⟨w.heap.size + 1, 2, none⟩) (hkk _ (by show w.heap.size + 1 ≠ _; omega))).trans e2, (World.cell?_of_block (a := ⟨w1.heap.size, 0, none⟩) (hkk _ (by show w1.heap.size ≠ _; omega))).trans e3⟩
  have hO2 := hO.put hD2.b2 (by omega) (.slice A1 n1 c1)
  have HZ := hide (And.intro hO2 hFs)
  have HE := hide (And.intro e1 (And.intro e2 e3))
  clear hD hC hm hB hr hst hq2 hs2 hDs hD2 hr2 hO hkk hO2 hFs d1 d2 d3 HX
  go_wp2_with fail
  refine chainF (fun _ => HE.out) (hK _ _ ?_)
  clear hK K
  refine wpTree_both rfl (fun K hK => ?_) (wpTree_step rfl fun K hK => ?_)
  · go_wp2_with fail
    refine chainF (fun _ => HE.out) (hK _ _ ?_)
    clear hK K
    refine wpTree_step rfl fun K hK => ?_
    go_wp2_with fail
    refine chainF (fun _ => HZ.out.2) (hK _ _ ?_)
    clear hK K
    refine wpTree_step rfl fun K hK => ?_
    go_wp2_with fail
    refine chainSkip (hK _ _ ?_)
    clear hK K
    refine wpTree_end ?_
    go_wp2_with fail
    refine bodyPost_ret (v := .tuple #[.agg #[.slice A1 n1 c1], .bool (((s.1.length : Int) == ((lastL M).length : Int)))]) (by simp [results, Try.results9, go_sem, hset]) rfl ⟨_, rfl, HZ.out.1⟩
  · go_wp2_with fail
    refine chainF (fun _ => HZ.out.2) (hK _ _ ?_)
    clear hK K
    refine wpTree_step rfl fun K hK => ?_
    go_wp2_with fail
    refine chainF (fun _ => HZ.out.2) (hK _ _ ?_)
    clear hK K
    refine wpTree_step rfl fun K hK => ?_
    go_wp2_with fail
    refine chainSkip (hK _ _ ?_)
    clear hK K
    refine wpTree_end ?_
    go_wp2_with fail
    refine bodyPost_ret (v := .tuple #[.agg #[.slice A1 n1 c1], .bool (((s.1.length : Int) == ((lastL M).length : Int)))]) (by simp [results, Try.results9, go_sem, hset]) rfl ⟨_, rfl, HZ.out.1⟩
end Go.Proofs.Ytkhhofokhjbnbaa
