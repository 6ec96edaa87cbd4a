/- The walk of do, for Get. -/
import Derived.Test.YtkhhofokhjbnbaaClDo3
namespace Go.Proofs.Ytkhhofokhjbnbaa
open Go.RowKit

set_option maxHeartbeats 1600000 in
theorem do_get (P : Nat) (gw gu : Option Nat) (s : Cl.S) (v : Value) (M : List (List Int)) (n x : Int) (w : World) (h : CelP w P gw gu s.1 s.2) (hm : Mat w (Bad P gw gu) v M) (hp : M ≠ []) (hML : M.length ≤ 10000) :
    Calls Try.prog 9 #[.pointer (some ⟨P, 0, none⟩), .agg #[v], .agg #[.int .i64 2, .int .i64 n, .int .u64 x]] w fun e w' => ∃ v', e = .returned (.tuple #[.agg #[v'], .bool (getR s.1 n == getR (lastL M) n)]) ∧ Out w w' P gw gu s v' M := by
  obtain ⟨A0, n0, c0, rfl⟩ := hm.form
  have hB := below3 w (.slice A0 n0 c0) 2 n x
  have hD := Dst.new w (.slice A0 n0 c0) 2 n x
  have hC := h.below hB
  have hM := hm.below hB
  have d1 := hD.c1
  have d2 := hD.c0
  have HX := hide (And.intro hD (And.intro hC (And.intro hM hB)))
  have HP := hide hp
  clear h hm hp hB hD hC hM
  go_enter Try.func9, Try.ntmps9
  go_wp2_with fail
  have hwe : ((w.alloc (.cells #[.slice A0 n0 c0] 28)).alloc (.cells #[.int .i64 2, .int .i64 n, .int .u64 x] 32)).alloc (.cells #[.slice none 0 0] 28) = world3 w (.slice A0 n0 c0) 2 n x := rfl
  rw [hwe]
  generalize world3 w (.slice A0 n0 c0) 2 n x = W at *
  clear hwe
  refine wp_region_tree [0, 1, 2, 3, 5, 6, 7] (.step 4 true (.step 8 true (.step 9 true (.step 10 true (.step 11 false .done .done) .done) (.step 10 true (.step 9 true (.step 11 false .done .done) .done) .done)) .done) .done) (fun w' => w'.cell? ⟨w.heap.size + 1, 1, none⟩ = some (.int .i64 n) ∧ w'.cell? ⟨w.heap.size, 0, none⟩ = some (.slice A0 n0 c0)) (by kernel_rfl) (by kernel_rfl) (fun _ _ _ _ _ h => h) ⟨d1, d2⟩ ?_
  intro hne
  simp only [picks, List.filterMap_cons, List.filterMap_nil, List.getElem?_cons_zero, List.getElem?_cons_succ]
  have hu1 : ∀ u : HoldW (fun w' => w'.cell? ⟨w.heap.size + 1, 1, none⟩ = some (.int .i64 n) ∧ w'.cell? ⟨w.heap.size, 0, none⟩ = some (.slice A0 n0 c0)), u.w.cell? ⟨w.heap.size + 1, 1, none⟩ = some (.int .i64 n) := fun u => u.ok.1
  have hu2 : ∀ u : HoldW (fun w' => w'.cell? ⟨w.heap.size + 1, 1, none⟩ = some (.int .i64 n) ∧ w'.cell? ⟨w.heap.size, 0, none⟩ = some (.slice A0 n0 c0)), u.w.cell? ⟨w.heap.size, 0, none⟩ = some (.slice A0 n0 c0) := fun u => u.ok.2
  repeat (refine wpHeld_step (fun K hK => ?_); go_simp; refine hK _ ?_; clear hK K)
  refine wpHeld_nil ?_
  clear hu1 hu2 hne
  obtain ⟨hD, hC, hM, hB⟩ := HX.out
  have hbd : Below W.heap.size W W.drew := below_drewN (Below.refl _ _) 1
  have HC := hide (get_all n (hC.below hbd))
  have HG := hide (rget_any _ _ M n W.drew (hM.below hbd) HP.out hML)
  have hDd := hD.step hbd
  have HY := hide (And.intro hDd (And.intro (hC.below hbd) (And.intro (hM.below hbd) (hB.trans (hbd.mono hB.size)))))
  clear hD hC hM hB hbd hDd HX
  refine wpTree_step rfl fun K hK => ?_
  go_wp2_with fail
  refine HC.out.mono ?_
  rintro e w1 ⟨rfl, rfl⟩
  go_wp2_with fail
  refine chainF (fun _ => ⟨d1, d2⟩) (hK _ _ ?_)
  clear hK K
  refine wpTree_step rfl fun K hK => ?_
  go_wp2_with fail
  refine HG.out.mono ?_
  rintro e w2 ⟨rfl, hb2⟩
  obtain ⟨hD, hC, hM, hB⟩ := HY.out
  have hD2 := hD.step hb2
  have hC2 := hC.below hb2
  have hM2 := hM.below hb2
  have hB2 := hB.trans (hb2.mono hB.size)
  have e1 := hD2.c1
  have e2 := hD2.c0
  have e4 := hD2.c3
  have e5 := hD2.f3
  have hset := hD2.set (.slice A0 n0 c0)
  have hkk : ∀ k, k ≠ w.heap.size + 1 + 1 → (w2.setCell ⟨w.heap.size + 1 + 1, 0, none⟩ (.slice A0 n0 c0)).heap[k]? = w2.heap[k]? := fun k hk => Below.heap_setCell _ _ _ _ hk
  have hFs : (w2.setCell ⟨w.heap.size + 1 + 1, 0, none⟩ (.slice A0 n0 c0)).cell? ⟨w.heap.size + 1, 1, none⟩ = some (.int .i64 n) ∧ (w2.setCell ⟨w.heap.size + 1 + 1, 0, none⟩ (.slice A0 n0 c0)).cell? ⟨w.heap.size, 0, none⟩ = some (.slice A0 n0 c0) :=
    ⟨(World.cell?_of_block (a := ⟨w.heap.size + 1, 1, none⟩) (hkk _ (by show w.heap.size + 1 ≠ _; omega))).trans e1, (World.cell?_of_block (a := ⟨w.heap.size, 0, none⟩) (hkk _ (by show w.heap.size ≠ _; omega))).trans e2⟩
  have hO : Out w w2 P gw gu s (.slice A0 n0 c0) M := ⟨gw, gu, hC2, Fr.of_below hB2, .inl rfl, .inl rfl, hM2⟩
  have hO2 := hO.put hD2.b2 (by omega) (.slice A0 n0 c0)
  have HZ := hide (And.intro hO2 hFs)
  have HE := hide (And.intro e1 e2)
  clear hD hC hM hB hD2 hC2 hM2 hB2 hkk hFs hO hO2 hb2 HY d1 d2
  go_wp2_with fail
  refine chainF (fun _ => HE.out) (hK _ _ ?_)
  clear hK K
  refine wpTree_both rfl (fun K hK => ?_) (wpTree_step rfl fun K hK => ?_)
  · go_wp2_with fail
    refine chainF (fun _ => HE.out) (hK _ _ ?_)
    clear hK K
    refine wpTree_step rfl fun K hK => ?_
    go_wp2_with fail
    refine chainF (fun _ => HZ.out.2) (hK _ _ ?_)
    clear hK K
    refine wpTree_step rfl fun K hK => ?_
    go_wp2_with fail
    refine chainSkip (hK _ _ ?_)
    clear hK K
    refine wpTree_end ?_
    go_wp2_with fail
    refine bodyPost_ret (v := .tuple #[.agg #[.slice A0 n0 c0], .bool (getR s.1 n == getR (lastL M) n)]) (by simp [results, Try.results9, go_sem, hset]) rfl ⟨_, rfl, HZ.out.1⟩
  · go_wp2_with fail
    refine chainF (fun _ => HZ.out.2) (hK _ _ ?_)
    clear hK K
    refine wpTree_step rfl fun K hK => ?_
    go_wp2_with fail
    refine chainF (fun _ => HZ.out.2) (hK _ _ ?_)
    clear hK K
    refine wpTree_step rfl fun K hK => ?_
    go_wp2_with fail
    refine chainSkip (hK _ _ ?_)
    clear hK K
    refine wpTree_end ?_
    go_wp2_with fail
    refine bodyPost_ret (v := .tuple #[.agg #[.slice A0 n0 c0], .bool (getR s.1 n == getR (lastL M) n)]) (by simp [results, Try.results9, go_sem, hset]) rfl ⟨_, rfl, HZ.out.1⟩
end Go.Proofs.Ytkhhofokhjbnbaa
