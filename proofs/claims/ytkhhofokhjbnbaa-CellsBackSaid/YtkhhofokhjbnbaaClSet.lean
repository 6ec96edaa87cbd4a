/- The walks of New and Set, and of Undo where the time is not yet. -/
import Derived.Test.YtkhhofokhjbnbaaClBack
namespace Go.Proofs.Ytkhhofokhjbnbaa
open Go.RowKit

theorem undo_no (P n c : Nat) (A : Option Addr) (m : Int) (w : World) (h : w.cell? ⟨P, 1, none⟩ = some (.slice A n c)) (hm : n < m) :
    Calls Try.prog 16 #[.pointer (some ⟨P, 0, none⟩), .int .i64 m] w fun e w' => e = .returned (.bool false) ∧ w = w' := by
  go_enter Try.func16, Try.ntmps16
  go_wp2_with fail
  go_ret
  exact ⟨rfl, rfl⟩

theorem new_any (w : World) : Calls Try.prog 7 #[] w fun e w' => e = .returned (.pointer (some ⟨w.heap.size, 0, none⟩)) ∧ Below w.heap.size w w' ∧ CelP w' w.heap.size none none [] [] ∧ w.heap.size < w'.heap.size := by
  go_enter Try.func7, Try.ntmps7
  go_wp2_with fail
  go_ret
  refine ⟨rfl, below_laid w _, ⟨.slice none 0 0, .slice none 0 0, [], ⟨heap_alloc_new w _, Row.nil, Row.nil, rfl, fun k f u h => by simp at h⟩, rfl, rfl, Cl.ok_nil _⟩, by simp⟩

theorem set_out (P n c : Nat) (A : Option Addr) (i x : Int) (w : World) (h : w.cell? ⟨P, 0, none⟩ = some (.slice A n c)) (hP : P < w.heap.size) (hi : inR i n = false) :
    Calls Try.prog 18 #[.pointer (some ⟨P, 0, none⟩), .int .i64 i, .int .u64 x] w fun e w' => e = .returned (.bool false) ∧ Below w.heap.size w w' := by
  have HC := fun W : World => is_any P n c A i W
  rw [hi] at HC
  have HC := hide HC
  have HB := hide (box2 w (.pointer (some ⟨P, 0, none⟩)) (.int .i64 i) 24 3).1
  have hcell := (HB.out.cell (p := ⟨P, 0, none⟩) (by exact hP)).trans h
  go_enter Try.func18, Try.ntmps18
  go_wp2_with fail
  refine (HC.out _ hcell).mono ?_
  rintro e w' ⟨rfl, rfl⟩
  go_wp2_with fail
  go_ret
  exact ⟨rfl, HB.out⟩

set_option maxHeartbeats 1600000 in
theorem set_same (P i : Nat) (x : Int) (w : World) {vw vu : Value} {ws : List Int} {fs : List Value} {us : List Cl.U} (h : Cel w P vw vu ws fs us) (hi : i < ws.length) (hx : ws.getD i 0 = x) :
    Calls Try.prog 18 #[.pointer (some ⟨P, 0, none⟩), .int .i64 i, .int .u64 x] w fun e w' => e = .returned (.bool true) ∧ Below w.heap.size w w' := by
  obtain ⟨A, c, rfl, hc, hm⟩ := h.words.form
  have hlw : (wordsV ws).length = ws.length := by simp [wordsV]
  rw [hlw] at hc h
  obtain ⟨g, rfl⟩ := h.words.addr (by rw [hlw]; omega)
  have h0 := h.cell0
  have hP := h.lt
  have HWlt := hide (h.words.lt g rfl)
  obtain ⟨hbW, hzW, hcW1, hcW2⟩ := box2 w (.pointer (some ⟨P, 0, none⟩)) (.int .i64 i) 24 3
  have hBc : ((w.alloc (.cells #[.pointer (some ⟨P, 0, none⟩)] 24)).alloc (.cells #[.int .i64 i] 3)).heap[w.heap.size]? = some (.cells #[.pointer (some ⟨P, 0, none⟩)] 24 (0, 0)) := by
    rw [Below.heap_alloc _ _ _ (by simp)]; exact heap_alloc_new w _
  have hBn : ((w.alloc (.cells #[.pointer (some ⟨P, 0, none⟩)] 24)).alloc (.cells #[.int .i64 i] 3)).heap[w.heap.size + 1]? = some (.cells #[.int .i64 i] 3 (0, 0)) := by
    have := heap_alloc_new (w.alloc (.cells #[.pointer (some ⟨P, 0, none⟩)] 24)) (.cells #[.int .i64 i] 3)
    simpa using this
  have hW := h.below hbW
  have HH := hide (And.intro hW (And.intro hbW (And.intro hzW (And.intro hBc hBn))))
  have HL := hide hlw
  have HI := hide (is_any P ws.length c (some ⟨g, 0, none⟩) i)
  have hin : inR i ws.length = true := by simp [inR]; omega
  have HIN := hide hin
  have hi0 : (0 : Int) ≤ i := by omega
  have hi1 : (i : Int) < ws.length := by omega
  clear hW hbW hzW hcW1 hcW2 hlw hc hm  h hBc hBn hin
  go_enter Try.func18, Try.ntmps18
  go_wp2_with fail
  generalize (w.alloc (.cells #[.pointer (some ⟨P, 0, none⟩)] 24)).alloc (.cells #[.int .i64 i] 3) = W at HH ⊢
  obtain ⟨hW, hbW, hzW, hBc, hBn⟩ := HH.out
  have hc0 := hW.cell0
  have HBc := hide (And.intro hBc hBn)
  have HW := hide hW
  have HbW := hide hbW
  have hcc : W.cell? ⟨w.heap.size, 0, none⟩ = some (.pointer (some ⟨P, 0, none⟩)) := by rw [cell_block hBc]; rfl
  have hci : W.cell? ⟨w.heap.size + 1, 0, none⟩ = some (.int .i64 i) := by rw [cell_block hBn]; rfl
  clear hW hbW hBc hBn HH h0
  refine (HI.out W hc0).mono ?_
  rintro e w' ⟨rfl, rfl⟩
  rw [HIN.out]
  go_wp2_with fail
  have hcg : W.cell? ⟨g, i, none⟩ = some (.int .u64 (ws.getD i 0)) := by
    rw [HW.out.words.cell (by rw [HL.out]; exact hi)]
    simp [wordsV, List.getElem?_eq_getElem hi, List.getD_eq_getElem?_getD]
  rw [hx] at hcg
  -- the word that was
  refine wp_region_chain [0, 1, 2, 3, 4, 5, 6] [(7, true), (8, false)] (fun w' => w'.cell? ⟨w.heap.size, 0, none⟩ = some (.pointer (some ⟨P, 0, none⟩)) ∧ w'.cell? ⟨w.heap.size + 1, 0, none⟩ = some (.int .i64 i) ∧ w'.cell? ⟨P, 0, none⟩ = some (.slice (some ⟨g, 0, none⟩) ws.length c) ∧ w'.cell? ⟨g, i, none⟩ = some (.int .u64 x)) (by kernel_rfl) (by kernel_rfl) (fun _ _ _ _ _ h => h) ⟨hcc, hci, hc0, hcg⟩ ?_
  intro hne
  simp only [picks, picksW, List.filterMap_cons, List.filterMap_nil, List.getElem?_cons_zero, List.getElem?_cons_succ, Option.map_some]
  have hu1 : ∀ u : HoldW (fun w' => w'.cell? ⟨w.heap.size, 0, none⟩ = some (.pointer (some ⟨P, 0, none⟩)) ∧ w'.cell? ⟨w.heap.size + 1, 0, none⟩ = some (.int .i64 i) ∧ w'.cell? ⟨P, 0, none⟩ = some (.slice (some ⟨g, 0, none⟩) ws.length c) ∧ w'.cell? ⟨g, i, none⟩ = some (.int .u64 x)), u.w.cell? ⟨w.heap.size, 0, none⟩ = some (.pointer (some ⟨P, 0, none⟩)) := fun u => u.ok.1
  have hu2 : ∀ u : HoldW (fun w' => w'.cell? ⟨w.heap.size, 0, none⟩ = some (.pointer (some ⟨P, 0, none⟩)) ∧ w'.cell? ⟨w.heap.size + 1, 0, none⟩ = some (.int .i64 i) ∧ w'.cell? ⟨P, 0, none⟩ = some (.slice (some ⟨g, 0, none⟩) ws.length c) ∧ w'.cell? ⟨g, i, none⟩ = some (.int .u64 x)), u.w.cell? ⟨w.heap.size + 1, 0, none⟩ = some (.int .i64 i) := fun u => u.ok.2.1
  have hu3 : ∀ u : HoldW (fun w' => w'.cell? ⟨w.heap.size, 0, none⟩ = some (.pointer (some ⟨P, 0, none⟩)) ∧ w'.cell? ⟨w.heap.size + 1, 0, none⟩ = some (.int .i64 i) ∧ w'.cell? ⟨P, 0, none⟩ = some (.slice (some ⟨g, 0, none⟩) ws.length c) ∧ w'.cell? ⟨g, i, none⟩ = some (.int .u64 x)), u.w.cell? ⟨P, 0, none⟩ = some (.slice (some ⟨g, 0, none⟩) ws.length c) := fun u => u.ok.2.2.1
  have hu4 : ∀ u : HoldW (fun w' => w'.cell? ⟨w.heap.size, 0, none⟩ = some (.pointer (some ⟨P, 0, none⟩)) ∧ w'.cell? ⟨w.heap.size + 1, 0, none⟩ = some (.int .i64 i) ∧ w'.cell? ⟨P, 0, none⟩ = some (.slice (some ⟨g, 0, none⟩) ws.length c) ∧ w'.cell? ⟨g, i, none⟩ = some (.int .u64 x)), u.w.cell? ⟨g, i, none⟩ = some (.int .u64 x) := fun u => u.ok.2.2.2
  repeat (refine wpHeld_step (fun K hK => ?_); go_simp; refine hK _ ?_; clear hK K)
  refine wpHeld_nil ?_
  clear hu1 hu2 hu3 hu4 hne
  refine wpChain_cons fun K hK => ?_
  go_wp2_with fail
  have hPW : P < W.heap.size := HW.out.lt
  have hgW : g < W.heap.size := HW.out.words.lt g rfl
  refine chainF (fun _ => ⟨(World.cell?_alloc_lt W _ ⟨w.heap.size, 0, none⟩ (by show w.heap.size < _; omega)).trans hcc, (World.cell?_alloc_lt W _ ⟨w.heap.size + 1, 0, none⟩ (by show w.heap.size + 1 < _; omega)).trans hci,
    (World.cell?_alloc_lt W _ ⟨P, 0, none⟩ hPW).trans hc0, (World.cell?_alloc_lt W _ ⟨g, i, none⟩ hgW).trans hcg⟩) (hK _ _ ?_)
  clear hK K
  refine wpChain_cons fun K hK => ?_
  go_wp2_with fail
  refine chainSkip (hK _ _ ?_)
  clear hK K
  refine wpChain_nil ?_
  have hb2 : Below W.heap.size W (W.alloc (.cells #[.int .u64 x] 30)).drew := below_drewN (below_laid W _) 1
  have hB2w := heap_alloc_new W (.cells #[.int .u64 x] 30)
  rw [hzW] at hB2w
  have hcw2 : (W.alloc (.cells #[.int .u64 x] 30)).drew.cell? ⟨w.heap.size + 2, 0, none⟩ = some (.int .u64 x) := by
    show (W.alloc (.cells #[.int .u64 x] 30)).cell? ⟨w.heap.size + 2, 0, none⟩ = _
    rw [cell_block hB2w]; rfl
  generalize (W.alloc (.cells #[.int .u64 x] 30)).drew = W2 at *
  have HB := hide (HbW.out.trans (hb2.mono (by omega)))
  clear hb2 hB2w
  go_wp2_with fail
  go_ret
  exact ⟨rfl, HB.out⟩

set_option maxHeartbeats 1600000 in
theorem set_in (P i : Nat) (x : Int) (w : World) {vw vu : Value} {ws : List Int} {fs : List Value} {us : List Cl.U} (h : Cel w P vw vu ws fs us) (hl : ws.length ≤ 100000) (hu : us.length ≤ 100000) (hi : i < ws.length) (hx : ws.getD i 0 ≠ x) :
    Calls Try.prog 18 #[.pointer (some ⟨P, 0, none⟩), .int .i64 i, .int .u64 x] w fun e w' => e = .returned (.bool true) ∧
      ∃ vw' vu' fs', Cel w' P vw' vu' (ws.set i x) fs' (us ++ [.inr (i, ws.getD i 0)]) ∧ Fr w w' P vw.ownBlock vu.ownBlock ∧ NewOr w vw.ownBlock vw'.ownBlock ∧ NewOr w vu.ownBlock vu'.ownBlock := by
  obtain ⟨i1, hj, hy0, hy1, hy2⟩ := info_parts info_func
  have hmf := @makes Try.prog
  obtain ⟨A, c, rfl, hc, hm⟩ := h.words.form
  obtain ⟨A2, c2, rfl, hc2, hm2⟩ := h.undo.form
  have hlw : (wordsV ws).length = ws.length := by simp [wordsV]
  have hlf : fs.length = us.length := h.len
  rw [hlw] at hc h ⊢
  obtain ⟨g, rfl⟩ := h.words.addr (by rw [hlw]; omega)
  have h0 := h.cell0
  have hP := h.lt
  have HWlt := hide (h.words.lt g rfl)
  obtain ⟨hbW, hzW, hcW1, hcW2⟩ := box2 w (.pointer (some ⟨P, 0, none⟩)) (.int .i64 i) 24 3
  have hBc : ((w.alloc (.cells #[.pointer (some ⟨P, 0, none⟩)] 24)).alloc (.cells #[.int .i64 i] 3)).heap[w.heap.size]? = some (.cells #[.pointer (some ⟨P, 0, none⟩)] 24 (0, 0)) := by
    rw [Below.heap_alloc _ _ _ (by simp)]; exact heap_alloc_new w _
  have hBn : ((w.alloc (.cells #[.pointer (some ⟨P, 0, none⟩)] 24)).alloc (.cells #[.int .i64 i] 3)).heap[w.heap.size + 1]? = some (.cells #[.int .i64 i] 3 (0, 0)) := by
    have := heap_alloc_new (w.alloc (.cells #[.pointer (some ⟨P, 0, none⟩)] 24)) (.cells #[.int .i64 i] 3)
    simpa using this
  have hW := h.below hbW
  have HH := hide (And.intro hW (And.intro hbW (And.intro hzW (And.intro hBc hBn))))
  have HL := hide (And.intro hlw hlf)
  have HI := hide (is_any P ws.length c (some ⟨g, 0, none⟩) i)
  have hin : inR i ws.length = true := by simp [inR]; omega
  have HIN := hide hin
  have hi0 : (0 : Int) ≤ i := by omega
  have hi1 : (i : Int) < ws.length := by omega
  clear hW hbW hzW hcW1 hcW2 hlw hlf hc hm hc2 hm2 h hBc hBn hin
  go_enter Try.func18, Try.ntmps18
  go_wp2_with fail
  generalize (w.alloc (.cells #[.pointer (some ⟨P, 0, none⟩)] 24)).alloc (.cells #[.int .i64 i] 3) = W at HH ⊢
  obtain ⟨hW, hbW, hzW, hBc, hBn⟩ := HH.out
  have hc0 := hW.cell0
  have HBc := hide (And.intro hBc hBn)
  have HW := hide hW
  have HbW := hide hbW
  have hcc : W.cell? ⟨w.heap.size, 0, none⟩ = some (.pointer (some ⟨P, 0, none⟩)) := by rw [cell_block hBc]; rfl
  have hci : W.cell? ⟨w.heap.size + 1, 0, none⟩ = some (.int .i64 i) := by rw [cell_block hBn]; rfl
  clear hW hbW hBc hBn HH h0
  refine (HI.out W hc0).mono ?_
  rintro e w' ⟨rfl, rfl⟩
  rw [HIN.out]
  go_wp2_with fail
  have hcg : W.cell? ⟨g, i, none⟩ = some (.int .u64 (ws.getD i 0)) := by
    rw [HW.out.words.cell (by rw [HL.out.1]; exact hi)]
    simp [wordsV, List.getElem?_eq_getElem hi, List.getD_eq_getElem?_getD]
  generalize hold : ws.getD i 0 = old at *
  -- the word that was
  refine wp_region_chain [0, 1, 2, 3, 4, 5, 6] [(7, true), (8, false)] (fun w' => w'.cell? ⟨w.heap.size, 0, none⟩ = some (.pointer (some ⟨P, 0, none⟩)) ∧ w'.cell? ⟨w.heap.size + 1, 0, none⟩ = some (.int .i64 i) ∧ w'.cell? ⟨P, 0, none⟩ = some (.slice (some ⟨g, 0, none⟩) ws.length c) ∧ w'.cell? ⟨g, i, none⟩ = some (.int .u64 old)) (by kernel_rfl) (by kernel_rfl) (fun _ _ _ _ _ h => h) ⟨hcc, hci, hc0, hcg⟩ ?_
  intro hne
  simp only [picks, picksW, List.filterMap_cons, List.filterMap_nil, List.getElem?_cons_zero, List.getElem?_cons_succ, Option.map_some]
  have hu1 : ∀ u : HoldW (fun w' => w'.cell? ⟨w.heap.size, 0, none⟩ = some (.pointer (some ⟨P, 0, none⟩)) ∧ w'.cell? ⟨w.heap.size + 1, 0, none⟩ = some (.int .i64 i) ∧ w'.cell? ⟨P, 0, none⟩ = some (.slice (some ⟨g, 0, none⟩) ws.length c) ∧ w'.cell? ⟨g, i, none⟩ = some (.int .u64 old)), u.w.cell? ⟨w.heap.size, 0, none⟩ = some (.pointer (some ⟨P, 0, none⟩)) := fun u => u.ok.1
  have hu2 : ∀ u : HoldW (fun w' => w'.cell? ⟨w.heap.size, 0, none⟩ = some (.pointer (some ⟨P, 0, none⟩)) ∧ w'.cell? ⟨w.heap.size + 1, 0, none⟩ = some (.int .i64 i) ∧ w'.cell? ⟨P, 0, none⟩ = some (.slice (some ⟨g, 0, none⟩) ws.length c) ∧ w'.cell? ⟨g, i, none⟩ = some (.int .u64 old)), u.w.cell? ⟨w.heap.size + 1, 0, none⟩ = some (.int .i64 i) := fun u => u.ok.2.1
  have hu3 : ∀ u : HoldW (fun w' => w'.cell? ⟨w.heap.size, 0, none⟩ = some (.pointer (some ⟨P, 0, none⟩)) ∧ w'.cell? ⟨w.heap.size + 1, 0, none⟩ = some (.int .i64 i) ∧ w'.cell? ⟨P, 0, none⟩ = some (.slice (some ⟨g, 0, none⟩) ws.length c) ∧ w'.cell? ⟨g, i, none⟩ = some (.int .u64 old)), u.w.cell? ⟨P, 0, none⟩ = some (.slice (some ⟨g, 0, none⟩) ws.length c) := fun u => u.ok.2.2.1
  have hu4 : ∀ u : HoldW (fun w' => w'.cell? ⟨w.heap.size, 0, none⟩ = some (.pointer (some ⟨P, 0, none⟩)) ∧ w'.cell? ⟨w.heap.size + 1, 0, none⟩ = some (.int .i64 i) ∧ w'.cell? ⟨P, 0, none⟩ = some (.slice (some ⟨g, 0, none⟩) ws.length c) ∧ w'.cell? ⟨g, i, none⟩ = some (.int .u64 old)), u.w.cell? ⟨g, i, none⟩ = some (.int .u64 old) := fun u => u.ok.2.2.2
  repeat (refine wpHeld_step (fun K hK => ?_); go_simp; refine hK _ ?_; clear hK K)
  refine wpHeld_nil ?_
  clear hu1 hu2 hu3 hu4 hne
  refine wpChain_cons fun K hK => ?_
  go_wp2_with fail
  have hPW : P < W.heap.size := HW.out.lt
  have hgW : g < W.heap.size := HW.out.words.lt g rfl
  refine chainF (fun _ => ⟨(World.cell?_alloc_lt W _ ⟨w.heap.size, 0, none⟩ (by show w.heap.size < _; omega)).trans hcc, (World.cell?_alloc_lt W _ ⟨w.heap.size + 1, 0, none⟩ (by show w.heap.size + 1 < _; omega)).trans hci,
    (World.cell?_alloc_lt W _ ⟨P, 0, none⟩ hPW).trans hc0, (World.cell?_alloc_lt W _ ⟨g, i, none⟩ hgW).trans hcg⟩) (hK _ _ ?_)
  clear hK K
  refine wpChain_cons fun K hK => ?_
  go_wp2_with fail
  refine chainSkip (hK _ _ ?_)
  clear hK K
  refine wpChain_nil ?_
  have hB2c := (Below.heap_alloc W (.cells #[.int .u64 old] 30) (w.heap.size) (by omega)).trans HBc.out.1
  have hB2i := (Below.heap_alloc W (.cells #[.int .u64 old] 30) (w.heap.size + 1) (by omega)).trans HBc.out.2
  have hB2w := heap_alloc_new W (.cells #[.int .u64 old] 30)
  rw [hzW] at hB2w
  have hb2 : Below W.heap.size W (W.alloc (.cells #[.int .u64 old] 30)).drew := below_drewN (below_laid W _) 1
  have hC2 := HW.out.below hb2
  have hzW2 : (W.alloc (.cells #[.int .u64 old] 30)).drew.heap.size = w.heap.size + 3 := by
    show (W.alloc _).heap.size = _
    simp; omega
  replace hB2c : (W.alloc (.cells #[.int .u64 old] 30)).drew.heap[w.heap.size]? = _ := hB2c
  replace hB2i : (W.alloc (.cells #[.int .u64 old] 30)).drew.heap[w.heap.size + 1]? = _ := hB2i
  replace hB2w : (W.alloc (.cells #[.int .u64 old] 30)).drew.heap[w.heap.size + 2]? = _ := hB2w
  generalize (W.alloc (.cells #[.int .u64 old] 30)).drew = W2 at *
  have hb02 : Below w.heap.size w W2 := HbW.out.trans (hb2.mono (by omega))
  have hcc2 : W2.cell? ⟨w.heap.size, 0, none⟩ = some (.pointer (some ⟨P, 0, none⟩)) := by rw [cell_block hB2c]; rfl
  have hci2 : W2.cell? ⟨w.heap.size + 1, 0, none⟩ = some (.int .i64 i) := by rw [cell_block hB2i]; rfl
  have hcw2 : W2.cell? ⟨w.heap.size + 2, 0, none⟩ = some (.int .u64 old) := by rw [cell_block hB2w]; rfl
  have hc02 := hC2.cell0
  have hcg2 : W2.cell? ⟨g, i, none⟩ = some (.int .u64 old) := (hb2.cell (p := ⟨g, i, none⟩) hgW).trans hcg
  have hgf2 := hC2.words.free i
  have HC2 := hide hC2
  have HB2 := hide (And.intro hB2c (And.intro hB2i (And.intro hB2w (And.intro hb02 hzW2))))
  clear hC2 hB2c hB2i hB2w hb2 hb02 hcc hci hc0 hcg HBc HW HbW HI HIN hPW hgW hP hzW
  go_wp2_with fail
  go_still_tail 7, (by kernel_rfl)
  change wpList _ _ _ _ _ W2.drew
  go_wp2_with fail
  obtain ⟨hB2c, hB2i, hB2w, hb02, hzW2⟩ := HB2.out
  have hC3 := (HC2.out.putWord i x).below (below_drewN (Below.refl _ _) 1)
  have hgc : ∀ k, k ≠ g → (W2.setCell ⟨g, i, none⟩ (.int .u64 x)).drew.heap[k]? = W2.heap[k]? := fun k hk => Below.heap_setCell _ _ _ _ hk
  have hg2 : g ≠ w.heap.size + 2 := fun e => by have := HWlt.out; omega
  have hB3c := (hgc w.heap.size (fun e => HC2.out.words.ne_type hB2c (by decide) (by rw [e]; rfl))).trans hB2c
  have hB3i := (hgc (w.heap.size + 1) (fun e => HC2.out.words.ne_type hB2i (by decide) (by rw [e]; rfl))).trans hB2i
  have hB3w := (hgc (w.heap.size + 2) (Ne.symm hg2)).trans hB2w
  have hsz3 : (W2.setCell ⟨g, i, none⟩ (.int .u64 x)).drew.heap.size = W2.heap.size := by
    show (W2.setCell ⟨g, i, none⟩ (.int .u64 x)).heap.size = _
    simp [World.setCell]
  have hF3 : Fr w (W2.setCell ⟨g, i, none⟩ (.int .u64 x)).drew P (some g) (Value.slice A2 fs.length c2).ownBlock :=
    ⟨hb02.os, hb02.tape, hb02.output, (by rw [hsz3]; omega), fun k hk _ hk2 _ => (hgc k (fun e => hk2 (by rw [e]))).trans (hb02.block k hk)⟩
  change Cel (W2.setCell ⟨g, i, none⟩ (.int .u64 x)).drew _ _ _ _ _ _ at hC3
  generalize (W2.setCell ⟨g, i, none⟩ (.int .u64 x)).drew = W3 at *
  clear hB2c hB2i hB2w hb02 hzW2 hgc hsz3 HC2 HB2 hcc2 hci2 hcw2 hc02 hcg2 hgf2
  have d1 := hC3.cell1
  have dc : W3.cell? ⟨w.heap.size, 0, none⟩ = some (.pointer (some ⟨P, 0, none⟩)) := by rw [cell_block hB3c]; rfl
  have hPW3 : P < W3.heap.size := hC3.lt
  have hcW3 : w.heap.size < W3.heap.size := blk_lt hB3c
  have HC3 := hide hC3
  have HF3 := hide hF3
  have HB3 := hide (And.intro hB3c (And.intro hB3i hB3w))
  have HG2 := hide hg2
  clear hC3 hF3 hB3c hB3i hB3w hg2
  -- the closures
  refine wp_region_chain [0, 1, 2, 3, 4, 5] [(6, true), (7, true), (8, false), (9, false), (10, false)] (fun w' => w'.cell? ⟨w.heap.size, 0, none⟩ = some (.pointer (some ⟨P, 0, none⟩)) ∧ w'.cell? ⟨P, 1, none⟩ = some (.slice A2 fs.length c2)) (by kernel_rfl) (by kernel_rfl) (fun _ _ _ _ _ h => h) ⟨dc, d1⟩ ?_
  intro hne
  simp only [picks, picksW, List.filterMap_cons, List.filterMap_nil, List.getElem?_cons_zero, List.getElem?_cons_succ, Option.map_some]
  have hu1 : ∀ u : HoldW (fun w' => w'.cell? ⟨w.heap.size, 0, none⟩ = some (.pointer (some ⟨P, 0, none⟩)) ∧ w'.cell? ⟨P, 1, none⟩ = some (.slice A2 fs.length c2)), u.w.cell? ⟨w.heap.size, 0, none⟩ = some (.pointer (some ⟨P, 0, none⟩)) := fun u => u.ok.1
  have hu2 : ∀ u : HoldW (fun w' => w'.cell? ⟨w.heap.size, 0, none⟩ = some (.pointer (some ⟨P, 0, none⟩)) ∧ w'.cell? ⟨P, 1, none⟩ = some (.slice A2 fs.length c2)), u.w.cell? ⟨P, 1, none⟩ = some (.slice A2 fs.length c2) := fun u => u.ok.2
  repeat (refine wpHeld_step (fun K hK => ?_); go_simp; refine hK _ ?_; clear hK K)
  refine wpHeld_nil ?_
  clear hu1 hu2 hne
  refine wpChain_cons fun K hK => ?_
  go_wp2_with fail
  refine chainF (fun _ => ⟨(World.cell?_alloc_lt W3 _ ⟨w.heap.size, 0, none⟩ hcW3).trans dc, (World.cell?_alloc_lt W3 _ ⟨P, 1, none⟩ hPW3).trans d1⟩) (hK _ _ ?_)
  clear hK K
  refine wpChain_cons fun K hK => ?_
  refine app_row rfl (.tmp 33) (.tmp 35) 46 46 rfl 1 i1 _ 8 Try.underlying46 hj hy0 hy1 hy2 rfl (.slice A2 fs.length c2) fs rfl (HC3.out.undo.below (below_laidD W3 _)) _ 1
    [.func (.func 25) #[] #[.pointer (some ⟨w.heap.size + 2, 0, none⟩), .pointer (some ⟨w.heap.size, 0, none⟩), .pointer (some ⟨w.heap.size + 1, 0, none⟩)]] rfl
    (Src.ofSlice _ Try.underlying46 ⟨W3.heap.size, 0, none⟩ 1 1 _ rfl (World.news_of_block (cs := #[.func (.func 25) #[] #[.pointer (some ⟨w.heap.size + 2, 0, none⟩), .pointer (some ⟨w.heap.size, 0, none⟩), .pointer (some ⟨w.heap.size + 1, 0, none⟩)]]) (t := 1) (fr := (0, 0)) (heap_alloc_new W3 _)) (by simp [Value.oneCell'])) (by rw [HL.out.2]; unfold maxLen; omega) (by rw [HL.out.2]; omega) ?_
  intro A4 c4 w4 hrow4 hgr hob
  have hbk := grown_block (below_laidD W3 _) hgr
  have hsz4 : W3.heap.size ≤ w4.heap.size := Nat.le_trans (below_laidD W3 _).size hgr.size
  have e1 : w4.cell? ⟨w.heap.size, 0, none⟩ = some (.pointer (some ⟨P, 0, none⟩)) :=
    (World.cell?_of_block (w := W3) (w' := w4) (a := ⟨w.heap.size, 0, none⟩) (hbk w.heap.size hcW3 (HC3.out.undo.ne_type HB3.out.1 (by decide)))).trans dc
  have e2 : w4.cell? ⟨P, 1, none⟩ = some (.slice A2 fs.length c2) := (World.cell?_of_block (w := W3) (w' := w4) (a := ⟨P, 1, none⟩) (hbk P hPW3 HC3.out.neU)).trans d1
  have e2f : w4.frozen? ⟨P, 1, none⟩ = false := (World.frozen?_of_block (w := W3) (w' := w4) (a := ⟨P, 1, none⟩) (hbk P hPW3 HC3.out.neU)).trans (HC3.out.free 1)
  have hC5 := HC3.out.newUndo (us' := us ++ [.inr (i, old)]) hbk hrow4 (by simp [HL.out.2]) (fun k f u hf hu' => by
    rcases Nat.lt_or_ge k fs.length with hk | hk
    · rw [List.getElem?_append_left hk] at hf
      rw [List.getElem?_append_left (by rw [← HL.out.2]; exact hk)] at hu'
      exact HC3.out.funcs k f u hf hu'
    · have hk' : k = fs.length := by
        have := (List.getElem?_eq_some_iff.1 hf).1
        simp at this; omega
      subst hk'
      simp at hf
      rw [HL.out.2] at hu'
      simp at hu'
      subst hf
      subst hu'
      exact ⟨w.heap.size + 2, w.heap.size, w.heap.size + 1, rfl, HB3.out.2.2, by simpa [Value.ownBlock] using HG2.out, HB3.out.1, HB3.out.2.1⟩)
  have hF5 : Fr W3 (w4.setCell ⟨P, 1, none⟩ (.slice A4 (fs.length + 1) c4)) P (some g) (Value.slice A2 fs.length c2).ownBlock :=
    Fr.setP (show Fr W3 w4 P _ _ from ⟨hgr.os, hgr.tape, hgr.output, hsz4, fun k hk _ _ hn => hbk k hk hn⟩) 1 _
  have HX := hide (And.intro hC5 (And.intro hF5 hob))
  clear hrow4 hgr hob hbk hsz4 hC5 hF5
  go_wp2_with fail
  refine chainF (fun _ => ⟨e1, e2⟩) (hK _ _ ?_)
  clear hK K
  refine wpChain_cons fun K hK => ?_
  go_wp2_with fail
  refine chainSkip (hK _ _ ?_)
  clear hK K
  refine wpChain_cons fun K hK => ?_
  go_wp2_with fail
  refine chainSkip (hK _ _ ?_)
  clear hK K
  refine wpChain_cons fun K hK => ?_
  go_wp2_with fail
  refine chainSkip (hK _ _ ?_)
  clear hK K
  refine wpChain_nil ?_
  generalize w4.setCell ⟨P, 1, none⟩ (.slice A4 (fs.length + 1) c4) = W5 at HX ⊢
  obtain ⟨hC5, hF5, hob5⟩ := HX.out
  have HC5 := hide hC5
  have HF5 := hide hF5
  have HO5 := hide hob5
  clear hC5 hF5 hob5 HX e1 e2 e2f d1 dc
  go_wp2_with fail
  go_ret
  have hN5 : NewOr W3 (Value.slice A2 fs.length c2).ownBlock (Value.slice A4 (fs.length + 1) c4).ownBlock := HO5.out.imp id fun hn => ⟨_, hn, (below_laidD W3 (.cells #[_] 1)).size⟩
  rw [hold]
  refine ⟨rfl, _, _, _, HC5.out, ?_, NewOr.refl w _, (NewOr.refl w _).trans HF3.out.size hN5⟩
  exact HF3.out.trans (NewOr.refl _ _) (NewOr.refl _ _) HF5.out
end Go.Proofs.Ytkhhofokhjbnbaa
