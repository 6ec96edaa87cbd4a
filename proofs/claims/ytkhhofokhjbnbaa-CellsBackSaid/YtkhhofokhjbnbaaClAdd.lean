/- The walk of Add. -/
import Derived.Test.YtkhhofokhjbnbaaClRead
namespace Go.Proofs.Ytkhhofokhjbnbaa
open Go.RowKit

theorem info_u64 : (Try.prog.info? 30).map (fun i => (i.zero, i.size, i.bytes)) = some (some (.int .u64 0), 1, 8) := by kernel_rfl
theorem info_func : (Try.prog.info? 1).map (fun i => (i.zero, i.size, i.bytes)) = some (some .nilFunc, 1, 8) := by kernel_rfl

theorem oneCell_words (ws : List Int) : ∀ u ∈ wordsV ws, u.oneCell' = true := fun u hu => by
  obtain ⟨x, _, rfl⟩ := List.mem_map.1 hu; rfl

theorem grown_block {w W w2 : World} {v : Value} (hb : Below w.heap.size w W) (hg : W.grownBy w2 v.ownBlock) : ∀ k, k < w.heap.size → v.ownBlock ≠ some k → w2.heap[k]? = w.heap[k]? := fun k hk hn =>
  (hg.block k (Nat.lt_of_lt_of_le hk hb.size) (Ne.symm hn)).trans (hb.block k hk)

set_option maxHeartbeats 1600000 in
theorem add_any (P : Nat) (x : Int) (w : World) {vw vu : Value} {ws : List Int} {fs : List Value} {us : List Cl.U} (h : Cel w P vw vu ws fs us) (hl : ws.length ≤ 100000) (hu : us.length ≤ 100000) :
    Calls Try.prog 17 #[.pointer (some ⟨P, 0, none⟩), .int .u64 x] w fun e w' => e = .returned (.int .i64 ws.length) ∧
      ∃ vw' vu' fs', Cel w' P vw' vu' (ws ++ [x]) fs' (us ++ [.inl ws.length]) ∧ Fr w w' P vw.ownBlock vu.ownBlock ∧ NewOr w vw.ownBlock vw'.ownBlock ∧ NewOr w vu.ownBlock vu'.ownBlock := by
  obtain ⟨i0, hi, hz0, hz1, hz2⟩ := info_parts info_u64
  obtain ⟨i1, hj, hy0, hy1, hy2⟩ := info_parts info_func
  have hmf := @makes Try.prog
  obtain ⟨A, c, rfl, hc, hm⟩ := h.words.form
  obtain ⟨A2, c2, rfl, hc2, hm2⟩ := h.undo.form
  have hlw : (wordsV ws).length = ws.length := by simp [wordsV]
  have hlf : fs.length = us.length := h.len
  rw [hlw] at hc h ⊢
  have h0 := h.cell0
  have hP := h.lt
  obtain ⟨hbW, hzW, hcW1, hcW2⟩ := box2 w (.pointer (some ⟨P, 0, none⟩)) (.int .i64 ws.length) 24 3
  have hBc : ((w.alloc (.cells #[.pointer (some ⟨P, 0, none⟩)] 24)).alloc (.cells #[.int .i64 ws.length] 3)).heap[w.heap.size]? = some (.cells #[.pointer (some ⟨P, 0, none⟩)] 24 (0, 0)) := by
    rw [Below.heap_alloc _ _ _ (by simp)]; exact heap_alloc_new w _
  have hBn : ((w.alloc (.cells #[.pointer (some ⟨P, 0, none⟩)] 24)).alloc (.cells #[.int .i64 ws.length] 3)).heap[w.heap.size + 1]? = some (.cells #[.int .i64 ws.length] 3 (0, 0)) := by
    have := heap_alloc_new (w.alloc (.cells #[.pointer (some ⟨P, 0, none⟩)] 24)) (.cells #[.int .i64 ws.length] 3)
    simpa using this
  have hW := h.below hbW
  have HH := hide (And.intro hW (And.intro hbW (And.intro hzW (And.intro hBc hBn))))
  have HL := hide (And.intro hlw hlf)
  clear hW hbW hzW hcW1 hcW2 hlw hlf hc hm hc2 hm2 h hBc hBn
  go_enter Try.func17, Try.ntmps17
  go_wp2_with fail
  generalize (w.alloc (.cells #[.pointer (some ⟨P, 0, none⟩)] 24)).alloc (.cells #[.int .i64 ws.length] 3) = W at HH ⊢
  obtain ⟨hW, hbW, hzW, hBc, hBn⟩ := HH.out
  have hcc : W.cell? ⟨w.heap.size, 0, none⟩ = some (.pointer (some ⟨P, 0, none⟩)) := by rw [cell_block hBc]; rfl
  have hc0 := hW.cell0
  have HBc := hide (And.intro hBc hBn)
  have HW := hide hW
  have HbW := hide hbW
  clear hW hbW hBc hBn HH h0
  -- the words
  refine wp_region_chain [0, 1, 2, 3, 4, 5] [(6, true), (7, true), (8, false), (9, false), (10, false)] (fun w' => w'.cell? ⟨w.heap.size, 0, none⟩ = some (.pointer (some ⟨P, 0, none⟩)) ∧ w'.cell? ⟨P, 0, none⟩ = some (.slice A ws.length c)) (by kernel_rfl) (by kernel_rfl) (fun _ _ _ _ _ h => h) ⟨hcc, hc0⟩ ?_
  intro hne
  simp only [picks, picksW, List.filterMap_cons, List.filterMap_nil, List.getElem?_cons_zero, List.getElem?_cons_succ, Option.map_some]
  have hu1 : ∀ u : HoldW (fun w' => w'.cell? ⟨w.heap.size, 0, none⟩ = some (.pointer (some ⟨P, 0, none⟩)) ∧ w'.cell? ⟨P, 0, none⟩ = some (.slice A ws.length c)), u.w.cell? ⟨w.heap.size, 0, none⟩ = some (.pointer (some ⟨P, 0, none⟩)) := fun u => u.ok.1
  have hu2 : ∀ u : HoldW (fun w' => w'.cell? ⟨w.heap.size, 0, none⟩ = some (.pointer (some ⟨P, 0, none⟩)) ∧ w'.cell? ⟨P, 0, none⟩ = some (.slice A ws.length c)), u.w.cell? ⟨P, 0, none⟩ = some (.slice A ws.length c) := fun u => u.ok.2
  repeat (refine wpHeld_step (fun K hK => ?_); go_simp; refine hK _ ?_; clear hK K)
  refine wpHeld_nil ?_
  clear hu1 hu2 hne
  refine wpChain_cons fun K hK => ?_
  go_wp2_with fail
  have hPW : P < W.heap.size := HW.out.lt
  refine chainF (fun _ => ⟨(World.cell?_alloc_lt W _ ⟨w.heap.size, 0, none⟩ (by show w.heap.size < _; omega)).trans hcc, (World.cell?_alloc_lt W _ ⟨P, 0, none⟩ hPW).trans hc0⟩) (hK _ _ ?_)
  clear hK K
  refine wpChain_cons fun K hK => ?_
  refine app_row rfl (.tmp 17) (.tmp 19) 36 36 rfl 30 i0 _ 8 Try.underlying36 hi hz0 hz1 hz2 rfl (.slice A ws.length c) (wordsV ws) rfl ((HW.out.words.below (below_laidD W _))) _ 1 [.int .u64 x] rfl
    (Src.ofSlice _ Try.underlying36 ⟨w.heap.size + 2, 0, none⟩ 1 1 [.int .u64 x] rfl (by rw [← hzW]; exact World.news_of_block (cs := #[.int .u64 x]) (t := 30) (fr := (0, 0)) (heap_alloc_new W _)) (by simp [Value.oneCell'])) (by rw [HL.out.1]; unfold maxLen; omega) (by rw [HL.out.1]; omega) ?_
  intro A3 c3 w2 hrow2 hgr hob
  rw [HL.out.1] at hrow2 hob ⊢
  have hbk := grown_block (below_laidD W _) hgr
  have hsz2 : W.heap.size ≤ w2.heap.size := Nat.le_trans (below_laidD W _).size hgr.size
  have e1 : w2.cell? ⟨w.heap.size, 0, none⟩ = some (.pointer (some ⟨P, 0, none⟩)) :=
    (World.cell?_of_block (w := W) (w' := w2) (a := ⟨w.heap.size, 0, none⟩) (hbk w.heap.size (by omega) (HW.out.words.ne_type HBc.out.1 (by decide)))).trans hcc
  have e2 : w2.cell? ⟨P, 0, none⟩ = some (.slice A ws.length c) := (World.cell?_of_block (w := W) (w' := w2) (a := ⟨P, 0, none⟩) (hbk P hPW HW.out.neW)).trans hc0
  have e2f : w2.frozen? ⟨P, 0, none⟩ = false := (World.frozen?_of_block (w := W) (w' := w2) (a := ⟨P, 0, none⟩) (hbk P hPW HW.out.neW)).trans (HW.out.free 0)
  have hC3 := HW.out.newWords (ws' := ws ++ [x]) hbk (by simpa [wordsV] using hrow2) (hob.imp id fun hn => ⟨_, hn, (below_laidD W (.cells #[.int .u64 x] 30)).size⟩)
  have hF3 : Fr W (w2.setCell ⟨P, 0, none⟩ (.slice A3 (ws.length + 1) c3)) P (Value.slice A ws.length c).ownBlock (Value.slice A2 fs.length c2).ownBlock :=
    Fr.setP (show Fr W w2 P _ _ from ⟨hgr.os, hgr.tape, hgr.output, hsz2, fun k hk _ hn _ => hbk k hk hn⟩) 0 _
  have hset : ∀ k, k ≠ P → (w2.setCell ⟨P, 0, none⟩ (.slice A3 (ws.length + 1) c3)).heap[k]? = w2.heap[k]? := fun k hk => Below.heap_setCell _ _ _ _ hk
  have hB3c := (hset w.heap.size (by omega)).trans ((hbk w.heap.size (by omega) (HW.out.words.ne_type HBc.out.1 (by decide))).trans HBc.out.1)
  have hB3n := (hset (w.heap.size + 1) (by omega)).trans ((hbk (w.heap.size + 1) (by omega) (HW.out.words.ne_type HBc.out.2 (by decide))).trans HBc.out.2)
  have HX := hide (And.intro hC3 (And.intro hF3 (And.intro hob (And.intro hB3c hB3n))))
  have HE := hide (And.intro hbk hsz2)
  clear hrow2 hgr hob hbk hsz2 hC3 hF3 hset hB3c hB3n
  go_wp2_with fail
  refine chainF (fun _ => ⟨e1, e2⟩) (hK _ _ ?_)
  clear hK K
  refine wpChain_cons fun K hK => ?_
  go_wp2_with fail
  refine chainSkip (hK _ _ ?_)
  clear hK K
  refine wpChain_cons fun K hK => ?_
  go_wp2_with fail
  refine chainSkip (hK _ _ ?_)
  clear hK K
  refine wpChain_cons fun K hK => ?_
  go_wp2_with fail
  refine chainSkip (hK _ _ ?_)
  clear hK K
  refine wpChain_nil ?_
  generalize w2.setCell ⟨P, 0, none⟩ (.slice A3 (ws.length + 1) c3) = W3 at HX ⊢
  obtain ⟨hC3, hF3, hob3, hB3c, hB3n⟩ := HX.out
  have d1 := hC3.cell1
  have dc : W3.cell? ⟨w.heap.size, 0, none⟩ = some (.pointer (some ⟨P, 0, none⟩)) := by rw [cell_block hB3c]; rfl
  have dn : W3.cell? ⟨w.heap.size + 1, 0, none⟩ = some (.int .i64 ws.length) := by rw [cell_block hB3n]; rfl
  have hPW3 : P < W3.heap.size := hC3.lt
  have hcW3 : w.heap.size < W3.heap.size := blk_lt hB3c
  have HC3 := hide hC3
  have HF3 := hide hF3
  have HO3 := hide hob3
  have HB3 := hide (And.intro hB3c hB3n)
  clear hC3 hF3 hob3 hB3c hB3n HX HE e1 e2 e2f hcc hc0 hPW
  go_wp2_with fail
  -- the closures
  refine wp_region_chain [0, 1, 2, 3, 4, 5] [(6, true), (7, true), (8, false), (9, false), (10, false)] (fun w' => w'.cell? ⟨w.heap.size, 0, none⟩ = some (.pointer (some ⟨P, 0, none⟩)) ∧ w'.cell? ⟨P, 1, none⟩ = some (.slice A2 fs.length c2)) (by kernel_rfl) (by kernel_rfl) (fun _ _ _ _ _ h => h) ⟨dc, d1⟩ ?_
  intro hne
  simp only [picks, picksW, List.filterMap_cons, List.filterMap_nil, List.getElem?_cons_zero, List.getElem?_cons_succ, Option.map_some]
  have hu1 : ∀ u : HoldW (fun w' => w'.cell? ⟨w.heap.size, 0, none⟩ = some (.pointer (some ⟨P, 0, none⟩)) ∧ w'.cell? ⟨P, 1, none⟩ = some (.slice A2 fs.length c2)), u.w.cell? ⟨w.heap.size, 0, none⟩ = some (.pointer (some ⟨P, 0, none⟩)) := fun u => u.ok.1
  have hu2 : ∀ u : HoldW (fun w' => w'.cell? ⟨w.heap.size, 0, none⟩ = some (.pointer (some ⟨P, 0, none⟩)) ∧ w'.cell? ⟨P, 1, none⟩ = some (.slice A2 fs.length c2)), u.w.cell? ⟨P, 1, none⟩ = some (.slice A2 fs.length c2) := fun u => u.ok.2
  repeat (refine wpHeld_step (fun K hK => ?_); go_simp; refine hK _ ?_; clear hK K)
  refine wpHeld_nil ?_
  clear hu1 hu2 hne
  refine wpChain_cons fun K hK => ?_
  go_wp2_with fail
  refine chainF (fun _ => ⟨(World.cell?_alloc_lt W3 _ ⟨w.heap.size, 0, none⟩ hcW3).trans dc, (World.cell?_alloc_lt W3 _ ⟨P, 1, none⟩ hPW3).trans d1⟩) (hK _ _ ?_)
  clear hK K
  refine wpChain_cons fun K hK => ?_
  refine app_row rfl (.tmp 27) (.tmp 29) 46 46 rfl 1 i1 _ 8 Try.underlying46 hj hy0 hy1 hy2 rfl (.slice A2 fs.length c2) fs rfl (HC3.out.undo.below (below_laidD W3 _)) _ 1
    [.func (.func 24) #[] #[.pointer (some ⟨w.heap.size, 0, none⟩), .pointer (some ⟨w.heap.size + 1, 0, none⟩)]] rfl
    (Src.ofSlice _ Try.underlying46 ⟨W3.heap.size, 0, none⟩ 1 1 _ rfl (World.news_of_block (cs := #[.func (.func 24) #[] #[.pointer (some ⟨w.heap.size, 0, none⟩), .pointer (some ⟨w.heap.size + 1, 0, none⟩)]]) (t := 1) (fr := (0, 0)) (heap_alloc_new W3 _)) (by simp [Value.oneCell'])) (by rw [HL.out.2]; unfold maxLen; omega) (by rw [HL.out.2]; omega) ?_
  intro A4 c4 w4 hrow4 hgr hob
  have hbk := grown_block (below_laidD W3 _) hgr
  have hsz4 : W3.heap.size ≤ w4.heap.size := Nat.le_trans (below_laidD W3 _).size hgr.size
  have e1 : w4.cell? ⟨w.heap.size, 0, none⟩ = some (.pointer (some ⟨P, 0, none⟩)) :=
    (World.cell?_of_block (w := W3) (w' := w4) (a := ⟨w.heap.size, 0, none⟩) (hbk w.heap.size hcW3 (HC3.out.undo.ne_type HB3.out.1 (by decide)))).trans dc
  have e2 : w4.cell? ⟨P, 1, none⟩ = some (.slice A2 fs.length c2) := (World.cell?_of_block (w := W3) (w' := w4) (a := ⟨P, 1, none⟩) (hbk P hPW3 HC3.out.neU)).trans d1
  have e2f : w4.frozen? ⟨P, 1, none⟩ = false := (World.frozen?_of_block (w := W3) (w' := w4) (a := ⟨P, 1, none⟩) (hbk P hPW3 HC3.out.neU)).trans (HC3.out.free 1)
  have hC5 := HC3.out.newUndo (us' := us ++ [.inl ws.length]) hbk hrow4 (by simp [HL.out.2]) (fun k f u hf hu' => by
    rcases Nat.lt_or_ge k fs.length with hk | hk
    · rw [List.getElem?_append_left hk] at hf
      rw [List.getElem?_append_left (by rw [← HL.out.2]; exact hk)] at hu'
      exact HC3.out.funcs k f u hf hu'
    · have hk' : k = fs.length := by
        have := (List.getElem?_eq_some_iff.1 hf).1
        simp at this; omega
      subst hk'
      simp at hf
      rw [HL.out.2] at hu'
      simp at hu'
      subst hf
      subst hu'
      exact ⟨w.heap.size, w.heap.size + 1, rfl, HB3.out.1, HB3.out.2⟩)
  have hF5 : Fr W3 (w4.setCell ⟨P, 1, none⟩ (.slice A4 (fs.length + 1) c4)) P (Value.slice A3 (ws.length + 1) c3).ownBlock (Value.slice A2 fs.length c2).ownBlock :=
    Fr.setP (show Fr W3 w4 P _ _ from ⟨hgr.os, hgr.tape, hgr.output, hsz4, fun k hk _ _ hn => hbk k hk hn⟩) 1 _
  have hset : ∀ k, k ≠ P → (w4.setCell ⟨P, 1, none⟩ (.slice A4 (fs.length + 1) c4)).heap[k]? = w4.heap[k]? := fun k hk => Below.heap_setCell _ _ _ _ hk
  have hPn : w.heap.size + 1 ≠ P := by omega
  have hB5n := (hset (w.heap.size + 1) hPn).trans ((hbk (w.heap.size + 1) (blk_lt HB3.out.2) (HC3.out.undo.ne_type HB3.out.2 (by decide))).trans HB3.out.2)
  have HX := hide (And.intro hC5 (And.intro hF5 (And.intro hob hB5n)))
  clear hrow4 hgr hob hbk hsz4 hC5 hF5 hset hB5n
  go_wp2_with fail
  refine chainF (fun _ => ⟨e1, e2⟩) (hK _ _ ?_)
  clear hK K
  refine wpChain_cons fun K hK => ?_
  go_wp2_with fail
  refine chainSkip (hK _ _ ?_)
  clear hK K
  refine wpChain_cons fun K hK => ?_
  go_wp2_with fail
  refine chainSkip (hK _ _ ?_)
  clear hK K
  refine wpChain_cons fun K hK => ?_
  go_wp2_with fail
  refine chainSkip (hK _ _ ?_)
  clear hK K
  refine wpChain_nil ?_
  generalize w4.setCell ⟨P, 1, none⟩ (.slice A4 (fs.length + 1) c4) = W5 at HX ⊢
  obtain ⟨hC5, hF5, hob5, hB5n⟩ := HX.out
  have dn5 : W5.cell? ⟨w.heap.size + 1, 0, none⟩ = some (.int .i64 ws.length) := by rw [cell_block hB5n]; rfl
  have HC5 := hide hC5
  have HF5 := hide hF5
  have HO5 := hide hob5
  clear hC5 hF5 hob5 hB5n HX e1 e2 e2f d1 dc dn
  go_wp2_with fail
  go_ret
  have hsW : w.heap.size ≤ W.heap.size := by omega
  have hsW3 : W.heap.size ≤ W3.heap.size := HF3.out.size
  have hN3 : NewOr W (Value.slice A ws.length c).ownBlock (Value.slice A3 (ws.length + 1) c3).ownBlock := HO3.out.imp id fun hn => ⟨_, hn, (below_laidD W (.cells #[.int .u64 x] 30)).size⟩
  have hN5 : NewOr W3 (Value.slice A2 fs.length c2).ownBlock (Value.slice A4 (fs.length + 1) c4).ownBlock := HO5.out.imp id fun hn => ⟨_, hn, (below_laidD W3 (.cells #[_] 1)).size⟩
  have hFW : Fr w W P (Value.slice A ws.length c).ownBlock (Value.slice A2 fs.length c2).ownBlock := Fr.of_below HbW.out
  refine ⟨rfl, _, _, _, HC5.out, ?_, (NewOr.refl w _).trans hsW hN3, (NewOr.refl w _).trans (Nat.le_trans hsW hsW3) hN5⟩
  exact hFW.trans (NewOr.refl _ _) (NewOr.refl _ _) (HF3.out.trans hN3 (NewOr.refl _ _) HF5.out)
end Go.Proofs.Ytkhhofokhjbnbaa
