/- The walks of the closures that undo, and of Undo. -/
import Derived.Test.YtkhhofokhjbnbaaClAdd
namespace Go.Proofs.Ytkhhofokhjbnbaa
open Go.RowKit

set_option maxHeartbeats 800000 in
theorem cut_any (P n bc bn : Nat) (w : World) {vw vu : Value} {ws : List Int} {fs : List Value} {us : List Cl.U} (h : Cel w P vw vu ws fs us) (hn : n ≤ ws.length)
    (hbc : w.heap[bc]? = some (.cells #[.pointer (some ⟨P, 0, none⟩)] 24 (0, 0))) (hbn : w.heap[bn]? = some (.cells #[.int .i64 n] 3 (0, 0))) :
    Calls Try.prog 24 #[.pointer (some ⟨bc, 0, none⟩), .pointer (some ⟨bn, 0, none⟩)] w fun e w' => e = .returned (.tuple #[]) ∧
      ∃ vw', Cel w' P vw' vu (ws.take n) fs us ∧ Fr w w' P vw.ownBlock vu.ownBlock ∧ vw'.ownBlock = vw.ownBlock := by
  obtain ⟨A, c, rfl, hc, hm⟩ := h.words.form
  have hlw : (wordsV ws).length = ws.length := by simp [wordsV]
  rw [hlw] at hc h ⊢
  have h0 := h.cell0
  have h0f := h.free 0
  have c1 : w.cell? ⟨bc, 0, none⟩ = some (.pointer (some ⟨P, 0, none⟩)) := by rw [cell_block hbc]; rfl
  have c2 : w.cell? ⟨bn, 0, none⟩ = some (.int .i64 n) := by rw [cell_block hbn]; rfl
  have hn0 : (0 : Int) ≤ n := by omega
  have hn1 : (n : Int) ≤ c := by omega
  have hrow := h.words.cut (k := n) (by rw [hlw]; exact hn)
  have HH := hide (And.intro h hrow)
  have HB := hide (And.intro hbc hbn)
  clear h hrow hbc hbn hlw
  go_enter Try.func24, Try.ntmps24
  go_wp2_with fail
  go_still_tail 8, (by kernel_rfl)
  change wpList _ _ _ _ _ w.drew
  go_wp2_with fail
  go_end0
  have hC := HH.out.1.newWords (w2 := w) (ws' := ws.take n) (v' := .slice A n n) (fun _ _ _ => rfl) (by have := HH.out.2; simpa [wordsV, List.map_take] using this) (.inl (by cases A <;> rfl))
  have hF : Fr w (w.setCell ⟨P, 0, none⟩ (.slice A n n)) P (Value.slice A ws.length c).ownBlock vu.ownBlock := Fr.setP (Fr.refl w) 0 _
  refine ⟨rfl, .slice A n n, hC.below (below_drewN (Below.refl _ _) 1), ?_, by cases A <;> rfl⟩
  exact hF.trans (NewOr.refl _ _) (NewOr.refl _ _) (Fr.of_below (below_drewN (Below.refl _ _) 1))

set_option maxHeartbeats 800000 in
theorem put_any (P i bw bc bi : Nat) (x : Int) (w : World) {vw vu : Value} {ws : List Int} {fs : List Value} {us : List Cl.U} (h : Cel w P vw vu ws fs us) (hi : i < ws.length) (hl : ws.length ≤ 1000000)
    (hbw : w.heap[bw]? = some (.cells #[.int .u64 x] 30 (0, 0)))
    (hbc : w.heap[bc]? = some (.cells #[.pointer (some ⟨P, 0, none⟩)] 24 (0, 0))) (hbi : w.heap[bi]? = some (.cells #[.int .i64 i] 3 (0, 0))) :
    Calls Try.prog 25 #[.pointer (some ⟨bw, 0, none⟩), .pointer (some ⟨bc, 0, none⟩), .pointer (some ⟨bi, 0, none⟩)] w fun e w' => e = .returned (.tuple #[]) ∧
      ∃ vw', Cel w' P vw' vu (ws.set i x) fs us ∧ Fr w w' P vw.ownBlock vu.ownBlock ∧ vw'.ownBlock = vw.ownBlock := by
  obtain ⟨A, c, rfl, hc, hm⟩ := h.words.form
  have hlw : (wordsV ws).length = ws.length := by simp [wordsV]
  rw [hlw] at hc h ⊢
  obtain ⟨g, rfl⟩ := h.words.addr (by rw [hlw]; omega)
  have h0 := h.cell0
  have c0 : w.cell? ⟨bw, 0, none⟩ = some (.int .u64 x) := by rw [cell_block hbw]; rfl
  have c1 : w.cell? ⟨bc, 0, none⟩ = some (.pointer (some ⟨P, 0, none⟩)) := by rw [cell_block hbc]; rfl
  have c2 : w.cell? ⟨bi, 0, none⟩ = some (.int .i64 i) := by rw [cell_block hbi]; rfl
  have hn0 : (0 : Int) ≤ i := by omega
  have hn1 : (i : Int) < ws.length := by omega
  have g0 : w.cell? ⟨g, i, none⟩ = some (.int .u64 (ws.getD i 0)) := by
    rw [h.words.cell (by rw [hlw]; exact hi)]
    simp [wordsV, List.getElem?_eq_getElem hi, List.getD_eq_getElem?_getD]
  have g0f := h.words.free i
  have HH := hide h
  clear h hbw hbc hbi hlw
  generalize ws.getD i 0 = y at g0
  go_enter Try.func25, Try.ntmps25
  go_wp2_with fail
  go_still_tail 7, (by kernel_rfl)
  change wpList _ _ _ _ _ w.drew
  go_wp2_with fail
  go_end0
  have hC := HH.out.putWord i x
  have hF : Fr w (w.setCell ⟨g, i, none⟩ (.int .u64 x)) P (Value.slice (some ⟨g, 0, none⟩) ws.length c).ownBlock vu.ownBlock :=
    ⟨rfl, rfl, rfl, by simp [World.setCell], fun k _ _ hk _ => Below.heap_setCell _ _ _ _ (fun e => hk (by subst e; rfl))⟩
  refine ⟨rfl, .slice (some ⟨g, 0, none⟩) ws.length c, ?_, ?_, rfl⟩
  · exact hC.below (below_drewN (Below.refl _ _) 1)
  · exact hF.trans (NewOr.refl _ _) (NewOr.refl _ _) (Fr.of_below (below_drewN (Below.refl _ _) 1))

/-- Whatever a closure undoes. -/
theorem back_any (P : Nat) (w : World) {vw vu : Value} {ws : List Int} {fs : List Value} {us : List Cl.U} (h : Cel w P vw vu ws fs us) (hl : ws.length ≤ 1000000) {f : Value} {u : Cl.U} (hf : FuncIs w P vw.ownBlock f u) (hv : Cl.valid u ws) :
    ∃ k caps, f = .func (.func k) #[] caps ∧ (∀ w', (callFunc k caps).run Try.prog w' = .ok (.enter k caps) w') ∧ Calls Try.prog k caps w fun e w' => e = .returned (.tuple #[]) ∧
      ∃ vw', Cel w' P vw' vu (Cl.app u ws) fs us ∧ Fr w w' P vw.ownBlock vu.ownBlock ∧ vw'.ownBlock = vw.ownBlock := by
  match u, hf, hv with
  | .inl n, ⟨bc, bn, hfe, h1, h2⟩, hv => exact ⟨_, _, hfe, fun _ => by kernel_rfl, cut_any P n bc bn w h hv h1 h2⟩
  | .inr (i, x), ⟨bw, bc, bi, hfe, h1, _, h2, h3⟩, hv => exact ⟨_, _, hfe, fun _ => by kernel_rfl, put_any P i bw bc bi x w h hv hl h1 h2 h3⟩

theorem snoc_val {fs : List Value} {k : Nat} (h : fs.length = k + 1) : ∃ f, fs[k]? = some f ∧ fs = fs.take k ++ [f] := by
  refine ⟨fs[k], List.getElem?_eq_getElem (by omega), ?_⟩
  rw [← List.take_succ_eq_append_getElem (by omega), List.take_of_length_le (by omega)]

/-- Undone down to time k. -/
def Und (w wr : World) (P : Nat) (gw gu : Option Nat) (ws : List Int) (us : List Cl.U) (k : Nat) : Prop :=
  ∃ vw vu fs, Cel wr P vw vu (Cl.at_ us ws k) fs (us.take k) ∧ Cl.Ok (us.take k) (Cl.at_ us ws k) ∧ Fr w wr P gw gu ∧ vw.ownBlock = gw ∧ vu.ownBlock = gu

/-- One step down, before the closures are cut. -/
theorem und_step {w wr : World} {P : Nat} {gw gu : Option Nat} {ws : List Int} {us : List Cl.U} {j : Nat} (hj : j + 1 ≤ us.length) (hl : ∀ k, (Cl.at_ us ws k).length ≤ 1000000) (h : Und w wr P gw gu ws us (j + 1)) :
    ∃ (g c : Nat) (k : Nat) (caps : Array Value), gu = some g ∧ j + 1 ≤ c ∧ c ≤ maxLen ∧ wr.cell? ⟨P, 1, none⟩ = some (.slice (some ⟨g, 0, none⟩) (j + 1 : Nat) c) ∧
      wr.cell? ⟨g, j, none⟩ = some (.func (.func k) #[] caps) ∧ (∀ w', (callFunc k caps).run Try.prog w' = .ok (.enter k caps) w') ∧
      Calls Try.prog k caps wr fun e w' => e = .returned (.tuple #[]) ∧ w'.cell? ⟨P, 1, none⟩ = some (.slice (some ⟨g, 0, none⟩) (j + 1 : Nat) c) ∧ w'.frozen? ⟨P, 1, none⟩ = false ∧
        ∀ n, Und w ((w'.setCell ⟨P, 1, none⟩ (.slice (some ⟨g, 0, none⟩) j j)).drewN n) P gw gu ws us j := by
  obtain ⟨vw', vu', fs', hC, hok, hF, hgw, hgu⟩ := h
  have hlen : (us.take (j + 1)).length = j + 1 := by simp; omega
  obtain ⟨u, hu1, hu2⟩ := Cl.snoc_of hlen
  obtain ⟨f, hf1, hf2⟩ := snoc_val (hC.len.trans hlen)
  have htt : (us.take (j + 1)).take j = us.take j := by rw [List.take_take]; congr 1; omega
  rw [htt] at hu2
  have hfi := hC.funcs j f u hf1 hu1
  have hok2 := hok
  rw [hu2] at hok2
  obtain ⟨hv, hokj⟩ := Cl.ok_last hok2
  have happ : Cl.app u (Cl.at_ us ws (j + 1)) = Cl.at_ us ws j := by
    have h1 := Cl.at_take (us := us) (ws := ws) (show j ≤ j + 1 by omega)
    rw [hu2] at h1
    rw [← h1]
    have hlj : (us.take j).length = j := by simp; omega
    have h2 := Cl.at_last (us := us.take j) (u := u) (ws := Cl.at_ us ws (j + 1))
    rw [hlj] at h2
    exact h2.symm
  rw [happ] at hokj
  obtain ⟨k, caps, rfl, hent, hcall⟩ := back_any P wr hC (hl _) hfi hv
  rw [happ] at hcall
  have hfl : fs'.length = j + 1 := hC.len.trans hlen
  obtain ⟨A, c, rfl, hc, hm⟩ := hC.undo.form
  obtain ⟨g, rfl⟩ := hC.undo.addr (by omega)
  have h1 := hC.cell1
  rw [hfl] at h1
  refine ⟨g, c, k, caps, hgu.symm, by omega, hm, h1, ?_, hent, hcall.mono ?_⟩
  · rw [hC.undo.cell (by omega)]; exact hf1
  · rintro e w' ⟨rfl, vw2, hC2, hF2, hg2⟩
    have h2 := hC2.cell1
    rw [hfl] at h2
    refine ⟨rfl, h2, hC2.free 1, fun n => ?_⟩
    have hrow := hC2.undo.cut (k := j) (by omega)
    have hN := hC2.newUndo (w2 := w') (us' := us.take j) (fun _ _ _ => rfl) hrow (by simp; omega) (fun i f u h1 h2 => by
      have hij := (List.getElem?_eq_some_iff.1 h1).1
      simp at hij
      exact hC2.funcs i f u (by rw [List.getElem?_take_of_lt (by omega)] at h1; exact h1) (by
        rw [List.getElem?_take_of_lt (by omega)] at h2 ⊢; exact h2))
    refine ⟨vw2, _, fs'.take j, hN.below (below_drewN (Below.refl _ _) n), hokj, ?_, hg2.trans hgw, hgu⟩
    refine hF.trans (NewOr.refl _ _) (NewOr.refl _ _) ?_
    rw [← hgw, ← hgu]
    have hFs := Fr.setP hF2 1 (.slice (some ⟨g, 0, none⟩) j j)
    refine hFs.trans (NewOr.refl _ _) (NewOr.refl _ _) (Fr.of_below (below_drewN (Below.refl _ _) n))

theorem max_toNat (m : Int) : max 0 m = (m.toNat : Int) := by omega

set_option maxHeartbeats 1600000 in
theorem undo_any (P : Nat) (m : Int) (w : World) {vw vu : Value} {ws : List Int} {fs : List Value} {us : List Cl.U} (h : Cel w P vw vu ws fs us) (hok : Cl.Ok us ws) (hl : ∀ k, (Cl.at_ us ws k).length ≤ 1000000) (hu : us.length ≤ 1000000) (hm : m ≤ us.length) :
    Calls Try.prog 16 #[.pointer (some ⟨P, 0, none⟩), .int .i64 m] w fun e w' => e = .returned (.bool true) ∧
      Und w w' P vw.ownBlock vu.ownBlock ws us m.toNat := by
  obtain ⟨A2, c2, rfl, hc2, hm2⟩ := h.undo.form
  have hlf : fs.length = us.length := h.len
  have h1 := h.cell1
  rw [hlf] at h1
  have hstart : Und w w P vw.ownBlock (Value.slice A2 fs.length c2).ownBlock ws us us.length := ⟨vw, _, fs, by rw [Cl.at_len, List.take_length]; exact h, by rw [Cl.at_len, List.take_length]; exact hok, Fr.refl _, rfl, rfl⟩
  generalize (Value.slice A2 fs.length c2).ownBlock = gu at hstart ⊢
  generalize vw.ownBlock = gw at hstart ⊢
  have HH := hide hstart
  have HL := hide hl
  have hmu : ¬ (us.length : Int) < m := by omega
  have hmax := max_toNat m
  clear h hok hl hlf hc2 hm2 hstart
  go_enter Try.func16, Try.ntmps16
  go_wp2_with fail
  go_loopw [5] (fun i wr => ∃ k : Nat, m.toNat ≤ k ∧ k ≤ us.length ∧ i = .int .i64 ((k : Int) - 1) ∧ Und w wr P gw gu ws us k) (fun i _ => (intOf i + 1).toNat)
  case atStart => exact ⟨us.length, by omega, Nat.le_refl _, rfl, HH.out⟩
  case round =>
    obtain ⟨k, hk1, hk2, rfl, hU⟩ := hrel
    by_cases hlt : m.toNat < k
    · obtain ⟨j, rfl⟩ : ∃ j, k = j + 1 := ⟨k - 1, by omega⟩
      obtain ⟨g, c, kf, caps, rfl, hc1, hc2, hcell1, hcellj, hent, hcall⟩ := und_step hk2 HL.out hU
      have HC := hide hcall
      clear hcall hU
      have hmj : ¬ ((m.toNat : Int) > ((j + 1 : Nat) : Int) - 1) := by omega
      have hj0 : (0 : Int) ≤ ((j + 1 : Nat) : Int) - 1 := by omega
      go_wp2_with fail
      all_goals
        refine HC.out.mono ?_
        rintro e w' ⟨rfl, hcell2, hfree2, hU2⟩
        have HU := hide hU2
        clear hU2
        go_wp2_with fail
        exact ⟨⟨j, by omega, by omega, rfl, HU.out 0⟩, by simp [intOf]⟩
    · have hkm : k = m.toNat := by omega
      subst hkm
      have HU := hide hU
      clear hU
      go_wp2_with fail
      all_goals
        go_ret
        exact ⟨rfl, HU.out⟩

end Go.Proofs.Ytkhhofokhjbnbaa
