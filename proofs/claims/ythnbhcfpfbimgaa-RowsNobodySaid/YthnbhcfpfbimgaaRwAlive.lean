/- The walk of the chapter's example. -/
import Derived.Test.YthnbhcfpfbimgaaRwAlive0
import Derived.Test.YthnbhcfpfbimgaaRwEqEl
namespace Go.Proofs.Ythnbhcfpfbimgaa
open Go.RowKit
open Rw (El At Fld Lk Eqn U T W64 Sp Wf tot Sz Nx Ow fF gF)
theorem sorts_one {x : ByteArray} {l : List ByteArray} (h : Nm.Sorts [x] l) : l = [x] := by
  obtain ⟨h1, h2⟩ := h
  have hx : x ∈ l := (h2 x).2 (by simp)
  have hall : ∀ y ∈ l, y = x := fun y hy => by simpa using (h2 y).1 hy
  match l, hx with
  | [y], _ => rw [hall y (by simp)]
  | y :: z :: r, _ =>
    have := (List.pairwise_cons.1 h1).1 z (by simp)
    rw [hall y (by simp), hall z (by simp), Nm.ls_irrefl] at this
    cases this
theorem fields_alive (P B : Nat) (g : Bl) (w : World) (h : Tb w B P g Rw.s3) :
    Calls Try.prog 18 #[.pointer (some ⟨P, 0, none⟩), .int .i64 0] w fun e w' => ∃ A c, e = .returned (.tuple #[.slice A 1 c, .bool true]) ∧ RowZ w' 60 10 (.slice A 1 c) 1 (fdsV [gF]) ∧ Below w.heap.size w w' := by
  have h0 := fields_any P B 0 0 g Rw.s3 w h (Rw.ow_of Rw.s3_ow) (by rw [Rw.s3_own]; rfl) (by have := Rw.s3_tot; omega) (by have := Rw.s3_len; show (Rw.s3.spreads [] 0).fields.length ≤ _; omega)
  refine h0.mono ?_
  rintro e w' ⟨v, names, rfl, hso, hr, hb⟩
  have hf : (Rw.s3.spreads [] ((0 : Nat) : Int)).fields = [gF] := Rw.s3_fields
  have hfin : (Rw.s3.spreads [] ((0 : Nat) : Int)).fin = 2 := Rw.s3_fin
  rw [hf] at hso hr
  have hn : names = [gF.name] := sorts_one (by simpa using hso)
  subst hn
  have hp : Rw.pick [gF] [gF.name] = [gF] := by simp [Rw.pick]
  rw [hp] at hr
  obtain ⟨A, c, rfl, _, _⟩ := RowZ.form hr
  exact ⟨A, c, by rw [hfin]; rfl, hr, hb⟩
set_option maxRecDepth 100000 in
set_option maxHeartbeats 4000000 in
theorem alive_any (w : World) : Calls Try.prog 10 #[] w fun e w' => e = .returned (.bool true) ∧ Below w.heap.size w w' := by
  have hbn := below_laid w (.cells zeroTb 83)
  have hS0 : Sg (w.alloc (.cells zeroTb 83)) w.heap.size w.heap.size bl0 (w.alloc (.cells zeroTb 83)) bl0 Rw.T.new := Sg.refl (tb_new (heap_alloc_new w _) (Nat.le_refl _)) (by simp)
  have HN := hide (new_any w)
  have HV1 : Hid (Calls Try.prog 22 #[.pointer (some ⟨w.heap.size, 0, none⟩)] (w.alloc (.cells zeroTb 83)) fun e w' => RetS (.int .i64 0) (w.alloc (.cells zeroTb 83)) w.heap.size w.heap.size bl0 Rw.T.new.var e w') :=
    hide (var_any w.heap.size w.heap.size bl0 Rw.T.new _ hS0.tb hS0.ge (by decide) (by decide) (by decide) (by decide))
  have HV2 : Hid (∀ w1 g1, Sg (w.alloc (.cells zeroTb 83)) w.heap.size w.heap.size bl0 w1 g1 Rw.T.new.var → Calls Try.prog 22 #[.pointer (some ⟨w.heap.size, 0, none⟩)] w1 fun e w' => RetS (.int .i64 1) w1 w.heap.size w.heap.size g1 Rw.s2 e w') :=
    hide fun w1 g1 h => var_any w.heap.size w.heap.size g1 Rw.T.new.var w1 h.tb h.ge (by decide) (by decide) (by decide) (by decide)
  have HE : Hid (∀ w4 g2 va vb, Sg (w.alloc (.cells zeroTb 83)) w.heap.size w.heap.size bl0 w4 g2 Rw.s2 → SlAt w4 w.heap.size 60 10 va 1 (fdsV [fF]) → SlAt w4 w.heap.size 60 10 vb 1 (fdsV [gF]) →
      Calls Try.prog 23 #[.pointer (some ⟨w.heap.size, 0, none⟩), .agg #[va, .int .i64 0], .agg #[vb, .int .i64 1], .int .u64 1] w4 fun e w' => RetS (.bool true) w4 w.heap.size w.heap.size g2 Rw.s3 e w') :=
    hide fun w4 g2 va vb h ha hb => equate_ok w.heap.size w.heap.size 100 g2 Rw.s2 Rw.s3 ⟨[fF], 0⟩ ⟨[gF], 1⟩ va vb 1 w4 h.tb (Rw.ow_of Rw.s2_ow) h.ge ha hb (by decide) (by decide) (by decide) (Rw.sz_of Rw.s2_sz) (by decide) (Prod.ext Rw.s3_is rfl)
  have HS0 := hide (And.intro hS0 hbn)
  clear hS0 hbn
  go_enter Try.func10, Try.ntmps10
  go_upto_region 3 with (first | (go_at_call 33; refine (HN.out).mono ?_; rintro e w1 ⟨rfl, rfl⟩) | (go_at_call 22; with_reducible refine (HV1.out).mono ?_; rintro e w2 ⟨rfl, hs2⟩; obtain ⟨g2, hS2, _⟩ := HS0.out.1.step hs2; have H2 := hide hS2; clear hs2 hS2) | (go_at_call 22; with_reducible refine (HV2.out _ _ H2.out).mono ?_; rintro e w3 ⟨rfl, hs3⟩; obtain ⟨g3, hS3, _⟩ := H2.out.step hs3; have H3 := hide hS3; clear hs3 hS3))
  have hb1 := below_laid w3 (.cells #[.string ⟨#[102]⟩, .int .i64 3, .int .u64 0, .int .u64 0, .int .u64 0, .int .u64 0, .int .u64 0, .int .u64 0, .int .u64 0, .int .u64 0] 60)
  have f1 : SlAt (w3.alloc (.cells #[.string ⟨#[102]⟩, .int .i64 3, .int .u64 0, .int .u64 0, .int .u64 0, .int .u64 0, .int .u64 0, .int .u64 0, .int .u64 0, .int .u64 0] 60)) w.heap.size 60 10 (.slice (some ⟨w3.heap.size, 0, none⟩) 1 1) 1 (fdsV [fF]) := SlAt.of_row (RowZ.laid w3 60 10 1 (fdsV [fF]) rfl (by decide))
  have hb2 := below_laid (w3.alloc (.cells #[.string ⟨#[102]⟩, .int .i64 3, .int .u64 0, .int .u64 0, .int .u64 0, .int .u64 0, .int .u64 0, .int .u64 0, .int .u64 0, .int .u64 0] 60)) (.cells #[.slice (some ⟨w3.heap.size, 0, none⟩) 1 1, .int .i64 0] 68)
  have e2 := heap_alloc_new (w3.alloc (.cells #[.string ⟨#[102]⟩, .int .i64 3, .int .u64 0, .int .u64 0, .int .u64 0, .int .u64 0, .int .u64 0, .int .u64 0, .int .u64 0, .int .u64 0] 60)) (.cells #[.slice (some ⟨w3.heap.size, 0, none⟩) 1 1, .int .i64 0] 68)
  have hb3 := below_laid ((w3.alloc (.cells #[.string ⟨#[102]⟩, .int .i64 3, .int .u64 0, .int .u64 0, .int .u64 0, .int .u64 0, .int .u64 0, .int .u64 0, .int .u64 0, .int .u64 0] 60)).alloc (.cells #[.slice (some ⟨w3.heap.size, 0, none⟩) 1 1, .int .i64 0] 68)) (.cells #[.string ⟨#[103]⟩, .int .i64 4, .int .u64 0, .int .u64 0, .int .u64 0, .int .u64 0, .int .u64 0, .int .u64 0, .int .u64 0, .int .u64 0] 60)
  have f3 : SlAt (((w3.alloc (.cells #[.string ⟨#[102]⟩, .int .i64 3, .int .u64 0, .int .u64 0, .int .u64 0, .int .u64 0, .int .u64 0, .int .u64 0, .int .u64 0, .int .u64 0] 60)).alloc (.cells #[.slice (some ⟨w3.heap.size, 0, none⟩) 1 1, .int .i64 0] 68)).alloc (.cells #[.string ⟨#[103]⟩, .int .i64 4, .int .u64 0, .int .u64 0, .int .u64 0, .int .u64 0, .int .u64 0, .int .u64 0, .int .u64 0, .int .u64 0] 60)) w.heap.size 60 10 (.slice (some ⟨((w3.alloc (.cells #[.string ⟨#[102]⟩, .int .i64 3, .int .u64 0, .int .u64 0, .int .u64 0, .int .u64 0, .int .u64 0, .int .u64 0, .int .u64 0, .int .u64 0] 60)).alloc (.cells #[.slice (some ⟨w3.heap.size, 0, none⟩) 1 1, .int .i64 0] 68)).heap.size, 0, none⟩) 1 1) 1 (fdsV [gF]) := SlAt.of_row (RowZ.laid _ 60 10 1 (fdsV [gF]) rfl (by decide))
  have hb4 := below_laid (((w3.alloc (.cells #[.string ⟨#[102]⟩, .int .i64 3, .int .u64 0, .int .u64 0, .int .u64 0, .int .u64 0, .int .u64 0, .int .u64 0, .int .u64 0, .int .u64 0] 60)).alloc (.cells #[.slice (some ⟨w3.heap.size, 0, none⟩) 1 1, .int .i64 0] 68)).alloc (.cells #[.string ⟨#[103]⟩, .int .i64 4, .int .u64 0, .int .u64 0, .int .u64 0, .int .u64 0, .int .u64 0, .int .u64 0, .int .u64 0, .int .u64 0] 60)) (.cells #[.slice (some ⟨w3.heap.size + 1 + 1, 0, none⟩) 1 1, .int .i64 1] 68)
  have e4 := heap_alloc_new (((w3.alloc (.cells #[.string ⟨#[102]⟩, .int .i64 3, .int .u64 0, .int .u64 0, .int .u64 0, .int .u64 0, .int .u64 0, .int .u64 0, .int .u64 0, .int .u64 0] 60)).alloc (.cells #[.slice (some ⟨w3.heap.size, 0, none⟩) 1 1, .int .i64 0] 68)).alloc (.cells #[.string ⟨#[103]⟩, .int .i64 4, .int .u64 0, .int .u64 0, .int .u64 0, .int .u64 0, .int .u64 0, .int .u64 0, .int .u64 0, .int .u64 0] 60)) (.cells #[.slice (some ⟨w3.heap.size + 1 + 1, 0, none⟩) 1 1, .int .i64 1] 68)
  have f1' := ((f1.below hb2).below hb3).below hb4
  have f3' := f3.below hb4
  have e2' := (hb4.block _ (Nat.lt_of_lt_of_le (blk_lt e2) hb3.size)).trans ((hb3.block _ (blk_lt e2)).trans e2)
  have hS4 := ((((H3.out.below hb1).1.below hb2).1.below hb3).1.below hb4).1
  rw [World.size_alloc] at e2' f3'
  rw [World.size_alloc] at f3'
  rw [World.size_alloc, World.size_alloc, World.size_alloc] at e4
  have H4 := hide (And.intro hS4 (And.intro f1' f3'))
  go_upto_region 5 with (fail)
  generalize hW : (((w3.alloc (.cells #[.string ⟨#[102]⟩, .int .i64 3, .int .u64 0, .int .u64 0, .int .u64 0, .int .u64 0, .int .u64 0, .int .u64 0, .int .u64 0, .int .u64 0] 60)).alloc (.cells #[.slice (some ⟨w3.heap.size, 0, none⟩) 1 1, .int .i64 0] 68)).alloc (.cells #[.string ⟨#[103]⟩, .int .i64 4, .int .u64 0, .int .u64 0, .int .u64 0, .int .u64 0, .int .u64 0, .int .u64 0, .int .u64 0, .int .u64 0] 60)).alloc (.cells #[.slice (some ⟨w3.heap.size + 1 + 1, 0, none⟩) 1 1, .int .i64 1] 68) = W at *
  have c0 : W.cell? ⟨w3.heap.size + 1, 0, none⟩ = some (.slice (some ⟨w3.heap.size, 0, none⟩) 1 1) := by rw [cell_block e2']; rfl
  have c1 : W.cell? ⟨w3.heap.size + 1, 1, none⟩ = some (.int .i64 0) := by rw [cell_block e2']; rfl
  have c2 : W.cell? ⟨w3.heap.size + 1 + 1 + 1, 0, none⟩ = some (.slice (some ⟨w3.heap.size + 1 + 1, 0, none⟩) 1 1) := by rw [cell_block e4]; rfl
  have c3 : W.cell? ⟨w3.heap.size + 1 + 1 + 1, 1, none⟩ = some (.int .i64 1) := by rw [cell_block e4]; rfl
  clear hb1 f1 hb2 e2 hb3 f3 hb4 e4 f1' f3' e2' hS4 hW
  go_upto_region 7 with (first | (go_at_call 23; refine (HE.out _ _ _ _ H4.out.1 H4.out.2.1 H4.out.2.2).mono ?_; rintro e w5 ⟨rfl, hs5⟩; obtain ⟨g5, hS5, _⟩ := H4.out.1.step hs5; have H5 := hide hS5; clear hs5 hS5) | (go_at_call 18; refine (fields_alive w.heap.size w.heap.size g5 w5 H5.out.tb).mono ?_; rintro e w6 ⟨A6, c6, rfl, hr6, hb6⟩; have H6 := hide (And.intro hr6 (And.intro (H5.out.below hb6).1 hb6)); clear hr6 hb6))
  obtain ⟨b6, rfl⟩ := RowZ.addr H6.out.1 (by decide)
  have hcl : ∀ (j : Nat) u, (fdsV [gF])[j]? = some u → w6.cell? ⟨b6, 0 + j, none⟩ = some u := fun j u hu => by
    rw [Nat.zero_add, RowZ.cell H6.out.1 (List.getElem?_eq_some_iff.1 hu).1]
    exact hu
  have q0 : w6.cell? ⟨b6, 0, none⟩ = some (.string ⟨#[103]⟩) := hcl 0 _ rfl
  have q1 : w6.cell? ⟨b6, 1, none⟩ = some (.int .i64 4) := hcl 1 _ rfl
  have q2 : w6.cell? ⟨b6, 2, none⟩ = some (.int .u64 0) := hcl 2 _ rfl
  have q3 : w6.cell? ⟨b6, 3, none⟩ = some (.int .u64 0) := hcl 3 _ rfl
  have q4 : w6.cell? ⟨b6, 4, none⟩ = some (.int .u64 0) := hcl 4 _ rfl
  have q5 : w6.cell? ⟨b6, 5, none⟩ = some (.int .u64 0) := hcl 5 _ rfl
  have q6 : w6.cell? ⟨b6, 6, none⟩ = some (.int .u64 0) := hcl 6 _ rfl
  have q7 : w6.cell? ⟨b6, 7, none⟩ = some (.int .u64 0) := hcl 7 _ rfl
  have q8 : w6.cell? ⟨b6, 8, none⟩ = some (.int .u64 0) := hcl 8 _ rfl
  have q9 : w6.cell? ⟨b6, 9, none⟩ = some (.int .u64 0) := hcl 9 _ rfl
  clear hcl c0 c1 c2 c3
  have HQ := hide (eqs_any w.heap.size w.heap.size g5 Rw.s3 w6 H6.out.2.1.tb (by rw [Rw.s3_eqs]; omega))
  go_wp2_with (go_at_call 16; refine (HQ.out).mono ?_; rintro e w7 ⟨⟨v7, rfl, hr7, hb7⟩⟩; obtain ⟨A7, c7, rfl, _⟩ := RowZ.form hr7; rw [Rw.s3_eqs]; have H7 := hide hb7; clear hr7 hb7)
  go_outline
  trace_state
  go_ret
  refine ⟨rfl, HS0.out.2.trans ?_⟩
  have h7 := (H6.out.2.1.below H7.out).1
  have := h7.kp.below (B := w.heap.size) (by simp) (fun k hk => by
    rcases hk with rfl | e | e | e | e | e
    · exact Nat.le_refl _
    all_goals simp [bl0] at e)
  exact this
end Go.Proofs.Ythnbhcfpfbimgaa
