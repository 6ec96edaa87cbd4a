/- The walk of RowsNobody: a nil table accepts nothing, nor does a table accept variables that are not there; a table of zero cells is as a new one. -/
import Derived.Test.YthnbhcfpfbimgaaRwAlive
import Derived.ProofKit
import Derived.OpenShut
import Derived.ChangeSame
import Derived.Lib.SmallJoins
namespace Go.Proofs.Ythnbhcfpfbimgaa
open Go.RowKit Go.ChangeShapes Go.WideShapes Go.ChangeAt Go.Deep Go.Joins
open Rw (El At Fld Lk Eqn U T W64 Sp Wf tot Sz Nx Ow)
set_option maxRecDepth 100000 in
set_option maxHeartbeats 4000000 in
theorem nobody_any (A0 : Option Addr) (n0 c0 : Nat) (t0 : Int) (A1 : Option Addr) (n1 c1 : Nat) (t1 : Int) (f : ByteArray) (z : Int) (w : World) (hy : ∃ y : W64, z = (y.toNat : Nat)) :
    Calls Try.prog 5 #[.agg #[.slice A0 n0 c0, .int .i64 t0, .slice A1 n1 c1, .int .i64 t1], .string f, .int .u64 z] w fun e w' => e = .returned (.bool true) ∧ Below w.heap.size w w' := by
  obtain ⟨y, rfl⟩ := hy
  have hEn := fun w => equate_nil (.slice A0 n0 c0) (.slice A1 n1 c1) t0 t1 y w
  have hLn := fun w => Lacks_nil 0 f y w
  unfold whyV at hEn hLn
  have HEn := hide (And.intro hEn hLn)
  have hb0 := below_laid w (.cells #[.slice A0 n0 c0, .int .i64 t0, .slice A1 n1 c1, .int .i64 t1] 73)
  have e0 := heap_alloc_new w (.cells #[.slice A0 n0 c0, .int .i64 t0, .slice A1 n1 c1, .int .i64 t1] 73)
  have H0 := hide (And.intro hb0 e0)
  have k0 : (w.alloc (.cells #[.slice A0 n0 c0, .int .i64 t0, .slice A1 n1 c1, .int .i64 t1] 73)).cell? ⟨w.heap.size, 0, none⟩ = some (.slice A0 n0 c0) := by rw [cell_block e0]; rfl
  have k1 : (w.alloc (.cells #[.slice A0 n0 c0, .int .i64 t0, .slice A1 n1 c1, .int .i64 t1] 73)).cell? ⟨w.heap.size, 1, none⟩ = some (.int .i64 t0) := by rw [cell_block e0]; rfl
  have k2 : (w.alloc (.cells #[.slice A0 n0 c0, .int .i64 t0, .slice A1 n1 c1, .int .i64 t1] 73)).cell? ⟨w.heap.size, 2, none⟩ = some (.slice A1 n1 c1) := by rw [cell_block e0]; rfl
  have k3 : (w.alloc (.cells #[.slice A0 n0 c0, .int .i64 t0, .slice A1 n1 c1, .int .i64 t1] 73)).cell? ⟨w.heap.size, 3, none⟩ = some (.int .i64 t1) := by rw [cell_block e0]; rfl
  clear hEn hLn hb0 e0
  go_enter Try.func5, Try.ntmps5
  go_upto_region 4 with (first | (go_at_call 14; refine (stuck_nil _).mono ?_; rintro e w1 ⟨rfl, rfl⟩) | (go_at_call 18; refine (fields_nil 0 _).mono ?_; rintro e w1 ⟨rfl, rfl⟩))
  generalize hW : w.alloc (.cells #[.slice A0 n0 c0, .int .i64 t0, .slice A1 n1 c1, .int .i64 t1] 73) = W at *
  clear hW
  go_upto_region 7 with (first | (go_at_call 15; refine (len_nil _).mono ?_; rintro e w1 ⟨rfl, rfl⟩) | (go_at_call 22; refine (var_nil _).mono ?_; rintro e w1 ⟨rfl, hb1⟩; have e1 := (hb1.block _ (blk_lt H0.out.2)).trans H0.out.2; have m0 : w1.cell? ⟨w.heap.size, 0, none⟩ = some (.slice A0 n0 c0) := (by rw [cell_block e1]; rfl); have m1 : w1.cell? ⟨w.heap.size, 1, none⟩ = some (.int .i64 t0) := (by rw [cell_block e1]; rfl); have m2 : w1.cell? ⟨w.heap.size, 2, none⟩ = some (.slice A1 n1 c1) := (by rw [cell_block e1]; rfl); have m3 : w1.cell? ⟨w.heap.size, 3, none⟩ = some (.int .i64 t1) := (by rw [cell_block e1]; rfl); have H1 := hide (And.intro (H0.out.1.trans (hb1.mono H0.out.1.size)) e1); clear hb1 e1) | (go_at_call 23; refine (HEn.out.1 _).mono ?_; rintro e w2 ⟨rfl, hb2⟩; have e2 := (hb2.block _ (blk_lt H1.out.2)).trans H1.out.2; have H2 := hide (And.intro (H1.out.1.trans (hb2.mono H1.out.1.size)) e2); clear hb2 e2) | (go_at_call 24; refine (HEn.out.2 _).mono ?_; rintro e w3 ⟨rfl, rfl⟩) | (go_at_call 16; refine (eqs_nil _).mono ?_; rintro e w4 ⟨rfl, rfl⟩) | (go_at_call 25; refine (mark_nil _).mono ?_; rintro e w4 ⟨rfl, rfl⟩) | (go_at_call 26; refine (undo_nil 0 _).mono ?_; rintro e w4 ⟨rfl, rfl⟩))
  have hbz := below_laid w2 (.cells zeroTb 83)
  have hS : Sg (w2.alloc (.cells zeroTb 83)) w2.heap.size w2.heap.size bl0 (w2.alloc (.cells zeroTb 83)) bl0 Rw.T.new := Sg.refl (tb_new (heap_alloc_new w2 _) (Nat.le_refl _)) (by simp)
  have e3 := (hbz.block _ (blk_lt H2.out.2)).trans H2.out.2
  have HZ := hide (And.intro hS (And.intro e3 (H2.out.1.trans (hbz.mono H2.out.1.size))))
  clear hbz hS e3 m0 m1 m2 m3 k0 k1 k2 k3
  unfold zeroTb at HZ
  generalize hZ : w2.alloc (.cells #[.slice none 0 0, .slice none 0 0, .slice none 0 0, .slice none 0 0, .slice none 0 0, .bool false, .int .u64 0] 83) = Z at *
  have hPle : w.heap.size ≤ w2.heap.size := H2.out.1.size
  generalize hP : w2.heap.size = P at *
  have hLo : ∀ (g : Bl) (s : T) (v : Int) (w' : World), Tb w' P P g s → (s.stuck = true ∨ v < 0 ∨ ¬ v < s.own.length) → Calls Try.prog 24 #[.pointer (some ⟨P, 0, none⟩), .int .i64 v, .string f, .int .u64 (y.toNat : Nat)] w' fun e w'' => e = .returned (.bool false) ∧ w' = w'' := fun g s v w' h hn => Lacks_out P P g s v f y w' h hn
  have HL0 := hide (hLo bl0 Rw.T.new 0 Z HZ.out.1.tb (.inr (.inr (by decide))))
  have HV : Hid (Calls Try.prog 22 #[.pointer (some ⟨P, 0, none⟩)] Z fun e w' => RetS (.int .i64 0) Z P P bl0 Rw.T.new.var e w') := hide (var_any P P bl0 Rw.T.new Z HZ.out.1.tb HZ.out.1.ge (by decide) (by decide) (by decide) (by decide))
  have HL1 : Hid (∀ g1 w1, Tb w1 P P g1 Rw.T.new.var → Calls Try.prog 24 #[.pointer (some ⟨P, 0, none⟩), .int .i64 1, .string f, .int .u64 (y.toNat : Nat)] w1 fun e w'' => e = .returned (.bool false) ∧ w1 = w'') := hide fun g1 w1 h => hLo g1 Rw.T.new.var 1 w1 h (.inr (.inr (by decide)))
  have HL2 : Hid (∀ g1 w1, Tb w1 P P g1 Rw.T.new.var → Calls Try.prog 24 #[.pointer (some ⟨P, 0, none⟩), .int .i64 (-1), .string f, .int .u64 (y.toNat : Nat)] w1 fun e w'' => e = .returned (.bool false) ∧ w1 = w'') := hide fun g1 w1 h => hLo g1 Rw.T.new.var (-1) w1 h (.inr (.inl (by decide)))
  clear hLo hZ hP
  go_upto_region 9 with (first | (go_at_call 24; with_reducible refine (HL0.out).mono ?_; rintro e w5 ⟨rfl, rfl⟩) | (go_at_call 22; refine (HV.out).mono ?_; rintro e w6 ⟨rfl, hs6⟩; obtain ⟨g6, hS6, _, hT6⟩ := HZ.out.1.stepT hs6; have e6 := hT6.block _ _ _ HZ.out.2.1 (by unfold Apart5; decide); have H6 := hide (And.intro hS6 e6); clear hs6 hS6 hT6 e6) | (go_at_call 24; with_reducible refine (HL1.out _ _ H6.out.1.tb).mono ?_; rintro e w7 ⟨rfl, rfl⟩) | (go_at_call 24; with_reducible refine (HL2.out _ _ H6.out.1.tb).mono ?_; rintro e w7 ⟨rfl, rfl⟩))
  have q0 : w6.cell? ⟨w.heap.size, 0, none⟩ = some (.slice A0 n0 c0) := by rw [cell_block H6.out.2]; rfl
  have q1 : w6.cell? ⟨w.heap.size, 1, none⟩ = some (.int .i64 t0) := by rw [cell_block H6.out.2]; rfl
  have q2 : w6.cell? ⟨w.heap.size, 2, none⟩ = some (.slice A1 n1 c1) := by rw [cell_block H6.out.2]; rfl
  have q3 : w6.cell? ⟨w.heap.size, 3, none⟩ = some (.int .i64 t1) := by rw [cell_block H6.out.2]; rfl
  have hb6 : Below w.heap.size w w6 := HZ.out.2.2.trans (H6.out.1.kp.below (B := w.heap.size) HZ.out.2.2.size (fun k hk => by
    rcases hk with rfl | e | e | e | e | e
    · exact hPle
    all_goals simp [bl0] at e))
  have HB6 := hide hb6
  have hEo : (¬ t0 < 1 ∨ ¬ t1 < 1) → Calls Try.prog 23 #[.pointer (some ⟨P, 0, none⟩), .agg #[.slice A0 n0 c0, .int .i64 t0], .agg #[.slice A1 n1 c1, .int .i64 t1], .int .u64 (y.toNat : Nat)] w6 fun e w' => e = .returned (.bool false) ∧ Below w6.heap.size w6 w' := fun h =>
    equate_out P P g6 Rw.T.new.var (.slice A0 n0 c0) (.slice A1 n1 c1) t0 t1 y w6 H6.out.1.tb (.inr h)
  have hMk : ∀ w', Tb w' P P g6 Rw.T.new.var → Calls Try.prog 25 #[.pointer (some ⟨P, 0, none⟩)] w' fun e w'' => e = .returned (.int .i64 1) ∧ w' = w'' := fun w' h => mark_any P P g6 Rw.T.new.var w' h
  have hLen : Calls Try.prog 15 #[.pointer (some ⟨P, 0, none⟩)] w6 fun e w'' => e = .returned (.int .i64 1) ∧ w6 = w'' := len_any P P g6 Rw.T.new.var w6 H6.out.1.tb
  have HC := hide (And.intro hEo (And.intro hMk hLen))
  clear hb6 hEo hMk hLen
  by_cases h0 : 0 < t0
  · have he : ¬ t0 < 1 := by omega
    have HEq := hide (HC.out.1 (.inl he))
    clear he
    go_wp2_with (first | (go_at_call 23; refine (HEq.out).mono ?_; rintro e w7 ⟨rfl, hb7⟩; have h7 := H6.out.1.below hb7; have H7 := hide (And.intro h7.1 (HB6.out.trans (hb7.mono HB6.out.size))); clear hb7 h7) | (go_at_call 25; refine (HC.out.2.1 _ H7.out.1.tb).mono ?_; rintro e w8 ⟨rfl, rfl⟩) | (go_at_call 10; refine (alive_any _).mono ?_; rintro e w9 ⟨rfl, hb9⟩; have H9 := hide (H7.out.2.trans (hb9.mono H7.out.2.size)); clear hb9))
    go_ret
    exact ⟨rfl, H9.out⟩
  · by_cases h1 : 0 < t1
    · have he : ¬ t1 < 1 := by omega
      have HEq := hide (HC.out.1 (.inr he))
      clear he
      go_wp2_with (first | (go_at_call 23; refine (HEq.out).mono ?_; rintro e w7 ⟨rfl, hb7⟩; have h7 := H6.out.1.below hb7; have H7 := hide (And.intro h7.1 (HB6.out.trans (hb7.mono HB6.out.size))); clear hb7 h7) | (go_at_call 25; refine (HC.out.2.1 _ H7.out.1.tb).mono ?_; rintro e w8 ⟨rfl, rfl⟩) | (go_at_call 10; refine (alive_any _).mono ?_; rintro e w9 ⟨rfl, hb9⟩; have H9 := hide (H7.out.2.trans (hb9.mono H7.out.2.size)); clear hb9))
      go_ret
      exact ⟨rfl, H9.out⟩
    · go_wp2_with (first | (go_at_call 15; refine (HC.out.2.2).mono ?_; rintro e w8 ⟨rfl, rfl⟩) | (go_at_call 10; refine (alive_any _).mono ?_; rintro e w9 ⟨rfl, hb9⟩; have H9 := hide (HB6.out.trans (hb9.mono HB6.out.size)); clear hb9))
      go_ret
      exact ⟨rfl, H9.out⟩
theorem nobody_law (A0 : Option Addr) (n0 c0 : Nat) (t0 : Int) (A1 : Option Addr) (n1 c1 : Nat) (t1 : Int) (f : ByteArray) (z : Int) (w : World) (_hf : f.size ≤ maxLen) (hz : (Lit.int .u64 z).wf = true) :
    Calls Try.prog 5 #[.agg #[.slice A0 n0 c0, .int .i64 t0, .slice A1 n1 c1, .int .i64 t1], .string f, .int .u64 z] w fun e w' => e = .returned (.bool true) ∧ Below w.heap.size w w' := by
  refine nobody_any A0 n0 c0 t0 A1 n1 c1 t1 f z w ⟨BitVec.ofNat 64 z.toNat, ?_⟩
  simp [Lit.wf, IntKind.min, IntKind.max, IntKind.signed, IntKind.bits] at hz
  rw [BitVec.toNat_ofNat]
  omega
section
variable {H : Type} {enc : TypeId × Value → H} {W : World} {r : Reach} {b0 : Nat} {v : Value} {d : DataW H} {p : List MemPlace}
theorem list2 {α : Type} {l : List α} (h : l.length = 2) : ∃ a b, l = [a, b] := by
  match l, h with
  | [a, b], _ => exact ⟨a, b, rfl⟩
set_option maxRecDepth 100000 in
theorem open_rt {n : Nat} {cs : List Value} {y : DataW H × List MemPlace} (h : DataW.trod enc Try.prog W 0 (fun _ => true) true n 68 cs = some y) : ∃ A n c t, cs = [.slice A n c, .int .i64 t] := by
  obtain ⟨y0, y1, m, _, hl, h0, h1⟩ := trod_struct2 Try.underlying68 h
  have hC : Try.prog.cellsOf 68 = 2 := by kernel_rfl
  rw [hC] at hl
  obtain ⟨c0, c1, rfl⟩ := list2 hl
  · have k0 : Try.prog.cellsOf 56 = 1 := by kernel_rfl
    have k1 : Try.prog.cellsOf 3 = 1 := by kernel_rfl
    simp only [k0, k1] at h0 h1
    obtain ⟨A, n, c, e0⟩ := slice_form Try.underlying56 (cs := [c0]) (by simpa using h0)
    obtain ⟨t, e1, _, _⟩ := DataW.trod_int Try.underlying3 (cs := [c1]) (by simpa using h1)
    simp at e0 e1
    exact ⟨A, n, c, t, by rw [e0, e1]⟩
set_option maxRecDepth 100000 in
theorem open_rts (hv : Value.okWide Try.prog W r b0 73 v) (h : DataW.Trod enc Try.prog W 0 (fun _ => true) true 73 v d p) :
    ∃ A0 n0 c0 t0 A1 n1 c1 t1, v = .agg #[.slice A0 n0 c0, .int .i64 t0, .slice A1 n1 c1, .int .i64 t1] := by
  have hC : Try.prog.cellsOf 68 = 2 := by kernel_rfl
  have hC4 : Try.prog.cellsOf 73 = 4 := by kernel_rfl
  simp only [Value.okWide, Try.underlying73] at hv
  obtain ⟨cs, rfl, hsz, _⟩ := hv
  rw [hC4] at hsz
  obtain ⟨a, b, c, e, rfl⟩ := array4 hsz
  obtain ⟨fuel, hf⟩ := h
  obtain ⟨xs, m, _, _, _, hxl, hi⟩ := DataW.trod_array Try.underlying73 hf
  have h0 := hi 0 (by omega)
  have h1 := hi 1 (by omega)
  rw [hC] at h0 h1
  obtain ⟨y0, e0⟩ : ∃ y, xs[0]? = some y := ⟨xs[0], List.getElem?_eq_getElem (by omega)⟩
  obtain ⟨y1, e1⟩ : ∃ y, xs[1]? = some y := ⟨xs[1], List.getElem?_eq_getElem (by omega)⟩
  rw [e0] at h0
  rw [e1] at h1
  obtain ⟨A0, n0, c0, t0, q0⟩ := open_rt (cs := [a, b]) (by simpa [Value.cells] using h0)
  obtain ⟨A1, n1, c1, t1, q1⟩ := open_rt (cs := [c, e]) (by simpa [Value.cells] using h1)
  simp at q0 q1
  exact ⟨A0, n0, c0, t0, A1, n1, c1, t1, by rw [q0.1, q0.2, q1.1, q1.2]⟩
end
end Go.Proofs.Ythnbhcfpfbimgaa
