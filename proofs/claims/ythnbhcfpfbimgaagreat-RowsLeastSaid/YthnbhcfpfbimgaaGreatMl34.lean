/- Texts put together: RwEquate2 RwAlive RiBegun. -/
import Derived.Test.YthnbhcfpfbimgaaGreatMl33
import Derived.Test.YthnbhcfpfbimgaaGreatMl32
import Derived.Test.YthnbhcfpfbimgaaGreatMl25
/- The walk of Equate, taken or not. -/
namespace Go.Proofs.YthnbhcfpfbimgaaGreat
open Go.RowKit
open Rw (El At Fld Lk Eqn U T W64 Sp Wf tot Sz Nx Ow OkL Gd)
theorem T_ext {s s' : T} (h1 : s.core = s'.core) (h2 : s.undo = s'.undo) (h3 : s.times = s'.times) : s = s' := by
  obtain ⟨undo, times, rows, own, eqs, stuck, why⟩ := s
  obtain ⟨undo', times', rows', own', eqs', stuck', why'⟩ := s'
  simp only [Rw.T.core, Rw.Core.mk.injEq] at h1 h2 h3
  obtain ⟨a, b, c, d, e⟩ := h1
  subst a; subst b; subst c; subst d; subst e; subst h2; subst h3
  rfl
set_option maxRecDepth 100000 in
set_option maxHeartbeats 2000000 in
theorem equate_in (P B n : Nat) (g : Bl) (s : T) (a b : Rw.Term) (va vb : Value) (y : W64) (w : World) (h : Tb w B P g s) (hG : Gd s) (hB : B ≤ w.heap.size) (hva : SlAt w B 59 10 va a.fields.length (fdsV a.fields)) (hvb : SlAt w B 59 10 vb b.fields.length (fdsV b.fields))
    (hta : a.tail < s.own.length) (htb : b.tail < s.own.length) (hst : s.stuck = false) (hz : Sz s n) (hn : 40 * (n + 1 + a.fields.length + b.fields.length) + 1000 ≤ 400000000) (hu2 : (s.tick.equal a b y).2.undo.length ≤ 100000000) :
    Calls Tryz.prog 27 #[.pointer (some ⟨P, 0, none⟩), .agg #[va, .int .i64 a.tail], .agg #[vb, .int .i64 b.tail], whyV y] w fun e w' => RetS (.bool (s.equate a b y).1) w B P g (s.equate a b y).2 e w' := by
  have hres : s.equate a b y = (match s.tick.equal a b y with
    | (true, s2) => (true, s2)
    | (false, s2) => (false, (s2.clear s.undo.length).stick s2.why)) := by
    unfold Rw.T.equate
    rw [if_neg (by simp [hst, Rw.T.there, hta, htb])]
    rfl
  rcases he : s.tick.equal a b y with ⟨r, s2⟩
  rw [he] at hres hu2
  cases r with
  | true =>
    rw [hres]
    exact equate_ok P B n g s s2 a b va vb y w h hG.ow hB hva hvb hta htb hst hz hn he
  | false =>
    dsimp only at hres hu2
    obtain ⟨m, hzt⟩ := (Rw.tick_gd hG).sz
    have hund := Rw.Und.equal (Rw.tick_gd hG).zero (Rw.tick_gd hG).ow (a := a) (b := b) hta htb y hzt
    rw [he] at hund
    obtain ⟨us, hus1, hus2, hus3⟩ := hund.ex
    obtain ⟨hc1, hc2, hc3⟩ := hund.clear
    rw [hres]
    clear hres
    obtain ⟨hb2, e0, e1, hs2⟩ := boxes2' w (.cells #[va, .int .i64 a.tail] 69) (.cells #[vb, .int .i64 b.tail] 69)
    have hM : EqM w B P g a b va vb ((w.alloc (.cells #[va, .int .i64 a.tail] 69)).alloc (.cells #[vb, .int .i64 b.tail] 69)) g s :=
      ⟨((Sg.refl h hB).below hb2).1, e0, e1, hva.below hb2, hvb.below hb2⟩
    obtain ⟨Aa, ca, rfl, _⟩ := hva.ex
    obtain ⟨Ab, cb, rfl, _⟩ := hvb.ex
    have hth := fun t => there_any P B g s t _ hM.sg.tb
    have htk := tick_any P B g s _ hM.sg.tb hM.sg.ge (by have := hz.times; omega)
    obtain ⟨k0, k1, k2, k3⟩ := hM.cells
    obtain ⟨vu, vt, vr, vo, ve, vs, fs, hx⟩ := hM.sg.tb
    have c5 := hx.cells.2.2.2.2.2.1
    rw [hst] at c5
    have d1 : decide (a.tail < (s.own.length : Int)) = true := by simpa using hta
    have d2 : decide (b.tail < (s.own.length : Int)) = true := by simpa using htb
    obtain ⟨tO, tZ, tow⟩ := tick_ow hG.ow hz
    have HE : Hid (∀ w1 g1, EqM w B P g a b (.slice Aa a.fields.length ca) (.slice Ab b.fields.length cb) w1 g1 s.tick → Calls Tryz.prog 50 #[.pointer (some ⟨P, 0, none⟩), .agg #[.slice Aa a.fields.length ca, .int .i64 a.tail], .agg #[.slice Ab b.fields.length cb, .int .i64 b.tail], .int .u64 (y.toNat : Nat)] w1 fun e w' => RetS (.bool false) w1 B P g1 s2 e w') := hide fun w1 g1 h => by
      have := equal_any P B (n + 1) g1 s.tick a b _ _ y w1 h.sg.tb tO h.sg.ge h.fa h.fb (by rw [tow]; exact hta) (by rw [tow]; exact htb) tZ (by omega)
      rw [he] at this
      exact this
    have HCl : Hid (∀ w1 g1, EqM w B P g a b (.slice Aa a.fields.length ca) (.slice Ab b.fields.length cb) w1 g1 s2 → Calls Tryz.prog 51 #[.pointer (some ⟨P, 0, none⟩), .int .i64 (s.undo.length : Nat)] w1 fun e w' => e = .returned (.tuple #[]) ∧ Stp w1 B P g1 (s2.clear s.undo.length) w') := hide fun w1 g1 h => by
      refine (clear_any P B g1 s2 s.undo us w1 h.sg.tb h.sg.ge hus1 hus3 (by omega)).mono ?_
      rintro e w' ⟨rfl, s', q1, q2, q3, q4⟩
      have : s' = s2.clear s.undo.length := T_ext ((q2.trans hus2).trans hc1.symm) (q3.trans hc2.symm) ((q4.trans hund.times).trans hc3.symm)
      rw [← this]
      exact ⟨rfl, q1⟩
    have hcu : (s2.clear s.undo.length).undo.length ≤ 1000000000 := by
      have : (s2.clear s.undo.length).undo = s.undo := hc2
      rw [this]; have := hz.undo; omega
    have HM := hide (And.intro hM (And.intro hth (And.intro htk (And.intro d1 (And.intro d2 hcu)))))
    clear hM hth htk d1 d2 hx hb2 e0 e1 hs2 hva hvb h hta htb hst hund hus1 hus2 hus3 hc1 hc2 hc3 he hcu
    unfold whyV at *
    go_enter Tryz.func27, Tryz.ntmps27
    go_upto_region 4 with (first | (go_at_call 49; (first | with_reducible refine (HM.out.2.1 a.tail).mono ?_ | with_reducible refine (HM.out.2.1 b.tail).mono ?_); rintro e w1 ⟨rfl, rfl⟩; (first | rw [HM.out.2.2.2.1] | rw [HM.out.2.2.2.2.1])) | (go_at_call 45; refine (HM.out.2.2.1).mono ?_; rintro e w2 ⟨rfl, hs2⟩; have H2 := hide hs2; clear hs2))
    obtain ⟨g2, hM2, _⟩ := HM.out.1.step H2.out
    obtain ⟨m0, m1, m2, m3⟩ := hM2.cells
    obtain ⟨vu, vt, vr, vo, ve, vs, fs, hx⟩ := hM2.sg.tb
    obtain ⟨Au, cu, rfl, _⟩ := RowZ.form hx.undo
    have q0 : w2.cell? ⟨P, 0, none⟩ = some (.slice Au s.undo.length cu) := hx.cells.1
    have HM2 := hide hM2
    clear hM2 hx k0 k1 k2 k3 c5
    go_upto_region 8 with (go_at_call 50; refine (HE.out _ _ HM2.out).mono ?_; rintro e w3 ⟨rfl, hs3⟩; obtain ⟨g3, hM3, _⟩ := HM2.out.step hs3; have c6 := (show w3.cell? ⟨P, 6, none⟩ = some (.int .u64 (s2.why.toNat : Nat)) from by obtain ⟨_, _, _, _, _, _, _, hx3⟩ := hM3.sg.tb; exact hx3.cells.2.2.2.2.2.2); have H3 := hide hM3; clear hs3 hM3)
    go_wp2_with (first | (go_at_call 51; refine (HCl.out _ _ H3.out).mono ?_; rintro e w4 ⟨rfl, hs4⟩; obtain ⟨g4, hM4, _⟩ := H3.out.step hs4; have H4 := hide hM4; clear hs4 hM4) | (go_at_call 52; refine (stick_any P B g4 (s2.clear s.undo.length) s2.why w4 H4.out.sg.tb H4.out.sg.ge HM.out.2.2.2.2.2).mono ?_; rintro e w5 ⟨rfl, hs5⟩; have H5 := hide hs5; clear hs5))
    go_ret
    obtain ⟨g5, h5, _⟩ := H4.out.sg.step H5.out
    exact ⟨rfl, h5.stp⟩
end Go.Proofs.YthnbhcfpfbimgaaGreat
/- The walk of the chapter's example. -/
namespace Go.Proofs.YthnbhcfpfbimgaaGreat
open Go.RowKit
open Rw (El At Fld Lk Eqn U T W64 Sp Wf tot Sz Nx Ow fF gF)
theorem sorts_one {x : ByteArray} {l : List ByteArray} (h : Nm.Sorts [x] l) : l = [x] := by
  obtain ⟨h1, h2⟩ := h
  have hx : x ∈ l := (h2 x).2 (by simp)
  have hall : ∀ y ∈ l, y = x := fun y hy => by simpa using (h2 y).1 hy
  match l, hx with
  | [y], _ => rw [hall y (by simp)]
  | y :: z :: r, _ =>
    have := (List.pairwise_cons.1 h1).1 z (by simp)
    rw [hall y (by simp), hall z (by simp), Nm.ls_irrefl] at this
    cases this
theorem fields_alive (P B : Nat) (g : Bl) (w : World) (h : Tb w B P g Rw.s3) :
    Calls Tryz.prog 15 #[.pointer (some ⟨P, 0, none⟩), .int .i64 0] w fun e w' => ∃ A c, e = .returned (.tuple #[.slice A 1 c, .bool true]) ∧ RowZ w' 59 10 (.slice A 1 c) 1 (fdsV [gF]) ∧ Below w.heap.size w w' := by
  have h0 := fields_any P B 0 0 g Rw.s3 w h (Rw.ow_of Rw.s3_ow) (by rw [Rw.s3_own]; rfl) (by have := Rw.s3_tot; omega) (by have := Rw.s3_len; show (Rw.s3.spreads [] 0).fields.length ≤ _; omega)
  refine h0.mono ?_
  rintro e w' ⟨v, names, rfl, hso, hr, hb⟩
  have hf : (Rw.s3.spreads [] ((0 : Nat) : Int)).fields = [gF] := Rw.s3_fields
  have hfin : (Rw.s3.spreads [] ((0 : Nat) : Int)).fin = 2 := Rw.s3_fin
  rw [hf] at hso hr
  have hn : names = [gF.name] := sorts_one (by simpa using hso)
  subst hn
  have hp : Rw.pick [gF] [gF.name] = [gF] := by simp [Rw.pick]
  rw [hp] at hr
  obtain ⟨A, c, rfl, _, _⟩ := RowZ.form hr
  exact ⟨A, c, by rw [hfin]; rfl, hr, hb⟩
set_option maxRecDepth 100000 in
set_option maxHeartbeats 4000000 in
theorem alive_any (w : World) : Calls Tryz.prog 8 #[] w fun e w' => e = .returned (.bool true) ∧ Below w.heap.size w w' := by
  have hbn := below_laid w (.cells zeroTb 95)
  have hS0 : Sg (w.alloc (.cells zeroTb 95)) w.heap.size w.heap.size bl0 (w.alloc (.cells zeroTb 95)) bl0 Rw.T.new := Sg.refl (tb_new (heap_alloc_new w _) (Nat.le_refl _)) (by simp)
  have HN := hide (new_any w)
  have HV1 : Hid (Calls Tryz.prog 26 #[.pointer (some ⟨w.heap.size, 0, none⟩)] (w.alloc (.cells zeroTb 95)) fun e w' => RetS (.int .i64 0) (w.alloc (.cells zeroTb 95)) w.heap.size w.heap.size bl0 Rw.T.new.var e w') :=
    hide (var_any w.heap.size w.heap.size bl0 Rw.T.new _ hS0.tb hS0.ge (by decide) (by decide) (by decide) (by decide))
  have HV2 : Hid (∀ w1 g1, Sg (w.alloc (.cells zeroTb 95)) w.heap.size w.heap.size bl0 w1 g1 Rw.T.new.var → Calls Tryz.prog 26 #[.pointer (some ⟨w.heap.size, 0, none⟩)] w1 fun e w' => RetS (.int .i64 1) w1 w.heap.size w.heap.size g1 Rw.s2 e w') :=
    hide fun w1 g1 h => var_any w.heap.size w.heap.size g1 Rw.T.new.var w1 h.tb h.ge (by decide) (by decide) (by decide) (by decide)
  have HE : Hid (∀ w4 g2 va vb, Sg (w.alloc (.cells zeroTb 95)) w.heap.size w.heap.size bl0 w4 g2 Rw.s2 → SlAt w4 w.heap.size 59 10 va 1 (fdsV [fF]) → SlAt w4 w.heap.size 59 10 vb 1 (fdsV [gF]) →
      Calls Tryz.prog 27 #[.pointer (some ⟨w.heap.size, 0, none⟩), .agg #[va, .int .i64 0], .agg #[vb, .int .i64 1], .int .u64 1] w4 fun e w' => RetS (.bool true) w4 w.heap.size w.heap.size g2 Rw.s3 e w') :=
    hide fun w4 g2 va vb h ha hb => equate_ok w.heap.size w.heap.size 100 g2 Rw.s2 Rw.s3 ⟨[fF], 0⟩ ⟨[gF], 1⟩ va vb 1 w4 h.tb (Rw.ow_of Rw.s2_ow) h.ge ha hb (by decide) (by decide) (by decide) (Rw.sz_of Rw.s2_sz) (by decide) (Prod.ext Rw.s3_is rfl)
  have HS0 := hide (And.intro hS0 hbn)
  clear hS0 hbn
  go_enter Tryz.func8, Tryz.ntmps8
  go_upto_region 3 with (first | (go_at_call 25; refine (HN.out).mono ?_; rintro e w1 ⟨rfl, rfl⟩) | (go_at_call 26; with_reducible refine (HV1.out).mono ?_; rintro e w2 ⟨rfl, hs2⟩; obtain ⟨g2, hS2, _⟩ := HS0.out.1.step hs2; have H2 := hide hS2; clear hs2 hS2) | (go_at_call 26; with_reducible refine (HV2.out _ _ H2.out).mono ?_; rintro e w3 ⟨rfl, hs3⟩; obtain ⟨g3, hS3, _⟩ := H2.out.step hs3; have H3 := hide hS3; clear hs3 hS3))
  have hb1 := below_laid w3 (.cells #[.string ⟨#[102]⟩, .int .i64 3, .int .u64 0, .int .u64 0, .int .u64 0, .int .u64 0, .int .u64 0, .int .u64 0, .int .u64 0, .int .u64 0] 59)
  have f1 : SlAt (w3.alloc (.cells #[.string ⟨#[102]⟩, .int .i64 3, .int .u64 0, .int .u64 0, .int .u64 0, .int .u64 0, .int .u64 0, .int .u64 0, .int .u64 0, .int .u64 0] 59)) w.heap.size 59 10 (.slice (some ⟨w3.heap.size, 0, none⟩) 1 1) 1 (fdsV [fF]) := SlAt.of_row (RowZ.laid w3 59 10 1 (fdsV [fF]) rfl (by decide))
  have hb2 := below_laid (w3.alloc (.cells #[.string ⟨#[102]⟩, .int .i64 3, .int .u64 0, .int .u64 0, .int .u64 0, .int .u64 0, .int .u64 0, .int .u64 0, .int .u64 0, .int .u64 0] 59)) (.cells #[.slice (some ⟨w3.heap.size, 0, none⟩) 1 1, .int .i64 0] 69)
  have e2 := heap_alloc_new (w3.alloc (.cells #[.string ⟨#[102]⟩, .int .i64 3, .int .u64 0, .int .u64 0, .int .u64 0, .int .u64 0, .int .u64 0, .int .u64 0, .int .u64 0, .int .u64 0] 59)) (.cells #[.slice (some ⟨w3.heap.size, 0, none⟩) 1 1, .int .i64 0] 69)
  have hb3 := below_laid ((w3.alloc (.cells #[.string ⟨#[102]⟩, .int .i64 3, .int .u64 0, .int .u64 0, .int .u64 0, .int .u64 0, .int .u64 0, .int .u64 0, .int .u64 0, .int .u64 0] 59)).alloc (.cells #[.slice (some ⟨w3.heap.size, 0, none⟩) 1 1, .int .i64 0] 69)) (.cells #[.string ⟨#[103]⟩, .int .i64 4, .int .u64 0, .int .u64 0, .int .u64 0, .int .u64 0, .int .u64 0, .int .u64 0, .int .u64 0, .int .u64 0] 59)
  have f3 : SlAt (((w3.alloc (.cells #[.string ⟨#[102]⟩, .int .i64 3, .int .u64 0, .int .u64 0, .int .u64 0, .int .u64 0, .int .u64 0, .int .u64 0, .int .u64 0, .int .u64 0] 59)).alloc (.cells #[.slice (some ⟨w3.heap.size, 0, none⟩) 1 1, .int .i64 0] 69)).alloc (.cells #[.string ⟨#[103]⟩, .int .i64 4, .int .u64 0, .int .u64 0, .int .u64 0, .int .u64 0, .int .u64 0, .int .u64 0, .int .u64 0, .int .u64 0] 59)) w.heap.size 59 10 (.slice (some ⟨((w3.alloc (.cells #[.string ⟨#[102]⟩, .int .i64 3, .int .u64 0, .int .u64 0, .int .u64 0, .int .u64 0, .int .u64 0, .int .u64 0, .int .u64 0, .int .u64 0] 59)).alloc (.cells #[.slice (some ⟨w3.heap.size, 0, none⟩) 1 1, .int .i64 0] 69)).heap.size, 0, none⟩) 1 1) 1 (fdsV [gF]) := SlAt.of_row (RowZ.laid _ 59 10 1 (fdsV [gF]) rfl (by decide))
  have hb4 := below_laid (((w3.alloc (.cells #[.string ⟨#[102]⟩, .int .i64 3, .int .u64 0, .int .u64 0, .int .u64 0, .int .u64 0, .int .u64 0, .int .u64 0, .int .u64 0, .int .u64 0] 59)).alloc (.cells #[.slice (some ⟨w3.heap.size, 0, none⟩) 1 1, .int .i64 0] 69)).alloc (.cells #[.string ⟨#[103]⟩, .int .i64 4, .int .u64 0, .int .u64 0, .int .u64 0, .int .u64 0, .int .u64 0, .int .u64 0, .int .u64 0, .int .u64 0] 59)) (.cells #[.slice (some ⟨w3.heap.size + 1 + 1, 0, none⟩) 1 1, .int .i64 1] 69)
  have e4 := heap_alloc_new (((w3.alloc (.cells #[.string ⟨#[102]⟩, .int .i64 3, .int .u64 0, .int .u64 0, .int .u64 0, .int .u64 0, .int .u64 0, .int .u64 0, .int .u64 0, .int .u64 0] 59)).alloc (.cells #[.slice (some ⟨w3.heap.size, 0, none⟩) 1 1, .int .i64 0] 69)).alloc (.cells #[.string ⟨#[103]⟩, .int .i64 4, .int .u64 0, .int .u64 0, .int .u64 0, .int .u64 0, .int .u64 0, .int .u64 0, .int .u64 0, .int .u64 0] 59)) (.cells #[.slice (some ⟨w3.heap.size + 1 + 1, 0, none⟩) 1 1, .int .i64 1] 69)
  have f1' := ((f1.below hb2).below hb3).below hb4
  have f3' := f3.below hb4
  have e2' := (hb4.block _ (Nat.lt_of_lt_of_le (blk_lt e2) hb3.size)).trans ((hb3.block _ (blk_lt e2)).trans e2)
  have hS4 := ((((H3.out.below hb1).1.below hb2).1.below hb3).1.below hb4).1
  rw [World.size_alloc] at e2' f3'
  rw [World.size_alloc] at f3'
  rw [World.size_alloc, World.size_alloc, World.size_alloc] at e4
  have H4 := hide (And.intro hS4 (And.intro f1' f3'))
  go_upto_region 5 with (fail)
  generalize hW : (((w3.alloc (.cells #[.string ⟨#[102]⟩, .int .i64 3, .int .u64 0, .int .u64 0, .int .u64 0, .int .u64 0, .int .u64 0, .int .u64 0, .int .u64 0, .int .u64 0] 59)).alloc (.cells #[.slice (some ⟨w3.heap.size, 0, none⟩) 1 1, .int .i64 0] 69)).alloc (.cells #[.string ⟨#[103]⟩, .int .i64 4, .int .u64 0, .int .u64 0, .int .u64 0, .int .u64 0, .int .u64 0, .int .u64 0, .int .u64 0, .int .u64 0] 59)).alloc (.cells #[.slice (some ⟨w3.heap.size + 1 + 1, 0, none⟩) 1 1, .int .i64 1] 69) = W at *
  have c0 : W.cell? ⟨w3.heap.size + 1, 0, none⟩ = some (.slice (some ⟨w3.heap.size, 0, none⟩) 1 1) := by rw [cell_block e2']; rfl
  have c1 : W.cell? ⟨w3.heap.size + 1, 1, none⟩ = some (.int .i64 0) := by rw [cell_block e2']; rfl
  have c2 : W.cell? ⟨w3.heap.size + 1 + 1 + 1, 0, none⟩ = some (.slice (some ⟨w3.heap.size + 1 + 1, 0, none⟩) 1 1) := by rw [cell_block e4]; rfl
  have c3 : W.cell? ⟨w3.heap.size + 1 + 1 + 1, 1, none⟩ = some (.int .i64 1) := by rw [cell_block e4]; rfl
  clear hb1 f1 hb2 e2 hb3 f3 hb4 e4 f1' f3' e2' hS4 hW
  go_upto_region 7 with (first | (go_at_call 27; refine (HE.out _ _ _ _ H4.out.1 H4.out.2.1 H4.out.2.2).mono ?_; rintro e w5 ⟨rfl, hs5⟩; obtain ⟨g5, hS5, _⟩ := H4.out.1.step hs5; have H5 := hide hS5; clear hs5 hS5) | (go_at_call 15; refine (fields_alive w.heap.size w.heap.size g5 w5 H5.out.tb).mono ?_; rintro e w6 ⟨A6, c6, rfl, hr6, hb6⟩; have H6 := hide (And.intro hr6 (And.intro (H5.out.below hb6).1 hb6)); clear hr6 hb6))
  obtain ⟨b6, rfl⟩ := RowZ.addr H6.out.1 (by decide)
  have hcl : ∀ (j : Nat) u, (fdsV [gF])[j]? = some u → w6.cell? ⟨b6, 0 + j, none⟩ = some u := fun j u hu => by
    rw [Nat.zero_add, RowZ.cell H6.out.1 (List.getElem?_eq_some_iff.1 hu).1]
    exact hu
  have q0 : w6.cell? ⟨b6, 0, none⟩ = some (.string ⟨#[103]⟩) := hcl 0 _ rfl
  have q1 : w6.cell? ⟨b6, 1, none⟩ = some (.int .i64 4) := hcl 1 _ rfl
  have q2 : w6.cell? ⟨b6, 2, none⟩ = some (.int .u64 0) := hcl 2 _ rfl
  have q3 : w6.cell? ⟨b6, 3, none⟩ = some (.int .u64 0) := hcl 3 _ rfl
  have q4 : w6.cell? ⟨b6, 4, none⟩ = some (.int .u64 0) := hcl 4 _ rfl
  have q5 : w6.cell? ⟨b6, 5, none⟩ = some (.int .u64 0) := hcl 5 _ rfl
  have q6 : w6.cell? ⟨b6, 6, none⟩ = some (.int .u64 0) := hcl 6 _ rfl
  have q7 : w6.cell? ⟨b6, 7, none⟩ = some (.int .u64 0) := hcl 7 _ rfl
  have q8 : w6.cell? ⟨b6, 8, none⟩ = some (.int .u64 0) := hcl 8 _ rfl
  have q9 : w6.cell? ⟨b6, 9, none⟩ = some (.int .u64 0) := hcl 9 _ rfl
  clear hcl c0 c1 c2 c3
  have HQ := hide (eqs_any w.heap.size w.heap.size g5 Rw.s3 w6 H6.out.2.1.tb (by rw [Rw.s3_eqs]; omega))
  go_wp2_with (go_at_call 13; refine (HQ.out).mono ?_; rintro e w7 ⟨⟨v7, rfl, hr7, hb7⟩⟩; obtain ⟨A7, c7, rfl, _⟩ := RowZ.form hr7; rw [Rw.s3_eqs]; have H7 := hide hb7; clear hr7 hb7)
  go_ret
  refine ⟨rfl, HS0.out.2.trans ?_⟩
  have h7 := (H6.out.2.1.below H7.out).1
  have := h7.kp.below (B := w.heap.size) (by simp) (fun k hk => by
    rcases hk with rfl | e | e | e | e | e
    · exact Nat.le_refl _
    all_goals simp [bl0] at e)
  exact this
end Go.Proofs.YthnbhcfpfbimgaaGreat
/- The walks of law 22's begun and hand. (Printed by rifed.py.) -/
namespace Go.Proofs.YthnbhcfpfbimgaaGreat
open Go.RowKit
open Rw (El At Fld T W64 Gd Sz Ow Nm)
/-- A table at P, with a state; all below B is kept. -/
structure TbS (W : World) (B P : Nat) (s : T) (wr : World) : Prop where
  ex : ∃ g, Tb wr B P g s
  below : Below B W wr
  ge : B ≤ wr.heap.size
theorem TbS.stp {W : World} {B P : Nat} {s s' : T} {wr w' : World} {g : Bl} (h : TbS W B P s wr) (ht : Tb wr B P g s) (hs : Stp wr B P g s' w') : TbS W B P s' w' := by
  obtain ⟨g2, h1, h2, _⟩ := hs.ex
  obtain ⟨vu, vt, vr, vo, ve, vs, fs, hx⟩ := ht
  refine ⟨⟨g2, h1⟩, h.below.trans (h2.below h.ge fun k hk => ?_), Nat.le_trans h.ge h2.size⟩
  obtain ⟨g0, g1, g2', g3, g4, g5⟩ := hx.ge
  rcases hk with rfl | hk | hk | hk | hk | hk
  · exact g0
  · exact g1 k hk
  · exact g2' k hk
  · exact g3 k hk
  · exact g4 k hk
  · exact g5 k hk
theorem TbS.step {W : World} {B P : Nat} {s : T} {wr w' : World} (h : TbS W B P s wr) (hb : Below wr.heap.size wr w') : TbS W B P s w' := by
  obtain ⟨g, vu, vt, vr, vo, ve, vs, fs, hx⟩ := h.ex
  exact ⟨⟨g, vu, vt, vr, vo, ve, vs, fs, hx.below hb⟩, h.below.trans (hb.mono h.ge), Nat.le_trans h.ge hb.size⟩
/-- What begun, fed hand back. -/
structure RTb (W : World) (s : T) (e : Ending) (w' : World) : Prop where
  ex : ∃ P B, e = .returned (.pointer (some ⟨P, 0, none⟩)) ∧ W.heap.size ≤ B ∧ TbS w' B P s w' ∧ Below W.heap.size W w'
set_option maxRecDepth 100000 in
set_option maxHeartbeats 2000000 in
theorem begun_any (vl vs : Value) (n : Nat) (A : Option Addr) (c : Nat) (hn : n ≤ 1000000) (w : World) : Calls Tryz.prog 28 #[.agg #[vl, .slice A n c, vs]] w fun e w' => RTb w (Rw.begunT n) e w' := by
  have HB := hide (below_laid w (.cells #[vl, .slice A n c, vs] 28))
  have HA := hide (heap_alloc_last w (.cells #[vl, .slice A n c, vs] 28))
  have HLT := hide (blk_lt HA.out)
  have k1 : (w.alloc (.cells #[vl, .slice A n c, vs] 28)).cell? ⟨w.heap.size, 1, none⟩ = some (.slice A n c) := by rw [cell_block HA.out]; rfl
  clear HA
  have hn9 : (n : Int) ≤ 9223372036854775807 := by omega
  go_enter Tryz.func28, Tryz.ntmps28
  go_upto_region 1 with fail
  generalize w.alloc (Obj.cells _ 28) = w0 at *
  have HN := hide (new_any w0)
  have HT0 : Hid (TbS w w.heap.size w0.heap.size (Rw.begunT 0) (w0.alloc (.cells zeroTb 95))) := hide
    ⟨⟨bl0, tb_new (heap_alloc_last w0 _) HB.out.size⟩, below_next HB.out (below_laid _ _), by have := HB.out.size; rw [World.size_alloc]; omega⟩
  have k2 : (w0.alloc (.cells zeroTb 95)).cell? ⟨w.heap.size, 1, none⟩ = some (.slice A n c) := (World.cell?_of_block ((below_laid w0 _).block _ HLT.out)).trans k1
  clear k1
  go_upto_region 2 with (go_at_call 25; refine (HN.out).mono ?_; rintro e w1 ⟨rfl, rfl⟩)
  generalize w0.alloc (Obj.cells zeroTb 95) = w1 at *
  generalize w0.heap.size = P at *
  go_wp2_with fail
  clear k2
  go_loopw [9] (fun kv wr => (∃ k : Nat, k ≤ n ∧ kv = .int .i64 (k : Nat)) ∧ ∃ k : Nat, kv = .int .i64 (k : Nat) ∧ TbS w w.heap.size P (Rw.begunT k) wr) (fun kv _ => n - (intOf kv).toNat)
  case atStart => exact ⟨⟨0, by omega, rfl⟩, 0, rfl, HT0.out⟩
  case round =>
    obtain ⟨⟨k, hk, rfl⟩, k', e', ho⟩ := hrel
    obtain rfl : k = k' := by injection e' with _ e'; omega
    clear e'
    have HO := hide ho
    obtain ⟨g, htb⟩ := ho.ex
    have HTB := hide htb
    clear ho htb
    have hbg := Rw.begunT_beg k
    have HV := hide (var_any P w.heap.size g (Rw.begunT k) wr HTB.out HO.out.ge (by rw [hbg.times]; omega) (by rw [hbg.rows, List.length_replicate]; omega) (by rw [hbg.own, List.length_range]; omega) (by rw [hbg.undo]; omega))
    clear hbg
    by_cases hlt : k < n
    · have i0 : (k : Int) < n := by omega
      go_wp2_with (go_at_call 26; refine HV.out.mono ?_; rintro e w2 ⟨rfl, hst⟩; have H2 := hide hst; clear hst)
      exact ⟨⟨⟨k + 1, by omega, rfl⟩, k + 1, rfl, HO.out.stp HTB.out H2.out⟩, by simp [intOf]; omega⟩
    · obtain rfl : k = n := by omega
      go_wp2_with fail
      go_ret
      exact ⟨P, w.heap.size, rfl, Nat.le_refl _, ⟨HO.out.ex, Below.refl _ _, HO.out.ge⟩, HO.out.below⟩
/-- What hand leaves. -/
structure RHand (W : World) (B P : Nat) (s : T) (e : Ending) (w' : World) : Prop where
  ex : ∃ b, e = .returned (.bool b) ∧ TbS W B P s w'
set_option maxRecDepth 100000 in
set_option maxHeartbeats 2000000 in
theorem hand_any (W : World) (B P n k : Nat) (U : List ByteArray) (s : T) (x : As) (vc va vb : Value) (y : W64) (w : World) (h : TbS W B P s w) (hF : FdOk n U k s) (hx : AsAt w B x vc va vb) (hnm : ∀ a, asr x = some a → Rw.NmA U 100 a) (hf : x.op = 9 → x.a.fields.length ≤ 100 ∧ x.b.fields.length ≤ 100) (hU : U.length ≤ 20000) (hk : k ≤ 64) (hn : n ≤ 64) :
    Calls Tryz.prog 29 #[.pointer (some ⟨P, 0, none⟩), .agg #[.int .i64 x.op, .int .i64 x.lat, vc, .int .i64 x.to_.var, .int .u64 x.to_.el.e0, .int .u64 x.to_.el.e1, .int .u64 x.to_.el.e2, .int .u64 x.to_.el.e3, .int .u64 x.to_.el.e4, .int .u64 x.to_.el.e5, .int .u64 x.to_.el.e6, .int .u64 x.to_.el.e7, va, .int .i64 x.a.tail, vb, .int .i64 x.b.tail, .int .i64 x.var, .string x.field], whyV y] w fun e w' => RHand W B P (handA s x y) e w' := by
  obtain ⟨Ac, cc, rfl, _, _⟩ := SlAt.form hx.code
  obtain ⟨Aa, ca, rfl, _, _⟩ := SlAt.form hx.fa
  obtain ⟨Ab, cb, rfl, _, _⟩ := SlAt.form hx.fb
  have hb := below_laid w (.cells #[.int .i64 x.op, .int .i64 x.lat, (.slice Ac x.code.length cc), .int .i64 x.to_.var, .int .u64 x.to_.el.e0, .int .u64 x.to_.el.e1, .int .u64 x.to_.el.e2, .int .u64 x.to_.el.e3, .int .u64 x.to_.el.e4, .int .u64 x.to_.el.e5, .int .u64 x.to_.el.e6, .int .u64 x.to_.el.e7, (.slice Aa x.a.fields.length ca), .int .i64 x.a.tail, (.slice Ab x.b.fields.length cb), .int .i64 x.b.tail, .int .i64 x.var, .string x.field] 71)
  have HS := hide (h.step hb)
  obtain ⟨g, htb⟩ := HS.out.ex
  have HTB := hide htb
  have HX := hide (hx.below hb)
  have HA := hide (heap_alloc_last w (.cells #[.int .i64 x.op, .int .i64 x.lat, (.slice Ac x.code.length cc), .int .i64 x.to_.var, .int .u64 x.to_.el.e0, .int .u64 x.to_.el.e1, .int .u64 x.to_.el.e2, .int .u64 x.to_.el.e3, .int .u64 x.to_.el.e4, .int .u64 x.to_.el.e5, .int .u64 x.to_.el.e6, .int .u64 x.to_.el.e7, (.slice Aa x.a.fields.length ca), .int .i64 x.a.tail, (.slice Ab x.b.fields.length cb), .int .i64 x.b.tail, .int .i64 x.var, .string x.field] 71))
  have k0 : (w.alloc (.cells #[.int .i64 x.op, .int .i64 x.lat, (.slice Ac x.code.length cc), .int .i64 x.to_.var, .int .u64 x.to_.el.e0, .int .u64 x.to_.el.e1, .int .u64 x.to_.el.e2, .int .u64 x.to_.el.e3, .int .u64 x.to_.el.e4, .int .u64 x.to_.el.e5, .int .u64 x.to_.el.e6, .int .u64 x.to_.el.e7, (.slice Aa x.a.fields.length ca), .int .i64 x.a.tail, (.slice Ab x.b.fields.length cb), .int .i64 x.b.tail, .int .i64 x.var, .string x.field] 71)).cell? ⟨w.heap.size, 0, none⟩ = some (.int .i64 x.op) := by rw [cell_block HA.out]; rfl
  have k12 : (w.alloc (.cells #[.int .i64 x.op, .int .i64 x.lat, (.slice Ac x.code.length cc), .int .i64 x.to_.var, .int .u64 x.to_.el.e0, .int .u64 x.to_.el.e1, .int .u64 x.to_.el.e2, .int .u64 x.to_.el.e3, .int .u64 x.to_.el.e4, .int .u64 x.to_.el.e5, .int .u64 x.to_.el.e6, .int .u64 x.to_.el.e7, (.slice Aa x.a.fields.length ca), .int .i64 x.a.tail, (.slice Ab x.b.fields.length cb), .int .i64 x.b.tail, .int .i64 x.var, .string x.field] 71)).cell? ⟨w.heap.size, 12, none⟩ = some (.slice Aa x.a.fields.length ca) := by rw [cell_block HA.out]; rfl
  have k13 : (w.alloc (.cells #[.int .i64 x.op, .int .i64 x.lat, (.slice Ac x.code.length cc), .int .i64 x.to_.var, .int .u64 x.to_.el.e0, .int .u64 x.to_.el.e1, .int .u64 x.to_.el.e2, .int .u64 x.to_.el.e3, .int .u64 x.to_.el.e4, .int .u64 x.to_.el.e5, .int .u64 x.to_.el.e6, .int .u64 x.to_.el.e7, (.slice Aa x.a.fields.length ca), .int .i64 x.a.tail, (.slice Ab x.b.fields.length cb), .int .i64 x.b.tail, .int .i64 x.var, .string x.field] 71)).cell? ⟨w.heap.size, 13, none⟩ = some (.int .i64 x.a.tail) := by rw [cell_block HA.out]; rfl
  have k14 : (w.alloc (.cells #[.int .i64 x.op, .int .i64 x.lat, (.slice Ac x.code.length cc), .int .i64 x.to_.var, .int .u64 x.to_.el.e0, .int .u64 x.to_.el.e1, .int .u64 x.to_.el.e2, .int .u64 x.to_.el.e3, .int .u64 x.to_.el.e4, .int .u64 x.to_.el.e5, .int .u64 x.to_.el.e6, .int .u64 x.to_.el.e7, (.slice Aa x.a.fields.length ca), .int .i64 x.a.tail, (.slice Ab x.b.fields.length cb), .int .i64 x.b.tail, .int .i64 x.var, .string x.field] 71)).cell? ⟨w.heap.size, 14, none⟩ = some (.slice Ab x.b.fields.length cb) := by rw [cell_block HA.out]; rfl
  have k15 : (w.alloc (.cells #[.int .i64 x.op, .int .i64 x.lat, (.slice Ac x.code.length cc), .int .i64 x.to_.var, .int .u64 x.to_.el.e0, .int .u64 x.to_.el.e1, .int .u64 x.to_.el.e2, .int .u64 x.to_.el.e3, .int .u64 x.to_.el.e4, .int .u64 x.to_.el.e5, .int .u64 x.to_.el.e6, .int .u64 x.to_.el.e7, (.slice Aa x.a.fields.length ca), .int .i64 x.a.tail, (.slice Ab x.b.fields.length cb), .int .i64 x.b.tail, .int .i64 x.var, .string x.field] 71)).cell? ⟨w.heap.size, 15, none⟩ = some (.int .i64 x.b.tail) := by rw [cell_block HA.out]; rfl
  have k16 : (w.alloc (.cells #[.int .i64 x.op, .int .i64 x.lat, (.slice Ac x.code.length cc), .int .i64 x.to_.var, .int .u64 x.to_.el.e0, .int .u64 x.to_.el.e1, .int .u64 x.to_.el.e2, .int .u64 x.to_.el.e3, .int .u64 x.to_.el.e4, .int .u64 x.to_.el.e5, .int .u64 x.to_.el.e6, .int .u64 x.to_.el.e7, (.slice Aa x.a.fields.length ca), .int .i64 x.a.tail, (.slice Ab x.b.fields.length cb), .int .i64 x.b.tail, .int .i64 x.var, .string x.field] 71)).cell? ⟨w.heap.size, 16, none⟩ = some (.int .i64 x.var) := by rw [cell_block HA.out]; rfl
  have k17 : (w.alloc (.cells #[.int .i64 x.op, .int .i64 x.lat, (.slice Ac x.code.length cc), .int .i64 x.to_.var, .int .u64 x.to_.el.e0, .int .u64 x.to_.el.e1, .int .u64 x.to_.el.e2, .int .u64 x.to_.el.e3, .int .u64 x.to_.el.e4, .int .u64 x.to_.el.e5, .int .u64 x.to_.el.e6, .int .u64 x.to_.el.e7, (.slice Aa x.a.fields.length ca), .int .i64 x.a.tail, (.slice Ab x.b.fields.length cb), .int .i64 x.b.tail, .int .i64 x.var, .string x.field] 71)).cell? ⟨w.heap.size, 17, none⟩ = some (.string x.field) := by rw [cell_block HA.out]; rfl
  have hzb : 2 * n + k * (7 * U.length + 309) ≤ 9100000 := by
    have h1 : k * (7 * U.length + 309) ≤ 64 * 140309 := Nat.mul_le_mul hk (by omega)
    omega
  have HZ := hide (And.intro (hF.sz.mono hzb) hF)
  by_cases h9 : x.op = 9
  · have HE : Hid (handA s x y = (s.equate x.a x.b y).2) := hide (by unfold handA asr; rw [if_pos h9]; rfl)
    have HC : Hid (∃ b, Calls Tryz.prog 27 #[.pointer (some ⟨P, 0, none⟩), .agg #[.slice Aa x.a.fields.length ca, .int .i64 x.a.tail], .agg #[.slice Ab x.b.fields.length cb, .int .i64 x.b.tail], whyV y] (w.alloc (.cells #[.int .i64 x.op, .int .i64 x.lat, (.slice Ac x.code.length cc), .int .i64 x.to_.var, .int .u64 x.to_.el.e0, .int .u64 x.to_.el.e1, .int .u64 x.to_.el.e2, .int .u64 x.to_.el.e3, .int .u64 x.to_.el.e4, .int .u64 x.to_.el.e5, .int .u64 x.to_.el.e6, .int .u64 x.to_.el.e7, (.slice Aa x.a.fields.length ca), .int .i64 x.a.tail, (.slice Ab x.b.fields.length cb), .int .i64 x.b.tail, .int .i64 x.var, .string x.field] 71)) fun e w' => e = .returned (.bool b) ∧ TbS W B P (s.equate x.a x.b y).2 w') := hide (by
      by_cases hin : s.stuck = false ∧ x.a.tail < s.own.length ∧ x.b.tail < s.own.length
      · obtain ⟨hs, ha, hb2⟩ := hin
        have hnme := hnm _ (show asr x = some (.eq x.a x.b) by unfold asr; rw [if_pos h9])
        have hgt := Rw.tick_gd HZ.out.2.gd
        have hzt : Sz s.tick (9100000 + 1) := ⟨Nat.le_trans HZ.out.1.tot (by omega), fun k r hr => Nat.le_trans (HZ.out.1.lacks k r hr) (by omega), Nat.le_trans HZ.out.1.undo (by omega), Nat.le_trans HZ.out.1.rows (by omega), Nat.le_trans HZ.out.1.own (by omega), Nat.le_trans HZ.out.1.eqs (by omega), by have := HZ.out.1.times; simp [Rw.T.tick]; omega⟩
        have heq := (Rw.Nm.equal (s := s.tick) (HZ.out.2.nm.same rfl) hgt.ow hgt.inv (a := x.a) (b := x.b) ha hb2 hnme.1 hnme.2.1 y hzt).2
        refine ⟨_, (equate_in P B 9100000 g s x.a x.b _ _ y _ HTB.out HZ.out.2.gd HS.out.ge HX.out.fa HX.out.fb ha hb2 hs HZ.out.1 (by omega) (Nat.le_trans heq.undo (by omega))).mono fun e w' hr => ⟨hr.ret, HS.out.stp HTB.out hr.stp⟩⟩
      · have hout : s.stuck = true ∨ ¬ x.a.tail < s.own.length ∨ ¬ x.b.tail < s.own.length := by
          cases hs : s.stuck
          · by_cases ha : x.a.tail < s.own.length
            · by_cases hb2 : x.b.tail < s.own.length
              · exact absurd ⟨hs, ha, hb2⟩ hin
              · exact .inr (.inr hb2)
            · exact .inr (.inl ha)
          · exact .inl rfl
        have he : (s.equate x.a x.b y).2 = s := by
          unfold Rw.T.equate
          rw [if_pos (by simp [Rw.T.there]; rcases hout with h | h | h <;> simp_all)]
        rw [he]
        exact ⟨_, (equate_out P B g s _ _ x.a.tail x.b.tail y _ HTB.out hout).mono fun e w' hr => ⟨hr.1, HS.out.step hr.2⟩⟩)
    have HOP := hide h9
    unfold whyV at *
    clear hb htb hx h hF hnm h9 hzb
    go_enter Tryz.func29, Tryz.ntmps29
    go_upto_region 1 with fail
    generalize w.alloc (Obj.cells _ 71) = w0 at *
    rw [HOP.out] at k0
    obtain ⟨b, hc⟩ := HC.out
    have HC2 := hide hc
    clear hc
    go_wp2_with (go_at_call 27; refine HC2.out.mono ?_; rintro e w2 ⟨rfl, hst⟩; have H2 := hide hst; clear hst)
    go_ret
    exact ⟨b, rfl, by rw [HE.out]; exact H2.out⟩
  by_cases h10 : x.op = 10
  · have HE : Hid (handA s x y = (s.lacksOf x.var x.field y).2) := hide (by unfold handA asr; rw [if_neg h9, if_pos h10]; rfl)
    have HC : Hid (∃ b, Calls Tryz.prog 53 #[.pointer (some ⟨P, 0, none⟩), .int .i64 x.var, .string x.field, whyV y] (w.alloc (.cells #[.int .i64 x.op, .int .i64 x.lat, (.slice Ac x.code.length cc), .int .i64 x.to_.var, .int .u64 x.to_.el.e0, .int .u64 x.to_.el.e1, .int .u64 x.to_.el.e2, .int .u64 x.to_.el.e3, .int .u64 x.to_.el.e4, .int .u64 x.to_.el.e5, .int .u64 x.to_.el.e6, .int .u64 x.to_.el.e7, (.slice Aa x.a.fields.length ca), .int .i64 x.a.tail, (.slice Ab x.b.fields.length cb), .int .i64 x.b.tail, .int .i64 x.var, .string x.field] 71)) fun e w' => e = .returned (.bool b) ∧ TbS W B P (s.lacksOf x.var x.field y).2 w') := hide (by
      by_cases hin : s.stuck = false ∧ 0 ≤ x.var ∧ x.var < s.own.length
      · obtain ⟨hs, h0, ha⟩ := hin
        obtain ⟨v, hv⟩ := Int.eq_ofNat_of_zero_le h0
        have hlk := Lacks_in P B 9100000 g s v x.field y _ HTB.out HZ.out.2.gd.ow HS.out.ge (by omega) hs HZ.out.1 (by omega)
        rw [← hv] at hlk
        exact ⟨_, hlk.mono fun e w' hr => ⟨hr.ret, HS.out.stp HTB.out hr.stp⟩⟩
      · have hout : s.stuck = true ∨ x.var < 0 ∨ ¬ x.var < s.own.length := by
          cases hs : s.stuck
          · by_cases ha : x.var < 0
            · exact .inr (.inl ha)
            · by_cases hb2 : x.var < s.own.length
              · exact absurd ⟨hs, by omega, hb2⟩ hin
              · exact .inr (.inr hb2)
          · exact .inl rfl
        have he : (s.lacksOf x.var x.field y).2 = s := by
          unfold Rw.T.lacksOf
          rw [if_pos (by simp [Rw.T.there]; rcases hout with h | h | h <;> simp_all)]
        rw [he]
        exact ⟨_, (Lacks_out P B g s x.var x.field y _ HTB.out hout).mono fun e w' hr => ⟨hr.1, by rw [← hr.2]; exact HS.out⟩⟩)
    have HOP := hide h10
    unfold whyV at *
    clear hb htb hx h hF hnm h9 h10 hzb
    go_enter Tryz.func29, Tryz.ntmps29
    go_upto_region 1 with fail
    generalize w.alloc (Obj.cells _ 71) = w0 at *
    rw [HOP.out] at k0
    obtain ⟨b, hc⟩ := HC.out
    have HC2 := hide hc
    clear hc
    go_wp2_with (go_at_call 53; refine HC2.out.mono ?_; rintro e w2 ⟨rfl, hst⟩; have H2 := hide hst; clear hst)
    go_ret
    exact ⟨b, rfl, by rw [HE.out]; exact H2.out⟩
  · have HE : Hid (handA s x y = s) := hide (by unfold handA asr; rw [if_neg h9, if_neg h10])
    have b1 : (x.op == 9) = false := by simpa using h9
    have b2 : (x.op == 10) = false := by simpa using h10
    clear hb htb hx h hF hnm h9 h10 hzb
    go_enter Tryz.func29, Tryz.ntmps29
    go_wp2_with fail
    go_ret
    exact ⟨true, rfl, by rw [HE.out]; exact HS.out⟩
end Go.Proofs.YthnbhcfpfbimgaaGreat
