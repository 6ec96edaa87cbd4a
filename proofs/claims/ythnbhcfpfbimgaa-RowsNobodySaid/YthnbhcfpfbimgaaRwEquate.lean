/- The walks of there, Equate (where it is taken, or refused), and Lacks. -/
import Derived.Test.YthnbhcfpfbimgaaRwEqual
namespace Go.Proofs.Ythnbhcfpfbimgaa
open Go.RowKit
open Rw (El At Fld Lk Eqn U T W64 Sp Wf tot Sz Nx Ow)
theorem there_any (P B : Nat) (g : Bl) (s : T) (t : Int) (w : World) (h : Tb w B P g s) : Calls Try.prog 49 #[.pointer (some ⟨P, 0, none⟩), .int .i64 t] w fun e w' => e = .returned (.bool (decide (t < (s.own.length : Int)))) ∧ w = w' := by
  obtain ⟨vu, vt, vr, vo, ve, vs, fs, hx⟩ := h
  obtain ⟨Ao, co, rfl, hco, hcom⟩ := RowZ.form hx.own
  have c3 := hx.cells.2.2.2.1
  clear hx
  go_enter Try.func49, Try.ntmps49
  go_wp2_with fail
  go_ret
  exact ⟨rfl, rfl⟩
theorem equate_nil (va vb : Value) (ta tb : Int) (y : W64) (w : World) : Calls Try.prog 23 #[.pointer none, .agg #[va, .int .i64 ta], .agg #[vb, .int .i64 tb], whyV y] w fun e w' => e = .returned (.bool false) ∧ Below w.heap.size w w' := by
  have hb := (boxes2' w (.cells #[va, .int .i64 ta] 68) (.cells #[vb, .int .i64 tb] 68)).1
  have HB := hide hb
  clear hb
  unfold whyV
  go_enter Try.func23, Try.ntmps23
  go_wp2_with fail
  go_ret
  exact ⟨rfl, HB.out⟩
theorem equate_out (P B : Nat) (g : Bl) (s : T) (va vb : Value) (ta tb : Int) (y : W64) (w : World) (h : Tb w B P g s) (hn : s.stuck = true ∨ ¬ ta < s.own.length ∨ ¬ tb < s.own.length) :
    Calls Try.prog 23 #[.pointer (some ⟨P, 0, none⟩), .agg #[va, .int .i64 ta], .agg #[vb, .int .i64 tb], whyV y] w fun e w' => e = .returned (.bool false) ∧ Below w.heap.size w w' := by
  obtain ⟨hb, e0, e1, _⟩ := boxes2' w (.cells #[va, .int .i64 ta] 68) (.cells #[vb, .int .i64 tb] 68)
  obtain ⟨vu, vt, vr, vo, ve, vs, fs, hx⟩ := h
  have hx2 := hx.below hb
  have hth := fun t => there_any P B g s t _ ⟨_, _, _, _, _, _, _, hx2⟩
  have c5 : ((w.alloc (.cells #[va, .int .i64 ta] 68)).alloc (.cells #[vb, .int .i64 tb] 68)).cell? ⟨P, 5, none⟩ = some (.bool s.stuck) := hx2.cells.2.2.2.2.2.1
  have a1 : ((w.alloc (.cells #[va, .int .i64 ta] 68)).alloc (.cells #[vb, .int .i64 tb] 68)).cell? ⟨w.heap.size, 1, none⟩ = some (.int .i64 ta) := by rw [cell_block e0]; rfl
  have b1 : ((w.alloc (.cells #[va, .int .i64 ta] 68)).alloc (.cells #[vb, .int .i64 tb] 68)).cell? ⟨w.heap.size + 1, 1, none⟩ = some (.int .i64 tb) := by rw [cell_block e1]; rfl
  have HB := hide (And.intro hb hth)
  clear hb hx hx2 hth e0 e1
  unfold whyV
  go_enter Try.func23, Try.ntmps23
  cases hst : s.stuck with
  | true =>
    rw [hst] at c5
    go_wp2_with fail
    go_ret
    exact ⟨rfl, HB.out.1⟩
  | false =>
    rw [hst] at c5 hn
    by_cases h1 : ta < s.own.length
    · have h2 : ¬ tb < s.own.length := by simpa [h1] using hn
      have d1 : decide (ta < (s.own.length : Int)) = true := by simpa using h1
      have d2 : decide (tb < (s.own.length : Int)) = false := by simpa using h2
      have HD := hide (And.intro d1 d2)
      clear hn h1 h2 d1 d2
      go_wp2_with (go_at_call 49; (first | with_reducible refine (HB.out.2 ta).mono ?_ | with_reducible refine (HB.out.2 tb).mono ?_); rintro e w1 ⟨rfl, rfl⟩; (first | rw [HD.out.1] | rw [HD.out.2]))
      go_ret
      exact ⟨rfl, HB.out.1⟩
    · have d1 : decide (ta < (s.own.length : Int)) = false := by simpa using h1
      have HD := hide d1
      clear hn h1 d1
      go_wp2_with (go_at_call 49; with_reducible refine (HB.out.2 ta).mono ?_; rintro e w1 ⟨rfl, rfl⟩; rw [HD.out])
      go_ret
      exact ⟨rfl, HB.out.1⟩
theorem tick_ow {s : T} {n : Nat} (h : Ow s) (hz : Sz s n) : Ow s.tick ∧ Sz s.tick (n + 1) ∧ s.tick.own = s.own :=
  ⟨⟨h.wf, h.tail, h.own⟩, ⟨Nat.le_trans hz.tot (by omega), fun k r hr => Nat.le_trans (hz.lacks k r hr) (by omega), Nat.le_trans hz.undo (by omega), Nat.le_trans hz.rows (by omega), Nat.le_trans hz.own (by omega), Nat.le_trans hz.eqs (by omega), by have := hz.times; simp [Rw.T.tick]; omega⟩, rfl⟩
set_option maxRecDepth 100000 in
set_option maxHeartbeats 1000000 in
theorem equate_ok (P B n : Nat) (g : Bl) (s s2 : T) (a b : Rw.Term) (va vb : Value) (y : W64) (w : World) (h : Tb w B P g s) (hO : Ow s) (hB : B ≤ w.heap.size) (hva : SlAt w B 60 10 va a.fields.length (fdsV a.fields)) (hvb : SlAt w B 60 10 vb b.fields.length (fdsV b.fields))
    (hta : a.tail < s.own.length) (htb : b.tail < s.own.length) (hst : s.stuck = false) (hz : Sz s n) (hn : 40 * (n + 1 + a.fields.length + b.fields.length) + 1000 ≤ 400000000) (he : s.tick.equal a b y = (true, s2)) :
    Calls Try.prog 23 #[.pointer (some ⟨P, 0, none⟩), .agg #[va, .int .i64 a.tail], .agg #[vb, .int .i64 b.tail], whyV y] w fun e w' => RetS (.bool true) w B P g s2 e w' := by
  obtain ⟨hb2, e0, e1, hs2⟩ := boxes2' w (.cells #[va, .int .i64 a.tail] 68) (.cells #[vb, .int .i64 b.tail] 68)
  have hM : EqM w B P g a b va vb ((w.alloc (.cells #[va, .int .i64 a.tail] 68)).alloc (.cells #[vb, .int .i64 b.tail] 68)) g s :=
    ⟨((Sg.refl h hB).below hb2).1, e0, e1, hva.below hb2, hvb.below hb2⟩
  obtain ⟨Aa, ca, rfl, _⟩ := hva.ex
  obtain ⟨Ab, cb, rfl, _⟩ := hvb.ex
  have hth := fun t => there_any P B g s t _ hM.sg.tb
  have htk := tick_any P B g s _ hM.sg.tb hM.sg.ge (by have := hz.times; omega)
  obtain ⟨k0, k1, k2, k3⟩ := hM.cells
  obtain ⟨vu, vt, vr, vo, ve, vs, fs, hx⟩ := hM.sg.tb
  have c5 := hx.cells.2.2.2.2.2.1
  rw [hst] at c5
  have d1 : decide (a.tail < (s.own.length : Int)) = true := by simpa using hta
  have d2 : decide (b.tail < (s.own.length : Int)) = true := by simpa using htb
  obtain ⟨tO, tZ, tow⟩ := tick_ow hO hz
  have HE : Hid (∀ w1 g1, EqM w B P g a b (.slice Aa a.fields.length ca) (.slice Ab b.fields.length cb) w1 g1 s.tick → Calls Try.prog 50 #[.pointer (some ⟨P, 0, none⟩), .agg #[.slice Aa a.fields.length ca, .int .i64 a.tail], .agg #[.slice Ab b.fields.length cb, .int .i64 b.tail], .int .u64 (y.toNat : Nat)] w1 fun e w' => RetS (.bool true) w1 B P g1 s2 e w') := hide fun w1 g1 h => by
    have := equal_any P B (n + 1) g1 s.tick a b _ _ y w1 h.sg.tb tO h.sg.ge h.fa h.fb (by rw [tow]; exact hta) (by rw [tow]; exact htb) tZ (by omega)
    rw [he] at this
    exact this
  have HM := hide (And.intro hM (And.intro hth (And.intro htk (And.intro d1 d2))))
  clear hM hth htk d1 d2 hx hb2 e0 e1 hs2 hva hvb h hta htb hst
  unfold whyV at *
  go_enter Try.func23, Try.ntmps23
  go_upto_region 4 with (first | (go_at_call 49; (first | with_reducible refine (HM.out.2.1 a.tail).mono ?_ | with_reducible refine (HM.out.2.1 b.tail).mono ?_); rintro e w1 ⟨rfl, rfl⟩; (first | rw [HM.out.2.2.2.1] | rw [HM.out.2.2.2.2])) | (go_at_call 45; refine (HM.out.2.2.1).mono ?_; rintro e w2 ⟨rfl, hs2⟩; have H2 := hide hs2; clear hs2))
  obtain ⟨g2, hM2, _⟩ := HM.out.1.step H2.out
  obtain ⟨m0, m1, m2, m3⟩ := hM2.cells
  obtain ⟨vu, vt, vr, vo, ve, vs, fs, hx⟩ := hM2.sg.tb
  obtain ⟨Au, cu, rfl, _⟩ := RowZ.form hx.undo
  have q0 := hx.cells.1
  have HM2 := hide hM2
  clear hM2 hx k0 k1 k2 k3 c5
  go_wp2_with (go_at_call 50; refine (HE.out _ _ HM2.out).mono ?_; rintro e w3 ⟨rfl, hs3⟩; have H3 := hide hs3; clear hs3)
  go_ret
  obtain ⟨g3, h3, _⟩ := HM2.out.sg.step H3.out
  exact ⟨rfl, h3.stp⟩
theorem Lacks_nil (v : Int) (f : ByteArray) (y : W64) (w : World) : Calls Try.prog 24 #[.pointer none, .int .i64 v, .string f, whyV y] w fun e w' => e = .returned (.bool false) ∧ w = w' := by
  unfold whyV
  go_enter Try.func24, Try.ntmps24
  go_wp2_with fail
  go_ret
  exact ⟨rfl, rfl⟩
theorem Lacks_out (P B : Nat) (g : Bl) (s : T) (v : Int) (f : ByteArray) (y : W64) (w : World) (h : Tb w B P g s) (hn : s.stuck = true ∨ v < 0 ∨ ¬ v < s.own.length) :
    Calls Try.prog 24 #[.pointer (some ⟨P, 0, none⟩), .int .i64 v, .string f, whyV y] w fun e w' => e = .returned (.bool false) ∧ w = w' := by
  have hth := there_any P B g s v w h
  obtain ⟨vu, vt, vr, vo, ve, vs, fs, hx⟩ := h
  have c5 := hx.cells.2.2.2.2.2.1
  have HT := hide hth
  clear hx hth
  unfold whyV
  go_enter Try.func24, Try.ntmps24
  cases hst : s.stuck with
  | true =>
    rw [hst] at c5
    go_wp2_with fail
    go_ret
    exact ⟨rfl, rfl⟩
  | false =>
    rw [hst] at c5 hn
    by_cases h0 : v < 0
    · clear hn
      go_wp2_with fail
      go_ret
      exact ⟨rfl, rfl⟩
    · have h1 : ¬ v < s.own.length := by simpa [h0] using hn
      have d1 : decide (v < (s.own.length : Int)) = false := by simpa using h1
      have HD := hide d1
      clear hn h1 d1
      go_wp2_with (go_at_call 49; refine (HT.out).mono ?_; rintro e w1 ⟨rfl, rfl⟩; rw [HD.out])
      go_ret
      exact ⟨rfl, rfl⟩
set_option maxRecDepth 100000 in
set_option maxHeartbeats 1000000 in
theorem Lacks_in (P B n : Nat) (g : Bl) (s : T) (v : Nat) (f : ByteArray) (y : W64) (w : World) (h : Tb w B P g s) (hO : Ow s) (hB : B ≤ w.heap.size) (hv : v < s.own.length) (hst : s.stuck = false) (hz : Sz s n) (hn : n + 1 ≤ 400000000) :
    Calls Try.prog 24 #[.pointer (some ⟨P, 0, none⟩), .int .i64 (v : Nat), .string f, whyV y] w fun e w' => RetS (.bool (s.lacksOf (v : Nat) f y).1) w B P g (s.lacksOf (v : Nat) f y).2 e w' := by
  have hth := there_any P B g s (v : Nat) w h
  have hS := Sg.refl h hB
  have htk := tick_any P B g s w h hB (by have := hz.times; omega)
  obtain ⟨tO, tZ, tow⟩ := tick_ow hO hz
  obtain ⟨o, ho⟩ : ∃ o, s.own[v]? = some o := ⟨s.own[v], List.getElem?_eq_getElem hv⟩
  have hor : o < s.rows.length := hO.own o (List.mem_iff_getElem?.2 ⟨_, ho⟩)
  have hres : s.lacksOf (v : Nat) f y = s.tick.lacks (o : Nat) f y := by
    unfold Rw.T.lacksOf Rw.T.there
    rw [hst, Int.toNat_natCast, List.getD_eq_getElem?_getD, ho]
    simp [hv]
    omega
  rw [hres]
  obtain ⟨vu, vt, vr, vo, ve, vs, fs, hx⟩ := h
  have c5 := hx.cells.2.2.2.2.2.1
  rw [hst] at c5
  have d1 : decide (((v : Nat) : Int) < (s.own.length : Int)) = true := by simpa using hv
  have HT := hide (And.intro hth (And.intro htk (And.intro d1 (And.intro hS ho))))
  have HL : Hid (∀ w1 g1, Sg w B P g w1 g1 s.tick → Calls Try.prog 53 #[.pointer (some ⟨P, 0, none⟩), .int .i64 (o : Nat), .string f, .int .u64 (y.toNat : Nat)] w1 fun e w' => RetS (.bool (s.tick.lacks (o : Nat) f y).1) w1 B P g1 (s.tick.lacks (o : Nat) f y).2 e w') := hide fun w1 g1 h =>
    lacks_any P B g1 s.tick (o : Nat) f y w1 h.tb tO.wf h.ge (by show ((o : Nat) : Int) < (s.rows.length : Nat); omega) (by have := tZ.tot; omega) (by have := tZ.undo; omega) (fun k r hr => by have := tZ.lacks k r hr; omega)
  have hv0 : ((v : Nat) : Int) < (s.own.length : Int) := by omega
  have hv1 : (0 : Int) ≤ (v : Nat) := by omega
  clear hth htk d1 hx hS hst tO tZ tow hres
  generalize s.tick.lacks (o : Nat) f y = res at *
  unfold whyV at *
  go_enter Try.func24, Try.ntmps24
  go_upto_region 4 with (first | (go_at_call 49; refine (HT.out.1).mono ?_; rintro e w1 ⟨rfl, rfl⟩; rw [HT.out.2.2.1]) | (go_at_call 45; refine (HT.out.2.1).mono ?_; rintro e w2 ⟨rfl, hs2⟩; have H2 := hide hs2; clear hs2))
  obtain ⟨g2, hS2, _⟩ := HT.out.2.2.2.1.step H2.out
  obtain ⟨vu, vt, vr, vo, ve, vs, fs, hx⟩ := hS2.tb
  obtain ⟨bo, co, rfl, hcell⟩ := hx.ownCell HT.out.2.2.2.2
  have c3 : w2.cell? ⟨P, 3, none⟩ = some (.slice (some ⟨bo, 0, none⟩) s.own.length co) := hx.cells.2.2.2.1
  have HS2 := hide hS2
  clear hS2 hx c5
  go_wp2_with (go_at_call 53; refine (HL.out _ _ HS2.out).mono ?_; rintro e w3 ⟨rfl, hs3⟩; have H3 := hide hs3; clear hs3)
  go_ret
  obtain ⟨g3, h3, _⟩ := HS2.out.step H3.out
  exact ⟨rfl, h3.stp⟩
end Go.Proofs.Ythnbhcfpfbimgaa
