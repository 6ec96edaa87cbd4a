/- The walk of equal: two row terms mean the same. -/
import Derived.Test.YthnbhcfpfbimgaaRwEqual0
namespace Go.Proofs.Ythnbhcfpfbimgaa
open Go.RowKit
open Rw (El At Fld Lk Eqn U T W64 Sp Wf tot Sz Nx Ow)
/-- What an equation's walk keeps. -/
structure EqM (w0 : World) (B P : Nat) (g : Bl) (a b : Rw.Term) (va vb : Value) (wr : World) (g1 : Bl) (s1 : T) : Prop where
  sg : Sg w0 B P g wr g1 s1
  ba : wr.heap[w0.heap.size]? = some (.cells #[va, .int .i64 a.tail] 68 (0, 0))
  bb : wr.heap[w0.heap.size + 1]? = some (.cells #[vb, .int .i64 b.tail] 68 (0, 0))
  fa : SlAt wr B 60 10 va a.fields.length (fdsV a.fields)
  fb : SlAt wr B 60 10 vb b.fields.length (fdsV b.fields)
section
variable {w0 wr w2 : World} {B P : Nat} {g g1 g2 : Bl} {a b : Rw.Term} {va vb : Value} {s1 s2 : T}
theorem EqM.kept (h : EqM w0 B P g a b va vb wr g1 s1) (hs : Sg w0 B P g w2 g2 s2) (hk : Kept wr B g1 w2 g2) (ht : KeptT wr w2) : EqM w0 B P g a b va vb w2 g2 s2 :=
  ⟨hs, ht.block _ _ _ h.ba (by unfold Apart5; decide), ht.block _ _ _ h.bb (by unfold Apart5; decide), hk.fields h.fa, hk.fields h.fb⟩
theorem EqM.below (h : EqM w0 B P g a b va vb wr g1 s1) (hb : Below wr.heap.size wr w2) : EqM w0 B P g a b va vb w2 g1 s1 :=
  h.kept (h.sg.below hb).1 (h.sg.below hb).2 (KeptT.below hb)
theorem EqM.step (h : EqM w0 B P g a b va vb wr g1 s1) (hb : Stp wr B P g1 s2 w2) : ∃ g2, EqM w0 B P g a b va vb w2 g2 s2 ∧ Kept wr B g1 w2 g2 ∧ KeptT wr w2 := by
  obtain ⟨g2, h1, h2, h3⟩ := h.sg.stepT hb
  exact ⟨g2, h.kept h1 h2 h3, h2, h3⟩
theorem EqM.cells (h : EqM w0 B P g a b va vb wr g1 s1) : wr.cell? ⟨w0.heap.size, 0, none⟩ = some va ∧ wr.cell? ⟨w0.heap.size, 1, none⟩ = some (.int .i64 a.tail) ∧ wr.cell? ⟨w0.heap.size + 1, 0, none⟩ = some vb ∧ wr.cell? ⟨w0.heap.size + 1, 1, none⟩ = some (.int .i64 b.tail) := by
  rw [cell_block h.ba, cell_block h.ba, cell_block h.bb, cell_block h.bb]
  exact ⟨rfl, rfl, rfl, rfl⟩
end
theorem term_call {P B n : Nat} {g g1 : Bl} {s1 : T} {x : Rw.Term} {v : Value} {y : W64} {w0 w : World} {r : Option Sp × T} (hr : s1.term x y = r) (hs : Sg w0 B P g w g1 s1) (hO : Ow s1) (hv : SlAt w B 60 10 v x.fields.length (fdsV x.fields)) (ht : x.tail < s1.own.length) (hz : Sz s1 n) (hn : n + x.fields.length + x.fields.length ≤ 800000000) :
    Calls Try.prog 72 #[.pointer (some ⟨P, 0, none⟩), .agg #[v, .int .i64 x.tail], .int .u64 (y.toNat : Nat)] w fun e w' => RetT w B P g1 r e w' := by
  subst hr
  exact term_any P B n g1 s1 x v y w hs.tb hO.wf hs.ge hv ht hO.own hz hn
set_option maxRecDepth 100000 in
set_option maxHeartbeats 4000000 in
theorem equal_any (P B n : Nat) (g : Bl) (s : T) (a b : Rw.Term) (va vb : Value) (y : W64) (w : World) (h : Tb w B P g s) (hO : Ow s) (hB : B ≤ w.heap.size) (hva : SlAt w B 60 10 va a.fields.length (fdsV a.fields)) (hvb : SlAt w B 60 10 vb b.fields.length (fdsV b.fields))
    (hta : a.tail < s.own.length) (htb : b.tail < s.own.length) (hz : Sz s n) (hn : 40 * (n + a.fields.length + b.fields.length) + 1000 ≤ 400000000) :
    Calls Try.prog 50 #[.pointer (some ⟨P, 0, none⟩), .agg #[va, .int .i64 a.tail], .agg #[vb, .int .i64 b.tail], whyV y] w fun e w' => RetS (.bool (s.equal a b y).1) w B P g (s.equal a b y).2 e w' := by
  obtain ⟨hb2, e0, e1, hs2⟩ := boxes2' w (.cells #[va, .int .i64 a.tail] 68) (.cells #[vb, .int .i64 b.tail] 68)
  have hM : EqM w B P g a b va vb ((w.alloc (.cells #[va, .int .i64 a.tail] 68)).alloc (.cells #[vb, .int .i64 b.tail] 68)) g s :=
    ⟨((Sg.refl h hB).below hb2).1, e0, e1, hva.below hb2, hvb.below hb2⟩
  obtain ⟨Aa, ca, rfl, _⟩ := hva.ex
  obtain ⟨Ab, cb, rfl, _⟩ := hvb.ex
  have HM := hide hM
  obtain ⟨k0, k1, k2, k3⟩ := hM.cells
  clear hM hb2 e0 e1 hs2 hva hvb h
  have HIn := hide (And.intro hO (And.intro hta (And.intro htb hz)))
  obtain ⟨n1, z1⟩ := Rw.term_nx s a y hz
  have hO1 := hO.nx n1
  rcases hr1 : s.term a y with ⟨r1, s1⟩
  rw [hr1] at n1 z1 hO1
  dsimp only at n1 z1 hO1
  have HT1 := hide (term_call hr1 HM.out.sg hO HM.out.fa hta hz (by omega))
  obtain ⟨res, hres⟩ : ∃ res, res = s.equal a b y := ⟨_, rfl⟩
  rw [← hres]
  unfold whyV at *
  cases r1 with
  | none =>
    rw [Rw.equal_1 hr1] at hres
    have HRes := hide hres
    clear hres hr1 n1 z1 hO1 hz hO
    go_enter Try.func50, Try.ntmps50
    go_wp2_with (go_at_call 72; refine (HT1.out).mono ?_; rintro e w1 ⟨⟨v1, rfl, hl1⟩, hs1⟩; obtain ⟨Ac, cc, rfl, _⟩ := hl1.ex; have H1 := hide hs1; simp only [Option.isSome_none, Option.getD_none]; unfold spC; clear hs1 hl1)
    go_ret
    obtain ⟨g3, h3, _⟩ := HM.out.sg.step H1.out
    rw [HRes.out]
    exact ⟨rfl, (h3.below (below_laid _ _)).1.stp⟩
  | some x1 =>
    have htb1 : b.tail < s1.own.length := by rw [n1.own]; exact htb
    obtain ⟨n2, z2⟩ := Rw.term_nx s1 b y z1
    have hO2 := hO1.nx n2
    rcases hr2 : s1.term b y with ⟨r2, s2⟩
    rw [hr2] at n2 z2 hO2
    dsimp only at n2 z2 hO2
    have HT2 : Hid (∀ w1 g1, EqM w B P g a b (.slice Aa a.fields.length ca) (.slice Ab b.fields.length cb) w1 g1 s1 → Calls Try.prog 72 #[.pointer (some ⟨P, 0, none⟩), .agg #[.slice Ab b.fields.length cb, .int .i64 b.tail], .int .u64 (y.toNat : Nat)] w1 fun e w' => RetT w1 B P g1 (r2, s2) e w') := hide fun w1 g1 h => term_call hr2 h.sg hO1 h.fb htb1 z1 (by omega)
    cases r2 with
    | none =>
      rw [Rw.equal_2 hr1 hr2] at hres
      have HRes := hide hres
      clear hres hr1 hr2 n1 z1 hO1 hz hO n2 z2 hO2 htb1
      go_enter Try.func50, Try.ntmps50
      go_upto_region 2 with (go_at_call 72; refine (HT1.out).mono ?_; rintro e w1 ⟨⟨v1, rfl, hl1⟩, hs1⟩; obtain ⟨Ac, cc, rfl, _⟩ := hl1.ex; obtain ⟨g1, hM1, _⟩ := HM.out.step hs1; have H1 := hide hM1; simp only [Option.isSome_some, Option.getD_some]; unfold spC; clear hs1 hM1 hl1)
      have hM1 := H1.out.below (below_laid w1 (.cells #[.slice Ac x1.fields.length cc, .int .i64 x1.fin, .int .u64 (x1.why.toNat : Nat)] 101))
      obtain ⟨m0, m1, m2, m3⟩ := hM1.cells
      have HM1 := hide hM1
      clear hM1 k0 k1 k2 k3
      go_wp2_with (go_at_call 72; refine (HT2.out _ _ HM1.out).mono ?_; rintro e w2 ⟨⟨v2, rfl, hl2⟩, hs2⟩; obtain ⟨Ad, cd, rfl, _⟩ := hl2.ex; have H2 := hide hs2; simp only [Option.isSome_none, Option.getD_none]; unfold spC; clear hs2 hl2)
      go_ret
      obtain ⟨g3, h3, _⟩ := HM1.out.sg.step H2.out
      rw [HRes.out]
      exact ⟨rfl, (h3.below (below_laid _ _)).1.stp⟩
    | some x2 =>
      have hO3 := (hO2.nx (Rw.term_nx s2 a y z2).1)
      obtain ⟨n3, z3⟩ := Rw.term_nx s2 a y z2
      rcases hr3 : s2.term a y with ⟨r3, s3⟩
      rw [hr3] at n3 z3 hO3
      dsimp only at n3 z3 hO3
      cases r3 with
      | none => exact (Rw.equal_not hz hr1 hr2 hr3).elim
      | some x3 =>
        have hta2 : a.tail < s2.own.length := by rw [n2.own, n1.own]; exact hta
        have HT3 : Hid (∀ w2 g2, EqM w B P g a b (.slice Aa a.fields.length ca) (.slice Ab b.fields.length cb) w2 g2 s2 → Calls Try.prog 72 #[.pointer (some ⟨P, 0, none⟩), .agg #[.slice Aa a.fields.length ca, .int .i64 a.tail], .int .u64 (y.toNat : Nat)] w2 fun e w' => RetT w2 B P g2 (some x3, s3) e w') := hide fun w2 g2 h => term_call hr3 h.sg hO2 h.fa hta2 z2 (by omega)
        rw [Rw.equal_3 hr1 hr2 hr3] at hres
        have e2 := Rw.term_some hr2
        have e3 := Rw.term_some hr3
        have ha3 := hO2.at_ hta2
        have hb3 := hO1.at_ htb1
        have hf3 := Rw.spreads_fin (fs := a.fields) (a := s2.at_ a.tail) hO3.wf (by rw [n3.len]; exact ha3.2) ha3.1 hO3.tail
        have hl3 := Rw.spreads_len (fs := a.fields) (a := s2.at_ a.tail) hO3.wf (by rw [n3.len]; exact ha3.2)
        have hf2 := Rw.spreads_fin (fs := b.fields) (a := s1.at_ b.tail) hO2.wf (by rw [n2.len]; exact hb3.2) hb3.1 hO2.tail
        have hl2 := Rw.spreads_len (fs := b.fields) (a := s1.at_ b.tail) hO2.wf (by rw [n2.len]; exact hb3.2)
        rw [← e3] at hf3 hl3
        rw [← e2] at hf2 hl2
        rw [← n3.len] at hf2
        have ht3 := z3.tot
        have ht2 := z2.tot
        have hbo1 := bits_or y x3.why
        have hbo2 := bits_or (y ||| x3.why) x2.why
        generalize y ||| x3.why = zz1 at hbo1 hbo2 hres
        generalize zz1 ||| x2.why = zz2 at hbo2 hres
        have HMe : Hid (∀ w3 g3 v3 v2, Sg w B P g w3 g3 s3 → SlAt w3 B 60 10 v3 x3.fields.length (fdsV x3.fields) → SlAt w3 B 60 10 v2 x2.fields.length (fdsV x2.fields) → Calls Try.prog 73 #[.pointer (some ⟨P, 0, none⟩), .agg #[v3, .int .i64 x3.fin, .int .u64 (x3.why.toNat : Nat)], .agg #[v2, .int .i64 x2.fin, .int .u64 (x2.why.toNat : Nat)], .int .u64 (zz2.toNat : Nat)] w3 fun e w' => RetS (.bool res.1) w3 B P g3 res.2 e w') := hide fun w3 g3 v3 v2 h h3 h2 => by
          rw [hres]
          exact meet_any P B _ g3 s3 x3 x2 v3 v2 zz2 w3 h.tb hO3.wf h.ge h3 h2 hf3.2 hf2.2 hf3.1 hf2.1 z3 (by omega)
        clear hres hr1 hr2 hr3 n1 z1 hO1 hz hO n2 z2 hO2 n3 z3 hO3 htb1 hta2 e2 e3 ha3 hb3 hf3 hl3 hf2 hl2 ht3 ht2
        go_enter Try.func50, Try.ntmps50
        go_upto_region 2 with (go_at_call 72; refine (HT1.out).mono ?_; rintro e w1 ⟨⟨v1, rfl, hl1⟩, hs1⟩; obtain ⟨Ac, cc, rfl, _⟩ := hl1.ex; obtain ⟨g1, hM1, _⟩ := HM.out.step hs1; have H1 := hide hM1; simp only [Option.isSome_some, Option.getD_some]; unfold spC; clear hs1 hM1 hl1)
        have hM1 := H1.out.below (below_laid w1 (.cells #[.slice Ac x1.fields.length cc, .int .i64 x1.fin, .int .u64 (x1.why.toNat : Nat)] 101))
        obtain ⟨m0, m1, m2, m3⟩ := hM1.cells
        have HM1 := hide hM1
        clear hM1 k0 k1 k2 k3
        go_upto_region 5 with (go_at_call 72; refine (HT2.out _ _ HM1.out).mono ?_; rintro e w2 ⟨⟨v2, rfl, hl2⟩, hs2⟩; obtain ⟨Ad, cd, rfl, _⟩ := hl2.ex; obtain ⟨g2, hM2, _⟩ := HM1.out.step hs2; have H2 := hide (And.intro hM2 hl2); simp only [Option.isSome_some, Option.getD_some]; unfold spC; clear hs2 hM2 hl2)
        have hb2 := below_laid w2 (.cells #[.slice Ad x2.fields.length cd, .int .i64 x2.fin, .int .u64 (x2.why.toNat : Nat)] 101)
        have hM2 := H2.out.1.below hb2
        have e2 := heap_alloc_new w2 (.cells #[.slice Ad x2.fields.length cd, .int .i64 x2.fin, .int .u64 (x2.why.toNat : Nat)] 101)
        obtain ⟨l0, l1, l2, l3⟩ := hM2.cells
        have HM2 := hide (And.intro hM2 (And.intro (H2.out.2.below hb2) e2))
        clear hM2 m0 m1 m2 m3 hb2 e2
        go_upto_region 8 with (go_at_call 72; refine (HT3.out _ _ HM2.out.1).mono ?_; rintro e w3 ⟨⟨v3, rfl, hl3⟩, hs3⟩; obtain ⟨Ae, ce, rfl, _⟩ := hl3.ex; obtain ⟨g3, hM3, hK3, hT3⟩ := HM2.out.1.step hs3; have H3 := hide (And.intro hM3 (And.intro hl3 (And.intro (hK3.fields HM2.out.2.1) (hT3.block _ _ _ HM2.out.2.2 (by unfold Apart5; decide))))); simp only [Option.isSome_some, Option.getD_some]; unfold spC; clear hs3 hM3 hl3 hK3 hT3)
        have hb3 := below_laid w3 (.cells #[.slice Ae x3.fields.length ce, .int .i64 x3.fin, .int .u64 (x3.why.toNat : Nat)] 101)
        have hM3 := H3.out.1.below hb3
        have e2 := (hb3.block _ (blk_lt H3.out.2.2.2)).trans H3.out.2.2.2
        have e3 := heap_alloc_new w3 (.cells #[.slice Ae x3.fields.length ce, .int .i64 x3.fin, .int .u64 (x3.why.toNat : Nat)] 101)
        obtain ⟨y0, y1, y2⟩ := spC_cells e2
        obtain ⟨x0, x1', x2'⟩ := spC_cells e3
        have HM3 := hide (And.intro hM3 (And.intro (H3.out.2.1.below hb3) (H3.out.2.2.1.below hb3)))
        clear hM3 e2 e3 hb3 l0 l1 l2 l3
        go_wp2_with (go_at_call 73; refine (HMe.out _ _ _ _ HM3.out.1.sg HM3.out.2.1 HM3.out.2.2).mono ?_; rintro e w4 ⟨rfl, hs4⟩; have H4 := hide hs4; clear hs4)
        go_ret
        obtain ⟨g4, h4, _⟩ := HM3.out.1.sg.step H4.out
        exact ⟨rfl, h4.stp⟩
end Go.Proofs.Ythnbhcfpfbimgaa
