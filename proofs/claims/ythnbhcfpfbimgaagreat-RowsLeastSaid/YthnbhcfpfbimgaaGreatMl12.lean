/- Texts put together: RwEqual0 RwEqual RwEquate RwSmall. -/
import Derived.Test.YthnbhcfpfbimgaaGreatMl11
/- Plain: what a term tells hangs on the bound rows alone; the third term of an equation is as the first. -/
namespace Go.Proofs.YthnbhcfpfbimgaaGreat
namespace Rw
theorem spread_nx {rows rows' : List Row} (h : ∀ (i : Nat) r, rows'[i]? = some r → ∃ r0, rows[i]? = some r0 ∧ r.bound = r0.bound ∧ r.tail = r0.tail ∧ r.fields = r0.fields ∧ r.why = r0.why) (hl : rows'.length = rows.length) : ∀ (m : Nat) (s : Sp), spread rows' m s = spread rows m s
  | 0, s => rfl
  | m + 1, s => by
    by_cases h0 : s.fin < 0
    · rw [spread_neg h0, spread_neg h0]
    · cases hx : rows'[s.fin.toNat]? with
      | none =>
        have hn : rows[s.fin.toNat]? = none := by
          rw [List.getElem?_eq_none_iff] at hx ⊢
          omega
        unfold spread
        rw [if_neg h0, if_neg h0, hx, hn]
      | some r =>
        obtain ⟨r0, h1, h2, h3, h4, h5⟩ := h _ r hx
        cases hb : r.bound with
        | false => rw [spread_free hx hb, spread_free h1 (by rw [← h2]; exact hb)]
        | true =>
          rw [spread_bound (by omega) hx hb, spread_bound (by omega) h1 (by rw [← h2]; exact hb), h3, h4, h5]
          exact spread_nx h hl m _
theorem Nx.spreads {s s' : T} (h : Nx s s') (fs : List Fld) (a : Int) : s'.spreads fs a = s.spreads fs a := by
  unfold T.spreads
  rw [h.len]
  exact spread_nx h.row h.len _ _
theorem lacks_fst (s : T) (a : Int) (f : ByteArray) (y : W64) : (s.lacks a f y).1 = !hasF (s.spreads [] a).fields f := by
  unfold T.lacks
  simp only []
  split
  · rename_i h; rw [h]; rfl
  · rename_i h
    rw [show hasF (s.spreads [] a).fields f = false by simpa using h]
    split
    · rfl
    split <;> rfl
theorem termFields_iff (s : T) (a : Int) (y : W64) (fs : List Fld) {n : Nat} (hz : Sz s n) : ∀ k, (s.termFields a y fs k).1 = true ↔ ∀ (j : Nat) f, j < k → fs[j]? = some f → hasF (fs.take j) f.name = false ∧ (a < 0 ∨ hasF (s.spreads [] a).fields f.name = false)
  | 0 => ⟨fun _ j f hj => by omega, fun _ => rfl⟩
  | k + 1 => by
    have ih := termFields_iff s a y fs hz k
    have hx := (termFields_nx s a y fs hz k).1
    rcases hr : s.termFields a y fs k with ⟨b, sk⟩
    rw [hr] at ih hx
    cases b with
    | false =>
      rw [termFields_false hr 1]
      refine ⟨fun h => (by cases h), fun h => ?_⟩
      have := ih.2 fun j f hj => h j f (by omega)
      cases this
    | true =>
      have hall := ih.1 rfl
      cases hf : fs[k]? with
      | none =>
        simp only [T.termFields, hr, hf]
        refine ⟨fun _ j f hj hjf => ?_, fun _ => trivial⟩
        rcases Nat.lt_or_ge j k with h | h
        · exact hall j f h hjf
        · obtain rfl : j = k := by omega
          rw [hf] at hjf; cases hjf
      | some f =>
        rw [termFields_succ hr hf]
        have key : (if hasF (fs.take k) f.name then (false, sk.stick y) else if a < 0 then (true, sk) else sk.lacks a f.name y).1 = true ↔ hasF (fs.take k) f.name = false ∧ (a < 0 ∨ hasF (s.spreads [] a).fields f.name = false) := by
          split
          · rename_i h; simp [h]
          · rename_i h
            have h' : hasF (fs.take k) f.name = false := by simpa using h
            split
            · rename_i h2; simp [h', h2]
            · rename_i h2
              rw [lacks_fst, hx.spreads]
              simp [h', h2]
        rw [key]
        refine ⟨fun h j f' hj hjf => ?_, fun h => h k f (by omega) hf⟩
        rcases Nat.lt_or_ge j k with h1 | h1
        · exact hall j f' h1 hjf
        · obtain rfl : j = k := by omega
          rw [hf] at hjf; cases hjf; exact h
theorem term_isSome (s : T) (x : Term) (y : W64) : (s.term x y).1.isSome = (s.termFields (s.at_ x.tail) y x.fields x.fields.length).1 := by
  unfold T.term
  rcases s.termFields (s.at_ x.tail) y x.fields x.fields.length with ⟨b, sk⟩
  cases b <;> rfl
theorem Nx.at_ {s s' : T} (h : Nx s s') (t : Int) : s'.at_ t = s.at_ t := by unfold T.at_; rw [h.own]
theorem Nx.term {s s' : T} (h : Nx s s') (x : Term) (y : W64) {n m : Nat} (hz : Sz s n) (hz' : Sz s' m) : (s'.term x y).1.isSome = (s.term x y).1.isSome := by
  rw [term_isSome, term_isSome, h.at_, Bool.eq_iff_iff, termFields_iff s' _ y _ hz', termFields_iff s _ y _ hz, h.spreads]
/-- The end of what is spread is a row that is free, or none. -/
theorem spreads_fin {s : T} {fs : List Fld} {a : Int} (hw : Wf s.rows) (ha : a < s.rows.length) (ha1 : -1 ≤ a) (ht : ∀ (i : Nat) r, s.rows[i]? = some r → -1 ≤ r.tail) : -1 ≤ (s.spreads fs a).fin ∧ (s.spreads fs a).fin < s.rows.length := by
  have h1 := ((Go.start (rows := s.rows) (fs := fs) (at_ := a) (N := fs.length + tot s.rows) ha (Nat.le_refl _)).fin_ok hw).1
  have key : ∀ (m : Nat) (p : Sp), -1 ≤ p.fin → -1 ≤ (spread s.rows m p).fin := by
    intro m
    induction m with
    | zero => exact fun p h => h
    | succ m ih =>
      intro p h
      by_cases h0 : p.fin < 0
      · rw [spread_neg h0]; exact h
      · cases hx : s.rows[p.fin.toNat]? with
        | none => unfold spread; rw [if_neg h0, hx]; exact h
        | some r =>
          cases hb : r.bound with
          | false => rw [spread_free hx hb]; exact h
          | true => rw [spread_bound (by omega) hx hb]; exact ih _ (ht _ r hx)
  refine ⟨key _ _ ha1, ?_⟩
  rcases h1 with h | h
  · exact Int.lt_of_lt_of_le h (by omega)
  · exact h.1
/-- How many fields a spread has. -/
theorem spreads_len {s : T} {fs : List Fld} {a : Int} (hw : Wf s.rows) (ha : a < s.rows.length) : (s.spreads fs a).fields.length ≤ fs.length + tot s.rows :=
  ((Go.start (rows := s.rows) (fs := fs) (at_ := a) (N := fs.length + tot s.rows) ha (Nat.le_refl _)).fin_ok hw).2
/-- The own rows are there, and no tail is below -1. -/
structure Ow (s : T) : Prop where
  wf : Wf s.rows
  tail : ∀ (i : Nat) r, s.rows[i]? = some r → -1 ≤ r.tail
  own : ∀ o ∈ s.own, o < s.rows.length
theorem Ow.nx {s s' : T} (h : Ow s) (hx : Nx s s') : Ow s' := ⟨hx.wf h.wf, fun i r hr => by
  obtain ⟨r0, h1, _, h3, _⟩ := hx.row i r hr
  rw [h3]; exact h.tail i r0 h1, fun o ho => by rw [hx.own] at ho; rw [hx.len]; exact h.own o ho⟩
theorem Ow.at_ {s : T} (h : Ow s) {t : Int} (ht : t < s.own.length) : -1 ≤ s.at_ t ∧ s.at_ t < s.rows.length := by
  unfold T.at_
  split
  · omega
  · rename_i h0
    obtain ⟨o, hq⟩ : ∃ o, s.own[t.toNat]? = some o := ⟨s.own[t.toNat], List.getElem?_eq_getElem (by omega)⟩
    rw [List.getD_eq_getElem?_getD, hq]
    have := h.own o (List.mem_iff_getElem?.2 ⟨_, hq⟩)
    simp
    omega
/-- The three terms of an equation. -/
theorem equal_1 {s s1 : T} {a b : Term} {y : W64} (h : s.term a y = (none, s1)) : s.equal a b y = (false, s1) := by simp only [T.equal, h]
theorem equal_2 {s s1 s2 : T} {a b : Term} {y : W64} {x1 : Sp} (h : s.term a y = (some x1, s1)) (h2 : s1.term b y = (none, s2)) : s.equal a b y = (false, s2) := by simp only [T.equal, h, h2]
theorem equal_3 {s s1 s2 s3 : T} {a b : Term} {y : W64} {x1 x2 x3 : Sp} (h : s.term a y = (some x1, s1)) (h2 : s1.term b y = (some x2, s2)) (h3 : s2.term a y = (some x3, s3)) : s.equal a b y = s3.meet x3 x2 (y ||| x3.why ||| x2.why) := by simp only [T.equal, h, h2, h3]
theorem equal_not {s s1 s2 s3 : T} {a b : Term} {y : W64} {x1 x2 : Sp} {n : Nat} (hz : Sz s n) (h : s.term a y = (some x1, s1)) (h2 : s1.term b y = (some x2, s2)) (h3 : s2.term a y = (none, s3)) : False := by
  obtain ⟨n1, z1⟩ := term_nx s a y hz
  rw [h] at n1 z1
  obtain ⟨n2, z2⟩ := term_nx s1 b y z1
  rw [h2] at n2 z2
  have := (n1.trans n2).term a y hz z2
  rw [h, h3] at this
  cases this
theorem term_some {s s1 : T} {x : Term} {y : W64} {p : Sp} (h : s.term x y = (some p, s1)) : p = s1.spreads x.fields (s.at_ x.tail) := by
  unfold T.term at h
  rcases hr : s.termFields (s.at_ x.tail) y x.fields x.fields.length with ⟨b, sk⟩
  rw [hr] at h
  cases b
  · cases h
  · simp only [Prod.mk.injEq, Option.some.injEq] at h
    obtain ⟨h1, rfl⟩ := h
    exact h1.symm
end Rw
end Go.Proofs.YthnbhcfpfbimgaaGreat
/- The walk of equal: two row terms mean the same. -/
namespace Go.Proofs.YthnbhcfpfbimgaaGreat
open Go.RowKit
open Rw (El At Fld Lk Eqn U T W64 Sp Wf tot Sz Nx Ow)
/-- What an equation's walk keeps. -/
structure EqM (w0 : World) (B P : Nat) (g : Bl) (a b : Rw.Term) (va vb : Value) (wr : World) (g1 : Bl) (s1 : T) : Prop where
  sg : Sg w0 B P g wr g1 s1
  ba : wr.heap[w0.heap.size]? = some (.cells #[va, .int .i64 a.tail] 69 (0, 0))
  bb : wr.heap[w0.heap.size + 1]? = some (.cells #[vb, .int .i64 b.tail] 69 (0, 0))
  fa : SlAt wr B 59 10 va a.fields.length (fdsV a.fields)
  fb : SlAt wr B 59 10 vb b.fields.length (fdsV b.fields)
section
variable {w0 wr w2 : World} {B P : Nat} {g g1 g2 : Bl} {a b : Rw.Term} {va vb : Value} {s1 s2 : T}
theorem EqM.kept (h : EqM w0 B P g a b va vb wr g1 s1) (hs : Sg w0 B P g w2 g2 s2) (hk : Kept wr B g1 w2 g2) (ht : KeptT wr w2) : EqM w0 B P g a b va vb w2 g2 s2 :=
  ⟨hs, ht.block _ _ _ h.ba (by unfold Apart5; decide), ht.block _ _ _ h.bb (by unfold Apart5; decide), hk.fields h.fa, hk.fields h.fb⟩
theorem EqM.below (h : EqM w0 B P g a b va vb wr g1 s1) (hb : Below wr.heap.size wr w2) : EqM w0 B P g a b va vb w2 g1 s1 :=
  h.kept (h.sg.below hb).1 (h.sg.below hb).2 (KeptT.below hb)
theorem EqM.step (h : EqM w0 B P g a b va vb wr g1 s1) (hb : Stp wr B P g1 s2 w2) : ∃ g2, EqM w0 B P g a b va vb w2 g2 s2 ∧ Kept wr B g1 w2 g2 ∧ KeptT wr w2 := by
  obtain ⟨g2, h1, h2, h3⟩ := h.sg.stepT hb
  exact ⟨g2, h.kept h1 h2 h3, h2, h3⟩
theorem EqM.cells (h : EqM w0 B P g a b va vb wr g1 s1) : wr.cell? ⟨w0.heap.size, 0, none⟩ = some va ∧ wr.cell? ⟨w0.heap.size, 1, none⟩ = some (.int .i64 a.tail) ∧ wr.cell? ⟨w0.heap.size + 1, 0, none⟩ = some vb ∧ wr.cell? ⟨w0.heap.size + 1, 1, none⟩ = some (.int .i64 b.tail) := by
  rw [cell_block h.ba, cell_block h.ba, cell_block h.bb, cell_block h.bb]
  exact ⟨rfl, rfl, rfl, rfl⟩
end
theorem term_call {P B n : Nat} {g g1 : Bl} {s1 : T} {x : Rw.Term} {v : Value} {y : W64} {w0 w : World} {r : Option Sp × T} (hr : s1.term x y = r) (hs : Sg w0 B P g w g1 s1) (hO : Ow s1) (hv : SlAt w B 59 10 v x.fields.length (fdsV x.fields)) (ht : x.tail < s1.own.length) (hz : Sz s1 n) (hn : n + x.fields.length + x.fields.length ≤ 800000000) :
    Calls Tryz.prog 71 #[.pointer (some ⟨P, 0, none⟩), .agg #[v, .int .i64 x.tail], .int .u64 (y.toNat : Nat)] w fun e w' => RetT w B P g1 r e w' := by
  subst hr
  exact term_any P B n g1 s1 x v y w hs.tb hO.wf hs.ge hv ht hO.own hz hn
set_option maxRecDepth 100000 in
set_option maxHeartbeats 4000000 in
theorem equal_any (P B n : Nat) (g : Bl) (s : T) (a b : Rw.Term) (va vb : Value) (y : W64) (w : World) (h : Tb w B P g s) (hO : Ow s) (hB : B ≤ w.heap.size) (hva : SlAt w B 59 10 va a.fields.length (fdsV a.fields)) (hvb : SlAt w B 59 10 vb b.fields.length (fdsV b.fields))
    (hta : a.tail < s.own.length) (htb : b.tail < s.own.length) (hz : Sz s n) (hn : 40 * (n + a.fields.length + b.fields.length) + 1000 ≤ 400000000) :
    Calls Tryz.prog 50 #[.pointer (some ⟨P, 0, none⟩), .agg #[va, .int .i64 a.tail], .agg #[vb, .int .i64 b.tail], whyV y] w fun e w' => RetS (.bool (s.equal a b y).1) w B P g (s.equal a b y).2 e w' := by
  obtain ⟨hb2, e0, e1, hs2⟩ := boxes2' w (.cells #[va, .int .i64 a.tail] 69) (.cells #[vb, .int .i64 b.tail] 69)
  have hM : EqM w B P g a b va vb ((w.alloc (.cells #[va, .int .i64 a.tail] 69)).alloc (.cells #[vb, .int .i64 b.tail] 69)) g s :=
    ⟨((Sg.refl h hB).below hb2).1, e0, e1, hva.below hb2, hvb.below hb2⟩
  obtain ⟨Aa, ca, rfl, _⟩ := hva.ex
  obtain ⟨Ab, cb, rfl, _⟩ := hvb.ex
  have HM := hide hM
  obtain ⟨k0, k1, k2, k3⟩ := hM.cells
  clear hM hb2 e0 e1 hs2 hva hvb h
  have HIn := hide (And.intro hO (And.intro hta (And.intro htb hz)))
  obtain ⟨n1, z1⟩ := Rw.term_nx s a y hz
  have hO1 := hO.nx n1
  rcases hr1 : s.term a y with ⟨r1, s1⟩
  rw [hr1] at n1 z1 hO1
  dsimp only at n1 z1 hO1
  have HT1 := hide (term_call hr1 HM.out.sg hO HM.out.fa hta hz (by omega))
  obtain ⟨res, hres⟩ : ∃ res, res = s.equal a b y := ⟨_, rfl⟩
  rw [← hres]
  unfold whyV at *
  cases r1 with
  | none =>
    rw [Rw.equal_1 hr1] at hres
    have HRes := hide hres
    clear hres hr1 n1 z1 hO1 hz hO
    go_enter Tryz.func50, Tryz.ntmps50
    go_wp2_with (go_at_call 71; refine (HT1.out).mono ?_; rintro e w1 ⟨⟨v1, rfl, hl1⟩, hs1⟩; obtain ⟨Ac, cc, rfl, _⟩ := hl1.ex; have H1 := hide hs1; simp only [Option.isSome_none, Option.getD_none]; unfold spC; clear hs1 hl1)
    go_ret
    obtain ⟨g3, h3, _⟩ := HM.out.sg.step H1.out
    rw [HRes.out]
    exact ⟨rfl, (h3.below (below_laid _ _)).1.stp⟩
  | some x1 =>
    have htb1 : b.tail < s1.own.length := by rw [n1.own]; exact htb
    obtain ⟨n2, z2⟩ := Rw.term_nx s1 b y z1
    have hO2 := hO1.nx n2
    rcases hr2 : s1.term b y with ⟨r2, s2⟩
    rw [hr2] at n2 z2 hO2
    dsimp only at n2 z2 hO2
    have HT2 : Hid (∀ w1 g1, EqM w B P g a b (.slice Aa a.fields.length ca) (.slice Ab b.fields.length cb) w1 g1 s1 → Calls Tryz.prog 71 #[.pointer (some ⟨P, 0, none⟩), .agg #[.slice Ab b.fields.length cb, .int .i64 b.tail], .int .u64 (y.toNat : Nat)] w1 fun e w' => RetT w1 B P g1 (r2, s2) e w') := hide fun w1 g1 h => term_call hr2 h.sg hO1 h.fb htb1 z1 (by omega)
    cases r2 with
    | none =>
      rw [Rw.equal_2 hr1 hr2] at hres
      have HRes := hide hres
      clear hres hr1 hr2 n1 z1 hO1 hz hO n2 z2 hO2 htb1
      go_enter Tryz.func50, Tryz.ntmps50
      go_upto_region 2 with (go_at_call 71; refine (HT1.out).mono ?_; rintro e w1 ⟨⟨v1, rfl, hl1⟩, hs1⟩; obtain ⟨Ac, cc, rfl, _⟩ := hl1.ex; obtain ⟨g1, hM1, _⟩ := HM.out.step hs1; have H1 := hide hM1; simp only [Option.isSome_some, Option.getD_some]; unfold spC; clear hs1 hM1 hl1)
      have hM1 := H1.out.below (below_laid w1 (.cells #[.slice Ac x1.fields.length cc, .int .i64 x1.fin, .int .u64 (x1.why.toNat : Nat)] 99))
      obtain ⟨m0, m1, m2, m3⟩ := hM1.cells
      have HM1 := hide hM1
      clear hM1 k0 k1 k2 k3
      go_wp2_with (go_at_call 71; refine (HT2.out _ _ HM1.out).mono ?_; rintro e w2 ⟨⟨v2, rfl, hl2⟩, hs2⟩; obtain ⟨Ad, cd, rfl, _⟩ := hl2.ex; have H2 := hide hs2; simp only [Option.isSome_none, Option.getD_none]; unfold spC; clear hs2 hl2)
      go_ret
      obtain ⟨g3, h3, _⟩ := HM1.out.sg.step H2.out
      rw [HRes.out]
      exact ⟨rfl, (h3.below (below_laid _ _)).1.stp⟩
    | some x2 =>
      have hO3 := (hO2.nx (Rw.term_nx s2 a y z2).1)
      obtain ⟨n3, z3⟩ := Rw.term_nx s2 a y z2
      rcases hr3 : s2.term a y with ⟨r3, s3⟩
      rw [hr3] at n3 z3 hO3
      dsimp only at n3 z3 hO3
      cases r3 with
      | none => exact (Rw.equal_not hz hr1 hr2 hr3).elim
      | some x3 =>
        have hta2 : a.tail < s2.own.length := by rw [n2.own, n1.own]; exact hta
        have HT3 : Hid (∀ w2 g2, EqM w B P g a b (.slice Aa a.fields.length ca) (.slice Ab b.fields.length cb) w2 g2 s2 → Calls Tryz.prog 71 #[.pointer (some ⟨P, 0, none⟩), .agg #[.slice Aa a.fields.length ca, .int .i64 a.tail], .int .u64 (y.toNat : Nat)] w2 fun e w' => RetT w2 B P g2 (some x3, s3) e w') := hide fun w2 g2 h => term_call hr3 h.sg hO2 h.fa hta2 z2 (by omega)
        rw [Rw.equal_3 hr1 hr2 hr3] at hres
        have e2 := Rw.term_some hr2
        have e3 := Rw.term_some hr3
        have ha3 := hO2.at_ hta2
        have hb3 := hO1.at_ htb1
        have hf3 := Rw.spreads_fin (fs := a.fields) (a := s2.at_ a.tail) hO3.wf (by rw [n3.len]; exact ha3.2) ha3.1 hO3.tail
        have hl3 := Rw.spreads_len (fs := a.fields) (a := s2.at_ a.tail) hO3.wf (by rw [n3.len]; exact ha3.2)
        have hf2 := Rw.spreads_fin (fs := b.fields) (a := s1.at_ b.tail) hO2.wf (by rw [n2.len]; exact hb3.2) hb3.1 hO2.tail
        have hl2 := Rw.spreads_len (fs := b.fields) (a := s1.at_ b.tail) hO2.wf (by rw [n2.len]; exact hb3.2)
        rw [← e3] at hf3 hl3
        rw [← e2] at hf2 hl2
        rw [← n3.len] at hf2
        have ht3 := z3.tot
        have ht2 := z2.tot
        have hbo1 := bits_or y x3.why
        have hbo2 := bits_or (y ||| x3.why) x2.why
        generalize y ||| x3.why = zz1 at hbo1 hbo2 hres
        generalize zz1 ||| x2.why = zz2 at hbo2 hres
        have HMe : Hid (∀ w3 g3 v3 v2, Sg w B P g w3 g3 s3 → SlAt w3 B 59 10 v3 x3.fields.length (fdsV x3.fields) → SlAt w3 B 59 10 v2 x2.fields.length (fdsV x2.fields) → Calls Tryz.prog 72 #[.pointer (some ⟨P, 0, none⟩), .agg #[v3, .int .i64 x3.fin, .int .u64 (x3.why.toNat : Nat)], .agg #[v2, .int .i64 x2.fin, .int .u64 (x2.why.toNat : Nat)], .int .u64 (zz2.toNat : Nat)] w3 fun e w' => RetS (.bool res.1) w3 B P g3 res.2 e w') := hide fun w3 g3 v3 v2 h h3 h2 => by
          rw [hres]
          exact meet_any P B _ g3 s3 x3 x2 v3 v2 zz2 w3 h.tb hO3.wf h.ge h3 h2 hf3.2 hf2.2 hf3.1 hf2.1 z3 (by omega)
        clear hres hr1 hr2 hr3 n1 z1 hO1 hz hO n2 z2 hO2 n3 z3 hO3 htb1 hta2 e2 e3 ha3 hb3 hf3 hl3 hf2 hl2 ht3 ht2
        go_enter Tryz.func50, Tryz.ntmps50
        go_upto_region 2 with (go_at_call 71; refine (HT1.out).mono ?_; rintro e w1 ⟨⟨v1, rfl, hl1⟩, hs1⟩; obtain ⟨Ac, cc, rfl, _⟩ := hl1.ex; obtain ⟨g1, hM1, _⟩ := HM.out.step hs1; have H1 := hide hM1; simp only [Option.isSome_some, Option.getD_some]; unfold spC; clear hs1 hM1 hl1)
        have hM1 := H1.out.below (below_laid w1 (.cells #[.slice Ac x1.fields.length cc, .int .i64 x1.fin, .int .u64 (x1.why.toNat : Nat)] 99))
        obtain ⟨m0, m1, m2, m3⟩ := hM1.cells
        have HM1 := hide hM1
        clear hM1 k0 k1 k2 k3
        go_upto_region 5 with (go_at_call 71; refine (HT2.out _ _ HM1.out).mono ?_; rintro e w2 ⟨⟨v2, rfl, hl2⟩, hs2⟩; obtain ⟨Ad, cd, rfl, _⟩ := hl2.ex; obtain ⟨g2, hM2, _⟩ := HM1.out.step hs2; have H2 := hide (And.intro hM2 hl2); simp only [Option.isSome_some, Option.getD_some]; unfold spC; clear hs2 hM2 hl2)
        have hb2 := below_laid w2 (.cells #[.slice Ad x2.fields.length cd, .int .i64 x2.fin, .int .u64 (x2.why.toNat : Nat)] 99)
        have hM2 := H2.out.1.below hb2
        have e2 := heap_alloc_new w2 (.cells #[.slice Ad x2.fields.length cd, .int .i64 x2.fin, .int .u64 (x2.why.toNat : Nat)] 99)
        obtain ⟨l0, l1, l2, l3⟩ := hM2.cells
        have HM2 := hide (And.intro hM2 (And.intro (H2.out.2.below hb2) e2))
        clear hM2 m0 m1 m2 m3 hb2 e2
        go_upto_region 8 with (go_at_call 71; refine (HT3.out _ _ HM2.out.1).mono ?_; rintro e w3 ⟨⟨v3, rfl, hl3⟩, hs3⟩; obtain ⟨Ae, ce, rfl, _⟩ := hl3.ex; obtain ⟨g3, hM3, hK3, hT3⟩ := HM2.out.1.step hs3; have H3 := hide (And.intro hM3 (And.intro hl3 (And.intro (hK3.fields HM2.out.2.1) (hT3.block _ _ _ HM2.out.2.2 (by unfold Apart5; decide))))); simp only [Option.isSome_some, Option.getD_some]; unfold spC; clear hs3 hM3 hl3 hK3 hT3)
        have hb3 := below_laid w3 (.cells #[.slice Ae x3.fields.length ce, .int .i64 x3.fin, .int .u64 (x3.why.toNat : Nat)] 99)
        have hM3 := H3.out.1.below hb3
        have e2 := (hb3.block _ (blk_lt H3.out.2.2.2)).trans H3.out.2.2.2
        have e3 := heap_alloc_new w3 (.cells #[.slice Ae x3.fields.length ce, .int .i64 x3.fin, .int .u64 (x3.why.toNat : Nat)] 99)
        obtain ⟨y0, y1, y2⟩ := spC_cells e2
        obtain ⟨x0, x1', x2'⟩ := spC_cells e3
        have HM3 := hide (And.intro hM3 (And.intro (H3.out.2.1.below hb3) (H3.out.2.2.1.below hb3)))
        clear hM3 e2 e3 hb3 l0 l1 l2 l3
        go_wp2_with (go_at_call 72; refine (HMe.out _ _ _ _ HM3.out.1.sg HM3.out.2.1 HM3.out.2.2).mono ?_; rintro e w4 ⟨rfl, hs4⟩; have H4 := hide hs4; clear hs4)
        go_ret
        obtain ⟨g4, h4, _⟩ := HM3.out.1.sg.step H4.out
        exact ⟨rfl, h4.stp⟩
end Go.Proofs.YthnbhcfpfbimgaaGreat
/- The walks of there, Equate (where it is taken, or refused), and Lacks. -/
namespace Go.Proofs.YthnbhcfpfbimgaaGreat
open Go.RowKit
open Rw (El At Fld Lk Eqn U T W64 Sp Wf tot Sz Nx Ow)
theorem there_any (P B : Nat) (g : Bl) (s : T) (t : Int) (w : World) (h : Tb w B P g s) : Calls Tryz.prog 49 #[.pointer (some ⟨P, 0, none⟩), .int .i64 t] w fun e w' => e = .returned (.bool (decide (t < (s.own.length : Int)))) ∧ w = w' := by
  obtain ⟨vu, vt, vr, vo, ve, vs, fs, hx⟩ := h
  obtain ⟨Ao, co, rfl, hco, hcom⟩ := RowZ.form hx.own
  have c3 := hx.cells.2.2.2.1
  clear hx
  go_enter Tryz.func49, Tryz.ntmps49
  go_wp2_with fail
  go_ret
  exact ⟨rfl, rfl⟩
theorem equate_out (P B : Nat) (g : Bl) (s : T) (va vb : Value) (ta tb : Int) (y : W64) (w : World) (h : Tb w B P g s) (hn : s.stuck = true ∨ ¬ ta < s.own.length ∨ ¬ tb < s.own.length) :
    Calls Tryz.prog 27 #[.pointer (some ⟨P, 0, none⟩), .agg #[va, .int .i64 ta], .agg #[vb, .int .i64 tb], whyV y] w fun e w' => e = .returned (.bool false) ∧ Below w.heap.size w w' := by
  obtain ⟨hb, e0, e1, _⟩ := boxes2' w (.cells #[va, .int .i64 ta] 69) (.cells #[vb, .int .i64 tb] 69)
  obtain ⟨vu, vt, vr, vo, ve, vs, fs, hx⟩ := h
  have hx2 := hx.below hb
  have hth := fun t => there_any P B g s t _ ⟨_, _, _, _, _, _, _, hx2⟩
  have c5 : ((w.alloc (.cells #[va, .int .i64 ta] 69)).alloc (.cells #[vb, .int .i64 tb] 69)).cell? ⟨P, 5, none⟩ = some (.bool s.stuck) := hx2.cells.2.2.2.2.2.1
  have a1 : ((w.alloc (.cells #[va, .int .i64 ta] 69)).alloc (.cells #[vb, .int .i64 tb] 69)).cell? ⟨w.heap.size, 1, none⟩ = some (.int .i64 ta) := by rw [cell_block e0]; rfl
  have b1 : ((w.alloc (.cells #[va, .int .i64 ta] 69)).alloc (.cells #[vb, .int .i64 tb] 69)).cell? ⟨w.heap.size + 1, 1, none⟩ = some (.int .i64 tb) := by rw [cell_block e1]; rfl
  have HB := hide (And.intro hb hth)
  clear hb hx hx2 hth e0 e1
  unfold whyV
  go_enter Tryz.func27, Tryz.ntmps27
  cases hst : s.stuck with
  | true =>
    rw [hst] at c5
    go_wp2_with fail
    go_ret
    exact ⟨rfl, HB.out.1⟩
  | false =>
    rw [hst] at c5 hn
    by_cases h1 : ta < s.own.length
    · have h2 : ¬ tb < s.own.length := by simpa [h1] using hn
      have d1 : decide (ta < (s.own.length : Int)) = true := by simpa using h1
      have d2 : decide (tb < (s.own.length : Int)) = false := by simpa using h2
      have HD := hide (And.intro d1 d2)
      clear hn h1 h2 d1 d2
      go_wp2_with (go_at_call 49; (first | with_reducible refine (HB.out.2 ta).mono ?_ | with_reducible refine (HB.out.2 tb).mono ?_); rintro e w1 ⟨rfl, rfl⟩; (first | rw [HD.out.1] | rw [HD.out.2]))
      go_ret
      exact ⟨rfl, HB.out.1⟩
    · have d1 : decide (ta < (s.own.length : Int)) = false := by simpa using h1
      have HD := hide d1
      clear hn h1 d1
      go_wp2_with (go_at_call 49; with_reducible refine (HB.out.2 ta).mono ?_; rintro e w1 ⟨rfl, rfl⟩; rw [HD.out])
      go_ret
      exact ⟨rfl, HB.out.1⟩
theorem tick_ow {s : T} {n : Nat} (h : Ow s) (hz : Sz s n) : Ow s.tick ∧ Sz s.tick (n + 1) ∧ s.tick.own = s.own :=
  ⟨⟨h.wf, h.tail, h.own⟩, ⟨Nat.le_trans hz.tot (by omega), fun k r hr => Nat.le_trans (hz.lacks k r hr) (by omega), Nat.le_trans hz.undo (by omega), Nat.le_trans hz.rows (by omega), Nat.le_trans hz.own (by omega), Nat.le_trans hz.eqs (by omega), by have := hz.times; simp [Rw.T.tick]; omega⟩, rfl⟩
set_option maxRecDepth 100000 in
set_option maxHeartbeats 1000000 in
theorem equate_ok (P B n : Nat) (g : Bl) (s s2 : T) (a b : Rw.Term) (va vb : Value) (y : W64) (w : World) (h : Tb w B P g s) (hO : Ow s) (hB : B ≤ w.heap.size) (hva : SlAt w B 59 10 va a.fields.length (fdsV a.fields)) (hvb : SlAt w B 59 10 vb b.fields.length (fdsV b.fields))
    (hta : a.tail < s.own.length) (htb : b.tail < s.own.length) (hst : s.stuck = false) (hz : Sz s n) (hn : 40 * (n + 1 + a.fields.length + b.fields.length) + 1000 ≤ 400000000) (he : s.tick.equal a b y = (true, s2)) :
    Calls Tryz.prog 27 #[.pointer (some ⟨P, 0, none⟩), .agg #[va, .int .i64 a.tail], .agg #[vb, .int .i64 b.tail], whyV y] w fun e w' => RetS (.bool true) w B P g s2 e w' := by
  obtain ⟨hb2, e0, e1, hs2⟩ := boxes2' w (.cells #[va, .int .i64 a.tail] 69) (.cells #[vb, .int .i64 b.tail] 69)
  have hM : EqM w B P g a b va vb ((w.alloc (.cells #[va, .int .i64 a.tail] 69)).alloc (.cells #[vb, .int .i64 b.tail] 69)) g s :=
    ⟨((Sg.refl h hB).below hb2).1, e0, e1, hva.below hb2, hvb.below hb2⟩
  obtain ⟨Aa, ca, rfl, _⟩ := hva.ex
  obtain ⟨Ab, cb, rfl, _⟩ := hvb.ex
  have hth := fun t => there_any P B g s t _ hM.sg.tb
  have htk := tick_any P B g s _ hM.sg.tb hM.sg.ge (by have := hz.times; omega)
  obtain ⟨k0, k1, k2, k3⟩ := hM.cells
  obtain ⟨vu, vt, vr, vo, ve, vs, fs, hx⟩ := hM.sg.tb
  have c5 := hx.cells.2.2.2.2.2.1
  rw [hst] at c5
  have d1 : decide (a.tail < (s.own.length : Int)) = true := by simpa using hta
  have d2 : decide (b.tail < (s.own.length : Int)) = true := by simpa using htb
  obtain ⟨tO, tZ, tow⟩ := tick_ow hO hz
  have HE : Hid (∀ w1 g1, EqM w B P g a b (.slice Aa a.fields.length ca) (.slice Ab b.fields.length cb) w1 g1 s.tick → Calls Tryz.prog 50 #[.pointer (some ⟨P, 0, none⟩), .agg #[.slice Aa a.fields.length ca, .int .i64 a.tail], .agg #[.slice Ab b.fields.length cb, .int .i64 b.tail], .int .u64 (y.toNat : Nat)] w1 fun e w' => RetS (.bool true) w1 B P g1 s2 e w') := hide fun w1 g1 h => by
    have := equal_any P B (n + 1) g1 s.tick a b _ _ y w1 h.sg.tb tO h.sg.ge h.fa h.fb (by rw [tow]; exact hta) (by rw [tow]; exact htb) tZ (by omega)
    rw [he] at this
    exact this
  have HM := hide (And.intro hM (And.intro hth (And.intro htk (And.intro d1 d2))))
  clear hM hth htk d1 d2 hx hb2 e0 e1 hs2 hva hvb h hta htb hst
  unfold whyV at *
  go_enter Tryz.func27, Tryz.ntmps27
  go_upto_region 4 with (first | (go_at_call 49; (first | with_reducible refine (HM.out.2.1 a.tail).mono ?_ | with_reducible refine (HM.out.2.1 b.tail).mono ?_); rintro e w1 ⟨rfl, rfl⟩; (first | rw [HM.out.2.2.2.1] | rw [HM.out.2.2.2.2])) | (go_at_call 45; refine (HM.out.2.2.1).mono ?_; rintro e w2 ⟨rfl, hs2⟩; have H2 := hide hs2; clear hs2))
  obtain ⟨g2, hM2, _⟩ := HM.out.1.step H2.out
  obtain ⟨m0, m1, m2, m3⟩ := hM2.cells
  obtain ⟨vu, vt, vr, vo, ve, vs, fs, hx⟩ := hM2.sg.tb
  obtain ⟨Au, cu, rfl, _⟩ := RowZ.form hx.undo
  have q0 := hx.cells.1
  have HM2 := hide hM2
  clear hM2 hx k0 k1 k2 k3 c5
  go_wp2_with (go_at_call 50; refine (HE.out _ _ HM2.out).mono ?_; rintro e w3 ⟨rfl, hs3⟩; have H3 := hide hs3; clear hs3)
  go_ret
  obtain ⟨g3, h3, _⟩ := HM2.out.sg.step H3.out
  exact ⟨rfl, h3.stp⟩
theorem Lacks_out (P B : Nat) (g : Bl) (s : T) (v : Int) (f : ByteArray) (y : W64) (w : World) (h : Tb w B P g s) (hn : s.stuck = true ∨ v < 0 ∨ ¬ v < s.own.length) :
    Calls Tryz.prog 53 #[.pointer (some ⟨P, 0, none⟩), .int .i64 v, .string f, whyV y] w fun e w' => e = .returned (.bool false) ∧ w = w' := by
  have hth := there_any P B g s v w h
  obtain ⟨vu, vt, vr, vo, ve, vs, fs, hx⟩ := h
  have c5 := hx.cells.2.2.2.2.2.1
  have HT := hide hth
  clear hx hth
  unfold whyV
  go_enter Tryz.func53, Tryz.ntmps53
  cases hst : s.stuck with
  | true =>
    rw [hst] at c5
    go_wp2_with fail
    go_ret
    exact ⟨rfl, rfl⟩
  | false =>
    rw [hst] at c5 hn
    by_cases h0 : v < 0
    · clear hn
      go_wp2_with fail
      go_ret
      exact ⟨rfl, rfl⟩
    · have h1 : ¬ v < s.own.length := by simpa [h0] using hn
      have d1 : decide (v < (s.own.length : Int)) = false := by simpa using h1
      have HD := hide d1
      clear hn h1 d1
      go_wp2_with (go_at_call 49; refine (HT.out).mono ?_; rintro e w1 ⟨rfl, rfl⟩; rw [HD.out])
      go_ret
      exact ⟨rfl, rfl⟩
set_option maxRecDepth 100000 in
set_option maxHeartbeats 1000000 in
theorem Lacks_in (P B n : Nat) (g : Bl) (s : T) (v : Nat) (f : ByteArray) (y : W64) (w : World) (h : Tb w B P g s) (hO : Ow s) (hB : B ≤ w.heap.size) (hv : v < s.own.length) (hst : s.stuck = false) (hz : Sz s n) (hn : n + 1 ≤ 400000000) :
    Calls Tryz.prog 53 #[.pointer (some ⟨P, 0, none⟩), .int .i64 (v : Nat), .string f, whyV y] w fun e w' => RetS (.bool (s.lacksOf (v : Nat) f y).1) w B P g (s.lacksOf (v : Nat) f y).2 e w' := by
  have hth := there_any P B g s (v : Nat) w h
  have hS := Sg.refl h hB
  have htk := tick_any P B g s w h hB (by have := hz.times; omega)
  obtain ⟨tO, tZ, tow⟩ := tick_ow hO hz
  obtain ⟨o, ho⟩ : ∃ o, s.own[v]? = some o := ⟨s.own[v], List.getElem?_eq_getElem hv⟩
  have hor : o < s.rows.length := hO.own o (List.mem_iff_getElem?.2 ⟨_, ho⟩)
  have hres : s.lacksOf (v : Nat) f y = s.tick.lacks (o : Nat) f y := by
    unfold Rw.T.lacksOf Rw.T.there
    rw [hst, Int.toNat_natCast, List.getD_eq_getElem?_getD, ho]
    simp [hv]
    omega
  rw [hres]
  obtain ⟨vu, vt, vr, vo, ve, vs, fs, hx⟩ := h
  have c5 := hx.cells.2.2.2.2.2.1
  rw [hst] at c5
  have d1 : decide (((v : Nat) : Int) < (s.own.length : Int)) = true := by simpa using hv
  have HT := hide (And.intro hth (And.intro htk (And.intro d1 (And.intro hS ho))))
  have HL : Hid (∀ w1 g1, Sg w B P g w1 g1 s.tick → Calls Tryz.prog 74 #[.pointer (some ⟨P, 0, none⟩), .int .i64 (o : Nat), .string f, .int .u64 (y.toNat : Nat)] w1 fun e w' => RetS (.bool (s.tick.lacks (o : Nat) f y).1) w1 B P g1 (s.tick.lacks (o : Nat) f y).2 e w') := hide fun w1 g1 h =>
    lacks_any P B g1 s.tick (o : Nat) f y w1 h.tb tO.wf h.ge (by show ((o : Nat) : Int) < (s.rows.length : Nat); omega) (by have := tZ.tot; omega) (by have := tZ.undo; omega) (fun k r hr => by have := tZ.lacks k r hr; omega)
  have hv0 : ((v : Nat) : Int) < (s.own.length : Int) := by omega
  have hv1 : (0 : Int) ≤ (v : Nat) := by omega
  clear hth htk d1 hx hS hst tO tZ tow hres
  generalize s.tick.lacks (o : Nat) f y = res at *
  unfold whyV at *
  go_enter Tryz.func53, Tryz.ntmps53
  go_upto_region 4 with (first | (go_at_call 49; refine (HT.out.1).mono ?_; rintro e w1 ⟨rfl, rfl⟩; rw [HT.out.2.2.1]) | (go_at_call 45; refine (HT.out.2.1).mono ?_; rintro e w2 ⟨rfl, hs2⟩; have H2 := hide hs2; clear hs2))
  obtain ⟨g2, hS2, _⟩ := HT.out.2.2.2.1.step H2.out
  obtain ⟨vu, vt, vr, vo, ve, vs, fs, hx⟩ := hS2.tb
  obtain ⟨bo, co, rfl, hcell⟩ := hx.ownCell HT.out.2.2.2.2
  have c3 : w2.cell? ⟨P, 3, none⟩ = some (.slice (some ⟨bo, 0, none⟩) s.own.length co) := hx.cells.2.2.2.1
  have HS2 := hide hS2
  clear hS2 hx c5
  go_wp2_with (go_at_call 74; refine (HL.out _ _ HS2.out).mono ?_; rintro e w3 ⟨rfl, hs3⟩; have H3 := hide hs3; clear hs3)
  go_ret
  obtain ⟨g3, h3, _⟩ := HS2.out.step H3.out
  exact ⟨rfl, h3.stp⟩
end Go.Proofs.YthnbhcfpfbimgaaGreat
/- The walks of New, Len, Stuck, Mark, Undo (nil), Eqs. -/
namespace Go.Proofs.YthnbhcfpfbimgaaGreat
open Go.RowKit
open Rw (El At Fld Lk Eqn U T W64 Sp Wf tot Sz Nx Ow)
def zeroTb : Array Value := #[.slice none 0 0, .slice none 0 0, .slice none 0 0, .slice none 0 0, .slice none 0 0, .bool false, .int .u64 0]
def bl0 : Bl := ⟨none, none, none, none, none⟩
/-- A new table in its block. -/
theorem tb_new {w : World} {B P : Nat} (h : w.heap[P]? = some (.cells zeroTb 95 (0, 0))) (hB : B ≤ P) : Tb w B P bl0 Rw.T.new :=
  ⟨.slice none 0 0, .slice none 0 0, .slice none 0 0, .slice none 0 0, .slice none 0 0, [], [], h, ⟨rfl, rfl, rfl, rfl, rfl⟩, RowZ.nil, RowZ.nil, RowZ.nil, RowZ.nil, RowZ.nil, rfl, fun k r v hr => by simp [Rw.T.new] at hr, fun k f u hf => by simp at hf,
    ⟨hB, fun b hb => by simp [bl0] at hb, fun b hb => by simp [bl0] at hb, fun b hb => by simp [bl0] at hb, fun b hb => by simp [bl0] at hb, fun b hb => by simp [bl0] at hb⟩, fun b hb => by simp [bl0] at hb⟩
theorem new_any (w : World) : Calls Tryz.prog 25 #[] w fun e w' => e = .returned (.pointer (some ⟨w.heap.size, 0, none⟩)) ∧ w' = w.alloc (.cells zeroTb 95) := by
  unfold zeroTb
  go_enter Tryz.func25, Tryz.ntmps25
  go_wp2_with fail
  go_ret
  exact ⟨rfl, rfl⟩
theorem stuck_tb (P B : Nat) (g : Bl) (s : T) (w : World) (h : Tb w B P g s) : Calls Tryz.prog 11 #[.pointer (some ⟨P, 0, none⟩)] w fun e w' => e = .returned (.tuple #[whyV s.why, .bool s.stuck]) ∧ Below w.heap.size w w' := by
  obtain ⟨vu, vt, vr, vo, ve, vs, fs, hx⟩ := h
  obtain ⟨c0, c1, c2, c3, c4, c5, c6⟩ := hx.cells
  clear hx c0 c1 c2 c3 c4
  unfold whyV at *
  go_enter Tryz.func11, Tryz.ntmps11
  go_wp2_with fail
  go_quiet (fail)
  go_wp2_with fail
  go_ret2
  exact ⟨rfl, below_drewN (Below.refl _ _) nq⟩
structure RetQ (w : World) (l : List Eqn) (e : Ending) (w' : World) : Prop where
  ex : ∃ v, e = .returned v ∧ RowZ w' 52 19 v l.length (eqnsV l) ∧ Below w.heap.size w w'
theorem eqnsV_one (l : List Eqn) : ∀ u ∈ eqnsV l, u.oneCell' = true := fun u hu => by
  simp only [eqnsV, List.mem_flatMap] at hu
  obtain ⟨f, _, hf⟩ := hu
  simp only [eqnV, atV, elV, whyV, List.mem_append, List.mem_cons, List.not_mem_nil, or_false] at hf
  rcases hf with (hf | hf) | rfl
  · rcases hf with rfl | rfl | rfl | rfl | rfl | rfl | rfl | rfl | rfl <;> rfl
  · rcases hf with rfl | rfl | rfl | rfl | rfl | rfl | rfl | rfl | rfl <;> rfl
  · rfl
set_option maxRecDepth 100000 in
set_option maxHeartbeats 1000000 in
theorem eqs_any (P B : Nat) (g : Bl) (s : T) (w : World) (h : Tb w B P g s) (hn : s.eqs.length ≤ 1000000000) : Calls Tryz.prog 13 #[.pointer (some ⟨P, 0, none⟩)] w fun e w' => RetQ w s.eqs e w' := by
  obtain ⟨i1, hj, hy0, hy1, hy2⟩ := info_parts info_eq
  obtain ⟨vu, vt, vr, vo, ve, vs, fs, hx⟩ := h
  obtain ⟨Ae, ce, rfl, hce, hcem⟩ := RowZ.form hx.eqs
  have hb := below_laid w (.cells #[] 52)
  have hx2 := hx.below hb
  have c4 : (w.alloc (.cells #[] 52)).cell? ⟨P, 4, none⟩ = some (.slice Ae s.eqs.length ce) := hx2.cells.2.2.2.2.1
  have hrow0 : RowZ (w.alloc (.cells #[] 52)) 52 19 (.slice (some ⟨w.heap.size, 0, none⟩) 0 0) 0 [] := RowZ.laid w 52 19 0 [] rfl (Nat.zero_le _)
  have HX := hide (And.intro hrow0 (And.intro hx2 hb))
  clear hx hx2 hb hrow0
  go_enter Tryz.func13, Tryz.ntmps13
  go_wp2_with (at_builtin; go_must (refine app_rowz rfl (.tmp 5) (.tmp 9) 45 45 rfl 52 i1 _ 19 152 Tryz.underlying45 hj hy0 hy1 hy2 rfl (.slice (some ⟨w.heap.size, 0, none⟩) 0 0) 0 [] rfl HX.out.1 (.slice Ae s.eqs.length ce) s.eqs.length (eqnsV s.eqs) rfl (SlAt.src (B := 0) Tryz.underlying45 (SlAt.of_row HX.out.2.1.eqs) (eqnsV_one s.eqs)) (by unfold maxLen; omega) (by omega) ?_); intro A' c' w' hr hg hob; go_must (simp only [Nat.zero_add, List.nil_append] at hr hob ⊢); have HG := hide (And.intro hr (And.intro hg hob)); clear hr hg hob)
  go_ret
  exact ⟨_, rfl, HG.out.1, HX.out.2.2.grown HG.out.2.1 (by simp) (fun k hk => by simp [Value.ownBlock] at hk; omega)⟩
end Go.Proofs.YthnbhcfpfbimgaaGreat
