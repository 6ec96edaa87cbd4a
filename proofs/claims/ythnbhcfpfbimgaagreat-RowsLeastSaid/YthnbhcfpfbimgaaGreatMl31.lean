/- Texts put together: RwEnt2 RwFeed. -/
import Derived.Test.YthnbhcfpfbimgaaGreatMl30
/- Plain: an equation that is taken holds in each solution of the table; the known fields are a solution of a table that is not stuck. -/
namespace Go.Proofs.YthnbhcfpfbimgaaGreat
namespace Rw
theorem path_sem {E : Type} {η : At → E} {val : Nat → Val E} {s : T} (hm : Mod η Tr s val) {t e : Int} {x : List Fld} (p : Path s.rows t x e) : tv val t = sem η x (tv val e) := by
  induction p with
  | none => rfl
  | free => rfl
  | @step t e r ext h hr hb _ ih =>
    have hf := (hm.row _ r hr hb trivial).eq
    rw [sem_app, ← ih]
    unfold tv
    rw [if_neg (by omega)]
    exact hf
theorem NoF.sem {E : Type} {η : At → E} {val : Nat → Val E} {s : T} (hm : Mod η Tr s val) {t : Int} {f : ByteArray} (h : NoF s.rows t f) : tv val t f = none := by
  obtain ⟨ext, e, h1, h2, h3⟩ := h.ex
  rw [path_sem hm h1, sem_not η h2]
  by_cases he : e < 0
  · rw [tv_neg he]
  · obtain ⟨r, hr, l, hl, hf⟩ := h3 (by omega)
    unfold tv
    rw [if_neg he, ← hf]
    exact hm.lack _ r hr l hl trivial
theorem nof_neg {rows : List Row} {t : Int} (h : t < 0) (f : ByteArray) : NoF rows t f := ⟨[], t, .none h, fun ⟨g, hg, _⟩ => by simp at hg, fun h0 => by omega⟩
/-- A term that has a meaning. -/
structure TermOk (s s' : T) (a : Int) (fs : List Fld) : Prop where
  le : Le s s'
  mo : Mo s.rows s'.rows
  nof : ∀ g ∈ fs, NoF s'.rows a g.name
  dup : NoDup fs
theorem termFields_ok {s : T} (hw : Wf s.rows) {a : Int} (ha : a < s.rows.length) {y : W64} {fs : List Fld} {n : Nat} (hz : Sz s n) : ∀ k, k ≤ fs.length → (s.termFields a y fs k).1 = true → TermOk s (s.termFields a y fs k).2 a (fs.take k)
  | 0, _, _ => ⟨Le.refl s, Mo.refl _, fun g hg => by simp at hg, by simp [NoDup]⟩
  | k + 1, hk, h => by
    have ih := termFields_ok hw ha (y := y) (fs := fs) hz k (by omega)
    have hx := termFields_nx s a y fs hz k
    rcases hr : s.termFields a y fs k with ⟨b, sk⟩
    rw [hr] at ih hx
    cases b with
    | false => rw [termFields_false hr 1] at h; cases h
    | true =>
      have hik := ih rfl
      obtain ⟨f, hf⟩ : ∃ f, fs[k]? = some f := ⟨fs[k], List.getElem?_eq_getElem (by omega)⟩
      have htk : fs.take (k + 1) = fs.take k ++ [f] := by
        rw [List.take_succ_eq_append_getElem (show k < fs.length by omega)]
        congr 1
        have := (List.getElem?_eq_some_iff.1 hf).2
        rw [this]
      rw [termFields_succ hr hf] at h ⊢
      rw [htk]
      split at h
      · cases h
      · rename_i hh
        rw [if_neg hh]
        have hnh : ¬ Has (fs.take k) f.name := hasF_false.1 (by simpa using hh)
        have hdup : NoDup (fs.take k ++ [f]) := List.pairwise_append.2 ⟨hik.dup, by simp, fun a' ha' b' hb' e => by
          obtain rfl := List.mem_singleton.1 hb'
          exact hnh ⟨a', ha', e⟩⟩
        split at h
        · rename_i hn
          rw [if_pos hn]
          exact ⟨hik.le, hik.mo, fun g _ => nof_neg hn _, hdup⟩
        · rename_i hn
          rw [if_neg hn]
          have ha' : a < (sk.rows.length : Int) := by rw [hx.1.len]; exact ha
          obtain ⟨m1, m2⟩ := lacks_mo (hx.1.wf hw) ha' f.name y h
          refine ⟨hik.le.trans (lacks_le (hx.1.wf hw) ha' h), hik.mo.trans m1, fun g hg => ?_, hdup⟩
          rcases List.mem_append.1 hg with hg | hg
          · exact m1.nof (hik.nof g hg)
          · obtain rfl := List.mem_singleton.1 hg
            exact m2
theorem term_ok {s : T} (hO : Ow s) {x : Term} (hx : x.tail < s.own.length) {y : W64} {n : Nat} (hz : Sz s n) (h : (s.term x y).1.isSome = true) : TermOk s (s.term x y).2 (s.at_ x.tail) x.fields := by
  rw [term_isSome] at h
  rw [term_snd]
  have := termFields_ok hO.wf (hO.at_ hx).2 (y := y) hz x.fields.length (Nat.le_refl _) h
  rw [List.take_length] at this
  exact this
/-- Two row terms mean the same. -/
structure RowEq {E : Type} (η : At → E) (val : Nat → Val E) (s : T) (a b : Term) : Prop where
  dupa : NoDup a.fields
  dupb : NoDup b.fields
  offa : Off a.fields (tv val (s.at_ a.tail))
  offb : Off b.fields (tv val (s.at_ b.tail))
  eq : sem η a.fields (tv val (s.at_ a.tail)) = sem η b.fields (tv val (s.at_ b.tail))
structure EqOk (s s' : T) (a b : Term) : Prop where
  le : Le s s'
  inv : Inv s'.rows
  ow : Ow s'
  sem : ∀ (E : Type) (η : At → E) (val : Nat → Val E), Mod η Tr s' val → RowEq η val s a b
theorem T.dup {s : T} (hO : Ow s) (hI : Inv s.rows) {t : Int} (ht : t < s.rows.length) {fs : List Fld} (hd : NoDup fs) (hn : ∀ g ∈ fs, NoF s.rows t g.name) : NoDup (s.spreads fs t).fields := by
  obtain ⟨ext, h1, h2⟩ := s.path hO.wf ht fs
  rw [h2]
  refine List.pairwise_append.2 ⟨hd, path_dup hI h1, fun a ha b hb e => ?_⟩
  obtain ⟨ext', e', k1, k2, _⟩ := (hn a ha).ex
  obtain ⟨rfl, _⟩ := h1.unique k1
  exact k2 ⟨b, hb, e.symm⟩
theorem T.spr {s : T} (hO : Ow s) {t : Int} (ht : t < s.rows.length) (fs : List Fld) {E : Type} {η : At → E} {val : Nat → Val E} (hm : Mod η Tr s val) : sem η (s.spreads fs t).fields (tv val (s.spreads fs t).fin) = sem η fs (tv val t) := by
  obtain ⟨ext, h1, h2⟩ := s.path hO.wf ht fs
  rw [h2, sem_app, ← path_sem hm h1]
theorem equal_ok {s : T} (hO : Ow s) (hI : Inv s.rows) {a b : Term} (ha : a.tail < s.own.length) (hb : b.tail < s.own.length) {y : W64} {n : Nat} (hz : Sz s n) (h : (s.equal a b y).1 = true) : EqOk s (s.equal a b y).2 a b := by
  rcases (equal_eq3 s a b y hz).ex with ⟨s1, h1, hr⟩ | ⟨x1, s1, s2, h1, h2, hr⟩ | ⟨x1, s1, x2, s2, x3, s3, h1, h2, h3, hr, e2, e3, n1, n2, n3, z1, z2, z3⟩
  · rw [hr] at h; cases h
  · rw [hr] at h; cases h
  · obtain ⟨m1, z1⟩ := z1
    obtain ⟨m2, z2⟩ := z2
    obtain ⟨m3, z3⟩ := z3
    have hO1 := hO.nx n1
    have hO2 := hO1.nx n2
    have hO3 := hO2.nx n3
    have t1 := term_ok hO ha (y := y) hz (by rw [h1]; rfl)
    rw [h1] at t1
    have t2 := term_ok hO1 (x := b) (by rw [n1.own]; exact hb) (y := y) z1 (by rw [h2]; rfl)
    rw [h2] at t2
    have t3 := term_ok hO2 (x := a) (by rw [n2.own, n1.own]; exact ha) (y := y) z2 (by rw [h3]; rfl)
    rw [h3] at t3
    dsimp only at t1 t2 t3
    rw [n1.at_] at t2
    rw [n2.at_, n1.at_] at t3
    have hI3 := t3.mo.inv (t2.mo.inv (t1.mo.inv hI))
    have hI2 := t2.mo.inv (t1.mo.inv hI)
    obtain ⟨a1, a2⟩ := hO.at_ ha
    obtain ⟨b1, b2⟩ := hO.at_ hb
    have l1 := n1.len
    have l2 := n2.len
    have l3 := n3.len
    have e2' : x2 = s3.spreads b.fields (s.at_ b.tail) := by rw [e2, n3.spreads]
    have hdx3 : NoDup x3.fields := by rw [e3]; exact T.dup hO3 hI3 (by omega) t3.dup t3.nof
    have hdx2 : NoDup x2.fields := by rw [e2']; exact T.dup hO3 hI3 (by omega) t2.dup fun g hg => t3.mo.nof (t2.nof g hg)
    have f3 := spreads_fin (fs := a.fields) (a := s.at_ a.tail) hO3.wf (by omega) a1 hO3.tail
    have f2 := spreads_fin (fs := b.fields) (a := s.at_ b.tail) hO3.wf (by omega) b1 hO3.tail
    obtain ⟨_, p3, _⟩ := s3.path hO3.wf (t := s.at_ a.tail) (by omega) a.fields
    obtain ⟨_, p2, _⟩ := s3.path hO3.wf (t := s.at_ b.tail) (by omega) b.fields
    have r3 := p3.fin
    have r2 := p2.fin
    rw [← e3] at f3 r3
    rw [← e2'] at f2 r2
    rw [hr] at h ⊢
    rw [meet_def] at h ⊢
    generalize y ||| x3.why ||| x2.why = y' at *
    obtain ⟨q1, q2, q3⟩ := pairs_same x2.fields y' x3.fields s3
    obtain ⟨ple, pe⟩ := pairs_le x2.fields y' x3.fields s3
    have hOp : Ow (s3.pairs x2.fields y' x3.fields) := ⟨by rw [q1]; exact hO3.wf, by rw [q1]; exact hO3.tail, by rw [q1, q2]; exact hO3.own⟩
    have mk := meetTail_ok hOp (by rw [q1]; exact hI3) (pairs_sz _ _ _ z3) hdx3 hdx2 (y := y') (by rw [q1]; exact f3) (by rw [q1]; exact f2)
      (fun h0 => by rw [q1]; exact r3.elim (fun h => by omega) (fun h => h.2)) (fun h0 => by rw [q1]; exact r2.elim (fun h => by omega) (fun h => h.2)) h
    have hle3 := ple.trans mk.le
    refine ⟨((t1.le.trans t2.le).trans t3.le).trans hle3, mk.inv, mk.ow, fun E η val hm => ?_⟩
    have hm3 := hle3.mod hm
    have hm2 := t3.le.mod hm3
    refine ⟨t1.dup, t2.dup, fun g hg => (t3.nof g hg).sem hm3, fun g hg => (t2.nof g hg).sem hm2, ?_⟩
    have hs := mk.sem E η val hm fun f hf g hg => by
      obtain ⟨e, he, ea, eb⟩ := pe f hf g hg
      have := hm.eqs e (mk.le.eqs e he) trivial
      rw [ea, eb] at this
      exact this
    have s3e := T.spr hO3 (t := s.at_ a.tail) (by omega) a.fields hm3
    have s2e := T.spr hO3 (t := s.at_ b.tail) (by omega) b.fields hm3
    rw [← e3] at s3e
    rw [← e2'] at s2e
    rw [← s3e, ← s2e]
    exact hs
/-- The known fields, as values. -/
def canon {E : Type} (η : At → E) (s : T) : Nat → Val E := fun i => sem η (s.spreads [] (i : Nat)).fields fun _ => none
theorem canon_path {E : Type} (η : At → E) {s : T} (hO : Ow s) {t e : Int} {x : List Fld} (p : Path s.rows t x e) : tv (canon η s) t = sem η x fun _ => none := by
  by_cases h : t < 0
  · cases p with
    | none => rw [tv_neg h]; rfl
    | free h0 => omega
    | step h0 => omega
  · have hl : t.toNat < s.rows.length := by
      cases p with
      | none h0 => omega
      | free _ hr => exact (List.getElem?_eq_some_iff.1 hr).1
      | step _ hr => exact (List.getElem?_eq_some_iff.1 hr).1
    have ht : ((t.toNat : Nat) : Int) = t := by omega
    obtain ⟨ext, h1, h2⟩ := s.path hO.wf (t := t) (by omega) []
    obtain ⟨rfl, _⟩ := p.unique h1
    unfold tv
    rw [if_neg h]
    unfold canon
    rw [ht, h2]
    rfl
theorem NoF.canon {E : Type} (η : At → E) {s : T} (hO : Ow s) {t : Int} {f : ByteArray} (h : NoF s.rows t f) : tv (canon η s) t f = none := by
  obtain ⟨ext, e, h1, h2, _⟩ := h.ex
  rw [canon_path η hO h1, sem_not η h2]
theorem canon_mod {E : Type} (η : At → E) {s : T} (hO : Ow s) (hI : Inv s.rows) (hs : s.stuck = false) (he : ∀ e ∈ s.eqs, η e.a = η e.b) : Mod η Tr s (canon η s) := by
  have hrow : ∀ (i : Nat) r, s.rows[i]? = some r → canon η s i = tv (canon η s) (i : Nat) := fun i r _ => (tv_nat _ i).symm
  refine ⟨fun i r hr hb _ => ?_, fun i r hr l hl _ => ?_, fun e h _ => he e h, fun h => by rw [hs] at h; cases h⟩
  · have hv := hI i r hr hb
    have hi := (List.getElem?_eq_some_iff.1 hr).1
    have ht := hO.wf.tail i r hr hb
    obtain ⟨ext, h1, _⟩ := s.path hO.wf (t := r.tail) (by omega) []
    have hp : Path s.rows (i : Nat) (r.fields ++ ext) _ := .step (by omega) (by rw [Int.toNat_natCast]; exact hr) hb h1
    refine ⟨?_, fun g hg => (hv.fields g hg).canon η hO, hv.dup⟩
    rw [hrow i r hr, canon_path η hO hp, canon_path η hO h1, sem_app]
  · rw [hrow i r hr]
    cases hb : r.bound with
    | true =>
      have hv := hI i r hr hb
      have ht := hO.wf.tail i r hr hb
      obtain ⟨h1, h2⟩ := hv.lacks l hl
      obtain ⟨ext, e, k1, k2, _⟩ := h2.ex
      have hp : Path s.rows (i : Nat) (r.fields ++ ext) e := .step (by omega) (by rw [Int.toNat_natCast]; exact hr) hb k1
      rw [canon_path η hO hp, sem_not η]
      rintro ⟨g, hg, hn⟩
      rcases List.mem_append.1 hg with hg | hg
      · exact h1 ⟨g, hg, hn⟩
      · exact k2 ⟨g, hg, hn⟩
    | false =>
      have hp : Path s.rows (i : Nat) [] (i : Nat) := .free (by omega) (by rw [Int.toNat_natCast]; exact hr) hb
      rw [canon_path η hO hp]
      rfl
end Rw
end Go.Proofs.YthnbhcfpfbimgaaGreat
/- Plain: a table to which assertions are handed, one by one: it keeps each solution of them, and each of its solutions is one of them. No program in sight. -/
namespace Go.Proofs.YthnbhcfpfbimgaaGreat
namespace Rw
/-- An assertion about rows. -/
inductive Asr where
  | eq (a b : Term)
  | lk (v : Int) (f : ByteArray)
def T.hand (s : T) : Asr → W64 → T
  | .eq a b, y => (s.equate a b y).2
  | .lk v f, y => (s.lacksOf v f y).2
def T.feed (s : T) : List (Asr × W64) → T
  | [] => s
  | x :: l => (s.hand x.1 x.2).feed l
/-- Whose variables are there. -/
def Acc (n : Nat) : Asr → Prop
  | .eq a b => a.tail < n ∧ b.tail < n
  | .lk v _ => 0 ≤ v ∧ v < n
def Holds {E : Type} (η : At → E) (val : Nat → Val E) (s : T) : Asr → Prop
  | .eq a b => RowEq η val s a b
  | .lk v f => tv val (s.at_ v) f = none
structure Gd (s : T) : Prop where
  ow : Ow s
  inv : Inv s.rows
  zero : s.stuck = false → s.why = 0
  sz : ∃ n, Sz s n
theorem there_iff (s : T) (t : Int) : s.there t = true ↔ t < s.own.length := by simp [T.there]
/-- What Equate leaves. -/
structure EqLeft (s : T) (a b : Term) (y : W64) (r : Bool × T) : Prop where
  ex : (r = (false, s) ∧ (s.stuck = true ∨ ¬ Acc s.own.length (.eq a b))) ∨
    (s.stuck = false ∧ Acc s.own.length (.eq a b) ∧ r.1 = true ∧ s.tick.equal a b y = r) ∨
    (s.stuck = false ∧ Acc s.own.length (.eq a b) ∧ r.1 = false ∧ (s.tick.equal a b y).1 = false ∧ (s.tick.equal a b y).2.stuck = true ∧ r.2.rows = s.rows ∧ r.2.own = s.own ∧ r.2.eqs = s.eqs ∧ r.2.stuck = true ∧ r.2.why = (s.tick.equal a b y).2.why ∧ r.2.undo = s.undo ++ [.unstick] ∧ r.2.times = s.times ++ [s.undo.length])
theorem meet_stuck {s : T} {n : Nat} (hz : Sz s n) (hw : Wf s.rows) {fa fb : Int} (hfa : -1 ≤ fa ∧ fa < s.rows.length) (hfb : -1 ≤ fb ∧ fb < s.rows.length) {more less : List Fld} {y : W64} (h : (s.meetTail fa fb more less y).1 = false) : (s.meetTail fa fb more less y).2.stuck = true := by
  have one : ∀ {k : Nat} {fs : List Fld}, k < s.rows.length → (match s.bind k fs (-1) y with | (true, s2) => (true, s2) | (false, s2) => (false, s2.stick y)).1 = false → (match s.bind k fs (-1) y with | (true, s2) => (true, s2) | (false, s2) => (false, s2.stick y)).2.stuck = true := fun {k fs} _ h => by
    rcases hb : s.bind k fs (-1) y with ⟨b1, s2⟩
    rw [hb] at h
    cases b1
    · exact stick_stuck _ _
    · cases h
  unfold T.meetTail at *
  by_cases h1 : fa = fb
  · rw [if_pos h1] at h ⊢
    split at h
    · rename_i hm; rw [if_pos hm]; exact stick_stuck _ _
    · cases h
  rw [if_neg h1] at h ⊢
  by_cases h2 : fa < 0
  · rw [if_pos h2] at h ⊢
    split at h
    · rename_i hm; rw [if_pos hm]; exact one (by omega) h
    · rename_i hm; rw [if_neg hm]; exact stick_stuck _ _
  rw [if_neg h2] at h ⊢
  by_cases h3 : fb < 0
  · rw [if_pos h3] at h ⊢
    split at h
    · rename_i hm; rw [if_pos hm]; exact one (by omega) h
    · rename_i hm; rw [if_neg hm]; exact stick_stuck _ _
  rw [if_neg h3] at h ⊢
  obtain ⟨fw, fl, _, fz⟩ := fresh_gr hz hw
  have hka : fa.toNat < s.fresh.rows.length := by omega
  have hs := bind_stuck (fs := more) (t := (s.rows.length : Nat)) (y := y) (List.getElem?_eq_getElem hka)
  have hg := bind_gr (fs := more) (tail := (s.rows.length : Nat)) (y := y) (i := fa.toNat) fz fw hka (.inr ⟨by omega, by omega⟩)
  rcases hb1 : s.fresh.bind fa.toNat more (s.rows.length : Nat) y with ⟨b1, s2⟩
  rw [hb1] at h hs hg
  cases b1 with
  | false => exact hs rfl
  | true =>
    have hkb : fb.toNat < s2.rows.length := by have := hg.len; dsimp only at this; omega
    exact bind_stuck (List.getElem?_eq_getElem hkb) h
theorem termFields_stuck (s : T) (a : Int) (y : W64) (fs : List Fld) : ∀ k, (s.termFields a y fs k).1 = false → (s.termFields a y fs k).2.stuck = true
  | 0, h => by cases h
  | k + 1, h => by
    have ih := termFields_stuck s a y fs k
    rcases hr : s.termFields a y fs k with ⟨b, sk⟩
    rw [hr] at ih
    cases b with
    | false => rw [termFields_false hr 1]; exact ih rfl
    | true =>
      cases hf : fs[k]? with
      | none => simp only [T.termFields, hr, hf] at h; cases h
      | some f =>
        rw [termFields_succ hr hf] at h ⊢
        split at h
        · rename_i hh; rw [if_pos hh]; exact stick_stuck _ _
        · rename_i hh
          rw [if_neg hh]
          split at h
          · cases h
          · rename_i hn; rw [if_neg hn]; exact lacks_stuck h
theorem term_stuck {s : T} {x : Term} {y : W64} (h : (s.term x y).1.isSome = false) : (s.term x y).2.stuck = true := by
  rw [term_isSome] at h
  rw [term_snd]
  exact termFields_stuck _ _ _ _ _ h
theorem equal_stuck {s : T} (hO : Ow s) {a b : Term} (ha : a.tail < s.own.length) (hb : b.tail < s.own.length) {y : W64} {n : Nat} (hz : Sz s n) (h : (s.equal a b y).1 = false) : (s.equal a b y).2.stuck = true := by
  rcases (equal_eq3 s a b y hz).ex with ⟨s1, h1, hr⟩ | ⟨x1, s1, s2, h1, h2, hr⟩ | ⟨x1, s1, x2, s2, x3, s3, h1, h2, h3, hr, e2, e3, n1, n2, n3, _, _, z3⟩
  · rw [hr]
    have := term_stuck (s := s) (x := a) (y := y) (by rw [h1]; rfl)
    rw [h1] at this; exact this
  · rw [hr]
    have := term_stuck (s := s1) (x := b) (y := y) (by rw [h2]; rfl)
    rw [h2] at this; exact this
  · obtain ⟨m, z3⟩ := z3
    have hO3 := ((hO.nx n1).nx n2).nx n3
    have hO2 := (hO.nx n1).nx n2
    rw [hr, meet_def] at h ⊢
    obtain ⟨p1, p2, p3⟩ := pairs_same x2.fields (y ||| x3.why ||| x2.why) x3.fields s3
    have f3 := spreads_fin (fs := a.fields) (a := s.at_ a.tail) hO3.wf (by rw [n3.len, n2.len, n1.len]; exact (hO.at_ ha).2) (hO.at_ ha).1 hO3.tail
    have f2 := spreads_fin (fs := b.fields) (a := s.at_ b.tail) hO2.wf (by rw [n2.len, n1.len]; exact (hO.at_ hb).2) (hO.at_ hb).1 hO2.tail
    rw [← e3] at f3
    rw [← e2] at f2
    exact meet_stuck (pairs_sz _ _ _ z3) (by rw [p1]; exact hO3.wf) (by rw [p1]; exact f3) (by rw [p1, n3.len]; exact f2) h
theorem tick_gd {s : T} (h : Gd s) : Gd s.tick := by
  obtain ⟨n, hz⟩ := h.sz
  exact ⟨⟨h.ow.wf, h.ow.tail, h.ow.own⟩, h.inv, h.zero, n + 1, Nat.le_trans hz.tot (by omega), fun k r hr => Nat.le_trans (hz.lacks k r hr) (by omega), Nat.le_trans hz.undo (by omega), Nat.le_trans hz.rows (by omega), Nat.le_trans hz.own (by omega), Nat.le_trans hz.eqs (by omega), by have := hz.times; simp [T.tick]; omega⟩
theorem equate_left {s : T} (h : Gd s) (a b : Term) (y : W64) : EqLeft s a b y (s.equate a b y) := by
  unfold T.equate
  by_cases hc : (s.stuck || !s.there a.tail || !s.there b.tail) = true
  · rw [if_pos hc]
    refine ⟨.inl ⟨rfl, ?_⟩⟩
    simp only [Bool.or_eq_true, Bool.not_eq_true', ← Bool.not_eq_true, there_iff] at hc
    rcases hc with (hc | hc) | hc
    · exact .inl hc
    · exact .inr fun ha => hc ha.1
    · exact .inr fun ha => hc ha.2
  · rw [if_neg hc]
    simp only [Bool.or_eq_true, Bool.not_eq_true', not_or, ← Bool.not_eq_true, there_iff, Classical.not_not] at hc
    obtain ⟨⟨hs, ha⟩, hb⟩ := hc
    have hs' : s.stuck = false := by simpa using hs
    have hg := tick_gd h
    obtain ⟨n, hz⟩ := hg.sz
    have hu := Und.equal hg.zero hg.ow (a := a) (b := b) ha hb y hz
    have hst := equal_stuck hg.ow (a := a) (b := b) ha hb (y := y) hz
    rcases he : s.tick.equal a b y with ⟨r, s2⟩
    rw [he] at hu hst
    cases r with
    | true => exact ⟨.inr (.inl ⟨hs', ⟨ha, hb⟩, rfl, he.symm ▸ rfl⟩)⟩
    | false =>
      obtain ⟨c1, c2, c3⟩ := hu.clear
      have c2' : (s2.clear s.undo.length).undo = s.undo := c2
      have cc : (s2.clear s.undo.length).core = s.core := c1
      simp only [T.core, Core.mk.injEq] at cc
      obtain ⟨k1, k2, k3, k4, _⟩ := cc
      have e : (s2.clear s.undo.length).stick s2.why = ({ s2.clear s.undo.length with stuck := true, why := s2.why } : T).did .unstick := by
        unfold T.stick
        rw [if_neg (by rw [k4, hs']; simp)]
      refine ⟨.inr (.inr ⟨hs', ⟨ha, hb⟩, rfl, by rw [he], by rw [he]; exact hst rfl, ?_⟩)⟩
      rw [he]
      show ((s2.clear s.undo.length).stick s2.why).rows = _ ∧ ((s2.clear s.undo.length).stick s2.why).own = _ ∧ ((s2.clear s.undo.length).stick s2.why).eqs = _ ∧ ((s2.clear s.undo.length).stick s2.why).stuck = _ ∧ ((s2.clear s.undo.length).stick s2.why).why = _ ∧ ((s2.clear s.undo.length).stick s2.why).undo = _ ∧ ((s2.clear s.undo.length).stick s2.why).times = _
      rw [e]
      exact ⟨k1, k2, k3, rfl, rfl, by show (s2.clear s.undo.length).undo ++ _ = _; rw [c2'], c3⟩
structure LkLeft (s : T) (v : Int) (f : ByteArray) (y : W64) (r : Bool × T) : Prop where
  ex : (r = (false, s) ∧ (s.stuck = true ∨ ¬ Acc s.own.length (.lk v f))) ∨ (s.stuck = false ∧ Acc s.own.length (.lk v f) ∧ s.tick.lacks (s.at_ v) f y = r)
theorem lacksOf_left (s : T) (v : Int) (f : ByteArray) (y : W64) : LkLeft s v f y (s.lacksOf v f y) := by
  unfold T.lacksOf
  by_cases hc : (s.stuck || decide (v < 0) || !s.there v) = true
  · rw [if_pos hc]
    refine ⟨.inl ⟨rfl, ?_⟩⟩
    simp only [Bool.or_eq_true, Bool.not_eq_true', ← Bool.not_eq_true, there_iff, decide_eq_true_eq] at hc
    rcases hc with (hc | hc) | hc
    · exact .inl hc
    · exact .inr fun ha => by have := ha.1; omega
    · exact .inr fun ha => hc ha.2
  · rw [if_neg hc]
    simp only [Bool.or_eq_true, Bool.not_eq_true', not_or, ← Bool.not_eq_true, there_iff, Classical.not_not, decide_eq_true_eq] at hc
    obtain ⟨⟨hs, hv⟩, ht⟩ := hc
    refine ⟨.inr ⟨by simpa using hs, ⟨by omega, ht⟩, ?_⟩⟩
    unfold T.at_
    rw [if_neg hv]
theorem lacks_fail {s : T} {a : Int} {f : ByteArray} {y : W64} (h : (s.lacks a f y).1 = false) : (s.lacks a f y).2 = s.stick (y ||| (s.spreads [] a).why) := by
  unfold T.lacks at *
  simp only [] at *
  split at h
  · rename_i hh; rw [if_pos hh]
  split at h
  · cases h
  split at h <;> cases h
end Rw
end Go.Proofs.YthnbhcfpfbimgaaGreat
