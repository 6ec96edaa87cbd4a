/- Texts put together: RwSem2 RwUndo. -/
import Derived.Test.YthnbhcfpfbimgaaGreatMl23
/- Plain: what bind, meet and equal keep of a solution. No program in sight. -/
namespace Go.Proofs.YthnbhcfpfbimgaaGreat
namespace Rw
section
variable {E : Type} {η : At → E} {W : W64 → Prop}
theorem clash_some {ls : List Lk} {fs : List Fld} {l : Lk} (h : clash ls fs = some l) : l ∈ ls ∧ Has fs l.field := by
  have h1 := List.find?_some h
  rw [List.any_eq_true] at h1
  obtain ⟨f, hf, he⟩ := h1
  exact ⟨List.mem_of_find?_eq_some h, f, hf, toList_iff.1 he⟩
theorem clash_no {ls : List Lk} {fs : List Fld} (h : clash ls fs = none) {l : Lk} (hl : l ∈ ls) : ¬ Has fs l.field := by
  unfold clash at h
  rw [List.find?_eq_none] at h
  have := h l hl
  rw [List.any_eq_true] at this
  exact fun ⟨f, hf, he⟩ => this ⟨f, hf, toList_iff.2 he⟩
theorem Mod.bind (hW : Cl W) {s : T} {val : Nat → Val E} (h : Mod η W s val) (hw : Wf s.rows) {i : Nat} {x : Row} (hx : s.rows[i]? = some x) {fs : List Fld} {t : Int} {y : W64} (ht : t < 0 ∨ ((i : Int) < t ∧ t < s.rows.length)) (hf : W y → Fact η val i fs t) {n : Nat} (hz : Sz s n) :
    Mod η W (s.bind i fs t y).2 val := by
  cases hc : clash x.lacks fs with
  | some l =>
    rw [bind_hit hx hc]
    obtain ⟨hl, hh⟩ := clash_some hc
    refine h.stick fun hw' => ?_
    obtain ⟨h1, h2⟩ := (hW.or _ _).1 hw'
    have h3 := h.lack i x hx l hl h2
    obtain ⟨g, hg⟩ := findN_of hh
    rw [(hf h1).eq, sem_has η hg] at h3
    cases h3
  | none =>
    rw [bind_none hx hc]
    have hm : Mod η W (bindS s i x fs t y) val := by
      unfold bindS
      refine Mod.did ?_ _
      refine ⟨fun j r hr hb hy => ?_, fun j r hr l hl hy => ?_, h.eqs, h.stuck⟩
      · rcases set_get (show (s.rows.set i _)[j]? = some r from hr) with ⟨rfl, rfl⟩ | ⟨_, h2⟩
        · exact hf hy
        · exact h.row j r h2 hb hy
      · rcases set_get (show (s.rows.set i _)[j]? = some r from hr) with ⟨rfl, rfl⟩ | ⟨_, h2⟩
        · exact h.lack j x hx l hl hy
        · exact h.lack j r h2 l hl hy
    split
    · exact hm
    · refine hm.lackAll hW _ (bindS_wf hw ht) (fun p hp hy => ?_) ⟨_, bindS_sz hz hx⟩
      unfold bindL at hp
      rcases List.mem_append.1 hp with hp | hp
      · obtain ⟨l, hl, rfl⟩ := List.mem_map.1 hp
        obtain ⟨h1, h2⟩ := (hW.or _ _).1 hy
        have h3 := h.lack i x hx l hl h1
        rw [(hf h2).eq, sem_not η (clash_no hc hl)] at h3
        exact h3
      · obtain ⟨g, hg, rfl⟩ := List.mem_map.1 hp
        exact (hf hy).off g hg
def upd (val : Nat → Val E) (k : Nat) (v : Val E) : Nat → Val E := fun i => if i = k then v else val i
theorem tv_upd {val : Nat → Val E} {k : Nat} {v : Val E} {t : Int} (h : t < k) : tv (upd val k v) t = tv val t := by
  unfold tv upd
  split
  · rfl
  · rw [if_neg (by omega)]
theorem Mod.fresh {s : T} {val : Nat → Val E} (h : Mod η W s val) (hw : Wf s.rows) (v : Val E) : Mod η W s.fresh (upd val s.rows.length v) := by
  have key : ∀ (k : Nat) r, s.fresh.rows[k]? = some r → s.rows[k]? = some r ∨ r = row0 := fun k r hk => by
    have hr : s.fresh.rows = s.rows ++ [row0] := rfl
    rw [hr] at hk
    rcases Nat.lt_or_ge k s.rows.length with hl | hl
    · rw [List.getElem?_append_left hl] at hk; exact .inl hk
    · rw [List.getElem?_append_right hl] at hk
      have := List.mem_of_getElem? hk
      simp at this; exact .inr this
  unfold T.fresh at *
  refine Mod.did ?_ _
  refine ⟨fun j r hr hb hy => ?_, fun j r hr l hl hy => ?_, h.eqs, h.stuck⟩
  · rcases key j r hr with h1 | rfl
    · have hf := h.row j r h1 hb hy
      have hj := (List.getElem?_eq_some_iff.1 h1).1
      have ht := hw.tail j r h1 hb
      have e : tv (upd val s.rows.length v) r.tail = tv val r.tail := tv_upd (by omega)
      exact ⟨by rw [e]; unfold upd; rw [if_neg (by omega)]; exact hf.eq, by rw [e]; exact hf.off, hf.dup⟩
    · exact absurd hb (by simp [row0])
  · rcases key j r hr with h1 | rfl
    · have hj := (List.getElem?_eq_some_iff.1 h1).1
      unfold upd
      rw [if_neg (by omega)]
      exact h.lack j r h1 l hl hy
    · exact absurd hl (by simp [row0])
theorem pairs_same (b : List Fld) (y : W64) : ∀ (l : List Fld) (s : T), (s.pairs b y l).rows = s.rows ∧ (s.pairs b y l).own = s.own ∧ (s.pairs b y l).stuck = s.stuck
  | [], s => ⟨rfl, rfl, rfl⟩
  | f :: l, s => by
    unfold T.pairs
    cases b.find? fun g => g.name.toList == f.name.toList with
    | none => exact pairs_same b y l s
    | some g => exact pairs_same b y l (s.pair f.at_ g.at_ y)
theorem Mod.pairs {val : Nat → Val E} {b : List Fld} {y : W64} : ∀ (l : List Fld) {s : T}, Mod η W s val → (∀ f ∈ l, ∀ g, findN b f.name = some g → W y → η f.at_ = η g.at_) → Mod η W (s.pairs b y l) val
  | [], s, h, _ => h
  | f :: l, s, h, hp => by
    unfold T.pairs
    have hf := hp f (by simp)
    unfold findN at hf
    cases hc : b.find? fun g => g.name.toList == f.name.toList with
    | none => exact Mod.pairs l h fun f' hf' => hp f' (by simp [hf'])
    | some g =>
      refine Mod.pairs l ?_ fun f' hf' => hp f' (by simp [hf'])
      show Mod η W (T.did _ _) val
      refine Mod.did ?_ _
      refine ⟨h.row, h.lack, fun e he hy => ?_, h.stuck⟩
      rcases List.mem_append.1 he with he | he
      · exact h.eqs e he hy
      · obtain rfl := List.mem_singleton.1 he
        exact hf g hc hy
/-- Two spreads mean the same. -/
structure Eqv (η : At → E) (val : Nat → Val E) (a b : List Fld) (fa fb : Int) : Prop where
  eq : sem η a (tv val fa) = sem η b (tv val fb)
  offa : Off a (tv val fa)
  offb : Off b (tv val fb)
  dupa : NoDup a
  dupb : NoDup b
theorem Eqv.symm {val : Nat → Val E} {a b : List Fld} {fa fb : Int} (h : Eqv η val a b fa fb) : Eqv η val b a fb fa := ⟨h.eq.symm, h.offb, h.offa, h.dupb, h.dupa⟩
theorem has_without {a b : List Fld} {f : ByteArray} : Has (without b a) f ↔ Has b f ∧ ¬ Has a f := by
  unfold without
  constructor
  · rintro ⟨g, hg, rfl⟩
    obtain ⟨h1, h2⟩ := List.mem_filter.1 hg
    exact ⟨⟨g, h1, rfl⟩, hasF_false.1 (by simpa using h2)⟩
  · rintro ⟨⟨g, hg, rfl⟩, h2⟩
    exact ⟨g, List.mem_filter.2 ⟨hg, by simpa using hasF_false.2 h2⟩, rfl⟩
theorem findN_without {a b : List Fld} {f : ByteArray} (h : ¬ Has a f) : findN (without b a) f = findN b f := by
  unfold without findN
  induction b with
  | nil => rfl
  | cons g l ih =>
    by_cases hg : g.name = f
    · have h1 : hasF a g.name = false := hasF_false.2 (by rw [hg]; exact h)
      simp only [List.filter_cons, h1, Bool.not_false, if_true, List.find?_cons, toList_iff.2 hg]
    · have h2 : (g.name.toList == f.toList) = false := by rw [Bool.eq_false_iff]; exact fun e => hg (toList_iff.1 e)
      simp only [List.filter_cons, List.find?_cons, h2]
      split
      · simp only [List.find?_cons, h2]; exact ih
      · exact ih
theorem dup_without {a b : List Fld} (h : NoDup b) : NoDup (without b a) := List.Pairwise.filter _ h
theorem Eqv.no_more {val : Nat → Val E} {a b : List Fld} {fa fb : Int} (h : Eqv η val a b fa fb) (he : ∀ g ∈ b, tv val fa g.name = none) : without b a = [] := by
  cases hc : without b a with
  | nil => rfl
  | cons g l =>
    have hg : Has (without b a) g.name := ⟨g, by rw [hc]; simp, rfl⟩
    obtain ⟨h1, h2⟩ := has_without.1 hg
    obtain ⟨q, hq⟩ := findN_of h1
    have := congrFun h.eq g.name
    obtain ⟨g', hg', e'⟩ := h1
    rw [sem_not η h2, sem_has η hq, ← e', he g' hg'] at this
    cases this
/-- One side is closed: the other one gets what it lacks. -/
theorem Eqv.closed {val : Nat → Val E} {a b : List Fld} {fa : Int} {k : Nat} (h : Eqv η val a b fa (k : Nat)) (hfa : fa < 0) : Fact η val k (without a b) (-1) := by
  refine ⟨?_, fun g _ => by rw [tv_neg (by omega)], dup_without h.dupa⟩
  have hk := tv_nat val k
  funext f
  have he := congrFun h.eq f
  rw [hk] at he
  rw [tv_neg hfa] at he
  rw [tv_neg (show (-1 : Int) < 0 by omega)]
  by_cases hb : Has b f
  · rw [sem_not η (fun hh => (has_without.1 hh).2 hb)]
    obtain ⟨g, hg, rfl⟩ := hb
    have := h.offb g hg
    rw [hk] at this
    exact this
  · rw [sem_not η hb] at he
    rw [← he]
    simp only [sem, findN_without hb]
open Classical in
/-- What both have behind their fields. -/
noncomputable def rest (val : Nat → Val E) (a b : List Fld) (fa : Int) : Val E := fun f => if Has a f ∨ Has b f then none else tv val fa f
theorem Eqv.open_ {val val' : Nat → Val E} {a b : List Fld} {ka e : Nat} {fb : Int} (h : Eqv η val a b (ka : Nat) fb) (hk : val' ka = val ka) (he : val' e = rest val a b (ka : Nat)) : Fact η val' ka (without b a) (e : Nat) := by
  have hka := tv_nat val ka
  refine ⟨?_, fun g hg => ?_, dup_without h.dupb⟩
  · rw [hk, tv_nat, he]
    funext f
    have hq := congrFun h.eq f
    rw [hka] at hq
    by_cases ha : Has a f
    · rw [sem_not η (fun hh => (has_without.1 hh).2 ha)]
      unfold rest
      rw [if_pos (.inl ha)]
      obtain ⟨g, hg, rfl⟩ := ha
      have := h.offa g hg
      rw [hka] at this
      exact this
    · rw [sem_not η ha] at hq
      by_cases hb : Has b f
      · obtain ⟨g, hg⟩ := findN_of hb
        rw [hq, sem_has η hg, sem_has η (g := g) (by rw [findN_without ha]; exact hg)]
      · rw [sem_not η (fun hh => hb (has_without.1 hh).1)]
        unfold rest
        rw [if_neg (by simp [ha, hb]), hka]
  · rw [tv_nat, he]
    unfold rest
    rw [if_pos (.inr (has_without.1 ⟨g, hg, rfl⟩).1)]
theorem Eqv.rest_symm {val : Nat → Val E} {a b : List Fld} {fa fb : Int} (h : Eqv η val a b fa fb) : rest val a b fa = rest val b a fb := by
  funext f
  unfold rest
  by_cases ha : Has a f
  · rw [if_pos (.inl ha), if_pos (.inr ha)]
  · by_cases hb : Has b f
    · rw [if_pos (.inr hb), if_pos (.inl hb)]
    · rw [if_neg (by simp [ha, hb]), if_neg (by simp [ha, hb])]
      have := congrFun h.eq f
      rw [sem_not η ha, sem_not η hb] at this
      exact this
theorem lacks_stuck {s : T} {a : Int} {f : ByteArray} {y : W64} (h : (s.lacks a f y).1 = false) : (s.lacks a f y).2.stuck = true := by
  unfold T.lacks at *
  simp only [] at *
  split
  · unfold T.stick; split <;> simp_all [T.did]
  · rename_i hh
    rw [if_neg hh] at h
    split at h
    · cases h
    split at h <;> cases h
theorem lackAll_stuck {t : Int} : ∀ {L : List (ByteArray × W64)} {s : T}, (s.lackAll t L).1 = false → (s.lackAll t L).2.stuck = true
  | [], s, h => by cases h
  | x :: L, s, h => by
    unfold T.lackAll at *
    rcases hl : s.lacks t x.1 x.2 with ⟨b, s'⟩
    rw [hl] at h
    cases b with
    | false =>
      have := lacks_stuck (s := s) (a := t) (f := x.1) (y := x.2) (by rw [hl])
      rw [hl] at this
      exact this
    | true => exact lackAll_stuck h
theorem stick_stuck (s : T) (y : W64) : (s.stick y).stuck = true := by unfold T.stick; split <;> simp_all [T.did]
theorem bind_stuck {s : T} {i : Nat} {x : Row} {fs : List Fld} {t : Int} {y : W64} (hx : s.rows[i]? = some x) (h : (s.bind i fs t y).1 = false) : (s.bind i fs t y).2.stuck = true := by
  cases hc : clash x.lacks fs with
  | some l => rw [bind_hit hx hc]; exact stick_stuck _ _
  | none =>
    rw [bind_none hx hc] at h ⊢
    split at h
    · cases h
    · rename_i hn
      rw [if_neg hn]
      exact lackAll_stuck h
/-- What follows the pairs keeps a solution; a new row may have got its value. -/
theorem Mod.meetTail (hW : Cl W) {s : T} {val : Nat → Val E} (h : Mod η W s val) (hw : Wf s.rows) {n : Nat} (hz : Sz s n) {a b : List Fld} {fa fb : Int} {y : W64} (hfa : -1 ≤ fa ∧ fa < s.rows.length) (hfb : -1 ≤ fb ∧ fb < s.rows.length) (he : W y → Eqv η val a b fa fb) :
    ∃ val', (∀ i, i < s.rows.length → val' i = val i) ∧ Mod η W (s.meetTail fa fb (without b a) (without a b) y).2 val' := by
  have same : ∀ {s' : T}, Mod η W s' val → ∃ val', (∀ i, i < s.rows.length → val' i = val i) ∧ Mod η W s' val' := fun h' => ⟨val, fun _ _ => rfl, h'⟩
  have one : ∀ {k : Nat} {fs : List Fld}, k < s.rows.length → (W y → Fact η val k fs (-1)) → Mod η W (match s.bind k fs (-1) y with | (true, s2) => (true, s2) | (false, s2) => (false, s2.stick y)).2 val := fun {k fs} hk hf => by
    have hm := h.bind hW hw (List.getElem?_eq_getElem hk) (.inl (by omega)) hf hz
    have hst := bind_stuck (fs := fs) (t := -1) (y := y) (List.getElem?_eq_getElem hk)
    rcases hb : s.bind k fs (-1) y with ⟨b1, s2⟩
    rw [hb] at hm hst
    cases b1 with
    | true => exact hm
    | false =>
      have e : s2.stick y = s2 := by unfold T.stick; rw [if_pos (hst rfl)]
      show Mod η W (s2.stick y) val
      rw [e]; exact hm
  unfold T.meetTail
  by_cases h1 : fa = fb
  · rw [if_pos h1]
    subst h1
    split
    · rename_i hm
      refine same (h.stick fun hy => ?_)
      have hE := he hy
      rw [hE.no_more hE.offb, hE.symm.no_more hE.offa] at hm
      simp at hm
    · exact same h
  rw [if_neg h1]
  by_cases h2 : fa < 0
  · rw [if_pos h2]
    split
    · obtain ⟨k, rfl⟩ : ∃ k : Nat, fb = (k : Nat) := ⟨fb.toNat, by omega⟩
      rw [Int.toNat_natCast]
      exact same (one (by omega) fun hy => (he hy).closed h2)
    · rename_i hm
      exact same (h.stick fun hy => hm ((he hy).no_more fun g _ => by rw [tv_neg h2]))
  rw [if_neg h2]
  by_cases h3 : fb < 0
  · rw [if_pos h3]
    split
    · obtain ⟨k, rfl⟩ : ∃ k : Nat, fa = (k : Nat) := ⟨fa.toNat, by omega⟩
      rw [Int.toNat_natCast]
      exact same (one (by omega) fun hy => (he hy).symm.closed h3)
    · rename_i hm
      exact same (h.stick fun hy => hm ((he hy).symm.no_more fun g _ => by rw [tv_neg h3]))
  rw [if_neg h3]
  obtain ⟨ka, rfl⟩ : ∃ k : Nat, fa = (k : Nat) := ⟨fa.toNat, by omega⟩
  obtain ⟨kb, rfl⟩ : ∃ k : Nat, fb = (k : Nat) := ⟨fb.toNat, by omega⟩
  rw [Int.toNat_natCast, Int.toNat_natCast]
  obtain ⟨fw, fl, _, fz⟩ := fresh_gr hz hw
  have hka : ka < s.fresh.rows.length := by omega
  refine ⟨upd val s.rows.length (rest val a b (ka : Nat)), fun i hi => by unfold upd; rw [if_neg (by omega)], ?_⟩
  have hm0 := h.fresh hw (rest val a b (ka : Nat))
  have hu : upd val s.rows.length (rest val a b (ka : Nat)) s.rows.length = rest val a b (ka : Nat) := by unfold upd; rw [if_pos rfl]
  have hold : ∀ i, i < s.rows.length → upd val s.rows.length (rest val a b (ka : Nat)) i = val i := fun i hi => by unfold upd; rw [if_neg (by omega)]
  have hm1 := hm0.bind hW fw (List.getElem?_eq_getElem hka) (fs := without b a) (t := (s.rows.length : Nat)) (y := y) (.inr ⟨by omega, by omega⟩) (fun hy => (he hy).open_ (hold ka (by omega)) hu) fz
  have hg := bind_gr (fs := without b a) (tail := (s.rows.length : Nat)) (y := y) (i := ka) fz fw hka (.inr ⟨by omega, by omega⟩)
  rcases hb1 : s.fresh.bind ka (without b a) (s.rows.length : Nat) y with ⟨b1, s2⟩
  rw [hb1] at hm1 hg
  dsimp only at hm1 hg
  cases b1 with
  | false => exact hm1
  | true =>
    have hkb : kb < s2.rows.length := by rw [hg.len]; omega
    exact hm1.bind hW hg.wf (List.getElem?_eq_getElem hkb) (.inr ⟨by omega, by rw [hg.len]; omega⟩) (fun hy => (he hy).symm.open_ (hold kb (by omega)) (by rw [hu]; exact (he hy).rest_symm)) hg.sz
end
end Rw
end Go.Proofs.YthnbhcfpfbimgaaGreat
/- Plain: what is done is undone. No program in sight. -/
namespace Go.Proofs.YthnbhcfpfbimgaaGreat
namespace Rw
/-- What a change may turn. -/
structure Core where
  rows : List Row
  own : List Nat
  eqs : List Eqn
  stuck : Bool
  why : W64
def T.core (s : T) : Core := ⟨s.rows, s.own, s.eqs, s.stuck, s.why⟩
def U.appC : U → Core → Core
  | .cutRows n, s => { s with rows := s.rows.take n }
  | .cutOwn n, s => { s with own := s.own.take n }
  | .unstick, s => { s with stuck := false, why := 0 }
  | .lacksBack i was, s => { s with rows := s.rows.modify i fun x => { x with lacks := was } }
  | .rowBack i x, s => { s with rows := s.rows.set i x }
  | .cutEqs n, s => { s with eqs := s.eqs.take n }
theorem app_core (u : U) (s : T) : (u.app s).core = u.appC s.core ∧ (u.app s).undo = s.undo ∧ (u.app s).times = s.times := by
  cases u <;> exact ⟨rfl, rfl, rfl⟩
def U.valid : U → Core → Prop
  | .cutRows n, s => n ≤ s.rows.length
  | .cutOwn n, s => n ≤ s.own.length
  | .unstick, _ => True
  | .lacksBack i _, s => i < s.rows.length
  | .rowBack i _, s => i < s.rows.length
  | .cutEqs n, s => n ≤ s.eqs.length
/-- The steps back may be taken, the last one first. -/
def OkL : List U → Core → Prop
  | [], _ => True
  | u :: us, s => OkL us s ∧ u.valid (us.foldr U.appC s)
theorem okL_app : ∀ (us vs : List U) (s : Core), OkL (us ++ vs) s ↔ OkL vs s ∧ OkL us (vs.foldr U.appC s)
  | [], _, _ => ⟨fun h => ⟨h, trivial⟩, fun h => h.1⟩
  | u :: us, vs, s => by
    rw [List.cons_append, OkL, OkL, okL_app us vs s, List.foldr_append]
    exact ⟨fun h => ⟨h.1.1, h.1.2, h.2⟩, fun h => ⟨⟨h.1, h.2.1⟩, h.2.2⟩⟩
/-- A state to which some undoable steps lead. -/
structure Und (s s' : T) : Prop where
  ex : ∃ us, s'.undo = s.undo ++ us ∧ us.foldr U.appC s'.core = s.core ∧ OkL us s'.core
  times : s'.times = s.times
  zero : (s.stuck = false → s.why = 0) → s'.stuck = false → s'.why = 0
theorem Und.refl (s : T) : Und s s := ⟨⟨[], by simp, rfl, trivial⟩, rfl, id⟩
theorem Und.trans {a b c : T} (h : Und a b) (k : Und b c) : Und a c := by
  obtain ⟨us, h1, h2, h3⟩ := h.ex
  obtain ⟨vs, k1, k2, k3⟩ := k.ex
  exact ⟨⟨us ++ vs, by rw [k1, h1, List.append_assoc], by rw [List.foldr_append, k2, h2], (okL_app us vs _).2 ⟨k3, by rw [k2]; exact h3⟩⟩, k.times.trans h.times, fun h0 => k.zero (h.zero h0)⟩
theorem Und.one {s s1 : T} {u : U} (h1 : s1.undo = s.undo) (h2 : u.appC s1.core = s.core) (h3 : s1.times = s.times) (h4 : (s.stuck = false → s.why = 0) → s1.stuck = false → s1.why = 0) (hv : u.valid s1.core) : Und s (s1.did u) :=
  ⟨⟨[u], by show s1.undo ++ [u] = _; rw [h1], by show u.appC s1.core = _; exact h2, ⟨trivial, hv⟩⟩, h3, h4⟩
theorem Und.stick {s : T} (h : s.stuck = false → s.why = 0) (y : W64) : Und s (s.stick y) := by
  unfold T.stick
  split
  · exact Und.refl s
  · rename_i hs
    have hs' : s.stuck = false := by simpa using hs
    refine Und.one rfl ?_ rfl (fun _ h' => by cases h') trivial
    have := h hs'
    obtain ⟨undo, times, rows, own, eqs, stuck, why⟩ := s
    simp only at hs' this
    subst hs'
    subst this
    rfl
theorem modify_back (l : List Row) (k : Nat) (new : List Lk) : (l.modify k fun x => { x with lacks := new }).modify k (fun x => { x with lacks := (l.getD k row0).lacks }) = l := by
  refine List.ext_getElem? fun i => ?_
  rw [List.getElem?_modify, List.getElem?_modify]
  cases h : l[i]? with
  | none => simp
  | some r =>
    by_cases hk : k = i
    · subst hk
      simp [List.getD_eq_getElem?_getD, h]
    · simp [hk]
theorem Und.lacks {s : T} (h : s.stuck = false → s.why = 0) (hw : Wf s.rows) {a : Int} (ha : a < s.rows.length) (f : ByteArray) (y : W64) : Und s (s.lacks a f y).2 := by
  have hfin := ((Go.start (rows := s.rows) (fs := []) (at_ := a) (N := 0 + tot s.rows) ha (Nat.le_refl _)).fin_ok hw).1
  have hfin' : (s.spreads [] a).fin < 0 ∨ ((s.spreads [] a).fin < s.rows.length ∧ _) := hfin
  clear hfin
  unfold T.lacks
  simp only []
  split
  · exact Und.stick h _
  split
  · exact Und.refl s
  rename_i hn
  split
  · exact Und.refl s
  · refine Und.one rfl ?_ rfl (fun h0 h1 => h0 h1) ?_
    · simp only [U.appC, T.core, modify_back]
    · show (s.spreads [] a).fin.toNat < (s.rows.modify _ _).length
      rw [List.length_modify]
      rcases hfin' with h0 | h0 <;> omega
theorem Und.lackAll {t : Int} : ∀ (L : List (ByteArray × W64)) {s : T}, (s.stuck = false → s.why = 0) → Wf s.rows → t < s.rows.length → (∃ n, Sz s n) → Und s (s.lackAll t L).2
  | [], s, _, _, _, _ => Und.refl s
  | x :: L, s, h, hw, ht, ⟨n, hz⟩ => by
    unfold T.lackAll
    have h1 := Und.lacks h hw ht x.1 x.2
    obtain ⟨n1, z1⟩ := lacks_nx s t x.1 x.2 hz
    rcases hl : s.lacks t x.1 x.2 with ⟨b, s'⟩
    rw [hl] at h1 n1 z1
    cases b with
    | false => exact h1
    | true => exact h1.trans (Und.lackAll L (h1.zero h) (n1.wf hw) (by rw [n1.len]; exact ht) ⟨_, z1⟩)
theorem set_back {l : List Row} {i : Nat} {x x' : Row} (h : l[i]? = some x) : (l.set i x').set i x = l := by
  refine List.ext_getElem? fun j => ?_
  by_cases hj : i = j
  · subst hj
    rw [List.getElem?_set_self (by rw [List.length_set]; exact (List.getElem?_eq_some_iff.1 h).1), h]
  · rw [List.getElem?_set_ne hj, List.getElem?_set_ne hj]
theorem Und.bind {s : T} (h : s.stuck = false → s.why = 0) (hw : Wf s.rows) {n : Nat} (hz : Sz s n) {i : Nat} {x : Row} (hx : s.rows[i]? = some x) (fs : List Fld) {t : Int} (ht : t < 0 ∨ ((i : Int) < t ∧ t < s.rows.length)) (y : W64) : Und s (s.bind i fs t y).2 := by
  have hi := (List.getElem?_eq_some_iff.1 hx).1
  cases hc : clash x.lacks fs with
  | some l => rw [bind_hit hx hc]; exact Und.stick h _
  | none =>
    rw [bind_none hx hc]
    have h1 : Und s (bindS s i x fs t y) := by
      unfold bindS
      refine Und.one rfl ?_ rfl (fun h0 h1 => h0 h1) ?_
      · simp only [U.appC, T.core, set_back hx]
      · show i < (s.rows.set _ _).length
        rw [List.length_set]; exact hi
    split
    · exact h1
    · have hl : (bindS s i x fs t y).rows.length = s.rows.length := by simp [bindS, T.did]
      exact h1.trans (Und.lackAll _ (h1.zero h) (bindS_wf hw ht) (by rw [hl]; omega) ⟨_, bindS_sz hz hx⟩)
theorem Und.fresh (s : T) : Und s s.fresh := by
  unfold T.fresh
  refine Und.one rfl ?_ rfl (fun h0 h1 => h0 h1) ?_
  · simp [U.appC, T.core]
  · simp [U.valid, T.core]
theorem Und.pair (s : T) (a b : At) (y : W64) : Und s (s.pair a b y) := by
  unfold T.pair
  refine Und.one rfl ?_ rfl (fun h0 h1 => h0 h1) ?_
  · simp [U.appC, T.core]
  · simp [U.valid, T.core]
theorem Und.pairs (b : List Fld) (y : W64) : ∀ (l : List Fld) (s : T), Und s (s.pairs b y l)
  | [], s => Und.refl s
  | f :: l, s => by
    unfold T.pairs
    cases b.find? fun g => g.name.toList == f.name.toList with
    | none => exact Und.pairs b y l s
    | some g => exact (Und.pair s f.at_ g.at_ y).trans (Und.pairs b y l _)
theorem Und.termFields {s : T} (h : s.stuck = false → s.why = 0) (hw : Wf s.rows) {n : Nat} (hz : Sz s n) {a : Int} (ha : a < s.rows.length) (y : W64) (fs : List Fld) : ∀ k, Und s (s.termFields a y fs k).2
  | 0 => Und.refl s
  | k + 1 => by
    have ih := Und.termFields h hw hz ha y fs k
    have hx := (termFields_nx s a y fs hz k).1
    rcases hr : s.termFields a y fs k with ⟨b, sk⟩
    rw [hr] at ih hx
    cases b with
    | false => rw [termFields_false hr 1]; exact ih
    | true =>
      cases hf : fs[k]? with
      | none => simp only [T.termFields, hr, hf]; exact ih
      | some f =>
        rw [termFields_succ hr hf]
        split
        · exact ih.trans (Und.stick (ih.zero h) _)
        split
        · exact ih
        · exact ih.trans (Und.lacks (ih.zero h) (hx.wf hw) (by rw [hx.len]; exact ha) _ _)
theorem term_snd (s : T) (x : Term) (y : W64) : (s.term x y).2 = (s.termFields (s.at_ x.tail) y x.fields x.fields.length).2 := by
  unfold T.term
  rcases s.termFields (s.at_ x.tail) y x.fields x.fields.length with ⟨b, sk⟩
  cases b <;> rfl
theorem Und.term {s : T} (h : s.stuck = false → s.why = 0) (hO : Ow s) {n : Nat} (hz : Sz s n) {x : Term} (hx : x.tail < s.own.length) (y : W64) : Und s (s.term x y).2 := by
  rw [term_snd]; exact Und.termFields h hO.wf hz (hO.at_ hx).2 _ _ _
theorem Und.meetTail {s : T} (h : s.stuck = false → s.why = 0) {fa fb : Int} {n : Nat} (hz : Sz s n) (hw : Wf s.rows) (hfa : -1 ≤ fa ∧ fa < s.rows.length) (hfb : -1 ≤ fb ∧ fb < s.rows.length) (more less : List Fld) (y : W64) : Und s (s.meetTail fa fb more less y).2 := by
  have one : ∀ {k : Nat} {fs : List Fld}, k < s.rows.length → Und s (match s.bind k fs (-1) y with | (true, s2) => (true, s2) | (false, s2) => (false, s2.stick y)).2 := fun {k fs} hk => by
    have hm := Und.bind h hw hz (List.getElem?_eq_getElem hk) fs (t := -1) (.inl (by omega)) y
    rcases hb : s.bind k fs (-1) y with ⟨b1, s2⟩
    rw [hb] at hm
    cases b1 with
    | true => exact hm
    | false => exact hm.trans (Und.stick (hm.zero h) _)
  unfold T.meetTail
  by_cases h1 : fa = fb
  · rw [if_pos h1]
    split
    · exact Und.stick h _
    · exact Und.refl s
  rw [if_neg h1]
  by_cases h2 : fa < 0
  · rw [if_pos h2]
    split
    · exact one (by omega)
    · exact Und.stick h _
  rw [if_neg h2]
  by_cases h3 : fb < 0
  · rw [if_pos h3]
    split
    · exact one (by omega)
    · exact Und.stick h _
  rw [if_neg h3]
  obtain ⟨fw, fl, _, fz⟩ := fresh_gr hz hw
  have hf := Und.fresh s
  have hka : fa.toNat < s.fresh.rows.length := by omega
  have hm1 := Und.bind (hf.zero h) fw fz (List.getElem?_eq_getElem hka) more (t := (s.rows.length : Nat)) (.inr ⟨by omega, by omega⟩) y
  have hg := bind_gr (fs := more) (tail := (s.rows.length : Nat)) (y := y) (i := fa.toNat) fz fw hka (.inr ⟨by omega, by omega⟩)
  rcases hb1 : s.fresh.bind fa.toNat more (s.rows.length : Nat) y with ⟨b1, s2⟩
  rw [hb1] at hm1 hg
  dsimp only at hm1 hg
  cases b1 with
  | false => exact hf.trans hm1
  | true =>
    have hkb : fb.toNat < s2.rows.length := by rw [hg.len]; omega
    exact (hf.trans hm1).trans (Und.bind ((hf.trans hm1).zero h) hg.wf hg.sz (List.getElem?_eq_getElem hkb) _ (.inr ⟨by omega, by rw [hg.len]; omega⟩) _)
theorem pairs_sz (b : List Fld) (y : W64) : ∀ (l : List Fld) {s : T} {n : Nat}, Sz s n → Sz (s.pairs b y l) (n + l.length)
  | [], s, n, h => h
  | f :: l, s, n, h => by
    unfold T.pairs
    cases b.find? fun g => g.name.toList == f.name.toList with
    | none => exact (pairs_sz b y l h).mono (by simp)
    | some g =>
      have h1 : Sz (s.pair f.at_ g.at_ y) (n + 1) := ⟨Nat.le_trans h.tot (by omega), fun i r hr => Nat.le_trans (h.lacks i r hr) (by omega), by have := h.undo; simp [T.pair, T.did]; omega, Nat.le_trans h.rows (by omega), Nat.le_trans h.own (by omega), by have := h.eqs; simp [T.pair, T.did]; omega, Nat.le_trans h.times (by omega)⟩
      exact (pairs_sz b y l h1).mono (by simp; omega)
/-- What an equation leads through: three terms, and a meet. -/
structure Eq3 (s : T) (a b : Term) (y : W64) (r : Bool × T) : Prop where
  ex : (∃ s1, s.term a y = (none, s1) ∧ r = (false, s1)) ∨ (∃ x1 s1 s2, s.term a y = (some x1, s1) ∧ s1.term b y = (none, s2) ∧ r = (false, s2)) ∨
    (∃ x1 s1 x2 s2 x3 s3, s.term a y = (some x1, s1) ∧ s1.term b y = (some x2, s2) ∧ s2.term a y = (some x3, s3) ∧ r = s3.meet x3 x2 (y ||| x3.why ||| x2.why) ∧
      x2 = s2.spreads b.fields (s.at_ b.tail) ∧ x3 = s3.spreads a.fields (s.at_ a.tail) ∧ Nx s s1 ∧ Nx s1 s2 ∧ Nx s2 s3 ∧ (∃ n, Sz s1 n) ∧ (∃ n, Sz s2 n) ∧ ∃ n, Sz s3 n)
theorem equal_eq3 (s : T) (a b : Term) (y : W64) {n : Nat} (hz : Sz s n) : Eq3 s a b y (s.equal a b y) := by
  obtain ⟨n1, z1⟩ := term_nx s a y hz
  rcases h1 : s.term a y with ⟨r1, s1⟩
  rw [h1] at n1 z1
  cases r1 with
  | none => exact ⟨.inl ⟨s1, h1, equal_1 h1⟩⟩
  | some x1 =>
    obtain ⟨n2, z2⟩ := term_nx s1 b y z1
    rcases h2 : s1.term b y with ⟨r2, s2⟩
    rw [h2] at n2 z2
    cases r2 with
    | none => exact ⟨.inr (.inl ⟨x1, s1, s2, h1, h2, equal_2 h1 h2⟩)⟩
    | some x2 =>
      obtain ⟨n3, z3⟩ := term_nx s2 a y z2
      rcases h3 : s2.term a y with ⟨r3, s3⟩
      rw [h3] at n3 z3
      cases r3 with
      | none => exact (equal_not hz h1 h2 h3).elim
      | some x3 => exact ⟨.inr (.inr ⟨x1, s1, x2, s2, x3, s3, h1, h2, h3, equal_3 h1 h2 h3, by rw [term_some h2, n1.at_], by rw [term_some h3, n2.at_, n1.at_], n1, n2, n3, ⟨_, z1⟩, ⟨_, z2⟩, ⟨_, z3⟩⟩)⟩
theorem Und.equal {s : T} (h : s.stuck = false → s.why = 0) (hO : Ow s) {a b : Term} (ha : a.tail < s.own.length) (hb : b.tail < s.own.length) (y : W64) {n : Nat} (hz : Sz s n) : Und s (s.equal a b y).2 := by
  rcases (equal_eq3 s a b y hz).ex with ⟨s1, h1, hr⟩ | ⟨x1, s1, s2, h1, h2, hr⟩ | ⟨x1, s1, x2, s2, x3, s3, h1, h2, h3, hr, e2, e3, n1, n2, n3, _, _, z3⟩
  · rw [hr]
    have := Und.term h hO hz ha y
    rw [h1] at this; exact this
  · rw [hr]
    have u1 := Und.term h hO hz ha y
    have m1 := term_nx s a y hz
    rw [h1] at u1 m1
    have u2 := Und.term (u1.zero h) (hO.nx m1.1) m1.2 (x := b) (by rw [m1.1.own]; exact hb) y
    rw [h2] at u2
    exact u1.trans u2
  · have u1 := Und.term h hO hz ha y
    have m1 := term_nx s a y hz
    rw [h1] at u1 m1
    have u2 := Und.term (u1.zero h) (hO.nx m1.1) m1.2 (x := b) (by rw [m1.1.own]; exact hb) y
    have m2 := term_nx s1 b y m1.2
    rw [h2] at u2 m2
    have u12 := u1.trans u2
    have u3 := Und.term (u12.zero h) ((hO.nx m1.1).nx m2.1) m2.2 (x := a) (by rw [m2.1.own, m1.1.own]; exact ha) y
    rw [h3] at u3
    have u := u12.trans u3
    obtain ⟨m, z3⟩ := z3
    have hO3 := ((hO.nx n1).nx n2).nx n3
    have hO2 := (hO.nx n1).nx n2
    rw [hr, meet_def]
    obtain ⟨p1, p2, p3⟩ := pairs_same x2.fields (y ||| x3.why ||| x2.why) x3.fields s3
    have f3 := spreads_fin (fs := a.fields) (a := s.at_ a.tail) hO3.wf (by rw [n3.len, n2.len, n1.len]; exact (hO.at_ ha).2) (hO.at_ ha).1 hO3.tail
    have f2 := spreads_fin (fs := b.fields) (a := s.at_ b.tail) hO2.wf (by rw [n2.len, n1.len]; exact (hO.at_ hb).2) (hO.at_ hb).1 hO2.tail
    rw [← e3] at f3
    rw [← e2] at f2
    have up := u.trans (Und.pairs x2.fields (y ||| x3.why ||| x2.why) x3.fields s3)
    exact up.trans (Und.meetTail (up.zero h) (pairs_sz _ _ _ z3) (by rw [p1]; exact hO3.wf) (by rw [p1]; exact f3) (by rw [p1, n3.len]; exact f2) _ _ _)
/-- All undone, from one on. -/
theorem clearTo_core : ∀ (us : List U) (s : T) (base : List U), s.undo = base ++ us → (clearTo s us.length).core = us.foldr U.appC s.core ∧ (clearTo s us.length).undo = base ∧ (clearTo s us.length).times = s.times := by
  intro us
  generalize hm : us.length = m
  induction m generalizing us with
  | zero =>
    intro s base h
    obtain rfl : us = [] := List.eq_nil_of_length_eq_zero hm
    exact ⟨rfl, by simpa [clearTo] using h, rfl⟩
  | succ m ih0 =>
    intro s base h
    have hne : us ≠ [] := fun e => by rw [e] at hm; cases hm
    obtain ⟨vs, u, rfl⟩ : ∃ vs u, us = vs ++ [u] := ⟨us.dropLast, us.getLast hne, (List.dropLast_concat_getLast hne).symm⟩
    have hvm : vs.length = m := by simpa using hm
    have ih := ih0 vs hvm
    clear ih0 hm hne
    revert ih
    subst hvm
    intro ih
    generalize vs = us at *
    obtain ⟨a1, a2, a3⟩ := app_core u s
    have hl : s.undo.getLast? = some u := by rw [h, ← List.append_assoc]; simp
    rw [clearTo, hl]
    have hd : s.undo.dropLast = base ++ us := by rw [h, ← List.append_assoc]; simp
    obtain ⟨h1, h2, h3⟩ := ih { u.app s with undo := s.undo.dropLast } base hd
    refine ⟨?_, h2, h3.trans a3⟩
    rw [h1, List.foldr_append]
    show us.foldr U.appC (u.app s).core = _
    rw [a1]
    rfl
theorem Und.clear {s s' : T} (h : Und s s') : (s'.clear s.undo.length).core = s.core ∧ (s'.clear s.undo.length).undo = s.undo ∧ (s'.clear s.undo.length).times = s.times := by
  obtain ⟨us, h1, h2, _⟩ := h.ex
  have hl : s'.undo.length - s.undo.length = us.length := by rw [h1]; simp
  obtain ⟨c1, c2, c3⟩ := clearTo_core us s' s.undo h1
  unfold T.clear
  rw [hl]
  exact ⟨c1.trans h2, c2, c3.trans h.times⟩
end Rw
end Go.Proofs.YthnbhcfpfbimgaaGreat
