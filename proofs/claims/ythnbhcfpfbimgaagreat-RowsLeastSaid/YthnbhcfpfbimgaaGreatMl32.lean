/- Texts put together: RwFeed2 RwNames. -/
import Derived.Test.YthnbhcfpfbimgaaGreatMl31
/- Plain: a table to which assertions are handed, one by one: it keeps each solution of them, and each of its solutions is one of them. No program in sight. -/
namespace Go.Proofs.YthnbhcfpfbimgaaGreat
namespace Rw
theorem bind_szx {s : T} {i n : Nat} {fs : List Fld} {tail : Int} {y : W64} (h : Sz s n) (hi : i < s.rows.length) : ∃ m, Sz (s.bind i fs tail y).2 m := by
  obtain ⟨x, hx⟩ : ∃ x, s.rows[i]? = some x := ⟨s.rows[i], List.getElem?_eq_getElem hi⟩
  cases hc : clash x.lacks fs with
  | some l => rw [bind_hit hx hc]; exact ⟨_, h.stick _⟩
  | none =>
    rw [bind_none hx hc]
    have hs := bindS_sz (fs := fs) (tail := tail) (y := y) h hx
    split
    · exact ⟨_, hs⟩
    · exact ⟨_, (lackAll_nx tail (bindL x fs y) _ hs).2⟩
theorem meetTail_szx {s : T} {n : Nat} (hz : Sz s n) (hw : Wf s.rows) {fa fb : Int} (hfa : -1 ≤ fa ∧ fa < s.rows.length) (hfb : -1 ≤ fb ∧ fb < s.rows.length) (more less : List Fld) (y : W64) : ∃ m, Sz (s.meetTail fa fb more less y).2 m := by
  have one : ∀ {k : Nat} {fs : List Fld}, k < s.rows.length → ∃ m, Sz (match s.bind k fs (-1) y with | (true, s2) => (true, s2) | (false, s2) => (false, s2.stick y)).2 m := fun {k fs} hk => by
    obtain ⟨m, hm⟩ := bind_szx (fs := fs) (tail := -1) (y := y) hz hk
    rcases hb : s.bind k fs (-1) y with ⟨b1, s2⟩
    rw [hb] at hm
    cases b1 with
    | true => exact ⟨m, hm⟩
    | false => exact ⟨_, hm.stick _⟩
  unfold T.meetTail
  by_cases h1 : fa = fb
  · rw [if_pos h1]
    split
    · exact ⟨_, hz.stick _⟩
    · exact ⟨_, hz⟩
  rw [if_neg h1]
  by_cases h2 : fa < 0
  · rw [if_pos h2]
    split
    · exact one (by omega)
    · exact ⟨_, hz.stick _⟩
  rw [if_neg h2]
  by_cases h3 : fb < 0
  · rw [if_pos h3]
    split
    · exact one (by omega)
    · exact ⟨_, hz.stick _⟩
  rw [if_neg h3]
  obtain ⟨fw, fl, _, fz⟩ := fresh_gr hz hw
  have hka : fa.toNat < s.fresh.rows.length := by omega
  obtain ⟨m, hm⟩ := bind_szx (fs := more) (tail := (s.rows.length : Nat)) (y := y) fz hka
  have hg := bind_gr (fs := more) (tail := (s.rows.length : Nat)) (y := y) (i := fa.toNat) fz fw hka (.inr ⟨by omega, by omega⟩)
  rcases hb1 : s.fresh.bind fa.toNat more (s.rows.length : Nat) y with ⟨b1, s2⟩
  rw [hb1] at hm hg
  cases b1 with
  | false => exact ⟨m, hm⟩
  | true => exact bind_szx hm (by have := hg.len; dsimp only at this; omega)
theorem equal_szx {s : T} (hO : Ow s) {a b : Term} (ha : a.tail < s.own.length) (hb : b.tail < s.own.length) (y : W64) {n : Nat} (hz : Sz s n) : ∃ m, Sz (s.equal a b y).2 m := by
  rcases (equal_eq3 s a b y hz).ex with ⟨s1, h1, hr⟩ | ⟨x1, s1, s2, h1, h2, hr⟩ | ⟨x1, s1, x2, s2, x3, s3, h1, h2, h3, hr, e2, e3, n1, n2, n3, _, _, z3⟩
  · rw [hr]
    have := (term_nx s a y hz).2
    rw [h1] at this; exact ⟨_, this⟩
  · rw [hr]
    have k1 := (term_nx s a y hz).2
    rw [h1] at k1
    have := (term_nx s1 b y k1).2
    rw [h2] at this; exact ⟨_, this⟩
  · obtain ⟨m, z3⟩ := z3
    have hO3 := ((hO.nx n1).nx n2).nx n3
    have hO2 := (hO.nx n1).nx n2
    rw [hr, meet_def]
    obtain ⟨p1, p2, p3⟩ := pairs_same x2.fields (y ||| x3.why ||| x2.why) x3.fields s3
    have f3 := spreads_fin (fs := a.fields) (a := s.at_ a.tail) hO3.wf (by rw [n3.len, n2.len, n1.len]; exact (hO.at_ ha).2) (hO.at_ ha).1 hO3.tail
    have f2 := spreads_fin (fs := b.fields) (a := s.at_ b.tail) hO2.wf (by rw [n2.len, n1.len]; exact (hO.at_ hb).2) (hO.at_ hb).1 hO2.tail
    rw [← e3] at f3
    rw [← e2] at f2
    exact meetTail_szx (pairs_sz _ _ _ z3) (by rw [p1]; exact hO3.wf) (by rw [p1]; exact f3) (by rw [p1, n3.len]; exact f2) _ _ _
theorem sz_failed {s s' : T} {n : Nat} (hz : Sz s n) (h1 : s'.rows = s.rows) (h2 : s'.own = s.own) (h3 : s'.eqs = s.eqs) (h4 : s'.undo = s.undo ++ [.unstick]) (h5 : s'.times = s.times ++ [s.undo.length]) : Sz s' (n + 1) :=
  ⟨by rw [h1]; exact Nat.le_trans hz.tot (by omega), fun k r hr => by rw [h1] at hr; exact Nat.le_trans (hz.lacks k r hr) (by omega), by rw [h4]; have := hz.undo; simp; omega, by rw [h1]; exact Nat.le_trans hz.rows (by omega), by rw [h2]; exact Nat.le_trans hz.own (by omega), by rw [h3]; exact Nat.le_trans hz.eqs (by omega), by rw [h5]; have := hz.times; simp; omega⟩
/-- A step: it is taken, or the table is stuck with what it knew, or nothing turns. -/
structure HandLeft (s : T) (x : Asr) (y : W64) (s' : T) : Prop where
  ex : (s' = s ∧ (s.stuck = true ∨ ¬ Acc s.own.length x)) ∨
    (s.stuck = false ∧ Acc s.own.length x ∧ s'.stuck = false ∧ Le s s' ∧ Gd s' ∧ ∀ (E : Type) (η : At → E) (val : Nat → Val E), Mod η Tr s' val → Holds η val s x) ∨
    (s.stuck = false ∧ Acc s.own.length x ∧ s'.stuck = true ∧ s'.rows = s.rows ∧ s'.own = s.own ∧ s'.eqs = s.eqs ∧ Gd s')
theorem Ow.same {s s' : T} (h : Ow s) (h1 : s'.rows = s.rows) (h2 : s'.own = s.own) : Ow s' := ⟨by rw [h1]; exact h.wf, by rw [h1]; exact h.tail, by rw [h1, h2]; exact h.own⟩
theorem hand_left {s : T} (h : Gd s) (x : Asr) (y : W64) : HandLeft s x y (s.hand x y) := by
  cases x with
  | eq a b =>
    show HandLeft s (.eq a b) y (s.equate a b y).2
    rcases (equate_left h a b y).ex with ⟨e, h1⟩ | ⟨hs, hacc, hr, he⟩ | ⟨hs, hacc, _, he, hst, k1, k2, k3, k4, k5, k6, k7⟩
    · exact ⟨.inl ⟨by rw [e], h1⟩⟩
    · have hg := tick_gd h
      obtain ⟨n, hz⟩ := hg.sz
      have hok := equal_ok hg.ow hg.inv (a := a) (b := b) hacc.1 hacc.2 (y := y) hz (by rw [he]; exact hr)
      have hu := Und.equal hg.zero hg.ow (a := a) (b := b) hacc.1 hacc.2 y hz
      have hsz := equal_szx hg.ow (a := a) (b := b) hacc.1 hacc.2 y hz
      rw [he] at hok hu hsz
      have hst : (s.equate a b y).2.stuck = false := hok.le.stuck.trans hs
      refine ⟨.inr (.inl ⟨hs, hacc, hst, ⟨hok.le.row, hok.le.eqs, hok.le.stuck, hok.le.own⟩, ⟨hok.ow, hok.inv, fun _ => hu.zero hg.zero hst, hsz⟩, fun E η val hm => ?_⟩)⟩
      have hre := hok.sem E η val hm
      exact ⟨hre.dupa, hre.dupb, hre.offa, hre.offb, hre.eq⟩
    · obtain ⟨n, hz⟩ := h.sz
      exact ⟨.inr (.inr ⟨hs, hacc, k4, k1, k2, k3, h.ow.same k1 k2, by rw [k1]; exact h.inv, fun h' => (by rw [k4] at h'; cases h'), _, sz_failed hz k1 k2 k3 k6 k7⟩)⟩
  | lk v f =>
    show HandLeft s (.lk v f) y (s.lacksOf v f y).2
    rcases (lacksOf_left s v f y).ex with ⟨e, h1⟩ | ⟨hs, hacc, he⟩
    · exact ⟨.inl ⟨by rw [e], h1⟩⟩
    · have hg := tick_gd h
      obtain ⟨n, hz⟩ := hg.sz
      have ha : s.at_ v < (s.tick.rows.length : Int) := (h.ow.at_ hacc.2).2
      cases hr : (s.tick.lacks (s.at_ v) f y).1 with
      | true =>
        obtain ⟨m1, m2⟩ := lacks_mo hg.ow.wf ha f y hr
        have hle := lacks_le hg.ow.wf ha hr
        obtain ⟨n1, z1⟩ := lacks_nx s.tick (s.at_ v) f y hz
        have hu := Und.lacks hg.zero hg.ow.wf ha f y
        rw [he] at hle n1 z1 m1 m2 hu
        have hst : (s.lacksOf v f y).2.stuck = false := hle.stuck.trans hs
        refine ⟨.inr (.inl ⟨hs, hacc, hst, ⟨hle.row, hle.eqs, hle.stuck, hle.own⟩, ⟨hg.ow.nx n1, m1.inv hg.inv, fun _ => hu.zero hg.zero hst, _, z1⟩, fun E η val hm => m2.sem hm⟩)⟩
      | false =>
        have hf := lacks_fail hr
        rw [he] at hf
        obtain ⟨k1, k2⟩ := stick_rows s.tick (y ||| (s.tick.spreads [] (s.at_ v)).why)
        have hst := stick_stuck s.tick (y ||| (s.tick.spreads [] (s.at_ v)).why)
        have heq : (s.tick.stick (y ||| (s.tick.spreads [] (s.at_ v)).why)).eqs = s.eqs := by unfold T.stick; split <;> rfl
        rw [hf]
        exact ⟨.inr (.inr ⟨hs, hacc, hst, k1, k2, heq, h.ow.same k1 k2, by rw [k1]; exact h.inv, fun h' => (by rw [hst] at h'; cases h'), _, hz.stick _⟩)⟩
theorem hand_gd {s : T} (h : Gd s) (x : Asr) (y : W64) : Gd (s.hand x y) ∧ (s.hand x y).own = s.own := by
  rcases (hand_left h x y).ex with ⟨e, _⟩ | ⟨_, _, _, hl, hg, _⟩ | ⟨_, _, _, _, ho, _, hg⟩
  · rw [e]; exact ⟨h, rfl⟩
  · exact ⟨hg, hl.own⟩
  · exact ⟨hg, ho⟩
theorem feed_gd : ∀ (l : List (Asr × W64)) {s : T}, Gd s → Gd (s.feed l) ∧ (s.feed l).own = s.own
  | [], _, h => ⟨h, rfl⟩
  | x :: l, s, h => by
    obtain ⟨h1, h2⟩ := hand_gd h x.1 x.2
    obtain ⟨h3, h4⟩ := feed_gd l h1
    exact ⟨h3, h4.trans h2⟩
theorem hand_stuck {s : T} (h : Gd s) (hs : s.stuck = true) (x : Asr) (y : W64) : s.hand x y = s := by
  rcases (hand_left h x y).ex with ⟨e, _⟩ | ⟨h1, _⟩ | ⟨h1, _⟩
  · exact e
  · rw [hs] at h1; cases h1
  · rw [hs] at h1; cases h1
theorem feed_stuck : ∀ (l : List (Asr × W64)) {s : T}, Gd s → s.stuck = true → s.feed l = s
  | [], _, _, _ => rfl
  | x :: l, s, h, hs => by
    unfold T.feed
    rw [hand_stuck h hs]
    exact feed_stuck l h hs
theorem feed_app : ∀ (l m : List (Asr × W64)) (s : T), s.feed (l ++ m) = (s.feed l).feed m
  | [], _, _ => rfl
  | x :: l, m, s => feed_app l m (s.hand x.1 x.2)
theorem feed_le : ∀ (l : List (Asr × W64)) {s : T}, Gd s → (s.feed l).stuck = false → Le s (s.feed l)
  | [], s, _, _ => Le.refl s
  | x :: l, s, h, hs => by
    have hg := (hand_gd h x.1 x.2).1
    have ih := feed_le l hg hs
    rcases (hand_left h x.1 x.2).ex with ⟨e, _⟩ | ⟨_, _, _, hl, _⟩ | ⟨_, _, h3, _⟩
    · rw [e] at ih; show Le s ((s.hand x.1 x.2).feed l); rw [e]; exact ih
    · exact hl.trans ih
    · rw [show s.feed (x :: l) = (s.hand x.1 x.2).feed l from rfl, feed_stuck l hg h3] at hs
      rw [h3] at hs; cases hs
theorem holds_own {E : Type} {η : At → E} {val : Nat → Val E} {s s' : T} (h : s'.own = s.own) {x : Asr} (hh : Holds η val s x) : Holds η val s' x := by
  have e : ∀ t, s'.at_ t = s.at_ t := fun t => by unfold T.at_; rw [h]
  cases x with
  | eq a b => exact ⟨hh.dupa, hh.dupb, by rw [e]; exact hh.offa, by rw [e]; exact hh.offb, by rw [e, e]; exact hh.eq⟩
  | lk v f => show tv val (s'.at_ v) f = none; rw [e]; exact hh
/-- Each solution of a table that is not stuck is one of what was handed to it. -/
theorem feed_complete : ∀ (l : List (Asr × W64)) {s : T}, Gd s → (s.feed l).stuck = false → ∀ p ∈ l, Acc s.own.length p.1 → ∀ (E : Type) (η : At → E) (val : Nat → Val E), Mod η Tr (s.feed l) val → Holds η val s p.1
  | [], _, _, _, p, hp, _, _, _, _, _ => absurd hp (by simp)
  | x :: l, s, h, hs, p, hp, hacc, E, η, val, hm => by
    obtain ⟨hg, ho⟩ := hand_gd h x.1 x.2
    rcases List.mem_cons.1 hp with rfl | hp
    · have hle := feed_le l hg hs
      rcases (hand_left h p.1 p.2).ex with ⟨_, e⟩ | ⟨_, _, _, _, _, hsem⟩ | ⟨_, _, h3, _⟩
      · rcases e with e | e
        · have := feed_stuck (p :: l) h e
          rw [this, e] at hs; cases hs
        · exact absurd hacc e
      · exact hsem E η val (hle.mod hm)
      · rw [show s.feed (p :: l) = (s.hand p.1 p.2).feed l from rfl, feed_stuck l hg h3] at hs
        rw [h3] at hs; cases hs
    · exact holds_own ho.symm (feed_complete l hg hs p hp (by rw [ho]; exact hacc) E η val hm)
section
variable {E : Type} {η : At → E} {W : W64 → Prop}
theorem Mod.termFields (hW : Cl W) {s : T} {val : Nat → Val E} (h : Mod η W s val) (hw : Wf s.rows) {n : Nat} (hz : Sz s n) {a : Int} {y : W64} {fs : List Fld} (hf : W y → NoDup fs ∧ Off fs (tv val a)) : ∀ k, Mod η W (s.termFields a y fs k).2 val
  | 0 => h
  | k + 1 => by
    have ih := Mod.termFields hW h hw hz hf k
    have hx := termFields_nx s a y fs hz k
    rcases hr : s.termFields a y fs k with ⟨b, sk⟩
    rw [hr] at ih hx
    cases b with
    | false => rw [termFields_false hr 1]; exact ih
    | true =>
      cases hfk : fs[k]? with
      | none => simp only [T.termFields, hr, hfk]; exact ih
      | some f =>
        rw [termFields_succ hr hfk]
        split
        · rename_i hh
          refine ih.stick fun hy => ?_
          obtain ⟨hd, _⟩ := hf hy
          obtain ⟨g, hg, hn⟩ := hasF_true.1 hh
          obtain ⟨hk, he⟩ := List.getElem?_eq_some_iff.1 hfk
          have hsp : fs = fs.take k ++ f :: fs.drop (k + 1) := by
            rw [← he, ← List.drop_eq_getElem_cons hk, List.take_append_drop]
          rw [hsp] at hd
          exact (List.pairwise_append.1 hd).2.2 g hg f (by simp) hn
        split
        · exact ih
        · exact ih.lacks hW (hx.1.wf hw) fun hy => (hf hy).2 f (List.mem_iff_getElem?.2 ⟨k, hfk⟩)
theorem Mod.term (hW : Cl W) {s : T} {val : Nat → Val E} (h : Mod η W s val) (hw : Wf s.rows) {n : Nat} (hz : Sz s n) {x : Term} {y : W64} (hf : W y → NoDup x.fields ∧ Off x.fields (tv val (s.at_ x.tail))) : Mod η W (s.term x y).2 val := by
  rw [term_snd]; exact h.termFields hW hw hz hf _
theorem Mod.equal (hW : Cl W) {s : T} {val : Nat → Val E} (h : Mod η W s val) (hO : Ow s) {n : Nat} (hz : Sz s n) {a b : Term} (ha : a.tail < s.own.length) (hb : b.tail < s.own.length) {y : W64} (hre : W y → RowEq η val s a b) :
    ∃ val', (∀ i, i < s.rows.length → val' i = val i) ∧ Mod η W (s.equal a b y).2 val' := by
  have same : ∀ {s' : T}, Mod η W s' val → ∃ val', (∀ i, i < s.rows.length → val' i = val i) ∧ Mod η W s' val' := fun h' => ⟨val, fun _ _ => rfl, h'⟩
  have m1 := h.term hW hO.wf hz (x := a) (y := y) fun hy => ⟨(hre hy).dupa, (hre hy).offa⟩
  rcases (equal_eq3 s a b y hz).ex with ⟨s1, h1, hr⟩ | ⟨x1, s1, s2, h1, h2, hr⟩ | ⟨x1, s1, x2, s2, x3, s3, h1, h2, h3, hr, e2, e3, n1, n2, n3, z1, z2, z3⟩
  · rw [hr]; rw [h1] at m1; exact same m1
  · rw [hr]
    have n1 := term_nx s a y hz
    rw [h1] at m1 n1
    have m2 := m1.term hW (n1.1.wf hO.wf) n1.2 (x := b) (y := y) fun hy => ⟨(hre hy).dupb, by rw [n1.1.at_]; exact (hre hy).offb⟩
    rw [h2] at m2
    exact same m2
  · obtain ⟨k1, z1⟩ := z1
    obtain ⟨k2, z2⟩ := z2
    obtain ⟨k3, z3⟩ := z3
    rw [h1] at m1
    have m2 := m1.term hW (n1.wf hO.wf) z1 (x := b) (y := y) fun hy => ⟨(hre hy).dupb, by rw [n1.at_]; exact (hre hy).offb⟩
    rw [h2] at m2
    have hO3 := ((hO.nx n1).nx n2).nx n3
    have hO2 := (hO.nx n1).nx n2
    have m3 := m2.term hW hO2.wf z2 (x := a) (y := y) fun hy => ⟨(hre hy).dupa, by rw [n2.at_, n1.at_]; exact (hre hy).offa⟩
    rw [h3] at m3
    dsimp only at m2 m3
    have f3 := spreads_fin (fs := a.fields) (a := s.at_ a.tail) hO3.wf (by rw [n3.len, n2.len, n1.len]; exact (hO.at_ ha).2) (hO.at_ ha).1 hO3.tail
    have f2 := spreads_fin (fs := b.fields) (a := s.at_ b.tail) hO2.wf (by rw [n2.len, n1.len]; exact (hO.at_ hb).2) (hO.at_ hb).1 hO2.tail
    have q3 := m3.spreads hW hO3.wf a.fields (s.at_ a.tail)
    have q2 := m2.spreads hW hO2.wf b.fields (s.at_ b.tail)
    rw [← e3] at f3 q3
    rw [← e2] at f2 q2
    rw [hr, meet_def]
    have hE : W (y ||| x3.why ||| x2.why) → Eqv η val x3.fields x2.fields x3.fin x2.fin := fun hy => by
      obtain ⟨hy12, hy3⟩ := (hW.or _ _).1 hy
      obtain ⟨hy1, hy2⟩ := (hW.or _ _).1 hy12
      have hq := hre hy1
      obtain ⟨xa, a1, a2, a3, a4⟩ := q3 hy2
      obtain ⟨xb, b1, b2, b3, b4⟩ := q2 hy3
      have off : ∀ {fs ext : List Fld} {t e : Int}, Off fs (tv val t) → tv val t = Rw.sem η ext (tv val e) → Off ext (tv val e) → Off (fs ++ ext) (tv val e) := fun {fs ext t e} h1 h2 h3 g hg => by
        rcases List.mem_append.1 hg with hg | hg
        · have := h1 g hg
          rw [h2] at this
          by_cases he : Has ext g.name
          · obtain ⟨q, hq⟩ := findN_of he
            rw [sem_has η hq] at this; cases this
          · rw [sem_not η he] at this; exact this
        · exact h3 g hg
      have dup : ∀ {fs ext : List Fld} {t e : Int}, NoDup fs → NoDup ext → Off fs (tv val t) → tv val t = Rw.sem η ext (tv val e) → NoDup (fs ++ ext) := fun {fs ext t e} h1 h2 h3 h4 => by
        refine List.pairwise_append.2 ⟨h1, h2, fun p hp q hq e => ?_⟩
        have := h3 p hp
        rw [h4, e] at this
        obtain ⟨r, hr⟩ := findN_of (show Has ext q.name from ⟨q, hq, rfl⟩)
        rw [sem_has η hr] at this; cases this
      refine ⟨?_, by rw [a1]; exact off hq.offa a2 a3, by rw [b1]; exact off hq.offb b2 b3, by rw [a1]; exact dup hq.dupa a4 hq.offa a2, by rw [b1]; exact dup hq.dupb b4 hq.offb b2⟩
      rw [a1, b1, sem_app, sem_app, ← a2, ← b2]
      exact hq.eq
    generalize y ||| x3.why ||| x2.why = y' at *
    obtain ⟨p1, p2, p3⟩ := pairs_same x2.fields y' x3.fields s3
    have mp := m3.pairs (b := x2.fields) (y := y') x3.fields fun f hf g hg hy => by
      have hq := hE hy
      have := congrFun hq.eq f.name
      rw [sem_has η (findN_mem hq.dupa hf), sem_has η hg] at this
      exact Option.some.inj this
    obtain ⟨val', v1, v2⟩ := mp.meetTail hW (by rw [p1]; exact hO3.wf) (pairs_sz _ _ _ z3) (by rw [p1]; exact f3) (by rw [p1, n3.len]; exact f2) hE
    refine ⟨val', fun i hi => v1 i ?_, v2⟩
    rw [p1, n3.len, n2.len, n1.len]; exact hi
theorem hand_sound (hW : Cl W) {s : T} (hg : Gd s) {val : Nat → Val E} (h : Mod η W s val) {x : Asr} {y : W64} (hx : Acc s.own.length x → W y → Holds η val s x) : ∃ val', (∀ i, i < s.rows.length → val' i = val i) ∧ Mod η W (s.hand x y) val' := by
  have same : ∀ {s' : T}, Mod η W s' val → ∃ val', (∀ i, i < s.rows.length → val' i = val i) ∧ Mod η W s' val' := fun h' => ⟨val, fun _ _ => rfl, h'⟩
  have ht := tick_gd hg
  obtain ⟨n, hz⟩ := ht.sz
  cases x with
  | eq a b =>
    show ∃ val', (∀ i, i < s.rows.length → val' i = val i) ∧ Mod η W (s.equate a b y).2 val'
    rcases (equate_left hg a b y).ex with ⟨e, _⟩ | ⟨hs, hacc, hr, he⟩ | ⟨hs, hacc, _, he, hst, k1, k2, k3, k4, k5, _⟩
    · rw [e]; exact same h
    · obtain ⟨val', v1, v2⟩ := h.tick.equal hW ht.ow hz hacc.1 hacc.2 (y := y) (fun hy => (holds_own (s := s) (s' := s.tick) rfl (hx hacc hy) : Holds η val s.tick (.eq a b)))
      rw [he] at v2
      exact ⟨val', v1, v2⟩
    · obtain ⟨val', v1, v2⟩ := h.tick.equal hW ht.ow hz hacc.1 hacc.2 (y := y) (fun hy => (holds_own (s := s) (s' := s.tick) rfl (hx hacc hy) : Holds η val s.tick (.eq a b)))
      refine same ⟨fun i r hi => ?_, fun i r hi => ?_, fun e hi => ?_, fun _ => ?_⟩
      · rw [k1] at hi; exact h.row i r hi
      · rw [k1] at hi; exact h.lack i r hi
      · rw [k3] at hi; exact h.eqs e hi
      · rw [k5]; exact v2.stuck hst
  | lk v f =>
    show ∃ val', (∀ i, i < s.rows.length → val' i = val i) ∧ Mod η W (s.lacksOf v f y).2 val'
    rcases (lacksOf_left s v f y).ex with ⟨e, _⟩ | ⟨hs, hacc, he⟩
    · rw [e]; exact same h
    · have := h.tick.lacks hW ht.ow.wf (a := s.at_ v) (f := f) (y := y) fun hy => hx hacc hy
      rw [he] at this
      exact same this
theorem holds_congr {s s' : T} (hO : Ow s) (ho : s'.own = s.own) {val val' : Nat → Val E} (hv : ∀ i, i < s.rows.length → val' i = val i) {x : Asr} (hacc : Acc s.own.length x) (h : Holds η val s x) : Holds η val' s' x := by
  have e : ∀ t, t < (s.own.length : Int) → tv val' (s'.at_ t) = tv val (s.at_ t) := fun t ht => by
    have h1 := hO.at_ ht
    have h2 : s'.at_ t = s.at_ t := by unfold T.at_; rw [ho]
    rw [h2]
    unfold tv
    split
    · rfl
    · exact hv _ (by omega)
  cases x with
  | eq a b => exact ⟨h.dupa, h.dupb, by rw [e _ hacc.1]; exact h.offa, by rw [e _ hacc.2]; exact h.offb, by rw [e _ hacc.1, e _ hacc.2]; exact h.eq⟩
  | lk v f => show tv val' (s'.at_ v) f = none; rw [e _ hacc.2]; exact h
/-- A table keeps each solution of what is handed to it. -/
theorem feed_sound (hW : Cl W) : ∀ (l : List (Asr × W64)) {s : T}, Gd s → ∀ {val : Nat → Val E}, Mod η W s val → (∀ p ∈ l, Acc s.own.length p.1 → W p.2 → Holds η val s p.1) → ∃ val', (∀ i, i < s.rows.length → val' i = val i) ∧ Mod η W (s.feed l) val'
  | [], s, _, val, h, _ => ⟨val, fun _ _ => rfl, h⟩
  | x :: l, s, hg, val, h, hp => by
    obtain ⟨v1, a1, a2⟩ := hand_sound hW hg h (x := x.1) (y := x.2) (hp x (by simp))
    obtain ⟨hg1, ho⟩ := hand_gd hg x.1 x.2
    have hlen : s.rows.length ≤ (s.hand x.1 x.2).rows.length := by
      rcases (hand_left hg x.1 x.2).ex with ⟨e, _⟩ | ⟨_, _, _, hl, _⟩ | ⟨_, _, _, hr, _⟩
      · rw [e]; exact Nat.le_refl _
      · rcases Nat.eq_zero_or_pos s.rows.length with h0 | h0
        · omega
        · obtain ⟨r', h1, _⟩ := hl.row (s.rows.length - 1) _ (List.getElem?_eq_getElem (by omega))
          have := (List.getElem?_eq_some_iff.1 h1).1
          omega
      · rw [hr]; exact Nat.le_refl _
    obtain ⟨v2, b1, b2⟩ := feed_sound hW l hg1 a2 fun p hpl hacc hy => by
      rw [ho] at hacc
      exact holds_congr hg.ow ho a1 hacc (hp p (by simp [hpl]) hacc hy)
    exact ⟨v2, fun i hi => (b1 i (by omega)).trans (a1 i hi), b2⟩
end
end Rw
end Go.Proofs.YthnbhcfpfbimgaaGreat
/- Plain: how a table grows by one assertion, told by how many names there are. No program in sight. -/
namespace Go.Proofs.YthnbhcfpfbimgaaGreat
namespace Rw
theorem nodup_len {α : Type} [DecidableEq α] : ∀ {l U : List α}, l.Nodup → (∀ x ∈ l, x ∈ U) → l.length ≤ U.length
  | [], _, _, _ => Nat.zero_le _
  | a :: l, U, hn, hs => by
    obtain ⟨h1, h2⟩ := List.nodup_cons.1 hn
    have ha := hs a (by simp)
    have := nodup_len (l := l) (U := U.erase a) h2 fun x hx => (List.mem_erase_of_ne (fun e => h1 (by rw [← e]; exact hx))).2 (hs x (by simp [hx]))
    rw [List.length_erase_of_mem ha] at this
    have hp : 0 < U.length := List.length_pos_of_mem ha
    simp only [List.length_cons]
    omega
theorem dup_len {fs : List Fld} {U : List ByteArray} (h : NoDup fs) (hs : ∀ g ∈ fs, g.name ∈ U) : fs.length ≤ U.length := by
  have := nodup_len (l := fs.map Fld.name) (U := U) (List.pairwise_map.2 h) fun x hx => by
    obtain ⟨g, hg, rfl⟩ := List.mem_map.1 hx
    exact hs g hg
  simpa using this
structure Nm (U : List ByteArray) (s : T) : Prop where
  fields : ∀ (i : Nat) r, s.rows[i]? = some r → ∀ g ∈ r.fields, g.name ∈ U
  dup : ∀ (i : Nat) r, s.rows[i]? = some r → (r.lacks.map (·.field)).Nodup
  lacks : ∀ (i : Nat) r, s.rows[i]? = some r → ∀ l ∈ r.lacks, l.field ∈ U
section
variable {U : List ByteArray} {s : T}
theorem Nm.same {s' : T} (h : Nm U s) (hr : s'.rows = s.rows) : Nm U s' := ⟨by rw [hr]; exact h.fields, by rw [hr]; exact h.dup, by rw [hr]; exact h.lacks⟩
theorem Nm.stick (h : Nm U s) (y : W64) : Nm U (s.stick y) := h.same (stick_rows s y).1
theorem Nm.len (h : Nm U s) {i : Nat} {r : Row} (hr : s.rows[i]? = some r) : r.lacks.length ≤ U.length := by
  have := nodup_len (h.dup i r hr) fun x hx => by
    obtain ⟨l, hl, rfl⟩ := List.mem_map.1 hx
    exact h.lacks i r hr l hl
  simpa using this
theorem Nm.lacksOne (h : Nm U s) (a : Int) {f : ByteArray} (hf : f ∈ U) (y : W64) : Nm U (s.lacks a f y).2 := by
  unfold T.lacks
  simp only []
  split
  · exact h.stick _
  split
  · exact h
  split
  · exact h
  · rename_i hany
    generalize (s.spreads [] a).fin.toNat = k at *
    generalize y ||| (s.spreads [] a).why = z
    have key : ∀ (i : Nat) r, (s.rows.modify k fun x => { x with lacks := (s.rows.getD k row0).lacks ++ [⟨f, z⟩] })[i]? = some r → ∃ r0, s.rows[i]? = some r0 ∧ r.fields = r0.fields ∧ (r.lacks = r0.lacks ∨ (r.lacks = r0.lacks ++ [⟨f, z⟩] ∧ ¬ ∃ l ∈ r0.lacks, l.field = f)) := fun i r hr => by
      obtain ⟨r0, h1, h2⟩ := modify_get hr
      refine ⟨r0, h1, ?_⟩
      rw [h2]
      split
      · rename_i hki
        subst hki
        have hg : s.rows.getD k row0 = r0 := by rw [List.getD_eq_getElem?_getD, h1]; rfl
        rw [hg] at hany ⊢
        refine ⟨rfl, .inr ⟨rfl, fun ⟨l, hl, hlf⟩ => hany ?_⟩⟩
        rw [List.any_eq_true]
        exact ⟨l, hl, toList_iff.2 hlf⟩
      · exact ⟨rfl, .inl rfl⟩
    refine ⟨fun i r hr => ?_, fun i r hr => ?_, fun i r hr => ?_⟩
    · obtain ⟨r0, h1, h2, _⟩ := key i r hr
      rw [h2]; exact h.fields i r0 h1
    · obtain ⟨r0, h1, _, h3 | ⟨h3, h4⟩⟩ := key i r hr
      · rw [h3]; exact h.dup i r0 h1
      · rw [h3, List.map_append]
        refine List.nodup_append.2 ⟨h.dup i r0 h1, by simp, fun a ha b hb e => ?_⟩
        simp at hb
        obtain ⟨l, hl, rfl⟩ := List.mem_map.1 ha
        exact h4 ⟨l, hl, e.trans hb⟩
    · obtain ⟨r0, h1, _, h3 | ⟨h3, _⟩⟩ := key i r hr
      · rw [h3]; exact h.lacks i r0 h1
      · rw [h3]
        intro l hl
        rcases List.mem_append.1 hl with hl | hl
        · exact h.lacks i r0 h1 l hl
        · obtain rfl := List.mem_singleton.1 hl; exact hf
theorem Nm.lackAll {t : Int} : ∀ (L : List (ByteArray × W64)) {s : T}, Nm U s → (∀ x ∈ L, x.1 ∈ U) → Nm U (s.lackAll t L).2
  | [], _, h, _ => h
  | x :: L, s, h, hL => by
    have h1 := h.lacksOne t (hL x (by simp)) x.2
    unfold T.lackAll
    rcases hl : s.lacks t x.1 x.2 with ⟨b, s'⟩
    rw [hl] at h1
    cases b with
    | false => exact h1
    | true => exact Nm.lackAll L h1 fun q hq => hL q (by simp [hq])
theorem Nm.bind (h : Nm U s) {i : Nat} (hi : i < s.rows.length) {fs : List Fld} (hfs : ∀ g ∈ fs, g.name ∈ U) (hl : fs.length ≤ U.length) (t : Int) (y : W64) {n : Nat} (hz : Sz s n) : Nm U (s.bind i fs t y).2 ∧ Sz (s.bind i fs t y).2 (n + 3 * U.length + 1) := by
  obtain ⟨x, hx⟩ : ∃ x, s.rows[i]? = some x := ⟨s.rows[i], List.getElem?_eq_getElem hi⟩
  cases hc : clash x.lacks fs with
  | some l => rw [bind_hit hx hc]; exact ⟨h.stick _, (hz.stick _).mono (by omega)⟩
  | none =>
    rw [bind_none hx hc]
    have hs := bindS_sz (fs := fs) (tail := t) (y := y) hz hx
    have hn : Nm U (bindS s i x fs t y) := by
      refine ⟨fun j r hr => ?_, fun j r hr => ?_, fun j r hr => ?_⟩ <;> rcases set_get (show (s.rows.set i _)[j]? = some r from hr) with ⟨rfl, rfl⟩ | ⟨_, h2⟩
      · exact hfs
      · exact h.fields j r h2
      · exact h.dup j x hx
      · exact h.dup j r h2
      · exact h.lacks j x hx
      · exact h.lacks j r h2
    split
    · exact ⟨hn, hs.mono (by omega)⟩
    · refine ⟨hn.lackAll _ fun p hp => ?_, (lackAll_nx t (bindL x fs y) _ hs).2.mono ?_⟩
      · unfold bindL at hp
        rcases List.mem_append.1 hp with hp | hp
        · obtain ⟨l, hl, rfl⟩ := List.mem_map.1 hp
          exact h.lacks i x hx l hl
        · obtain ⟨g, hg, rfl⟩ := List.mem_map.1 hp
          exact hfs g hg
      · rw [bindL_len]
        have := h.len hx
        omega
theorem Nm.fresh (h : Nm U s) : Nm U s.fresh := by
  have key : ∀ (k : Nat) r, s.fresh.rows[k]? = some r → s.rows[k]? = some r ∨ r = row0 := fun k r hk => by
    have hr : s.fresh.rows = s.rows ++ [row0] := rfl
    rw [hr] at hk
    rcases Nat.lt_or_ge k s.rows.length with hl | hl
    · rw [List.getElem?_append_left hl] at hk; exact .inl hk
    · rw [List.getElem?_append_right hl] at hk
      have := List.mem_of_getElem? hk
      simp at this; exact .inr this
  refine ⟨fun i r hr => ?_, fun i r hr => ?_, fun i r hr => ?_⟩ <;> rcases key i r hr with h1 | rfl
  · exact h.fields i r h1
  · simp [row0]
  · exact h.dup i r h1
  · simp [row0]
  · exact h.lacks i r h1
  · simp [row0]
theorem Nm.meetTail (h : Nm U s) (hw : Wf s.rows) {fa fb : Int} (hfa : -1 ≤ fa ∧ fa < s.rows.length) (hfb : -1 ≤ fb ∧ fb < s.rows.length) {more less : List Fld} (hm : ∀ g ∈ more, g.name ∈ U) (hl : ∀ g ∈ less, g.name ∈ U) (hml : more.length ≤ U.length) (hll : less.length ≤ U.length) (y : W64) {n : Nat} (hz : Sz s n) :
    Nm U (s.meetTail fa fb more less y).2 ∧ Sz (s.meetTail fa fb more less y).2 (n + 6 * U.length + 4) := by
  have one : ∀ {k : Nat} {fs : List Fld}, k < s.rows.length → (∀ g ∈ fs, g.name ∈ U) → fs.length ≤ U.length → Nm U (match s.bind k fs (-1) y with | (true, s2) => (true, s2) | (false, s2) => (false, s2.stick y)).2 ∧ Sz (match s.bind k fs (-1) y with | (true, s2) => (true, s2) | (false, s2) => (false, s2.stick y)).2 (n + 6 * U.length + 4) := fun {k fs} hk h1 h2 => by
    obtain ⟨m1, m2⟩ := h.bind hk h1 h2 (-1) y hz
    rcases hb : s.bind k fs (-1) y with ⟨b1, s2⟩
    rw [hb] at m1 m2
    cases b1 with
    | true => exact ⟨m1, m2.mono (by omega)⟩
    | false => exact ⟨m1.stick _, (m2.stick _).mono (by omega)⟩
  unfold T.meetTail
  by_cases h1 : fa = fb
  · rw [if_pos h1]
    split
    · exact ⟨h.stick _, (hz.stick _).mono (by omega)⟩
    · exact ⟨h, hz.mono (by omega)⟩
  rw [if_neg h1]
  by_cases h2 : fa < 0
  · rw [if_pos h2]
    split
    · exact one (by omega) hl hll
    · exact ⟨h.stick _, (hz.stick _).mono (by omega)⟩
  rw [if_neg h2]
  by_cases h3 : fb < 0
  · rw [if_pos h3]
    split
    · exact one (by omega) hm hml
    · exact ⟨h.stick _, (hz.stick _).mono (by omega)⟩
  rw [if_neg h3]
  obtain ⟨fw, fl, _, fz⟩ := fresh_gr hz hw
  have hka : fa.toNat < s.fresh.rows.length := by omega
  obtain ⟨m1, m2⟩ := h.fresh.bind hka hm hml (s.rows.length : Nat) y fz
  have hg := bind_gr (fs := more) (tail := (s.rows.length : Nat)) (y := y) (i := fa.toNat) fz fw hka (.inr ⟨by omega, by omega⟩)
  rcases hb1 : s.fresh.bind fa.toNat more (s.rows.length : Nat) y with ⟨b1, s2⟩
  rw [hb1] at m1 m2 hg
  cases b1 with
  | false => exact ⟨m1, m2.mono (by omega)⟩
  | true =>
    obtain ⟨k1, k2⟩ := m1.bind (i := fb.toNat) (by have := hg.len; dsimp only at this; show fb.toNat < s2.rows.length; omega) hl hll (s.rows.length : Nat) y m2
    exact ⟨k1, k2.mono (by omega)⟩
theorem Nm.pairs (h : Nm U s) (b : List Fld) (y : W64) (l : List Fld) : Nm U (s.pairs b y l) := h.same (pairs_same b y l s).1
theorem Nm.termFields (h : Nm U s) (a : Int) (y : W64) {fs : List Fld} (hf : ∀ g ∈ fs, g.name ∈ U) : ∀ k, Nm U (s.termFields a y fs k).2
  | 0 => h
  | k + 1 => by
    have ih := Nm.termFields h a y hf k
    rcases hr : s.termFields a y fs k with ⟨b, sk⟩
    rw [hr] at ih
    cases b with
    | false => rw [termFields_false hr 1]; exact ih
    | true =>
      cases hfk : fs[k]? with
      | none => simp only [T.termFields, hr, hfk]; exact ih
      | some f =>
        rw [termFields_succ hr hfk]
        split
        · exact ih.stick _
        split
        · exact ih
        · exact ih.lacksOne _ (hf f (List.mem_iff_getElem?.2 ⟨k, hfk⟩)) _
theorem Nm.term (h : Nm U s) {x : Term} (hx : ∀ g ∈ x.fields, g.name ∈ U) (y : W64) : Nm U (s.term x y).2 := by rw [term_snd]; exact h.termFields _ _ hx _
theorem Nm.path (h : Nm U s) {t e : Int} {x : List Fld} (p : Path s.rows t x e) : ∀ g ∈ x, g.name ∈ U := by
  induction p with
  | none => simp
  | free => simp
  | step _ hr _ _ ih =>
    intro g hg
    rcases List.mem_append.1 hg with hg | hg
    · exact h.fields _ _ hr g hg
    · exact ih g hg
/-- The known fields of a row are no more than the names. -/
theorem Nm.spreads (h : Nm U s) (hO : Ow s) (hI : Inv s.rows) {t : Int} (ht : t < s.rows.length) : NoDup (s.spreads [] t).fields ∧ (s.spreads [] t).fields.length ≤ U.length := by
  obtain ⟨ext, h1, h2⟩ := s.path hO.wf ht []
  rw [h2, List.nil_append]
  exact ⟨path_dup hI h1, dup_len (path_dup hI h1) (h.path h1)⟩
theorem Nm.equal (h : Nm U s) (hO : Ow s) (hI : Inv s.rows) {a b : Term} (ha : a.tail < s.own.length) (hb : b.tail < s.own.length) (hna : ∀ g ∈ a.fields, g.name ∈ U) (hnb : ∀ g ∈ b.fields, g.name ∈ U) (y : W64) {n : Nat} (hz : Sz s n) :
    Nm U (s.equal a b y).2 ∧ Sz (s.equal a b y).2 (n + 7 * U.length + 2 * a.fields.length + b.fields.length + 8) := by
  rcases (equal_eq3 s a b y hz).ex with ⟨s1, h1, hr⟩ | ⟨x1, s1, s2, h1, h2, hr⟩ | ⟨x1, s1, x2, s2, x3, s3, h1, h2, h3, hr, e2, e3, n1, n2, n3, _, _, _⟩
  · rw [hr]
    have k1 := h.term hna y
    have z1 := (term_nx s a y hz).2
    rw [h1] at k1 z1
    exact ⟨k1, z1.mono (by omega)⟩
  · rw [hr]
    have k1 := h.term hna y
    have z1 := (term_nx s a y hz).2
    rw [h1] at k1 z1
    have k2 := k1.term hnb y
    have z2 := (term_nx s1 b y z1).2
    rw [h2] at k2 z2
    exact ⟨k2, z2.mono (by omega)⟩
  · have k1 := h.term hna y
    have z1 := (term_nx s a y hz).2
    rw [h1] at k1 z1
    have k2 := k1.term hnb y
    have z2 := (term_nx s1 b y z1).2
    rw [h2] at k2 z2
    have k3 := k2.term hna y
    have z3 := (term_nx s2 a y z2).2
    rw [h3] at k3 z3
    dsimp only at k1 k2 k3 z1 z2 z3
    have hO1 := hO.nx n1
    have hO2 := hO1.nx n2
    have hO3 := hO2.nx n3
    have t1 := term_ok hO ha (y := y) hz (by rw [h1]; rfl)
    rw [h1] at t1
    have t2 := term_ok hO1 (x := b) (by rw [n1.own]; exact hb) (y := y) z1 (by rw [h2]; rfl)
    rw [h2] at t2
    have t3 := term_ok hO2 (x := a) (by rw [n2.own, n1.own]; exact ha) (y := y) z2 (by rw [h3]; rfl)
    rw [h3] at t3
    dsimp only at t1 t2 t3
    rw [n1.at_] at t2
    rw [n2.at_, n1.at_] at t3
    have hI3 := t3.mo.inv (t2.mo.inv (t1.mo.inv hI))
    obtain ⟨a1, a2⟩ := hO.at_ ha
    obtain ⟨b1, b2⟩ := hO.at_ hb
    have l1 := n1.len
    have l2 := n2.len
    have l3 := n3.len
    have e2' : x2 = s3.spreads b.fields (s.at_ b.tail) := by rw [e2, n3.spreads]
    have hdx3 : NoDup x3.fields := by rw [e3]; exact T.dup hO3 hI3 (by omega) t3.dup t3.nof
    have hdx2 : NoDup x2.fields := by rw [e2']; exact T.dup hO3 hI3 (by omega) t2.dup fun g hg => t3.mo.nof (t2.nof g hg)
    have f3 := spreads_fin (fs := a.fields) (a := s.at_ a.tail) hO3.wf (by omega) a1 hO3.tail
    have f2 := spreads_fin (fs := b.fields) (a := s.at_ b.tail) hO3.wf (by omega) b1 hO3.tail
    obtain ⟨xa, p3, q3⟩ := s3.path hO3.wf (t := s.at_ a.tail) (by omega) a.fields
    obtain ⟨xb, p2, q2⟩ := s3.path hO3.wf (t := s.at_ b.tail) (by omega) b.fields
    rw [← e3] at f3 q3
    rw [← e2'] at f2 q2
    have nm3 : ∀ g ∈ x3.fields, g.name ∈ U := fun g hg => by
      rw [q3] at hg
      rcases List.mem_append.1 hg with hg | hg
      · exact hna g hg
      · exact k3.path p3 g hg
    have nm2 : ∀ g ∈ x2.fields, g.name ∈ U := fun g hg => by
      rw [q2] at hg
      rcases List.mem_append.1 hg with hg | hg
      · exact hnb g hg
      · exact k3.path p2 g hg
    have sub : ∀ {p q : List Fld}, (∀ g ∈ p, g.name ∈ U) → ∀ g ∈ without p q, g.name ∈ U := fun h g hg => h g (List.mem_filter.1 hg).1
    have w1 := Nat.le_trans (without_len x2.fields x3.fields) (dup_len hdx2 nm2)
    have w2 := Nat.le_trans (without_len x3.fields x2.fields) (dup_len hdx3 nm3)
    have w3 := dup_len hdx3 nm3
    rw [hr, meet_def]
    generalize y ||| x3.why ||| x2.why = y' at *
    obtain ⟨r1, r2, r3⟩ := pairs_same x2.fields y' x3.fields s3
    obtain ⟨m1, m2⟩ := (k3.pairs x2.fields y' x3.fields).meetTail (by rw [r1]; exact hO3.wf) (by rw [r1]; exact f3) (by rw [r1]; exact f2) (sub nm2) (sub nm3) w1 w2 y' (pairs_sz x2.fields y' x3.fields z3)
    exact ⟨m1, m2.mono (by omega)⟩
/-- The names of an assertion. -/
def NmA (U : List ByteArray) (K : Nat) : Asr → Prop
  | .eq a b => (∀ g ∈ a.fields, g.name ∈ U) ∧ (∀ g ∈ b.fields, g.name ∈ U) ∧ a.fields.length ≤ K ∧ b.fields.length ≤ K
  | .lk _ f => f ∈ U
theorem Nm.hand (h : Nm U s) (hg : Gd s) {K : Nat} {x : Asr} (hx : NmA U K x) (y : W64) {n : Nat} (hz : Sz s n) : Nm U (s.hand x y) ∧ Sz (s.hand x y) (n + 7 * U.length + 3 * K + 9) := by
  have ht := tick_gd hg
  have hzt : Sz s.tick (n + 1) := ⟨Nat.le_trans hz.tot (by omega), fun k r hr => Nat.le_trans (hz.lacks k r hr) (by omega), Nat.le_trans hz.undo (by omega), Nat.le_trans hz.rows (by omega), Nat.le_trans hz.own (by omega), Nat.le_trans hz.eqs (by omega), by have := hz.times; simp [T.tick]; omega⟩
  cases x with
  | eq a b =>
    obtain ⟨h1, h2, h3, h4⟩ := hx
    show Nm U (s.equate a b y).2 ∧ Sz (s.equate a b y).2 _
    rcases (equate_left hg a b y).ex with ⟨e, _⟩ | ⟨hs, hacc, hr, he⟩ | ⟨hs, hacc, _, he, hst, k1, k2, k3, k4, k5, k6, k7⟩
    · rw [e]; exact ⟨h, hz.mono (by omega)⟩
    · obtain ⟨m1, m2⟩ := Nm.equal (s := s.tick) (h.same rfl) ht.ow ht.inv (a := a) (b := b) hacc.1 hacc.2 h1 h2 y hzt
      rw [he] at m1 m2
      exact ⟨m1, m2.mono (by omega)⟩
    · exact ⟨h.same k1, (sz_failed hz k1 k2 k3 k6 k7).mono (by omega)⟩
  | lk v f =>
    show Nm U (s.lacksOf v f y).2 ∧ Sz (s.lacksOf v f y).2 _
    rcases (lacksOf_left s v f y).ex with ⟨e, _⟩ | ⟨hs, hacc, he⟩
    · rw [e]; exact ⟨h, hz.mono (by omega)⟩
    · have m1 := Nm.lacksOne (s := s.tick) (h.same rfl) (s.at_ v) hx y
      have m2 := (lacks_nx s.tick (s.at_ v) f y hzt).2
      rw [he] at m1 m2
      exact ⟨m1, m2.mono (by omega)⟩
end
end Rw
end Go.Proofs.YthnbhcfpfbimgaaGreat
