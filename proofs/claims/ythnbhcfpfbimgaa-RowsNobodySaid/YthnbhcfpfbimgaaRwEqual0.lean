/- Plain: what a term tells hangs on the bound rows alone; the third term of an equation is as the first. -/
import Derived.Test.YthnbhcfpfbimgaaRwMeet
namespace Go.Proofs.Ythnbhcfpfbimgaa
namespace Rw
theorem spread_nx {rows rows' : List Row} (h : ∀ (i : Nat) r, rows'[i]? = some r → ∃ r0, rows[i]? = some r0 ∧ r.bound = r0.bound ∧ r.tail = r0.tail ∧ r.fields = r0.fields ∧ r.why = r0.why) (hl : rows'.length = rows.length) : ∀ (m : Nat) (s : Sp), spread rows' m s = spread rows m s
  | 0, s => rfl
  | m + 1, s => by
    by_cases h0 : s.fin < 0
    · rw [spread_neg h0, spread_neg h0]
    · cases hx : rows'[s.fin.toNat]? with
      | none =>
        have hn : rows[s.fin.toNat]? = none := by
          rw [List.getElem?_eq_none_iff] at hx ⊢
          omega
        unfold spread
        rw [if_neg h0, if_neg h0, hx, hn]
      | some r =>
        obtain ⟨r0, h1, h2, h3, h4, h5⟩ := h _ r hx
        cases hb : r.bound with
        | false => rw [spread_free hx hb, spread_free h1 (by rw [← h2]; exact hb)]
        | true =>
          rw [spread_bound (by omega) hx hb, spread_bound (by omega) h1 (by rw [← h2]; exact hb), h3, h4, h5]
          exact spread_nx h hl m _
theorem Nx.spreads {s s' : T} (h : Nx s s') (fs : List Fld) (a : Int) : s'.spreads fs a = s.spreads fs a := by
  unfold T.spreads
  rw [h.len]
  exact spread_nx h.row h.len _ _
theorem lacks_fst (s : T) (a : Int) (f : ByteArray) (y : W64) : (s.lacks a f y).1 = !hasF (s.spreads [] a).fields f := by
  unfold T.lacks
  simp only []
  split
  · rename_i h; rw [h]; rfl
  · rename_i h
    rw [show hasF (s.spreads [] a).fields f = false by simpa using h]
    split
    · rfl
    split <;> rfl
theorem termFields_iff (s : T) (a : Int) (y : W64) (fs : List Fld) {n : Nat} (hz : Sz s n) : ∀ k, (s.termFields a y fs k).1 = true ↔ ∀ (j : Nat) f, j < k → fs[j]? = some f → hasF (fs.take j) f.name = false ∧ (a < 0 ∨ hasF (s.spreads [] a).fields f.name = false)
  | 0 => ⟨fun _ j f hj => by omega, fun _ => rfl⟩
  | k + 1 => by
    have ih := termFields_iff s a y fs hz k
    have hx := (termFields_nx s a y fs hz k).1
    rcases hr : s.termFields a y fs k with ⟨b, sk⟩
    rw [hr] at ih hx
    cases b with
    | false =>
      rw [termFields_false hr 1]
      refine ⟨fun h => (by cases h), fun h => ?_⟩
      have := ih.2 fun j f hj => h j f (by omega)
      cases this
    | true =>
      have hall := ih.1 rfl
      cases hf : fs[k]? with
      | none =>
        simp only [T.termFields, hr, hf]
        refine ⟨fun _ j f hj hjf => ?_, fun _ => trivial⟩
        rcases Nat.lt_or_ge j k with h | h
        · exact hall j f h hjf
        · obtain rfl : j = k := by omega
          rw [hf] at hjf; cases hjf
      | some f =>
        rw [termFields_succ hr hf]
        have key : (if hasF (fs.take k) f.name then (false, sk.stick y) else if a < 0 then (true, sk) else sk.lacks a f.name y).1 = true ↔ hasF (fs.take k) f.name = false ∧ (a < 0 ∨ hasF (s.spreads [] a).fields f.name = false) := by
          split
          · rename_i h; simp [h]
          · rename_i h
            have h' : hasF (fs.take k) f.name = false := by simpa using h
            split
            · rename_i h2; simp [h', h2]
            · rename_i h2
              rw [lacks_fst, hx.spreads]
              simp [h', h2]
        rw [key]
        refine ⟨fun h j f' hj hjf => ?_, fun h => h k f (by omega) hf⟩
        rcases Nat.lt_or_ge j k with h1 | h1
        · exact hall j f' h1 hjf
        · obtain rfl : j = k := by omega
          rw [hf] at hjf; cases hjf; exact h
theorem term_isSome (s : T) (x : Term) (y : W64) : (s.term x y).1.isSome = (s.termFields (s.at_ x.tail) y x.fields x.fields.length).1 := by
  unfold T.term
  rcases s.termFields (s.at_ x.tail) y x.fields x.fields.length with ⟨b, sk⟩
  cases b <;> rfl
theorem Nx.at_ {s s' : T} (h : Nx s s') (t : Int) : s'.at_ t = s.at_ t := by unfold T.at_; rw [h.own]
theorem Nx.term {s s' : T} (h : Nx s s') (x : Term) (y : W64) {n m : Nat} (hz : Sz s n) (hz' : Sz s' m) : (s'.term x y).1.isSome = (s.term x y).1.isSome := by
  rw [term_isSome, term_isSome, h.at_, Bool.eq_iff_iff, termFields_iff s' _ y _ hz', termFields_iff s _ y _ hz, h.spreads]
/-- The end of what is spread is a row that is free, or none. -/
theorem spreads_fin {s : T} {fs : List Fld} {a : Int} (hw : Wf s.rows) (ha : a < s.rows.length) (ha1 : -1 ≤ a) (ht : ∀ (i : Nat) r, s.rows[i]? = some r → -1 ≤ r.tail) : -1 ≤ (s.spreads fs a).fin ∧ (s.spreads fs a).fin < s.rows.length := by
  have h1 := ((Go.start (rows := s.rows) (fs := fs) (at_ := a) (N := fs.length + tot s.rows) ha (Nat.le_refl _)).fin_ok hw).1
  have key : ∀ (m : Nat) (p : Sp), -1 ≤ p.fin → -1 ≤ (spread s.rows m p).fin := by
    intro m
    induction m with
    | zero => exact fun p h => h
    | succ m ih =>
      intro p h
      by_cases h0 : p.fin < 0
      · rw [spread_neg h0]; exact h
      · cases hx : s.rows[p.fin.toNat]? with
        | none => unfold spread; rw [if_neg h0, hx]; exact h
        | some r =>
          cases hb : r.bound with
          | false => rw [spread_free hx hb]; exact h
          | true => rw [spread_bound (by omega) hx hb]; exact ih _ (ht _ r hx)
  refine ⟨key _ _ ha1, ?_⟩
  rcases h1 with h | h
  · exact Int.lt_of_lt_of_le h (by omega)
  · exact h.1
/-- How many fields a spread has. -/
theorem spreads_len {s : T} {fs : List Fld} {a : Int} (hw : Wf s.rows) (ha : a < s.rows.length) : (s.spreads fs a).fields.length ≤ fs.length + tot s.rows :=
  ((Go.start (rows := s.rows) (fs := fs) (at_ := a) (N := fs.length + tot s.rows) ha (Nat.le_refl _)).fin_ok hw).2
/-- The own rows are there, and no tail is below -1. -/
structure Ow (s : T) : Prop where
  wf : Wf s.rows
  tail : ∀ (i : Nat) r, s.rows[i]? = some r → -1 ≤ r.tail
  own : ∀ o ∈ s.own, o < s.rows.length
theorem Ow.nx {s s' : T} (h : Ow s) (hx : Nx s s') : Ow s' := ⟨hx.wf h.wf, fun i r hr => by
  obtain ⟨r0, h1, _, h3, _⟩ := hx.row i r hr
  rw [h3]; exact h.tail i r0 h1, fun o ho => by rw [hx.own] at ho; rw [hx.len]; exact h.own o ho⟩
theorem Ow.at_ {s : T} (h : Ow s) {t : Int} (ht : t < s.own.length) : -1 ≤ s.at_ t ∧ s.at_ t < s.rows.length := by
  unfold T.at_
  split
  · omega
  · rename_i h0
    obtain ⟨o, hq⟩ : ∃ o, s.own[t.toNat]? = some o := ⟨s.own[t.toNat], List.getElem?_eq_getElem (by omega)⟩
    rw [List.getD_eq_getElem?_getD, hq]
    have := h.own o (List.mem_iff_getElem?.2 ⟨_, hq⟩)
    simp
    omega
/-- The three terms of an equation. -/
theorem equal_1 {s s1 : T} {a b : Term} {y : W64} (h : s.term a y = (none, s1)) : s.equal a b y = (false, s1) := by simp only [T.equal, h]
theorem equal_2 {s s1 s2 : T} {a b : Term} {y : W64} {x1 : Sp} (h : s.term a y = (some x1, s1)) (h2 : s1.term b y = (none, s2)) : s.equal a b y = (false, s2) := by simp only [T.equal, h, h2]
theorem equal_3 {s s1 s2 s3 : T} {a b : Term} {y : W64} {x1 x2 x3 : Sp} (h : s.term a y = (some x1, s1)) (h2 : s1.term b y = (some x2, s2)) (h3 : s2.term a y = (some x3, s3)) : s.equal a b y = s3.meet x3 x2 (y ||| x3.why ||| x2.why) := by simp only [T.equal, h, h2, h3]
theorem equal_not {s s1 s2 s3 : T} {a b : Term} {y : W64} {x1 x2 : Sp} {n : Nat} (hz : Sz s n) (h : s.term a y = (some x1, s1)) (h2 : s1.term b y = (some x2, s2)) (h3 : s2.term a y = (none, s3)) : False := by
  obtain ⟨n1, z1⟩ := term_nx s a y hz
  rw [h] at n1 z1
  obtain ⟨n2, z2⟩ := term_nx s1 b y z1
  rw [h2] at n2 z2
  have := (n1.trans n2).term a y hz z2
  rw [h, h3] at this
  cases this
theorem term_some {s s1 : T} {x : Term} {y : W64} {p : Sp} (h : s.term x y = (some p, s1)) : p = s1.spreads x.fields (s.at_ x.tail) := by
  unfold T.term at h
  rcases hr : s.termFields (s.at_ x.tail) y x.fields x.fields.length with ⟨b, sk⟩
  rw [hr] at h
  cases b
  · cases h
  · simp only [Prod.mk.injEq, Option.some.injEq] at h
    obtain ⟨h1, rfl⟩ := h
    exact h1.symm
end Rw
end Go.Proofs.Ythnbhcfpfbimgaa
