/- Plain: the pairs of two spreads, and what a bind leaves. -/
import Derived.Test.YthnbhcfpfbimgaaRwTerm
namespace Go.Proofs.Ythnbhcfpfbimgaa
namespace Rw
theorem findI_pos {fs : List Fld} {f : ByteArray} (h : ¬ findI fs f < 0) : ∃ (i : Nat) (g : Fld), findI fs f = i ∧ fs[i]? = some g ∧ fs.find? (fun x => x.name.toList == f.toList) = some g := by
  unfold findI findF at *
  cases hf : fs.findIdx? fun x => x.name.toList == f.toList with
  | none => rw [hf] at h; simp at h
  | some i =>
    obtain ⟨hi, h1, h2⟩ := List.findIdx?_eq_some_iff_getElem.1 hf
    refine ⟨i, fs[i], rfl, List.getElem?_eq_getElem hi, ?_⟩
    rw [List.find?_eq_some_iff_getElem]
    exact ⟨h1, i, hi, rfl, fun j hj => by simpa using h2 j hj⟩
theorem findI_neg {fs : List Fld} {f : ByteArray} (h : findI fs f < 0) : fs.find? (fun x => x.name.toList == f.toList) = none := by
  unfold findI findF at h
  cases hf : fs.findIdx? fun x => x.name.toList == f.toList with
  | none =>
    rw [List.findIdx?_eq_none_iff] at hf
    rw [List.find?_eq_none]
    intro x hx
    simp [hf x hx]
  | some i => rw [hf] at h; simp at h; omega
/-- Where the pairs of two spreads stand. -/
structure PrS (s : T) (b : List Fld) (y : W64) (a : List Fld) (n k : Nat) (sk : T) : Prop where
  run : sk.pairs b y (a.drop k) = s.pairs b y a
  rows : sk.rows = s.rows
  own : sk.own = s.own
  sz : Sz sk (n + k)
theorem PrS.start {s : T} {b : List Fld} {y : W64} {a : List Fld} {n : Nat} (h : Sz s n) : PrS s b y a n 0 s := ⟨rfl, rfl, rfl, h⟩
theorem PrS.skip {s sk : T} {b : List Fld} {y : W64} {a : List Fld} {n k : Nat} {f : Fld} (h : PrS s b y a n k sk) (hf : a[k]? = some f) (hn : findI b f.name < 0) : PrS s b y a n (k + 1) sk := by
  obtain ⟨hk, hx⟩ := List.getElem?_eq_some_iff.1 hf
  refine ⟨?_, h.rows, h.own, h.sz.mono (by omega)⟩
  rw [← h.run, List.drop_eq_getElem_cons hk, hx]
  simp only [T.pairs, findI_neg hn]
theorem PrS.step {s sk : T} {b : List Fld} {y : W64} {a : List Fld} {n k : Nat} {f g : Fld} (h : PrS s b y a n k sk) (hf : a[k]? = some f) (hg : b.find? (fun x => x.name.toList == f.name.toList) = some g) : PrS s b y a n (k + 1) (sk.pair f.at_ g.at_ y) := by
  obtain ⟨hk, hx⟩ := List.getElem?_eq_some_iff.1 hf
  have hs := h.sz
  refine ⟨?_, h.rows, h.own, ⟨Nat.le_trans hs.tot (by omega), fun i r hr => Nat.le_trans (hs.lacks i r hr) (by omega), ?_, Nat.le_trans hs.rows (by omega), Nat.le_trans hs.own (by omega), ?_, Nat.le_trans hs.times (by omega)⟩⟩
  · rw [← h.run, List.drop_eq_getElem_cons hk, hx]
    simp only [T.pairs, hg]
  · have := hs.undo; simp [T.pair, T.did]; omega
  · have := hs.eqs; simp [T.pair, T.did]; omega
theorem PrS.done {s sk : T} {b : List Fld} {y : W64} {a : List Fld} {n : Nat} (h : PrS s b y a n a.length sk) : s.pairs b y a = sk := by
  rw [← h.run, List.drop_length]; rfl
/-- What a bind leaves. -/
structure Gr (s s' : T) (n : Nat) : Prop where
  wf : Wf s'.rows
  len : s'.rows.length = s.rows.length
  own : s'.own = s.own
  sz : Sz s' n
theorem lackAll_nx (tail : Int) : ∀ (L : List (ByteArray × W64)) (s : T) {n : Nat}, Sz s n → Nx s (s.lackAll tail L).2 ∧ Sz (s.lackAll tail L).2 (n + L.length)
  | [], s, n, h => ⟨Nx.refl _, h⟩
  | x :: L, s, n, h => by
    obtain ⟨h1, h2⟩ := lacks_nx s tail x.1 x.2 h
    unfold T.lackAll
    rcases hl : s.lacks tail x.1 x.2 with ⟨b, s'⟩
    rw [hl] at h1 h2
    cases b with
    | false => exact ⟨h1, h2.mono (by rw [List.length_cons]; omega)⟩
    | true =>
      obtain ⟨h3, h4⟩ := lackAll_nx tail L s' h2
      exact ⟨h1.trans h3, h4.mono (by rw [List.length_cons]; omega)⟩
theorem bind_gr {s : T} {i n : Nat} {fs : List Fld} {tail : Int} {y : W64} (h : Sz s n) (hw : Wf s.rows) (hi : i < s.rows.length) (ht : tail < 0 ∨ ((i : Int) < tail ∧ tail < s.rows.length)) : Gr s (s.bind i fs tail y).2 (n + n + fs.length + fs.length + 1) := by
  obtain ⟨x, hx⟩ : ∃ x, s.rows[i]? = some x := ⟨s.rows[i], List.getElem?_eq_getElem hi⟩
  cases hc : clash x.lacks fs with
  | some l =>
    rw [bind_hit hx hc]
    have := Nx.stick s (y ||| l.why)
    exact ⟨this.wf hw, this.len, this.own, (h.stick _).mono (by omega)⟩
  | none =>
    rw [bind_none hx hc]
    have hl : (bindS s i x fs tail y).rows.length = s.rows.length := by simp [bindS, T.did]
    have hs := bindS_sz (fs := fs) (tail := tail) (y := y) h hx
    have hw2 := bindS_wf (x := x) (fs := fs) (y := y) hw ht
    split
    · exact ⟨hw2, hl, rfl, hs.mono (by omega)⟩
    · obtain ⟨h1, h2⟩ := lackAll_nx tail (bindL x fs y) _ hs
      have := h.lacks i x hx
      exact ⟨h1.wf hw2, h1.len.trans hl, h1.own, h2.mono (by rw [bindL_len]; omega)⟩
theorem fresh_gr {s : T} {n : Nat} (h : Sz s n) (hw : Wf s.rows) : Wf s.fresh.rows ∧ s.fresh.rows.length = s.rows.length + 1 ∧ s.fresh.own = s.own ∧ Sz s.fresh (n + 1) := by
  have hr : s.fresh.rows = s.rows ++ [row0] := rfl
  have key : ∀ (k : Nat) r, s.fresh.rows[k]? = some r → s.rows[k]? = some r ∨ r = row0 := fun k r hk => by
    rw [hr] at hk
    rcases Nat.lt_or_ge k s.rows.length with hl | hl
    · rw [List.getElem?_append_left hl] at hk; exact .inl hk
    · rw [List.getElem?_append_right hl] at hk
      have := List.mem_of_getElem? hk
      simp at this; exact .inr this
  refine ⟨⟨fun k r hk hb => ?_⟩, by rw [hr]; simp, rfl, ⟨?_, fun k r hk => ?_, ?_, ?_, ?_, ?_, ?_⟩⟩
  · rcases key k r hk with h1 | rfl
    · rw [hr, List.length_append]
      have := hw.tail k r h1 hb
      simp
      omega
    · exact absurd hb (by simp [row0])
  · have := h.tot; rw [hr]; simp only [tot, row0] at *; simp; omega
  · rcases key k r hk with h1 | rfl
    · exact Nat.le_trans (h.lacks k r h1) (by omega)
    · simp [row0]
  · have := h.undo; simp [T.fresh, T.did]; omega
  · have := h.rows; rw [hr]; simp; omega
  · have := h.own; simp [T.fresh, T.did]; omega
  · have := h.eqs; simp [T.fresh, T.did]; omega
  · have := h.times; simp [T.fresh, T.did]; omega
theorem without_len (a b : List Fld) : (without a b).length ≤ a.length := List.length_filter_le _ _
/-- What follows the pairs. -/
def T.meetTail (s1 : T) (fa fb : Int) (more less : List Fld) (y : W64) : Bool × T :=
  if fa = fb then (if more.length + less.length > 0 then (false, s1.stick y) else (true, s1))
  else if fa < 0 then (if more = [] then (match s1.bind fb.toNat less (-1) y with
      | (true, s2) => (true, s2)
      | (false, s2) => (false, s2.stick y)) else (false, s1.stick y))
  else if fb < 0 then (if less = [] then (match s1.bind fa.toNat more (-1) y with
      | (true, s2) => (true, s2)
      | (false, s2) => (false, s2.stick y)) else (false, s1.stick y))
  else match s1.fresh.bind fa.toNat more (s1.rows.length : Nat) y with
    | (false, s2) => (false, s2)
    | (true, s2) => s2.bind fb.toNat less (s1.rows.length : Nat) y
theorem meet_def (s : T) (a b : Sp) (y : W64) : s.meet a b y = (s.pairs b.fields y a.fields).meetTail a.fin b.fin (without b.fields a.fields) (without a.fields b.fields) y := rfl
end Rw
end Go.Proofs.Ythnbhcfpfbimgaa
