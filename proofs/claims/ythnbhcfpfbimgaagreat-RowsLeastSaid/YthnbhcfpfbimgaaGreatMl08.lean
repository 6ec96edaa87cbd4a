/- Texts put together: RwBind. -/
import Derived.Test.YthnbhcfpfbimgaaGreatMl07
/- The walk of bind: a row gets its fields and its tail. -/
namespace Go.Proofs.YthnbhcfpfbimgaaGreat
namespace Rw
theorem clash_hit {ls : List Lk} {fs : List Fld} {k : Nat} {l : Lk} (h : ∀ (j : Nat) x, j < k → ls[j]? = some x → (fs.any fun f => f.name.toList == x.field.toList) = false) (hl : ls[k]? = some l) (he : (fs.any fun f => f.name.toList == l.field.toList) = true) : clash ls fs = some l := by
  unfold clash
  rw [List.find?_eq_some_iff_getElem]
  obtain ⟨hk, hle⟩ := List.getElem?_eq_some_iff.1 hl
  exact ⟨he, k, hk, hle, fun j hj => by simp [h j _ hj (List.getElem?_eq_getElem (by omega))]⟩
theorem clash_none {ls : List Lk} {fs : List Fld} (h : ∀ (j : Nat) x, ls[j]? = some x → (fs.any fun f => f.name.toList == x.field.toList) = false) : clash ls fs = none := by
  unfold clash
  rw [List.find?_eq_none]
  intro x hx
  obtain ⟨j, hj⟩ := List.mem_iff_getElem?.1 hx
  simp [h j x hj]
/-- lackAll, from the k-th on. -/
theorem lackAll_step (s : T) (tail : Int) (l : List (ByteArray × W64)) (k : Nat) (x : ByteArray × W64) (h : l[k]? = some x) : s.lackAll tail (l.drop k) = (match s.lacks tail x.1 x.2 with
    | (false, s') => (false, s')
    | (true, s') => s'.lackAll tail (l.drop (k + 1))) := by
  obtain ⟨hk, hx⟩ := List.getElem?_eq_some_iff.1 h
  rw [List.drop_eq_getElem_cons hk, hx]
  rfl
/-- The row bound. -/
def bindS (s : T) (i : Nat) (x : Row) (fs : List Fld) (tail : Int) (y : W64) : T := ({ s with rows := s.rows.set i { x with bound := true, fields := fs, tail := tail, why := y } } : T).did (.rowBack i x)
def bindL (x : Row) (fs : List Fld) (y : W64) : List (ByteArray × W64) := (x.lacks.map fun l => (l.field, l.why ||| y)) ++ fs.map fun f => (f.name, y)
theorem bind_hit {s : T} {i : Nat} {x : Row} {fs : List Fld} {tail : Int} {y : W64} {l : Lk} (hx : s.rows[i]? = some x) (hc : clash x.lacks fs = some l) : s.bind i fs tail y = (false, s.stick (y ||| l.why)) := by
  unfold T.bind
  rw [List.getD_eq_getElem?_getD, hx, Option.getD_some]
  simp only [hc]
theorem bind_none {s : T} {i : Nat} {x : Row} {fs : List Fld} {tail : Int} {y : W64} (hx : s.rows[i]? = some x) (hc : clash x.lacks fs = none) : s.bind i fs tail y = if tail < 0 then (true, bindS s i x fs tail y) else (bindS s i x fs tail y).lackAll tail (bindL x fs y) := by
  unfold T.bind
  rw [List.getD_eq_getElem?_getD, hx, Option.getD_some]
  simp only [hc]
  rfl
theorem tot_set {l : List Row} {k : Nat} {r r' : Row} (h : l[k]? = some r) : tot (l.set k r') ≤ tot l + r'.fields.length := by
  induction l generalizing k with
  | nil => simp at h
  | cons a l ih =>
    cases k with
    | zero => simp [tot]; omega
    | succ k =>
      have := ih (k := k) (by simpa using h)
      simp only [tot] at this
      simp only [tot, List.set_cons_succ, List.map_cons, List.sum_cons]
      omega
theorem set_get {l : List Row} {k i : Nat} {r' r : Row} (h : (l.set k r')[i]? = some r) : (i = k ∧ r = r') ∨ (i ≠ k ∧ l[i]? = some r) := by
  by_cases hik : i = k
  · subst hik
    have hi : i < l.length := by have := (List.getElem?_eq_some_iff.1 h).1; simpa using this
    rw [List.getElem?_set_self hi] at h
    cases h
    exact .inl ⟨rfl, rfl⟩
  · rw [List.getElem?_set_ne (fun e => hik e.symm)] at h
    exact .inr ⟨hik, h⟩
theorem bindS_sz {s : T} {i n : Nat} {x : Row} {fs : List Fld} {tail : Int} {y : W64} (h : Sz s n) (hx : s.rows[i]? = some x) : Sz (bindS s i x fs tail y) (n + fs.length + 1) := by
  refine ⟨Nat.le_trans (tot_set hx) ?_, fun k r hr => ?_, by have := h.undo; simp [bindS, T.did]; omega, by have := h.rows; simp [bindS, T.did]; omega, by have := h.own; simp [bindS, T.did]; omega, by have := h.eqs; simp [bindS, T.did]; omega, by have := h.times; simp [bindS, T.did]; omega⟩
  · have := h.tot
    show tot s.rows + fs.length ≤ _
    omega
  · rcases set_get (show (s.rows.set i _)[k]? = some r from hr) with ⟨_, rfl⟩ | ⟨_, h2⟩
    · have := h.lacks i x hx
      show x.lacks.length ≤ _
      omega
    · have := h.lacks k r h2
      omega
theorem bindS_wf {s : T} {i : Nat} {x : Row} {fs : List Fld} {tail : Int} {y : W64} (h : Wf s.rows) (ht : tail < 0 ∨ ((i : Int) < tail ∧ tail < s.rows.length)) : Wf (bindS s i x fs tail y).rows := ⟨fun k r hr hb => by
  have hl : (bindS s i x fs tail y).rows.length = s.rows.length := by simp [bindS, T.did]
  rw [hl]
  rcases set_get (show (s.rows.set i _)[k]? = some r from hr) with ⟨rfl, rfl⟩ | ⟨_, h2⟩
  · exact ht
  · exact h.tail k r h2 hb⟩
/-- Where the list of lacks of a bind stands. -/
structure LaS (tail : Int) (L : List (ByteArray × W64)) (len N q : Nat) (R : Bool × T) (s : T) : Prop where
  run : s.lackAll tail (L.drop q) = R
  wf : Wf s.rows
  len : s.rows.length = len
  sz : Sz s (N + q)
theorem LaS.step {tail : Int} {L : List (ByteArray × W64)} {len N q : Nat} {R : Bool × T} {s s' : T} {x : ByteArray × W64} (h : LaS tail L len N q R s) (hx : L[q]? = some x) (he : s.lacks tail x.1 x.2 = (true, s')) : LaS tail L len N (q + 1) R s' := by
  obtain ⟨h1, h2⟩ := lacks_nx s tail x.1 x.2 h.sz
  rw [he] at h1 h2
  have hr := h.run
  rw [lackAll_step s tail L q x hx, he] at hr
  exact ⟨hr, h1.wf h.wf, h1.len.trans h.len, h2⟩
theorem LaS.stop {tail : Int} {L : List (ByteArray × W64)} {len N q : Nat} {R : Bool × T} {s s' : T} {x : ByteArray × W64} (h : LaS tail L len N q R s) (hx : L[q]? = some x) (he : s.lacks tail x.1 x.2 = (false, s')) : R = (false, s') := by
  have hr := h.run
  rw [lackAll_step s tail L q x hx, he] at hr
  exact hr.symm
theorem LaS.done {tail : Int} {L : List (ByteArray × W64)} {len N q : Nat} {R : Bool × T} {s : T} (h : LaS tail L len N q R s) (hq : L.length ≤ q) : R = (true, s) := by
  have hr := h.run
  rw [List.drop_eq_nil_of_le hq] at hr
  exact hr.symm
theorem bindL_fst {x : Row} {fs : List Fld} {y : W64} {q : Nat} {l : Lk} (h : x.lacks[q]? = some l) : (bindL x fs y)[q]? = some (l.field, l.why ||| y) := by
  have hq := (List.getElem?_eq_some_iff.1 h).1
  unfold bindL
  rw [List.getElem?_append_left (by simpa using hq), List.getElem?_map, h]
  rfl
theorem bindL_snd {x : Row} {fs : List Fld} {y : W64} {q : Nat} {f : Fld} (h : fs[q]? = some f) : (bindL x fs y)[x.lacks.length + q]? = some (f.name, y) := by
  unfold bindL
  rw [List.getElem?_append_right (by simp), List.length_map, Nat.add_sub_cancel_left, List.getElem?_map, h]
  rfl
theorem bindL_len (x : Row) (fs : List Fld) (y : W64) : (bindL x fs y).length = x.lacks.length + fs.length := by simp [bindL]
end Rw
open Go.RowKit
open Rw (El At Fld Lk Eqn U T W64 Sp Wf tot Sz Nx)
/-- The four stores of a bind. -/
theorem TbX.bindRow {w : World} {B P b c k : Nat} {g : Bl} {s : T} {vu vt vo ve v1 v2 v : Value} {vs : List (Value × Value)} {fu : List Value} {x : Rw.Row} {fs : List Fld} {tail : Int} {y : W64} (h : TbX w B P g s vu vt (.slice (some ⟨b, 0, none⟩) s.rows.length c) vo ve vs fu)
    (hr : s.rows[k]? = some x) (hv : vs[k]? = some (v1, v2)) (hf : SlAt w B 59 10 v fs.length (fdsV fs)) :
    TbX ((((w.setCell ⟨b, k * 5, none⟩ (.bool true)).setCell ⟨b, k * 5 + 1, none⟩ v).setCell ⟨b, k * 5 + 2, none⟩ (.int .i64 tail)).setCell ⟨b, k * 5 + 3, none⟩ (whyV y)) B P g { s with rows := s.rows.set k { x with bound := true, fields := fs, tail := tail, why := y } } vu vt (.slice (some ⟨b, 0, none⟩) s.rows.length c) vo ve (vs.set k (v, v2)) fu ∧
    Kp (OnB P g) w ((((w.setCell ⟨b, k * 5, none⟩ (.bool true)).setCell ⟨b, k * 5 + 1, none⟩ v).setCell ⟨b, k * 5 + 2, none⟩ (.int .i64 tail)).setCell ⟨b, k * 5 + 3, none⟩ (whyV y)) := by
  have hk := (List.getElem?_eq_some_iff.1 hr).1
  have hkv : k < vs.length := by rw [h.vsl]; exact hk
  have hra := h.rowAt k x _ hr hv
  have cut : ∀ {i j : Nat} {A C : List Value}, i ≠ j → (∀ t, t ≠ j → A[t]? = C[t]?) → A[i]? = C[i]? := fun hi hh => hh _ hi
  have h1 := h.setRow hr hv (show 0 < 5 by omega) (r' := { x with bound := true }) (v' := (v1, v2)) (u := .bool true) rfl (fun i hi => by
    match i, hi with
    | 0, hi => exact absurd rfl hi
    | 1, _ => rfl
    | 2, _ => rfl
    | 3, _ => rfl
    | 4, _ => rfl
    | i + 5, _ => rfl) ⟨hra.fields, hra.lacks⟩
  have e1 : (s.rows.set k { x with bound := true })[k]? = some { x with bound := true } := List.getElem?_set_self hk
  have f1 : (vs.set k (v1, v2))[k]? = some (v1, v2) := List.getElem?_set_self hkv
  have hK1 := Kept.mk' ⟨_, _, _, _, _, _, _, h⟩ h1.2 (Gn.refl _ _)
  have ra1 := h1.1.rowAt k _ _ e1 f1
  have hl1 : (s.rows.set k { x with bound := true }).length = s.rows.length := List.length_set
  have h2 := TbX.setRow (b := b) (c := c) (s := { s with rows := s.rows.set k { x with bound := true } }) (by have := h1.1; simpa only [hl1] using this) e1 f1 (show 1 < 5 by omega) (r' := { x with bound := true, fields := fs }) (v' := (v, v2)) (u := v) rfl (fun i hi => by
    match i, hi with
    | 0, _ => rfl
    | 1, hi => exact absurd rfl hi
    | 2, _ => rfl
    | 3, _ => rfl
    | 4, _ => rfl
    | i + 5, _ => rfl) ⟨hK1.fields hf, ra1.lacks⟩
  simp only [List.set_set, hl1] at h2
  have e2 : (s.rows.set k { x with bound := true, fields := fs })[k]? = some { x with bound := true, fields := fs } := List.getElem?_set_self hk
  have f2 : (vs.set k (v, v2))[k]? = some (v, v2) := List.getElem?_set_self hkv
  have ra2 := h2.1.rowAt k _ _ e2 f2
  have hl2 : (s.rows.set k { x with bound := true, fields := fs }).length = s.rows.length := List.length_set
  have h3 := TbX.setRow (b := b) (c := c) (s := { s with rows := s.rows.set k { x with bound := true, fields := fs } }) (by have := h2.1; simpa only [hl2] using this) e2 f2 (show 2 < 5 by omega) (r' := { x with bound := true, fields := fs, tail := tail }) (v' := (v, v2)) (u := .int .i64 tail) rfl (fun i hi => by
    match i, hi with
    | 0, _ => rfl
    | 1, _ => rfl
    | 2, hi => exact absurd rfl hi
    | 3, _ => rfl
    | 4, _ => rfl
    | i + 5, _ => rfl) ⟨ra2.fields, ra2.lacks⟩
  simp only [List.set_set, hl2] at h3
  have e3 : (s.rows.set k { x with bound := true, fields := fs, tail := tail })[k]? = some { x with bound := true, fields := fs, tail := tail } := List.getElem?_set_self hk
  have ra3 := h3.1.rowAt k _ _ e3 f2
  have hl3 : (s.rows.set k { x with bound := true, fields := fs, tail := tail }).length = s.rows.length := List.length_set
  have h4 := TbX.setRow (b := b) (c := c) (s := { s with rows := s.rows.set k { x with bound := true, fields := fs, tail := tail } }) (by have := h3.1; simpa only [hl3] using this) e3 f2 (show 3 < 5 by omega) (r' := { x with bound := true, fields := fs, tail := tail, why := y }) (v' := (v, v2)) (u := whyV y) rfl (fun i hi => by
    match i, hi with
    | 0, _ => rfl
    | 1, _ => rfl
    | 2, _ => rfl
    | 3, hi => exact absurd rfl hi
    | 4, _ => rfl
    | i + 5, _ => rfl) ⟨ra3.fields, ra3.lacks⟩
  simp only [List.set_set, hl3] at h4
  simp only [Nat.add_zero] at *
  exact ⟨h4.1, ((h1.2.trans h2.2 fun b hb => .inl hb).trans h3.2 fun b hb => .inl hb).trans h4.2 fun b hb => .inl hb⟩
end Go.Proofs.YthnbhcfpfbimgaaGreat
