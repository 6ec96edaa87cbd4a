/- Plain facts on rows: bound rows lead onwards. -/
import Derived.Test.YthnbhcfpfbimgaaRwWithout
namespace Go.Proofs.Ythnbhcfpfbimgaa
namespace Rw

def tot (l : List Row) : Nat := (l.map fun x => x.fields.length).sum
theorem tot_drop (l : List Row) : ∀ {i t : Nat}, i ≤ t → tot (l.drop t) ≤ tot (l.drop i) := fun {i t} h => by
  obtain ⟨d, rfl⟩ : ∃ d, t = i + d := ⟨t - i, by omega⟩
  clear h
  induction d with
  | zero => exact Nat.le_refl _
  | succ d ih =>
    refine Nat.le_trans ?_ ih
    rw [show i + (d + 1) = (i + d) + 1 by omega, ← List.drop_drop (i := 1) (j := i + d)]
    cases h : l.drop (i + d) with
    | nil => simp [tot]
    | cons a r => simp [tot]
theorem tot_at {l : List Row} {i : Nat} {x : Row} (h : l[i]? = some x) : tot (l.drop i) = x.fields.length + tot (l.drop (i + 1)) := by
  obtain ⟨hi, hx⟩ := List.getElem?_eq_some_iff.1 h
  rw [List.drop_eq_getElem_cons hi, hx]
  simp [tot]
/-- The bound rows lead to later ones, and the own rows are there. -/
structure Wf (rows : List Row) : Prop where
  tail : ∀ (i : Nat) r, rows[i]? = some r → r.bound = true → r.tail < 0 ∨ ((i : Int) < r.tail ∧ r.tail < rows.length)
/-- One step of spread. -/
theorem spread_bound {rows : List Row} {m : Nat} {s : Sp} {x : Row} (h0 : 0 ≤ s.fin) (hx : rows[s.fin.toNat]? = some x) (hb : x.bound = true) : spread rows (m + 1) s = spread rows m ⟨s.fields ++ x.fields, x.tail, s.why ||| x.why⟩ := by
  rw [spread, if_neg (by omega), hx]
  simp [hb]
theorem spread_free {rows : List Row} {m : Nat} {s : Sp} {x : Row} (hx : rows[s.fin.toNat]? = some x) (hb : x.bound = false) : spread rows m s = s := by
  cases m with
  | zero => rfl
  | succ m =>
    rw [spread, hx]
    simp [hb]
theorem spread_neg {rows : List Row} {m : Nat} {s : Sp} (h : s.fin < 0) : spread rows m s = s := by
  cases m with
  | zero => rfl
  | succ m => rw [spread, if_pos h]
/-- Where a spread stands: all is in sight. -/
structure Go (rows : List Row) (N m : Nat) (s R : Sp) : Prop where
  res : spread rows m s = R
  fin : s.fin < 0 ∨ (s.fin < rows.length ∧ rows.length - s.fin.toNat < m)
  len : s.fields.length + (if s.fin < 0 then 0 else tot (rows.drop s.fin.toNat)) ≤ N
theorem Go.step {rows : List Row} {N m : Nat} {s R : Sp} {x : Row} (h : Go rows N m s R) (hw : Wf rows) (h0 : 0 ≤ s.fin) (hx : rows[s.fin.toNat]? = some x) (hb : x.bound = true) : Go rows N (m - 1) ⟨s.fields ++ x.fields, x.tail, s.why ||| x.why⟩ R ∧ m - 1 < m := by
  obtain ⟨h1, h2, h3⟩ := h
  have ht := hw.tail _ _ hx hb
  have hm : 0 < m := by omega
  obtain ⟨k, rfl⟩ : ∃ k, m = k + 1 := ⟨m - 1, by omega⟩
  refine ⟨⟨?_, ?_, ?_⟩, by omega⟩
  · rw [← h1, spread_bound h0 hx hb]; rfl
  · rcases ht with ht | ht
    · exact .inl ht
    · exact .inr ⟨ht.2, by show rows.length - x.tail.toNat < k + 1 - 1; omega⟩
  · rw [if_neg (by omega), tot_at hx] at h3
    show (s.fields ++ x.fields).length + (if x.tail < 0 then 0 else tot (rows.drop x.tail.toNat)) ≤ N
    rw [List.length_append]
    split
    · omega
    · have := tot_drop rows (i := s.fin.toNat + 1) (t := x.tail.toNat) (by omega)
      omega
theorem Go.start {rows : List Row} {fs : List Fld} {at_ : Int} {N : Nat} (ha : at_ < rows.length) (hN : fs.length + tot rows ≤ N) : Go rows N (rows.length + 1) ⟨fs, at_, 0⟩ (spread rows (rows.length + 1) ⟨fs, at_, 0⟩) := by
  refine ⟨rfl, ?_, ?_⟩
  · by_cases h : at_ < 0
    · exact .inl h
    · exact .inr ⟨ha, by show rows.length - at_.toNat < rows.length + 1; omega⟩
  · show fs.length + (if at_ < 0 then 0 else tot (rows.drop at_.toNat)) ≤ N
    split
    · omega
    · have := tot_drop rows (i := 0) (t := at_.toNat) (by omega)
      rw [List.drop_zero] at this
      omega
end Rw
open Rw (W64)
theorem or_why (x y : W64) : IntKind.u64.wrap (((BitVec.ofInt 64 ((x.toNat : Nat) : Int)) ||| (BitVec.ofInt 64 ((y.toNat : Nat) : Int))).toNat : Int) = (((x ||| y).toNat : Nat) : Int) := by
  have h : ∀ z : W64, BitVec.ofInt 64 ((z.toNat : Nat) : Int) = z := fun z => by
    rw [BitVec.ofInt_natCast]
    exact BitVec.ofNat_toNat 64 z |>.trans (by simp)
  rw [h, h]
  have : (x ||| y).toNat < 2 ^ 64 := (x ||| y).isLt
  generalize (x ||| y).toNat = n at *
  simp [IntKind.wrap, IntKind.bits, IntKind.signed]
  omega
theorem bits_or (x y : W64) : bits BinOp.or IntKind.u64 ((x.toNat : Nat) : Int) ((y.toNat : Nat) : Int) = (((x ||| y).toNat : Nat) : Int) := or_why x y
end Go.Proofs.Ythnbhcfpfbimgaa
