/- One contract for each method and each of the document's calls, whatever the case. -/
import Derived.Test.YtkhhofokhjbnbaaClRef4
namespace Go.Proofs.Ytkhhofokhjbnbaa
open Go.RowKit

namespace Cl
abbrev S := List Int × List U
def cset (s : S) (i x : Int) : S := if inR i s.1.length then (if s.1.getD i.toNat 0 = x then s else (s.1.set i.toNat x, s.2 ++ [.inr (i.toNat, s.1.getD i.toNat 0)])) else s
def cadd (s : S) (x : Int) : S := (s.1 ++ [x], s.2 ++ [.inl s.1.length])
def cundo (s : S) (m : Int) : S := if m ≤ s.2.length then (at_ s.2 s.1 m.toNat, s.2.take m.toNat) else s
def rset (M : List (List Int)) (i x : Int) : List (List Int) := if inR i (lastL M).length then (if (lastL M).getD i.toNat 0 = x then M else M ++ [(lastL M).set i.toNat x]) else M
def radd (M : List (List Int)) (x : Int) : List (List Int) := M ++ [lastL M ++ [x]]
def runo (M : List (List Int)) (m : Int) : List (List Int) := if m ≤ (M.length : Int) - 1 then M.take (m.toNat + 1) else M
theorem app_len (u : U) (s : List Int) : (app u s).length ≤ s.length := by
  match u with
  | .inl n => simp [app]; omega
  | .inr (i, x) => simp [app]
theorem at_le (us : List U) (ws : List Int) (k : Nat) : (at_ us ws k).length ≤ ws.length := by
  unfold at_
  induction us.drop k with
  | nil => simp
  | cons u l ih => exact Nat.le_trans (app_len _ _) ih
end Cl

theorem inR_nat {i : Int} {n : Nat} (h : inR i n = true) : ∃ k : Nat, i = k ∧ k < n := by
  simp [inR] at h
  exact ⟨i.toNat, by omega, by omega⟩
theorem inR_of {k n : Nat} (h : k < n) : inR k n = true := by simp [inR, h]

section
variable {w w' : World} {P : Nat} {gw gu : Option Nat} {s : Cl.S}
theorem CelP.below (h : CelP w P gw gu s.1 s.2) (hb : Below w.heap.size w w') : CelP w' P gw gu s.1 s.2 := by
  obtain ⟨vw, vu, fs, hC, h1, h2, h3⟩ := h
  exact ⟨vw, vu, fs, hC.below hb, h1, h2, h3⟩
theorem Step.stay (h : CelP w P gw gu s.1 s.2) (hb : Below w.heap.size w w') : Step w w' P gw gu s.1 s.2 := ⟨gw, gu, h.below hb, Fr.of_below hb, .inl rfl, .inl rfl⟩

theorem add_all (x : Int) (h : CelP w P gw gu s.1 s.2) (hl : s.1.length ≤ 100000) (hu : s.2.length ≤ 100000) :
    Calls Try.prog 17 #[.pointer (some ⟨P, 0, none⟩), .int .u64 x] w fun e w' => e = .returned (.int .i64 s.1.length) ∧ Step w w' P gw gu (Cl.cadd s x).1 (Cl.cadd s x).2 := by
  obtain ⟨vw, vu, fs, hC, rfl, rfl, hok⟩ := h
  refine (add_any P x w hC hl hu).mono ?_
  rintro e w' ⟨rfl, vw', vu', fs', hC', hF, h1, h2⟩
  exact ⟨rfl, _, _, ⟨vw', vu', fs', hC', rfl, rfl, Cl.ok_add hok x⟩, hF, h1, h2⟩

theorem set_all (i x : Int) (h : CelP w P gw gu s.1 s.2) (hl : s.1.length ≤ 100000) (hu : s.2.length ≤ 100000) :
    Calls Try.prog 18 #[.pointer (some ⟨P, 0, none⟩), .int .i64 i, .int .u64 x] w fun e w' => e = .returned (.bool (inR i s.1.length)) ∧ Step w w' P gw gu (Cl.cset s i x).1 (Cl.cset s i x).2 := by
  have h0 := h
  obtain ⟨vw, vu, fs, hC, rfl, rfl, hok⟩ := h
  cases hi : inR i s.1.length
  · obtain ⟨A, c, he, _, _⟩ := hC.words.form
    have h1 := hC.cell0
    rw [he, show (wordsV s.1).length = s.1.length from by simp [wordsV]] at h1
    refine (set_out P s.1.length c A i x w h1 hC.lt hi).mono ?_
    rintro e w' ⟨rfl, hb⟩
    refine ⟨rfl, ?_⟩
    simp only [Cl.cset, hi, Bool.false_eq_true, if_false]
    exact Step.stay h0 hb
  · obtain ⟨k, rfl, hk⟩ := inR_nat hi
    by_cases hx : s.1.getD k 0 = x
    · refine (set_same P k x w hC hk hx).mono ?_
      rintro e w' ⟨rfl, hb⟩
      refine ⟨rfl, ?_⟩
      simp only [Cl.cset, hi, if_true, Int.toNat_natCast, hx]
      exact Step.stay h0 hb
    · refine (set_in P k x w hC hl hu hk hx).mono ?_
      rintro e w' ⟨rfl, vw', vu', fs', hC', hF, h1, h2⟩
      refine ⟨rfl, ?_⟩
      simp only [Cl.cset, hi, if_true, Int.toNat_natCast, hx, if_false]
      exact ⟨_, _, ⟨vw', vu', fs', hC', rfl, rfl, Cl.ok_set hok x hk⟩, hF, h1, h2⟩

theorem undo_all (m : Int) (h : CelP w P gw gu s.1 s.2) (hl : s.1.length ≤ 100000) (hu : s.2.length ≤ 100000) :
    Calls Try.prog 16 #[.pointer (some ⟨P, 0, none⟩), .int .i64 m] w fun e w' => e = .returned (.bool (decide (m ≤ s.2.length))) ∧ Step w w' P gw gu (Cl.cundo s m).1 (Cl.cundo s m).2 := by
  have h0 := h
  obtain ⟨vw, vu, fs, hC, rfl, rfl, hok⟩ := h
  by_cases hm : m ≤ s.2.length
  · refine (undo_any P m w hC hok (fun k => Nat.le_trans (Cl.at_le _ _ k) (by omega)) (by omega) hm).mono ?_
    rintro e w' ⟨rfl, vw', vu', fs', hC', hok', hF, h1, h2⟩
    refine ⟨by simp [hm], ?_⟩
    simp only [Cl.cundo, hm, if_true]
    exact ⟨_, _, ⟨vw', vu', fs', hC', rfl, rfl, hok'⟩, hF, .inl h1, .inl h2⟩
  · obtain ⟨A, c, he, _, _⟩ := hC.undo.form
    have h1 := hC.cell1
    rw [he, hC.len] at h1
    refine (undo_no P s.2.length c A m w h1 (by omega)).mono ?_
    rintro e w' ⟨rfl, rfl⟩
    refine ⟨by simp [hm], ?_⟩
    simp only [Cl.cundo, hm, if_false]
    exact Step.stay h0 (Below.refl _ _)

theorem get_all (i : Int) (h : CelP w P gw gu s.1 s.2) : Calls Try.prog 15 #[.pointer (some ⟨P, 0, none⟩), .int .i64 i] w fun e w' => e = .returned (.int .u64 (getR s.1 i)) ∧ w = w' := by
  obtain ⟨vw, vu, fs, hC, rfl, rfl, hok⟩ := h
  exact get_any P vw vu s.1 fs s.2 i w hC
theorem len_all (h : CelP w P gw gu s.1 s.2) : Calls Try.prog 14 #[.pointer (some ⟨P, 0, none⟩)] w fun e w' => e = .returned (.int .i64 s.1.length) ∧ w = w' := by
  obtain ⟨vw, vu, fs, hC, rfl, rfl, hok⟩ := h
  obtain ⟨A, c, he, _, _⟩ := hC.words.form
  have h1 := hC.cell0
  rw [he, show (wordsV s.1).length = s.1.length from by simp [wordsV]] at h1
  exact len_any P _ c A w h1
theorem mark_all (h : CelP w P gw gu s.1 s.2) : Calls Try.prog 12 #[.pointer (some ⟨P, 0, none⟩)] w fun e w' => e = .returned (.int .i64 s.2.length) ∧ w = w' := by
  obtain ⟨vw, vu, fs, hC, rfl, rfl, hok⟩ := h
  obtain ⟨A, c, he, _, _⟩ := hC.undo.form
  have h1 := hC.cell1
  rw [he, hC.len] at h1
  exact mark_any P _ c A w h1

variable {bad : Nat → Prop} {v : Value} {M : List (List Int)}
theorem rset_all (i x : Int) (h : Mat w bad v M) (hp : M ≠ []) (hl : M.length ≤ 10000) (hll : (lastL M).length ≤ 10000) (hbad : ∀ g, bad g → g < w.heap.size) :
    Calls Try.prog 19 #[.agg #[v], .int .i64 i, .int .u64 x] w fun e w' => ∃ v', e = .returned (.tuple #[.agg #[v'], .bool (inR i (lastL M).length)]) ∧ Below w.heap.size w w' ∧ Mat w' bad v' (Cl.rset M i x) := by
  cases hi : inR i (lastL M).length
  · refine (rset_out bad v M i x w h hp hl hi).mono ?_
    rintro e w' ⟨rfl, hb⟩
    refine ⟨v, rfl, hb, ?_⟩
    simp only [Cl.rset, hi, Bool.false_eq_true, if_false]
    exact h.below hb
  · obtain ⟨k, rfl, hk⟩ := inR_nat hi
    by_cases hx : (lastL M).getD k 0 = x
    · refine (rset_same bad v M k x w h hp hl hk hx).mono ?_
      rintro e w' ⟨rfl, hb⟩
      refine ⟨v, rfl, hb, ?_⟩
      simp only [Cl.rset, hi, if_true, Int.toNat_natCast, hx]
      exact h.below hb
    · refine (rset_in bad v M k x w h hp hl hll hk hx hbad).mono ?_
      rintro e w' ⟨v', rfl, hb, hm⟩
      refine ⟨v', rfl, hb, ?_⟩
      simp only [Cl.rset, hi, if_true, Int.toNat_natCast, hx, if_false]
      exact hm
theorem runo_all (m : Int) (h : Mat w bad v M) (hp : M ≠ []) (hl : M.length ≤ 10000) (hbad : ∀ g, bad g → g < w.heap.size) :
    Calls Try.prog 21 #[.agg #[v], .int .i64 m] w fun e w' => ∃ v', e = .returned (.tuple #[.agg #[v'], .bool (decide (m ≤ (M.length : Int) - 1))]) ∧ Below w.heap.size w w' ∧ Mat w' bad v' (Cl.runo M m) := by
  by_cases hm : m ≤ (M.length : Int) - 1
  · refine (runo_any bad v M m w h hp hl hm hbad).mono ?_
    rintro e w' ⟨v', rfl, hb, h'⟩
    refine ⟨v', by simp [hm], hb, ?_⟩
    simp only [Cl.runo, hm, if_true]
    exact h'
  · refine (runo_no bad v M m w h hp hl (by omega)).mono ?_
    rintro e w' ⟨rfl, hb⟩
    refine ⟨v, by simp [hm], hb, ?_⟩
    simp only [Cl.runo, hm, if_false]
    exact h.below hb
end
end Go.Proofs.Ytkhhofokhjbnbaa
