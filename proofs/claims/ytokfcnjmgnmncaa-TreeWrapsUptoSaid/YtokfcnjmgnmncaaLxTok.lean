/- Pieces in memory, read; their text. -/
import Derived.Test.YtokfcnjmgnmncaaLxReadR
namespace Go.Proofs.Ytokfcnjmgnmncaa
open Go.RowKit

/-- The slice '.slice A n c' holds the pieces l, in a block below B. -/
def HasT (w : World) (B : Nat) (A : Option Addr) (n : Nat) (l : List Lx.T) : Prop :=
  l.length = n ∧ (0 < n → ∃ b off, A = some ⟨b, off, none⟩ ∧ b < B ∧ ∀ (j : Nat) (t : Lx.T), l[j]? = some t →
    w.cell? ⟨b, off + j * 3, none⟩ = some (.int .u8 t.kind) ∧ w.cell? ⟨b, off + j * 3 + 1, none⟩ = some (.string t.text) ∧ w.cell? ⟨b, off + j * 3 + 2, none⟩ = some (.int .i64 t.pos))
theorem HasT.below {w w' : World} {B : Nat} {A : Option Addr} {n : Nat} {l : List Lx.T} (h : HasT w B A n l) (hb : Below B w w') : HasT w' B A n l := by
  refine ⟨h.1, fun hn => ?_⟩
  obtain ⟨b, off, ha, hB, hc⟩ := h.2 hn
  refine ⟨b, off, ha, hB, fun j t hj => ?_⟩
  obtain ⟨h1, h2, h3⟩ := hc j t hj
  exact ⟨(hb.cell (by exact hB)).trans h1, (hb.cell (by exact hB)).trans h2, (hb.cell (by exact hB)).trans h3⟩
theorem HasT.more {w : World} {B B' : Nat} {A : Option Addr} {n : Nat} {l : List Lx.T} (h : HasT w B A n l) (hb : B ≤ B') : HasT w B' A n l := by
  refine ⟨h.1, fun hn => ?_⟩
  obtain ⟨b, off, ha, hB, hc⟩ := h.2 hn
  exact ⟨b, off, ha, Nat.lt_of_lt_of_le hB hb, hc⟩
theorem toksV_get : ∀ (l : List Lx.T) (j : Nat) (t : Lx.T), l[j]? = some t → (toksV l)[j * 3]? = some (.int .u8 t.kind) ∧ (toksV l)[j * 3 + 1]? = some (.string t.text) ∧ (toksV l)[j * 3 + 2]? = some (.int .i64 t.pos)
  | [], j, t, h => by simp at h
  | x :: l, 0, t, h => by
    simp at h
    subst h
    simp [toksV, tokV]
  | x :: l, j + 1, t, h => by
    have := toksV_get l j t (by simpa using h)
    have e : toksV (x :: l) = tokV x ++ toksV l := by simp [toksV]
    have hl : (tokV x).length = 3 := rfl
    rw [e]
    rw [List.getElem?_append_right (by rw [hl]; omega), List.getElem?_append_right (by rw [hl]; omega), List.getElem?_append_right (by rw [hl]; omega), hl,
      show (j + 1) * 3 - 3 = j * 3 from by omega, show (j + 1) * 3 + 1 - 3 = j * 3 + 1 from by omega, show (j + 1) * 3 + 2 - 3 = j * 3 + 2 from by omega]
    exact this
theorem HasT.of_row {w : World} {A : Option Addr} {c : Nat} {l : List Lx.T} (h : TokRow w (.slice A l.length c) l) : HasT w w.heap.size A l.length l := by
  refine ⟨rfl, fun hn => ?_⟩
  obtain ⟨g, rfl⟩ := RowZ.addr h hn
  refine ⟨g, 0, rfl, RowZ.lt h g rfl, fun j t hj => ?_⟩
  obtain ⟨h1, h2, h3⟩ := toksV_get l j t hj
  have hjl := (List.getElem?_eq_some_iff.1 hj).1
  have hlen := toksV_len l
  rw [Nat.zero_add]
  exact ⟨(RowZ.cell h (by omega)).trans h1, (RowZ.cell h (by omega)).trans h2, (RowZ.cell h (by omega)).trans h3⟩

namespace Lx
/-- The text of the first k pieces. -/
def tx (l : List T) : Nat → List UInt8
  | 0 => []
  | k + 1 => tx l k ++ (match l[k]? with
      | none => []
      | some t => (if 0 < k ∧ t.kind = 97 ∧ (match l[k - 1]? with | some u => u.kind | none => 0) = 97 then [32] else []) ++ t.text.data.toList)
def text (l : List T) : ByteArray := ⟨(tx l l.length).toArray⟩
theorem tx_one {l : List T} {k : Nat} {t : T} (h : l[k]? = some t) (hn : ¬ (0 < k ∧ t.kind = 97 ∧ (match l[k - 1]? with | some u => u.kind | none => 0) = 97)) : tx l (k + 1) = tx l k ++ t.text.data.toList := by
  simp only [tx, h]
  rw [if_neg hn, List.nil_append]
theorem tx_two {l : List T} {k : Nat} {t : T} (h : l[k]? = some t) (hn : 0 < k ∧ t.kind = 97 ∧ (match l[k - 1]? with | some u => u.kind | none => 0) = 97) : tx l (k + 1) = tx l k ++ [32] ++ t.text.data.toList := by
  simp only [tx, h]
  rw [if_pos hn, List.append_assoc]
theorem tx_len {l : List T} {m : Nat} (hm : ∀ t ∈ l, t.text.size ≤ m) : ∀ k, (tx l k).length ≤ k * (m + 1)
  | 0 => by simp [tx]
  | k + 1 => by
    have ih := tx_len hm k
    have e : (k + 1) * (m + 1) = k * (m + 1) + (m + 1) := Nat.succ_mul _ _
    cases h : l[k]? with
    | none => simp only [tx, h, List.append_nil]; omega
    | some t =>
      have ht := hm t (List.mem_of_getElem? h)
      have hs : t.text.data.toList.length = t.text.size := by simp
      by_cases hn : 0 < k ∧ t.kind = 97 ∧ (match l[k - 1]? with | some u => u.kind | none => 0) = 97
      · rw [tx_two h hn]; simp only [List.length_append, List.length_singleton]; omega
      · rw [tx_one h hn]; simp only [List.length_append]; omega
end Lx
end Go.Proofs.Ytokfcnjmgnmncaa
