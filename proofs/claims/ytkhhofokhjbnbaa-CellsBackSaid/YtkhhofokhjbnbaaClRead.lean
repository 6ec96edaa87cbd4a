/- The walks of the methods of Cells that only read, and of those of nil. -/
import Derived.Test.YtkhhofokhjbnbaaClCel
namespace Go.Proofs.Ytkhhofokhjbnbaa
open Go.RowKit

theorem len_any (P n c : Nat) (A : Option Addr) (w : World) (h : w.cell? ⟨P, 0, none⟩ = some (.slice A n c)) :
    Calls Try.prog 14 #[.pointer (some ⟨P, 0, none⟩)] w fun e w' => e = .returned (.int .i64 n) ∧ w = w' := by
  go_enter Try.func14, Try.ntmps14
  go_wp2_with fail
  go_ret
  exact ⟨rfl, rfl⟩
theorem len_nil (w : World) : Calls Try.prog 14 #[.pointer none] w fun e w' => e = .returned (.int .i64 0) ∧ w = w' := by
  go_enter Try.func14, Try.ntmps14
  go_wp2_with fail
  go_ret
  exact ⟨rfl, rfl⟩
theorem mark_any (P n c : Nat) (A : Option Addr) (w : World) (h : w.cell? ⟨P, 1, none⟩ = some (.slice A n c)) :
    Calls Try.prog 12 #[.pointer (some ⟨P, 0, none⟩)] w fun e w' => e = .returned (.int .i64 n) ∧ w = w' := by
  go_enter Try.func12, Try.ntmps12
  go_wp2_with fail
  go_ret
  exact ⟨rfl, rfl⟩
theorem mark_nil (w : World) : Calls Try.prog 12 #[.pointer none] w fun e w' => e = .returned (.int .i64 0) ∧ w = w' := by
  go_enter Try.func12, Try.ntmps12
  go_wp2_with fail
  go_ret
  exact ⟨rfl, rfl⟩

/-- Is there such a cell? -/
def inR (i : Int) (n : Nat) : Bool := decide (0 ≤ i ∧ i < n)

theorem is_any (P n c : Nat) (A : Option Addr) (i : Int) (w : World) (h : w.cell? ⟨P, 0, none⟩ = some (.slice A n c)) :
    Calls Try.prog 23 #[.pointer (some ⟨P, 0, none⟩), .int .i64 i] w fun e w' => e = .returned (.bool (inR i n)) ∧ w = w' := by
  by_cases h0 : 0 ≤ i <;> by_cases h1 : i < n
  all_goals
    go_enter Try.func23, Try.ntmps23
    go_wp2_with (go_at_call 14; refine (len_any P n c A _ h).mono ?_; rintro e w' ⟨rfl, rfl⟩)
    go_ret
    exact ⟨ret_bool (by simp [inR]; omega), rfl⟩
theorem is_nil (i : Int) (w : World) : Calls Try.prog 23 #[.pointer none, .int .i64 i] w fun e w' => e = .returned (.bool false) ∧ w = w' := by
  by_cases h0 : 0 ≤ i
  · have h1 : ¬ i < 0 := by omega
    go_enter Try.func23, Try.ntmps23
    go_wp2_with (go_at_call 14; refine (len_nil _).mono ?_; rintro e w' ⟨rfl, rfl⟩)
    go_ret
    exact ⟨ret_bool (by simp; omega), rfl⟩
  · go_enter Try.func23, Try.ntmps23
    go_wp2_with (go_at_call 14; refine (len_nil _).mono ?_; rintro e w' ⟨rfl, rfl⟩)
    go_ret
    exact ⟨ret_bool (by simp <;> omega), rfl⟩

/-- The word that is told. -/
def getR (ws : List Int) (i : Int) : Int := if inR i ws.length then ws.getD i.toNat 0 else 0

theorem get_any (P : Nat) (vw vu : Value) (ws : List Int) (fs : List Value) (us : List Cl.U) (i : Int) (w : World) (h : Cel w P vw vu ws fs us) :
    Calls Try.prog 15 #[.pointer (some ⟨P, 0, none⟩), .int .i64 i] w fun e w' => e = .returned (.int .u64 (getR ws i)) ∧ w = w' := by
  obtain ⟨A, c, rfl, hc, hm⟩ := h.words.form
  have hl : (wordsV ws).length = ws.length := by simp [wordsV]
  rw [hl] at hc h
  have h0 := h.cell0
  have his := is_any P ws.length c A i w h0
  cases hb : inR i ws.length <;> rw [hb] at his <;> have HIS := hide his <;> clear his
  · have hr : getR ws i = 0 := by simp [getR, hb]
    have HR := hide hr
    clear hr h
    go_enter Try.func15, Try.ntmps15
    go_wp2_with fail
    refine HIS.out.mono ?_
    rintro e w' ⟨rfl, rfl⟩
    go_wp2_with fail
    go_ret
    exact ⟨ret_int HR.out.symm, rfl⟩
  · have hi : 0 ≤ i ∧ i < ws.length := by simpa [inR] using hb
    obtain ⟨k, rfl⟩ := Int.eq_ofNat_of_zero_le hi.1
    have hk : k < ws.length := by omega
    have hk0 : (0 : Int) ≤ k := by omega
    have hk1 : (k : Int) < ws.length := by omega
    have hr : getR ws k = ws.getD k 0 := by simp [getR, hb]
    have HR := hide hr
    obtain ⟨g, rfl⟩ := h.words.addr (by rw [hl]; omega)
    have hcell : w.cell? ⟨g, k, none⟩ = some (.int .u64 (ws.getD k 0)) := by
      rw [h.words.cell (by rw [hl]; exact hk)]
      simp [wordsV, List.getElem?_eq_getElem hk, List.getD_eq_getElem?_getD]
    clear hr h hb hi
    generalize ws.getD k 0 = x at hcell HR
    go_enter Try.func15, Try.ntmps15
    go_wp2_with fail
    refine HIS.out.mono ?_
    rintro e w' ⟨rfl, rfl⟩
    go_wp2_with fail
    go_ret
    exact ⟨ret_int HR.out.symm, rfl⟩
theorem get_nil (i : Int) (w : World) : Calls Try.prog 15 #[.pointer none, .int .i64 i] w fun e w' => e = .returned (.int .u64 0) ∧ w = w' := by
  go_enter Try.func15, Try.ntmps15
  go_wp2_with fail
  refine (is_nil i w).mono ?_
  rintro e w' ⟨rfl, rfl⟩
  go_wp2_with fail
  go_ret
  exact ⟨rfl, rfl⟩
theorem add_nil (x : Int) (w : World) : Calls Try.prog 17 #[.pointer none, .int .u64 x] w fun e w' => e = .returned (.int .i64 0) ∧ Below w.heap.size w w' := by
  go_enter Try.func17, Try.ntmps17
  go_wp2_with fail
  go_ret
  exact ⟨rfl, below_laid _ _⟩
theorem set_nil (i x : Int) (w : World) : Calls Try.prog 18 #[.pointer none, .int .i64 i, .int .u64 x] w fun e w' => e = .returned (.bool false) ∧ Below w.heap.size w w' := by
  go_enter Try.func18, Try.ntmps18
  go_wp2_with fail
  refine (is_nil i _).mono ?_
  rintro e w' ⟨rfl, rfl⟩
  go_wp2_with fail
  go_ret
  exact ⟨rfl, (box2 w _ _ _ _).1⟩
theorem undo_nil (m : Int) (w : World) : Calls Try.prog 16 #[.pointer none, .int .i64 m] w fun e w' => e = .returned (.bool false) ∧ w = w' := by
  go_enter Try.func16, Try.ntmps16
  go_wp2_with fail
  go_ret
  exact ⟨rfl, rfl⟩
end Go.Proofs.Ytkhhofokhjbnbaa
