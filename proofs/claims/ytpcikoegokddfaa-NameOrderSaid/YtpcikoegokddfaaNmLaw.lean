/- The walks of the four laws of names: each returns true, and writes nothing that was there. -/
import Derived.Test.YtpcikoegokddfaaNmSortR
import Derived.Test.YtpcikoegokddfaaNmJoinW
import Derived.Test.YtpcikoegokddfaaNmRight
namespace Go.Proofs.Ytpcikoegokddfaa
open Go.RowKit

/-- A row of the call's own, as strings. -/
theorem str_own {w : World} {base n c : Nat} {A : Option Addr} {ss : List ByteArray} (h : w.ownsRow base 9 1 (.slice A n c) n (ss.map Value.string)) : HasStr w w.heap.size A n ss := Has.of_own h

theorem own_slice {w : World} {base : Nat} {v : Value} {out : List ByteArray} (h : w.ownsRow base 9 1 v out.length (out.map Value.string)) :
    ∃ A c, v = .slice A out.length c ∧ out.length ≤ c ∧ c ≤ maxLen ∧ HasStr w w.heap.size A out.length out := by
  rcases h.2 with ⟨rfl, h0⟩ | ⟨g, cap, cur, rfl, _, _, hn, hm, _⟩
  · exact ⟨none, 0, by rw [h0], by omega, by unfold maxLen; omega, by rw [h0] at h ⊢; exact Has.of_own h⟩
  · exact ⟨_, _, rfl, hn, hm, Has.of_own h⟩

/-- A row that is laid of written strings. -/
theorem lit_row (w : World) (ss : List ByteArray) {cs : Array Value} (h : cs = (ss.map Value.string).toArray) : HasStr (w.alloc (.cells cs 9)) (w.heap.size + 1) (some ⟨w.heap.size, 0, none⟩) ss.length ss := by
  subst h
  refine ⟨by simp, fun _ => ⟨w.heap.size, 0, rfl, by omega, fun j u hu => ?_⟩⟩
  rw [World.cell?_alloc_at _ _ _ _ rfl]
  simpa using hu

def tA : ByteArray := ⟨#[97]⟩
def tAB : ByteArray := ⟨#[97, 98]⟩
def tB : ByteArray := ⟨#[98]⟩
theorem alive_sorts : Nm.Sorts [tB, tAB, tB, tA] [tA, tAB, tB] := by
  refine ⟨?_, fun x => ?_⟩
  · have h1 : Nm.ls tA tAB = true := by decide +kernel
    have h2 : Nm.ls tAB tB = true := by decide +kernel
    have h3 : Nm.ls tA tB = true := by decide +kernel
    simp [Nm.Up, h1, h2, h3]
  · simp only [List.mem_cons, List.not_mem_nil, or_false]
    constructor <;> rintro (h | h | h | h) <;> simp_all
theorem alive_same : Nm.same [tA, tAB, tB] [tA, tAB, tB] = true := Nm.same_self _
theorem alive_twice : Nm.twice [tA, tB, tA, tB] = 2 := by decide +kernel
theorem alive_right : Nm.right ⟨#[97, 95, 49]⟩ = true := by decide +kernel

set_option maxHeartbeats 800000 in
theorem alive_any (w : World) : Calls Try.prog 8 #[] w fun e w' => e = .returned (.bool true) ∧ Below w.heap.size w w' := by
  have h4 := lit_row w [tB, tAB, tB, tA] (cs := #[.string tB, .string tAB, .string tB, .string tA]) rfl
  have hsort := sort_any 4 4 (w.heap.size + 1) _ _ _ (by omega) (by simp) h4
  have HS := hide hsort
  have HB := hide (below_laid w (.cells #[.string tB, .string tAB, .string tB, .string tA] 9))
  clear hsort h4
  go_enter Try.func8, Try.ntmps8
  go_wp2_with fail
  refine HS.out.mono ?_
  rintro e w1 ⟨out, v, rfl, hso, hown, hb⟩
  obtain ⟨A', c', rfl, hlc, hcm, hs1⟩ := own_slice hown
  obtain rfl := hso.eq alive_sorts
  have hb1 := HB.out.trans (hb.mono (by simp))
  have h3 := lit_row w1 [tA, tAB, tB] (cs := #[.string tA, .string tAB, .string tB]) rfl
  have hs2 := Has.more (Has.alloc hs1 (Nat.le_refl _) (.cells #[.string tA, .string tAB, .string tB] 9)) (by omega : w1.heap.size ≤ w1.heap.size + 1)
  have hsame := sameR_any _ c' 3 3 _ A' _ _ _ _ (by simp) hs2 h3
  rw [alive_same] at hsame
  have HM := hide hsame
  have HB1 := hide hb1
  have HZ := hide hb.size
  clear hsame h3 hs2 hs1 hb hb1 hown hso hlc hcm HS HB
  go_wp2_with fail
  refine HM.out.mono ?_
  rintro e w2 ⟨rfl, hd⟩
  have hb2 := below_dr (HB1.out.trans ((below_laid w1 (.cells #[.string tA, .string tAB, .string tB] 9)).mono (by have := HB1.out.size; omega))) hd
  have h5 := lit_row w2 [tA, tB, tA, tB] (cs := #[.string tA, .string tB, .string tA, .string tB]) rfl
  have htw := twice_any 4 4 _ _ _ _ (by omega) (by omega) (by simp) h5
  rw [alive_twice] at htw
  have HT := hide htw
  have HB2 := hide hb2
  clear htw h5 hb2 hd
  go_wp2_with fail
  refine HT.out.mono ?_
  rintro e w3 ⟨rfl, hb3⟩
  have hb4 := HB2.out.trans ((below_next (below_laid w2 _) hb3).mono HB2.out.size)
  have hr := right_any ⟨#[97, 95, 49]⟩ w3 (by unfold maxLen; decide)
  rw [alive_right] at hr
  have HR := hide hr
  have HB4 := hide hb4
  clear hr hb4 hb3
  go_wp2_with fail
  refine HR.out.mono ?_
  rintro e w4 ⟨rfl, rfl⟩
  go_wp2_with fail
  go_ret
  exact ⟨rfl, HB4.out⟩

set_option maxHeartbeats 800000 in
theorem nameRight_walk (a b : ByteArray) (w : World) (ha : a.size ≤ maxLen) (_hb : b.size ≤ maxLen) :
    Calls Try.prog 3 #[.string a, .string b] w fun e w' => e = .returned (.bool true) ∧ Below w.heap.size w w' := by
  have h2 := lit_row w [a, b] (cs := #[.string a, .string b]) rfl
  have hlong := long_any 2 2 _ _ _ _ (by omega) h2
  have HB := hide (below_laid w (.cells #[.string a, .string b] 9))
  cases hlo : Nm.long [a, b] <;> rw [hlo] at hlong <;> have HL := hide hlong <;> clear hlong h2
  · have HR1 := fun W => hide (right_any a W ha)
    have HR2 := fun W => hide (rightR_any a W ha)
    have HR3 := fun W => hide (less_any a b W)
    have HR4 := fun W => hide (lessR_any a b W ha)
    go_enter Try.func3, Try.ntmps3
    go_wp2_with fail
    refine HL.out.mono ?_
    rintro e w1 ⟨rfl, rfl⟩
    go_wp2_with fail
    refine (HR1 _).out.mono ?_
    rintro e w2 ⟨rfl, rfl⟩
    go_wp2_with fail
    refine (HR2 _).out.mono ?_
    rintro e w3 ⟨rfl, rfl⟩
    go_wp2_with fail
    refine (HR3 _).out.mono ?_
    rintro e w4 ⟨rfl, rfl⟩
    go_wp2_with fail
    refine (HR4 _).out.mono ?_
    rintro e w5 ⟨rfl, hd⟩
    have hb5 := below_dr HB.out hd
    have HB5 := hide hb5
    clear hb5 hd
    go_wp2_with fail
    refine (alive_any _).mono ?_
    rintro e w6 ⟨rfl, hb6⟩
    have HB6 := hide (HB5.out.trans (hb6.mono HB5.out.size))
    clear hb6
    go_wp2_with fail
    go_ret
    exact ⟨rfl, HB6.out⟩
  · go_enter Try.func3, Try.ntmps3
    go_wp2_with fail
    refine HL.out.mono ?_
    rintro e w1 ⟨rfl, rfl⟩
    go_wp2_with fail
    refine (alive_any _).mono ?_
    rintro e w6 ⟨rfl, hb6⟩
    have HB6 := hide (HB.out.trans (hb6.mono HB.out.size))
    clear hb6
    go_wp2_with fail
    go_ret
    exact ⟨rfl, HB6.out⟩

end Go.Proofs.Ytpcikoegokddfaa
