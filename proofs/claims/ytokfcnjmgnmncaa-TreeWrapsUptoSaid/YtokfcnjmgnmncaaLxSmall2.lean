/- The walks of the signs of the document, of comments and of runs. -/
import Derived.Test.YtokfcnjmgnmncaaLxSmall
namespace Go.Proofs.Ytokfcnjmgnmncaa
open Go.RowKit

def signs : List Nat := [35, 43, 38, 40, 41, 123, 125, 91, 93, 44, 58, 61, 124, 60]
theorem sg_iff (c : Nat) : Lx.sg c = true ↔ ∃ j, j < 14 ∧ signs.getD j 0 = c := by
  constructor
  · intro h
    have : c ∈ signs := by simpa [Lx.sg, signs] using h
    obtain ⟨j, hj, rfl⟩ := List.getElem_of_mem this
    exact ⟨j, hj, by simp [List.getD_eq_getElem?_getD, hj]⟩
  · rintro ⟨j, hj, rfl⟩
    have hj' : j < signs.length := hj
    have : signs.getD j 0 ∈ signs := by rw [List.getD_eq_getElem?_getD, List.getElem?_eq_getElem hj']; exact List.getElem_mem _
    simpa [Lx.sg, signs] using this

set_option maxHeartbeats 800000 in
theorem rsign_any (c : Nat) (w : World) : Calls Try.prog 33 #[.int .u8 c] w fun e w' => e = .returned (.bool (Lx.sg c)) ∧ Below w.heap.size w w' := by
  have hblk := heap_alloc_new w (.cells #[.int .u8 35, .int .u8 43, .int .u8 38, .int .u8 40, .int .u8 41, .int .u8 123, .int .u8 125, .int .u8 91, .int .u8 93, .int .u8 44, .int .u8 58, .int .u8 61, .int .u8 124, .int .u8 60] 5)
  have hcell : ∀ k, k < 14 → (w.alloc (.cells #[.int .u8 35, .int .u8 43, .int .u8 38, .int .u8 40, .int .u8 41, .int .u8 123, .int .u8 125, .int .u8 91, .int .u8 93, .int .u8 44, .int .u8 58, .int .u8 61, .int .u8 124, .int .u8 60] 5)).cell? ⟨w.heap.size, k, none⟩ = some (.int .u8 ((signs.getD k 0 : Nat) : Int)) := fun k hk => by
    rw [cell_block hblk]
    have : k = 0 ∨ k = 1 ∨ k = 2 ∨ k = 3 ∨ k = 4 ∨ k = 5 ∨ k = 6 ∨ k = 7 ∨ k = 8 ∨ k = 9 ∨ k = 10 ∨ k = 11 ∨ k = 12 ∨ k = 13 := by omega
    rcases this with rfl | rfl | rfl | rfl | rfl | rfl | rfl | rfl | rfl | rfl | rfl | rfl | rfl | rfl <;> rfl
  have HB := hide (below_laid w (.cells #[.int .u8 35, .int .u8 43, .int .u8 38, .int .u8 40, .int .u8 41, .int .u8 123, .int .u8 125, .int .u8 91, .int .u8 93, .int .u8 44, .int .u8 58, .int .u8 61, .int .u8 124, .int .u8 60] 5))
  have HC := hide hcell
  clear hblk hcell
  go_enter Try.func33, Try.ntmps33
  go_wp2_with fail
  generalize w.alloc (.cells #[.int .u8 35, .int .u8 43, .int .u8 38, .int .u8 40, .int .u8 41, .int .u8 123, .int .u8 125, .int .u8 91, .int .u8 93, .int .u8 44, .int .u8 58, .int .u8 61, .int .u8 124, .int .u8 60] 5) = W at HB HC ⊢
  go_loop [4] (fun i => ∃ k : Nat, k ≤ 14 ∧ i = .int .i64 k ∧ ∀ j, j < k → signs.getD j 0 ≠ c) (fun i => 14 - (intOf i).toNat)
  case atStart => exact ⟨0, Nat.zero_le _, rfl, fun j h => by omega⟩
  case round =>
    obtain ⟨k, hk, rfl, hg⟩ := hrel
    have HG := hide hg
    clear hg
    by_cases hlt : k < 14
    · have hc := HC.out k hlt
      have hk0 : (0 : Int) ≤ k := by omega
      have hk1 : (k : Int) < 14 := by omega
      generalize hy : signs.getD k 0 = y at hc
      by_cases he : y = c
      · have hs : Lx.sg c = true := (sg_iff c).2 ⟨k, hlt, by rw [hy, he]⟩
        subst he
        go_wp2_with fail
        go_ret
        exact ⟨by first | rfl | exact ret_bool (by simp), HB.out⟩
      · have he2 : (y : Int) ≠ c := by omega
        go_wp2_with fail
        go_round
        case rel =>
          refine ⟨k + 1, by omega, by go_num, fun j hj => ?_⟩
          rcases Nat.lt_or_ge j k with h | h
          · exact HG.out j h
          · obtain rfl : j = k := by omega
            rw [hy]; exact he
        case measure => simp [intOf]; omega
    · obtain rfl : k = 14 := by omega
      have hs : Lx.sg c = false := by
        cases hsg : Lx.sg c
        · rfl
        · obtain ⟨j, hj, he⟩ := (sg_iff c).1 hsg
          exact absurd he (HG.out j hj)
      go_wp2_with fail
      go_ret
      exact ⟨by first | rfl | exact ret_bool (by simp), HB.out⟩

theorem run_any (s : ByteArray) (i : Nat) (w : World) (hi : i ≤ s.size) (hs : s.size ≤ 1000000) : Calls Try.prog 34 #[.string s, .int .i64 i] w fun e w' =>
    e = .returned (.int .i64 ((Lx.end_ s i - i : Nat) : Int)) ∧ w = w' := by
  have hle := Lx.end_le s i
  have hsz := Lx.end_size hi
  generalize he : Lx.end_ s i = m at *
  have HE := hide he
  clear he
  go_enter Try.func34, Try.ntmps34
  go_wp2_with fail
  go_loop [5] (fun v => ∃ k : Nat, i + k ≤ m ∧ v = .int .i64 k ∧ Lx.end_ s (i + k) = m) (fun v => s.size - i - (intOf v).toNat)
  case atStart => exact ⟨0, by omega, rfl, HE.out⟩
  case round =>
    obtain ⟨k, hk, rfl, hend⟩ := hrel
    have HEnd := hide hend
    clear hend
    by_cases hlt : i + k < s.size
    · have hk0 : (0 : Int) ≤ (i : Int) + k := by omega
      have hk1 : (i : Int) + k < s.size := by omega
      have hkn : ((i : Int) + k).toNat = i + k := by omega
      cases hgk : Nm.goes (s[i + k]'hlt).toNat
      · have hst := HEnd.out
        rw [Lx.end_stop (by rw [Nm.byte_eq hlt, hgk]; simp)] at hst
        have HST := hide hst
        clear hst
        go_wp2_with (go_at_call 36; refine (rgoes_any _ _).mono ?_; rintro e w' ⟨rfl, rfl⟩)
        go_ret
        exact ⟨ret_int (by have := HST.out; omega), rfl⟩
      · have hst := HEnd.out
        rw [← Lx.end_step hlt (by rw [Nm.byte_eq hlt, hgk])] at hst
        have hkm : i + k + 1 ≤ m := by have := Lx.end_le s (i + k + 1); omega
        have HST := hide hst
        clear hst
        go_wp2_with (go_at_call 36; refine (rgoes_any _ _).mono ?_; rintro e w' ⟨rfl, rfl⟩)
        exact ⟨⟨k + 1, by omega, rfl, HST.out⟩, by simp [intOf]; omega⟩
    · have hst := HEnd.out
      rw [Lx.end_stop (by simp [hlt])] at hst
      have HST := hide hst
      have hk1 : ¬ ((i : Int) + k < s.size) := by omega
      clear hst
      go_wp2_with fail
      go_ret
      exact ⟨ret_int (by have := HST.out; omega), rfl⟩

end Go.Proofs.Ytokfcnjmgnmncaa
