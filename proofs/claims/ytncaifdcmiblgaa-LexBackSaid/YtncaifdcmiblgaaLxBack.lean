/- The walk of LexBack. -/
import Derived.Test.YtncaifdcmiblgaaLxLaw2
import Derived.Test.YtncaifdcmiblgaaLxOpen
namespace Go.Proofs.Ytncaifdcmiblgaa
open Go.RowKit

set_option maxHeartbeats 4000000 in
theorem lexBack_any (A : Option Addr) (n c : Nat) (l : List Lx.T) (w : World) (h : HasT w w.heap.size A n l) (hn : n ≤ c) (hc : c ≤ maxLen) (hz : ∀ t ∈ l, Lx.Fit t) :
    Calls Try.prog 5 #[.slice A n c] w fun e w' => e = .returned (.bool true) ∧ Below w.heap.size w w' := by
  have hb1 := big_any n c w.heap.size A l w h (by omega) (fun t ht => (hz t ht).2.1)
  cases hl : Lx.big l
  · rw [hl] at hb1
    obtain ⟨l300, l200⟩ := Lx.big_false hl
    have hln := h.1
    have hn3 : n ≤ 300 := by omega
    have hal := rall_any n c w.heap.size A l w h (Nat.le_refl _) (by omega) (fun t ht => by have := l200 t ht; omega)
    cases hall : Lx.all l
    · rw [hall] at hal
      have HB1 := hide hb1
      have HAL := hide hal
      clear hb1 hal h hl hz hall l200 l300
      go_enter Try.func5, Try.ntmps5
      go_wp2_with fail
      refine HB1.out.mono ?_
      rintro e w' ⟨rfl, rfl⟩
      go_wp2_with fail
      refine HAL.out.mono ?_
      rintro e w1 ⟨rfl, hb1⟩
      have HB := hide hb1
      clear hb1
      go_wp2_with fail
      refine (alive_any _).mono ?_
      rintro e w4 ⟨rfl, hb4⟩
      have HB4 := hide (below_next HB.out hb4)
      clear hb4
      go_wp2_with fail
      go_ret
      exact ⟨rfl, HB4.out⟩
    · rw [hall] at hal
      have hok : ∀ t ∈ l, Lx.ok t = true := by simpa [Lx.all] using hall
      obtain ⟨m, hrd, hml, hlike, htx, hmt⟩ := Lx.back hok
      have hsz : (Lx.text l).size ≤ 1000000 := by
        have h1 := Lx.tx_len (l := l) (m := 200) l200 l.length
        have h2 : (Lx.text l).size = (Lx.tx l l.length).length := by rw [← Lx.size_list]; rfl
        omega
      have hlt := fun W (hW : Below w.heap.size w W) => ltext_any n c w.heap.size A l W (by omega) hW.size (h.below hW) (fun t ht => by have := l200 t ht; omega)
      have hread : ∀ W, Calls Try.prog 8 #[.string (Lx.text l)] W fun e w' => ∃ A2 c2, e = .returned (.tuple #[.slice A2 n c2, .agg #[.int .i64 0, .int .i64 0]]) ∧ HasT w' w'.heap.size A2 n m ∧ Below W.heap.size W w' := fun W =>
        (lread_any _ W hsz).mono fun e w' ⟨v, he, hrow, _, hb⟩ => by
          rw [hrd] at he hrow
          obtain ⟨A2, c2, rfl, _, _⟩ := RowZ.form hrow
          have hh := HasT.of_row hrow
          rw [show m.length = n by omega] at hh he
          exact ⟨A2, c2, he, hh, hb⟩
      have HLike := hide (fun W B A2 c2 (h1 : HasT W B A n l) (h2 : HasT W B A2 n m) => llike_any n c n c2 B A A2 l m W h1 h2 (by omega) (by omega))
      rw [hlike] at HLike
      have HTx2 := hide (fun W A2 c2 (h2 : HasT W W.heap.size A2 n m) => ltext_any n c2 W.heap.size A2 m W (by omega) (Nat.le_refl _) h2 (fun t ht => by obtain ⟨u, hu, e⟩ := hmt t ht; have := l200 u hu; rw [e]; omega))
      rw [htx] at HTx2
      have HB1 := hide hb1
      have HAL := hide hal
      have HL := hide h
      have HLT := hide hlt
      have HRD := hide hread
      clear hb1 hal h hl hz hall l200 l300 hlt hread hrd hml hlike htx hmt hok hsz hln
      generalize Lx.text l = s at *
      go_enter Try.func5, Try.ntmps5
      go_wp2_with fail
      refine HB1.out.mono ?_
      rintro e w' ⟨rfl, rfl⟩
      go_wp2_with fail
      refine HAL.out.mono ?_
      rintro e w1 ⟨rfl, hb1⟩
      have HX1 := hide hb1
      clear hb1
      go_wp2_with fail
      refine (HLT.out _ HX1.out).mono ?_
      rintro e w2 ⟨rfl, hb2⟩
      have HX2 := hide (below_next HX1.out hb2)
      clear hb2
      go_wp2_with fail
      refine (HRD.out _).mono ?_
      rintro e w3 ⟨A2, c2, rfl, hm, hb3⟩
      have hf := heap_alloc_new w3 (.cells #[.int .i64 0, .int .i64 0] 25)
      have hbl := below_laid w3 (.cells #[.int .i64 0, .int .i64 0] 25)
      have c10 : (w3.alloc (.cells #[.int .i64 0, .int .i64 0] 25)).cell? ⟨w3.heap.size, 0, none⟩ = some (.int .i64 0) := by rw [cell_block hf]; rfl
      have c11 : (w3.alloc (.cells #[.int .i64 0, .int .i64 0] 25)).cell? ⟨w3.heap.size, 1, none⟩ = some (.int .i64 0) := by rw [cell_block hf]; rfl
      have HX3 := hide (below_next (below_next HX2.out hb3) hbl)
      have HM3 := hide (hm.below hbl |>.more hbl.size)
      clear hm hb3 hf hbl
      go_wp2_with fail
      clear c10 c11
      generalize w3.alloc (.cells #[.int .i64 0, .int .i64 0] 25) = W at *
      refine (HLike.out W W.heap.size A2 c2 ((HL.out.below HX3.out).more HX3.out.size) HM3.out).mono ?_
      rintro e w4 ⟨rfl, hd4⟩
      have HX4 := hide (below_dr HX3.out hd4)
      have hm4 := HM3.out.below (hd4.below W.heap.size)
      rw [← hd4.size] at hm4
      have HM4 := hide hm4
      clear hd4 hm4
      go_wp2_with fail
      refine (HTx2.out _ A2 c2 HM4.out).mono ?_
      rintro e w5 ⟨rfl, hb5⟩
      have HX5 := hide (below_next HX4.out hb5)
      clear hb5
      go_wp2_with fail
      refine (alive_any _).mono ?_
      rintro e w6 ⟨rfl, hb6⟩
      have HB6 := hide (below_next HX5.out hb6)
      clear hb6
      go_wp2_with fail
      go_ret
      exact ⟨rfl, HB6.out⟩
  · rw [hl] at hb1
    have HB1 := hide hb1
    clear hl hb1 h hz
    go_enter Try.func5, Try.ntmps5
    go_wp2_with fail
    refine HB1.out.mono ?_
    rintro e w' ⟨rfl, rfl⟩
    go_wp2_with fail
    refine (alive_any _).mono ?_
    rintro e w4 ⟨rfl, hb4⟩
    have HB4 := hide hb4
    clear hb4
    go_wp2_with fail
    go_ret
    exact ⟨rfl, HB4.out⟩
end Go.Proofs.Ytncaifdcmiblgaa
