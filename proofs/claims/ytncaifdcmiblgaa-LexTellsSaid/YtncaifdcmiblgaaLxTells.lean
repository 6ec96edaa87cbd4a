/- The walk of LexTells. -/
import Derived.Test.YtncaifdcmiblgaaLxTextR
import Derived.Test.YtncaifdcmiblgaaLxOpen
namespace Go.Proofs.Ytncaifdcmiblgaa
open Go.RowKit

set_option maxHeartbeats 4000000 in
theorem lexTells_any (A : Option Addr) (n c : Nat) (l : List Lx.T) (A2 : Option Addr) (n2 c2 : Nat) (m : List Lx.T) (w : World) (h : HasT w w.heap.size A n l) (hn : n ≤ c) (hc : c ≤ maxLen) (hz : ∀ t ∈ l, Lx.Fit t)
    (h2 : HasT w w.heap.size A2 n2 m) (hn2 : n2 ≤ c2) (hc2 : c2 ≤ maxLen) (hz2 : ∀ t ∈ m, Lx.Fit t) :
    Calls Try.prog 6 #[.slice A n c, .slice A2 n2 c2] w fun e w' => e = .returned (.bool true) ∧ Below w.heap.size w w' := by
  have hb1 := big_any n c w.heap.size A l w h (by omega) (fun t ht => (hz t ht).2.1)
  have hb2 := big_any n2 c2 w.heap.size A2 m w h2 (by omega) (fun t ht => (hz2 t ht).2.1)
  have HZ := hide (And.intro hz (And.intro hz2 (And.intro hn (And.intro hc (And.intro hn2 hc2)))))
  clear hz hz2 hn hc hn2 hc2
  cases hl : Lx.big l
  · cases hm : Lx.big m
    · rw [hl] at hb1
      rw [hm] at hb2
      obtain ⟨l300, l200⟩ := Lx.big_false hl
      obtain ⟨m300, m200⟩ := Lx.big_false hm
      have hln := h.1
      have hmn := h2.1
      have hn3 : n ≤ 300 := by omega
      have hn23 : n2 ≤ 300 := by omega
      have HL1 := hide h
      have HL2 := hide h2
      have HB1 := hide hb1
      have HB2 := hide hb2
      have H2 := hide (And.intro l200 (And.intro m200 (And.intro hln hmn)))
      clear h h2 hb1 hb2 hl hm l200 m200 hln hmn l300 m300
      go_enter Try.func6, Try.ntmps6
      go_wp2_with fail
      refine HB1.out.mono ?_
      rintro e w' ⟨rfl, rfl⟩
      go_wp2_with fail
      refine HB2.out.mono ?_
      rintro e w' ⟨rfl, rfl⟩
      go_wp2_with fail
      go_loopw [5] (fun i wr => ∃ k : Nat, k ≤ n ∧ i = .int .i64 k ∧ Below w.heap.size w wr) (fun i _ => n - (intOf i).toNat)
      case atStart => exact ⟨0, Nat.zero_le _, rfl, Below.refl _ _⟩
      case round =>
        obtain ⟨k, hk, rfl, hbw⟩ := hrel
        have HW := hide hbw
        by_cases hlt : k < n
        · obtain ⟨t, ht⟩ : ∃ t, l[k]? = some t := ⟨l[k]'(by have := H2.out.2.2.1; omega), List.getElem?_eq_getElem _⟩
          obtain ⟨b, off, rfl, hbB, hcell⟩ := (HL1.out.below hbw).2 (by omega)
          obtain ⟨d0, d1, d2⟩ := hcell k t ht
          have htm : t.text.size ≤ 1000000 := by have := H2.out.1 t (List.mem_of_getElem? ht); omega
          have hbr : b < wr.heap.size := by have := hbw.size; omega
          clear hcell ht hbw
          have hk0 : (k : Int) < n := by omega
          have hk1 : (0 : Int) ≤ k := by omega
          have HR := hide (fun W => rright_any t W htm)
          have HLr := hide (fun W => lright_any t W htm)
          have hu0 : ∀ u : Calm wr.heap.size wr, u.w.cell? ⟨b, off + k * 3, none⟩ = some (.int .u8 t.kind) := fun u => (u.below.cell (p := ⟨b, off + k * 3, none⟩) hbr).trans d0
          have hu1 : ∀ u : Calm wr.heap.size wr, u.w.cell? ⟨b, off + k * 3 + 1, none⟩ = some (.string t.text) := fun u => (u.below.cell (p := ⟨b, off + k * 3 + 1, none⟩) hbr).trans d1
          have hu2 : ∀ u : Calm wr.heap.size wr, u.w.cell? ⟨b, off + k * 3 + 2, none⟩ = some (.int .i64 t.pos) := fun u => (u.below.cell (p := ⟨b, off + k * 3 + 2, none⟩) hbr).trans d2
          clear htm
          go_wp2_with fail
          refine wp_region_calm wr.heap.size (by kernel_rfl) (by kernel_rfl) ?_
          repeat (go_big_quiet_step ((first | (go_at_call 11; exact calm_call (Nat.le_refl _) (HLr.out _)) | (go_at_call 16; exact calm_call (Nat.le_refl _) (HR.out _)))))
          refine wpQuiet_nil ?_
          rintro _ ⟨u, rfl⟩
          go_wp2_with fail
          exact ⟨⟨k + 1, by omega, rfl, HW.out.trans (u.below.mono HW.out.size)⟩, by simp [intOf]; omega⟩
        · obtain rfl : k = n := by omega
          have h1 := HL1.out.below hbw
          have h2 := HL2.out.below hbw
          have h3 := HL2.out
          have HA := hide (ltext_any k c w.heap.size A l wr (by omega) hbw.size h1 (fun t ht => by have := H2.out.1 t ht; omega))
          have HB := hide (fun W (hW : Below wr.heap.size wr W) => rtext_any k c w.heap.size A l W (by omega) (h1.below (hW.mono hbw.size)) (fun t ht => by have := H2.out.1 t ht; omega))
          have HC := hide (fun W (hW : Below wr.heap.size wr W) => llike_any k c n2 c2 w.heap.size A A2 l m W (h1.below (hW.mono hbw.size)) (h2.below (hW.mono hbw.size)) (by omega) (by omega))
          have HD := hide (fun W (hW : Below wr.heap.size wr W) => rlike_any k c n2 c2 w.heap.size A A2 l m W (h1.below (hW.mono hbw.size)) (h2.below (hW.mono hbw.size)) (by omega) (by omega))
          clear h1 h2 h3 hbw
          go_wp2_with fail
          refine HA.out.mono ?_
          rintro e w1 ⟨rfl, hb1⟩
          have HX := hide hb1
          clear hb1
          go_wp2_with fail
          refine (HB.out _ HX.out).mono ?_
          rintro e w2 ⟨rfl, rfl⟩
          go_wp2_with fail
          refine (HC.out _ HX.out).mono ?_
          rintro e w2 ⟨rfl, hd⟩
          have HX2 := hide (below_dr HX.out hd)
          clear hd
          go_wp2_with fail
          refine (HD.out _ HX2.out).mono ?_
          rintro e w3 ⟨rfl, hd⟩
          have HX3 := hide (below_dr HX2.out hd)
          clear hd
          go_wp2_with fail
          refine (alive_any _).mono ?_
          rintro e w4 ⟨rfl, hb4⟩
          have HB4 := hide (HW.out.trans ((below_next HX3.out hb4).mono HW.out.size))
          clear hb4
          go_wp2_with fail
          go_ret
          exact ⟨rfl, HB4.out⟩
    · rw [hl] at hb1
      rw [hm] at hb2
      have HB1 := hide hb1
      have HB2 := hide hb2
      clear hl hm hb1 hb2 h h2
      go_enter Try.func6, Try.ntmps6
      go_wp2_with fail
      refine HB1.out.mono ?_
      rintro e w' ⟨rfl, rfl⟩
      go_wp2_with fail
      refine HB2.out.mono ?_
      rintro e w' ⟨rfl, rfl⟩
      go_wp2_with fail
      refine (alive_any _).mono ?_
      rintro e w4 ⟨rfl, hb4⟩
      have HB4 := hide hb4
      clear hb4
      go_wp2_with fail
      go_ret
      exact ⟨rfl, HB4.out⟩
  · rw [hl] at hb1
    have HB1 := hide hb1
    clear hl hb1 hb2 h h2
    go_enter Try.func6, Try.ntmps6
    go_wp2_with fail
    refine HB1.out.mono ?_
    rintro e w' ⟨rfl, rfl⟩
    go_wp2_with fail
    refine (alive_any _).mono ?_
    rintro e w4 ⟨rfl, hb4⟩
    have HB4 := hide hb4
    clear hb4
    go_wp2_with fail
    go_ret
    exact ⟨rfl, HB4.out⟩
end Go.Proofs.Ytncaifdcmiblgaa
