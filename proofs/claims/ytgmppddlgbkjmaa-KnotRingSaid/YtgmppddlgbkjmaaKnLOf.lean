/- The law KnotOf, walked. -/
import Derived.Test.YtgmppddlgbkjmaaKnLaw
namespace Go.Proofs.Ytgmppddlgbkjmaa
open Go.RowKit

structure OrdE2 (g : Kn.G) (of : List Nat) (w : World) (e : Ending) (w' : World) : Prop where
  ex : ∃ A m c, e = .returned (.slice A m c) ∧ IR w' w.heap.size A m c (Kn.gr g of g.length) ∧ m ≤ g.length
  below : Below w.heap.size w w'
theorem OrdE.to2 {g : Kn.G} {of : List Nat} {w w' : World} {e : Ending} (h : OrdE g w e w') (ho : Kn.Ofs g of) : OrdE2 g of w e w' := by
  obtain ⟨⟨A, m, c, of', h1, h2, h3⟩, hb⟩ := h
  obtain rfl := h3.uniq ho
  refine ⟨⟨A, m, c, h1, h2, ?_⟩, hb⟩
  have h4 := h2.len
  have h5 := (Kn.gr_ok g of' g.length).len
  omega
set_option maxRecDepth 100000 in
set_option maxHeartbeats 2000000 in
theorem lawOf (A : Option Addr) (n c : Nat) (g : Kn.G) (w : World) (hG : HasG w w.heap.size A n g) (hn : n ≤ maxLen) (hA : ∀ i, (Kn.arcs g i).length ≤ maxLen) :
    Calls Try.prog 3 #[.slice A n c] w fun e w' => AliveE w e w' := by
  have hgl := hG.1
  have HC := hide (big_any n c w.heap.size A g w hG hA hn)
  cases hb : Kn.bigB g with
  | true =>
    rw [hb] at HC
    clear hb hG hn hA hgl
    go_enter Try.func3, Try.ntmps3
    go_wp2_with (first | (go_at_call 7; refine (HC.out).mono ?_; rintro e w1 ⟨rfl, rfl⟩) | (go_at_call 8; refine (alive_any _).mono ?_; rintro e w2 ⟨rfl, hb2⟩; have H2 := hide hb2; clear hb2))
    go_ret
    exact ⟨rfl, H2.out⟩
  | false =>
    rw [hb] at HC
    obtain ⟨h1, h2⟩ := Kn.bigB_false hb
    have h3 : ∀ i, (Kn.arcs g i).length ≤ 1000000 := fun i => Nat.le_trans (h2 i) (by decide)
    have HG := hide (And.intro hG (And.intro h3 hgl))
    have hn8 : n ≤ 80 := by omega
    clear hb hG hn hA hgl h1 h2 h3
    go_enter Try.func3, Try.ntmps3
    go_wp2_with (first | (go_at_call 7; refine (HC.out).mono ?_; rintro e w1 ⟨rfl, rfl⟩) | (go_at_call 10; refine (of_any n c w.heap.size A g w HG.out.1 (Nat.le_refl _) (by omega) HG.out.2.1).mono ?_; rintro e w1 ⟨⟨A1, c1, of1, rfl, hI1, ho1⟩, hb1⟩; have H1 := hide (And.intro hI1 (And.intro ho1 hb1)); clear hI1 hb1 ho1) | (go_at_call 11; refine (rof_any n c w.heap.size A g w1 (HG.out.1.below H1.out.2.2) H1.out.2.2.size (by omega) HG.out.2.1).mono ?_; rintro e w2 ⟨⟨A2, c2, of2, rfl, hI2, ho2⟩, hb2⟩; obtain rfl := H1.out.2.1.uniq ho2; have H2 := hide (And.intro hI2 (And.intro (H1.out.1.below hb2) (H1.out.2.2.trans (hb2.mono H1.out.2.2.size)))); clear hI2 hb2 ho2) | (go_at_call 9; (with_reducible refine (ints_any n c1 n c2 w2.heap.size A1 A2 of1 of1 w2 H2.out.2.1.has H2.out.1.has (by omega) (by omega)).mono ?_); rintro e w3 ⟨rfl, hd3⟩; have H3 := hide (H2.out.2.2.trans (hd3.below w.heap.size)); clear hd3) | (go_at_call 12; refine (order_any n c w.heap.size A g w3 (HG.out.1.below H3.out) H3.out.size (by omega) HG.out.2.1).mono ?_; intro e w4 he4; obtain ⟨⟨A4, m4, c4, rfl, hI4, hm4⟩, hb4⟩ := he4.to2 H1.out.2.1; have H4 := hide (And.intro hI4 (And.intro hm4 (H3.out.trans (hb4.mono H3.out.size)))); clear hI4 hb4 hm4 he4) | (go_at_call 13; refine (rorder_any n c w.heap.size A g w4 (HG.out.1.below H4.out.2.2) H4.out.2.2.size (by omega) HG.out.2.1).mono ?_; intro e w5 he5; obtain ⟨⟨A5, m5, c5, rfl, hI5, hm5⟩, hb5⟩ := he5.to2 H1.out.2.1; have H5 := hide (And.intro hI5 (And.intro hm5 (And.intro (H4.out.1.below hb5) (H4.out.2.2.trans (hb5.mono H4.out.2.2.size))))); clear hI5 hb5 hm5 he5) | (go_at_call 9; (with_reducible refine (ints_any m4 c4 m5 c5 w5.heap.size A4 A5 (Kn.gr g of1 g.length) (Kn.gr g of1 g.length) w5 H5.out.2.2.1.has H5.out.1.has (by have := H4.out.2.1; have := HG.out.2.2; omega) (by have := H5.out.2.1; have := HG.out.2.2; omega)).mono ?_); rintro e w6 ⟨rfl, hd6⟩; have H6 := hide (H5.out.2.2.2.trans (hd6.below w.heap.size)); clear hd6) | (go_at_call 8; refine (alive_any _).mono ?_; rintro e w7 ⟨rfl, hb7⟩; have H7 := hide (H6.out.trans (hb7.mono H6.out.size)); clear hb7))
    go_ret
    exact ⟨rfl, H7.out⟩
end Go.Proofs.Ytgmppddlgbkjmaa
