/- The walk of the reference's Order. -/
import Derived.Test.YtgmppddlgbkjmaaKnROrd
namespace Go.Proofs.Ytgmppddlgbkjmaa
open Go.RowKit

structure ROrdO (w w1 : World) (g : Kn.G) (of : List Nat) (v kv : Value) (wr : World) : Prop where
  ex : ∃ (r m c : Nat) (A : Option Addr), r ≤ g.length ∧ kv = .int .i64 (r : Nat) ∧ v = .slice A m c ∧ IR wr w1.heap.size A m c (Kn.gr g of r)
  below : Below w.heap.size w wr
  below1 : Below w1.heap.size w1 wr
structure ROrdI (w w1 : World) (g : Kn.G) (of : List Nat) (r m c : Nat) (A : Option Addr) (v kv : Value) (wr : World) : Prop where
  ex : ∃ (k : Nat), k ≤ g.length ∧ kv = .int .i64 (k : Nat) ∧ v = .slice A m c ∧ IR wr w1.heap.size A m c (Kn.gr g of r) ∧ ∀ j, j < k → ¬ Kn.Cand g of (Kn.gr g of r) j
  below : Below w.heap.size w wr
  below1 : Below w1.heap.size w1 wr
structure OrdE (g : Kn.G) (w : World) (e : Ending) (w' : World) : Prop where
  ex : ∃ A m c of, e = .returned (.slice A m c) ∧ IR w' w.heap.size A m c (Kn.gr g of g.length) ∧ Kn.Ofs g of
  below : Below w.heap.size w w'
theorem gr_next {g : Kn.G} {of : List Nat} {r k : Nat} (h : Kn.next g of (Kn.gr g of r) = some k) : Kn.gr g of (r + 1) = Kn.gr g of r ++ [k] := Kn.more_some h
theorem gr_same {g : Kn.G} {of : List Nat} {r : Nat} (h : ∀ j, ¬ Kn.Cand g of (Kn.gr g of r) j) : Kn.gr g of (r + 1) = Kn.gr g of r := Kn.more_none (Kn.next_none h)
set_option maxRecDepth 100000 in
set_option maxHeartbeats 4000000 in
theorem rorder_any (n cg B : Nat) (Ag : Option Addr) (g : Kn.G) (w : World) (hG : HasG w B Ag n g) (hB : B ≤ w.heap.size) (hn : n ≤ 1000000) (hA : ∀ i, (Kn.arcs g i).length ≤ 1000000) :
    Calls Try.prog 13 #[.slice Ag n cg] w fun e w' => OrdE g w e w' := by
  have hgl := hG.1
  have HC := hide (rof_any n cg B Ag g w hG hB hn hA)
  have HG := hide (And.intro hG (And.intro hB (And.intro hA hgl)))
  clear hG hB hA hgl
  go_enter Try.func13, Try.ntmps13
  go_wp2_with (go_at_call 11; refine (HC.out).mono ?_; rintro e w1 ⟨⟨Ao, co, of, rfl, hI1, hof⟩, hb1⟩; have H1 := hide (And.intro hI1 (And.intro hof hb1)); clear hI1 hof hb1)
  have H2 := hide (H1.out.2.2.size)
  go_loopw [4, 5] (fun v kv wr => ROrdO w w1 g of v kv wr) (fun _ kv _ => n - (intOf kv).toNat)
  case atStart => exact ⟨⟨0, 0, 0, none, Nat.zero_le _, rfl, rfl, IR.nil _ _⟩, H1.out.2.2, Below.refl _ _⟩
  case round =>
    obtain ⟨⟨r, m, c, A, hr, rfl, rfl, hrow⟩, hb, hb1⟩ := hrel
    rw [HG.out.2.2.2] at hr
    have HR := hide (And.intro hrow (And.intro hb hb1))
    clear hrow hb hb1
    have r0 : (0 : Int) ≤ r := by omega
    by_cases hlt : r < n
    · have r1 : (r : Int) < n := by omega
      have hmn : m ≤ n := by have h1 := HR.out.1.len; have h2 := (Kn.gr_ok g of r).len; have h3 := HG.out.2.2.2; omega
      go_wp2_with fail
      generalize wr = wo at *
      go_loopw [4, 6] (fun v kv wr => ROrdI w w1 g of r m c A v kv wr) (fun _ kv _ => n - (intOf kv).toNat)
      case atStart => exact ⟨⟨0, Nat.zero_le _, rfl, rfl, HR.out.1, fun j hj => by omega⟩, HR.out.2.1, HR.out.2.2⟩
      case round =>
        clear HR
        obtain ⟨⟨k, hk, rfl, rfl, hrow, hno⟩, hb, hb1⟩ := hrel
        rw [HG.out.2.2.2] at hk
        have HR := hide (And.intro hrow (And.intro hno (And.intro hb hb1)))
        clear hrow hno hb hb1
        have k0 : (0 : Int) ≤ k := by omega
        by_cases hkl : k < n
        · have k1 : (k : Int) < n := by omega
          have hO := H1.out.1.has.below HR.out.2.2.2
          obtain ⟨bo, oo, x, rfl, _, hx, hxc⟩ := hO.int hkl
          have hofk : of.getD k 0 = x := by rw [List.getD_eq_getElem?_getD, hx]; rfl
          have HO := hide (And.intro hO hofk)
          have keyN : ¬ Kn.Cand g of (Kn.gr g of r) k → ∀ j, j < k + 1 → ¬ Kn.Cand g of (Kn.gr g of r) j := fun h j hj => by
            by_cases hjk : j = k
            · rw [hjk]; exact h
            · exact HR.out.2.1 j (by omega)
          have HK := hide keyN
          clear hO hx hofk keyN
          by_cases hxk : x = k
          · subst hxk
            have HCI := hide (in_any m c wr.heap.size A (Kn.gr g of r) (x : Nat) wr HR.out.1.has (by omega))
            cases hin : Kn.inB (Kn.gr g of r) (x : Nat) with
            | true =>
              rw [hin] at HCI
              have HIN := hide ((Kn.inB_iff _ _).1 hin)
              clear hin
              go_wp2_with (go_at_call 15; refine (HCI.out).mono ?_; rintro e w3 ⟨rfl, rfl⟩)
              exact ⟨⟨⟨x + 1, by have := HG.out.2.2.2; omega, by congr 1, rfl, HR.out.1, HK.out fun hc => hc.2.2.1 HIN.out⟩, HR.out.2.2.1, HR.out.2.2.2⟩, by simp only [intOf]; omega⟩
            | false =>
              rw [hin] at HCI
              have hni : x ∉ Kn.gr g of r := fun hm => by rw [(Kn.inB_iff _ _).2 hm] at hin; cases hin
              have HIN := hide hni
              clear hin hni
              have HCF := hide (rfree_any n cg co m c wr.heap.size x Ag (some ⟨bo, oo, none⟩) A g of (Kn.gr g of r) wr ((HG.out.1.below (HR.out.2.2.1.mono HG.out.2.1)).more (Nat.le_trans HG.out.2.1 HR.out.2.2.1.size)) (HO.out.1.more HR.out.2.2.2.size) HR.out.1.has (Nat.le_refl _) hn (by omega) HG.out.2.2.1)
              cases hfb : Kn.freeB g of (Kn.gr g of r) x with
              | true =>
                rw [hfb] at HCF
                have hcand : Kn.Cand g of (Kn.gr g of r) x := ⟨by have := HG.out.2.2.2; omega, HO.out.2, HIN.out, Kn.freeB_iff.1 hfb⟩
                have HN := hide (Kn.next_some hcand HR.out.2.1)
                clear hfb hcand
                go_upto_region 10 with (first | (go_at_call 15; refine (HCI.out).mono ?_; rintro e w3 ⟨rfl, rfl⟩) | (go_at_call 20; refine (HCF.out).mono ?_; rintro e w4 ⟨rfl, hb4⟩; have H4 := hide hb4; clear hb4))
                have H3 := hide (And.intro ((HR.out.1.below H4.out).below (below_laid w4 (.cells #[.int .i64 (x : Nat)] 3))) (And.intro (heap_alloc_new w4 (.cells #[.int .i64 (x : Nat)] 3)) (below_laid w4 (.cells #[.int .i64 (x : Nat)] 3))))
                go_wp2_with (at_builtin; refine app_int rfl (.tmp 40) (.tmp 42) rfl rfl rfl H3.out.2.1 H3.out.1 (by have := HR.out.2.2.2.size; have := H4.out.size; rw [World.size_alloc]; omega) (by omega) ?_)
                intro A' c' w' hr hg hb hob
                have hbt : Below w1.heap.size wr w' := ((H4.out.trans (H3.out.2.2.mono H4.out.size)).mono HR.out.2.2.2.size).trans hb
                have HF := hide (And.intro hr hbt)
                clear hr hg hb hob hbt
                go_wp2_with fail
                refine ⟨⟨⟨r + 1, m + 1, c', A', by have := HG.out.2.2.2; omega, by congr 1, rfl, ?_⟩, HR.out.2.2.1.trans (HF.out.2.mono H2.out), HR.out.2.2.2.trans HF.out.2⟩, by simp only [intOf]; omega⟩
                rw [gr_next HN.out]
                exact HF.out.1
              | false =>
                rw [hfb] at HCF
                have hnf : ¬ Kn.Free g of (Kn.gr g of r) x := fun hf => by rw [Kn.freeB_iff.2 hf] at hfb; cases hfb
                have HN := hide hnf
                clear hfb hnf
                go_wp2_with (first | (go_at_call 15; refine (HCI.out).mono ?_; rintro e w3 ⟨rfl, rfl⟩) | (go_at_call 20; refine (HCF.out).mono ?_; rintro e w4 ⟨rfl, hb4⟩; have H4 := hide hb4; clear hb4))
                exact ⟨⟨⟨x + 1, by have := HG.out.2.2.2; omega, by congr 1, rfl, HR.out.1.below H4.out, HK.out fun hc => HN.out hc.2.2.2⟩, HR.out.2.2.1.trans (H4.out.mono HR.out.2.2.1.size), HR.out.2.2.2.trans (H4.out.mono HR.out.2.2.2.size)⟩, by simp only [intOf]; omega⟩
          · have hxk2 : ((x : Int) == k) = false := by simp; omega
            have HXK := hide hxk
            clear hxk
            go_wp2_with fail
            exact ⟨⟨⟨k + 1, by have := HG.out.2.2.2; omega, by congr 1, rfl, HR.out.1, HK.out fun hc => HXK.out (HO.out.2.symm.trans hc.2.1)⟩, HR.out.2.2.1, HR.out.2.2.2⟩, by simp only [intOf]; omega⟩
        · obtain rfl : k = n := by omega
          have k1 : ¬ (k : Int) < k := by omega
          go_wp2_with fail
          refine ⟨⟨⟨r + 1, m, c, A, by have := HG.out.2.2.2; omega, by congr 1, rfl, ?_⟩, HR.out.2.2.1, HR.out.2.2.2⟩, by simp only [intOf]; omega⟩
          rw [gr_same fun j hc => HR.out.2.1 j (by have := hc.1; have := HG.out.2.2.2; omega) hc]
          exact HR.out.1
    · obtain rfl : r = n := by omega
      have r1 : ¬ (r : Int) < r := by omega
      go_wp2_with fail
      go_ret
      refine ⟨⟨A, m, c, of, rfl, ?_, H1.out.2.1⟩, HR.out.2.1⟩
      rw [HG.out.2.2.2]
      exact HR.out.1.more H2.out
end Go.Proofs.Ytgmppddlgbkjmaa
