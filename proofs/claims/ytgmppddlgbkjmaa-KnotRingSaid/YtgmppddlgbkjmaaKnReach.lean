/- The walk of Reach: all to which a node leads. -/
import Derived.Test.YtgmppddlgbkjmaaKnIR
import Derived.Test.YtgmppddlgbkjmaaKnTar
namespace Go.Proofs.Ytgmppddlgbkjmaa
open Go.RowKit

namespace Kn
theorem outs_arc {g : G} {i j : Nat} : j ∈ outs g i ↔ Arc g i j := outs_iff
/-- A list of nodes met, of which the first ones are looked through. -/
structure Met (g : G) (i : Nat) (l : List Nat) (at_ : Nat) : Prop where
  nd : l.Nodup
  first : i ∈ l
  reach : ∀ x ∈ l, Reach g i x
  seen : ∀ (k x : Nat), k < at_ → l[k]? = some x → ∀ y ∈ outs g x, y ∈ l
theorem Met.start (g : G) (i : Nat) : Met g i [i] 0 := ⟨by simp, by simp, fun x hx => by simp at hx; subst hx; exact Reach.refl _, fun k x hk => by omega⟩
theorem Met.add {g : G} {i : Nat} {l : List Nat} {at_ : Nat} (h : Met g i l at_) {y : Nat} (hy : y ∉ l) (hr : Reach g i y) (ha : at_ ≤ l.length) : Met g i (l ++ [y]) at_ := by
  refine ⟨?_, List.mem_append_left _ h.first, fun x hx => ?_, fun k x hk hx z hz => ?_⟩
  · rw [List.nodup_append]
    exact ⟨h.nd, by simp, fun a ha b hb e => by simp at hb; subst hb; subst e; exact hy ha⟩
  · rcases List.mem_append.1 hx with hx | hx
    · exact h.reach x hx
    · simp at hx; subst hx; exact hr
  · rw [List.getElem?_append_left (by omega)] at hx
    exact List.mem_append_left _ (h.seen k x hk hx z hz)
theorem Met.lt {g : G} {i : Nat} {l : List Nat} {at_ : Nat} (h : Met g i l at_) (hi : i < g.length) : l.length ≤ g.length := nodup_len _ _ h.nd fun x hx => (h.reach x hx).lt hi
theorem Met.next {g : G} {i : Nat} {l : List Nat} {at_ x : Nat} (h : Met g i l at_) (hx : l[at_]? = some x) (hs : ∀ y ∈ outs g x, y ∈ l) : Met g i l (at_ + 1) :=
  ⟨h.nd, h.first, h.reach, fun k z hk hz => by
    by_cases hka : k = at_
    · subst hka
      rw [hx] at hz
      injection hz with hz
      subst hz
      exact hs
    · exact h.seen k z (by omega) hz⟩
theorem Met.all {g : G} {i : Nat} {l : List Nat} {at_ : Nat} (h : Met g i l at_) (ha : l.length ≤ at_) (y : Nat) : y ∈ l ↔ Reach g i y := by
  refine ⟨h.reach y, fun hr => hr.closed (C := fun z => z ∈ l) (fun u v hu hv => ?_) h.first⟩
  obtain ⟨k, hk⟩ := List.mem_iff_getElem?.1 hu
  exact h.seen k u (by have := (List.getElem?_eq_some_iff.1 hk).1; omega) hk v (outs_arc.2 hv)
end Kn

theorem rreach_out (n cg : Nat) (i : Int) (Ag : Option Addr) (w : World) (hi : i < 0 ∨ (n : Int) ≤ i) : Calls Try.prog 16 #[.slice Ag n cg, .int .i64 i] w fun e w' => e = .returned (.slice none 0 0) ∧ w = w' := by
  by_cases h0 : i < 0
  · clear hi
    go_enter Try.func16, Try.ntmps16
    go_wp2_with fail
    go_ret
    exact ⟨rfl, rfl⟩
  · have h1 : (n : Int) ≤ i := by omega
    have h2 : decide (i < 0) = false := by simp; omega
    clear hi h0
    go_enter Try.func16, Try.ntmps16
    go_wp2_with fail
    go_ret
    exact ⟨rfl, rfl⟩
/-- The outer loop's relation, and the inner one's. -/
structure ReachO (w : World) (g : Kn.G) (i : Nat) (v kv : Value) (wr : World) : Prop where
  ex : ∃ (k m c : Nat) (A : Option Addr) (l : List Nat), k ≤ m ∧ kv = .int .i64 (k : Nat) ∧ v = .slice A m c ∧ IR wr w.heap.size A m c l ∧ Below w.heap.size w wr ∧ Kn.Met g i l k
structure ReachE (n : Nat) (g : Kn.G) (i : Nat) (w : World) (e : Ending) (w' : World) : Prop where
  ex : ∃ A m c l, e = .returned (.slice A m c) ∧ IR w' w.heap.size A m c l ∧ m ≤ n ∧ ∀ y, y ∈ l ↔ Kn.Reach g i y
  below : Below w.heap.size w w'
structure ReachI (w wo : World) (g : Kn.G) (i k x m1 c1 : Nat) (A1 : Option Addr) (v jv : Value) (wr : World) : Prop where
  ex : ∃ (j m2 c2 : Nat) (A2 : Option Addr) (l2 : List Nat), j ≤ m1 ∧ k < m2 ∧ jv = .int .i64 (j : Nat) ∧ v = .slice A2 m2 c2 ∧ IR wr w.heap.size A2 m2 c2 l2 ∧ IR wr wo.heap.size A1 m1 c1 (Kn.outs g x) ∧
        (∀ b, (Value.slice A1 m1 c1).ownBlock = some b → (Value.slice A2 m2 c2).ownBlock ≠ some b) ∧ Below w.heap.size w wr ∧ Kn.Met g i l2 k ∧ l2[k]? = some x ∧ ∀ (q y : Nat), q < j → (Kn.outs g x)[q]? = some y → y ∈ l2
set_option maxHeartbeats 2000000 in
theorem rreach_any (n cg B i : Nat) (Ag : Option Addr) (g : Kn.G) (w : World) (hG : HasG w B Ag n g) (hB : B ≤ w.heap.size) (hn : n ≤ 1000000) (hi : i < n) (hA : ∀ i, (Kn.arcs g i).length ≤ 1000000) :
    Calls Try.prog 16 #[.slice Ag n cg, .int .i64 (i : Nat)] w fun e w' => ReachE n g i w e w' := by
  have hgl := hG.1
  have HG := hide (And.intro hG (And.intro hB (And.intro hgl hA)))
  have hi1 : (i : Int) < n := by omega
  have hi0 : (0 : Int) ≤ i := by omega
  have h0 : IR (w.alloc (.cells #[.int .i64 (i : Nat)] 3)) w.heap.size (some ⟨w.heap.size, 0, none⟩) 1 1 [i] :=
    ⟨RowZ.laid w 3 1 1 [.int .i64 (i : Nat)] (by simp) (by decide), fun b hb => by simp [Value.ownBlock] at hb; omega⟩
  have H0 := hide (And.intro h0 (below_laid w (.cells #[.int .i64 (i : Nat)] 3)))
  clear hG hB hgl hA h0
  go_enter Try.func16, Try.ntmps16
  go_wp2_with fail
  go_loopw [5, 6] (fun v kv wr => ReachO w g i v kv wr) (fun _ kv _ => n - (intOf kv).toNat)
  case atStart => exact ⟨⟨0, 1, 1, some ⟨w.heap.size, 0, none⟩, [i], by omega, rfl, rfl, H0.out.1, H0.out.2, Kn.Met.start g i⟩⟩
  case round =>
    obtain ⟨⟨k, m, c, A, l, hk, rfl, rfl, hrow, hbl, hmet⟩⟩ := hrel
    have hlm := hrow.len
    have hmn : m ≤ n := by have := hmet.lt (by have := HG.out.2.2.1; omega); have := HG.out.2.2.1; omega
    have k0 : (0 : Int) ≤ k := by omega
    by_cases hlt : k < m
    · obtain ⟨x, hx⟩ : ∃ x, l[k]? = some x := ⟨_, List.getElem?_eq_getElem (by omega)⟩
      obtain ⟨bo, rfl, hob, hoz, hxc⟩ := hrow.cell hx
      have hxr := hmet.reach x (List.mem_of_getElem? hx)
      have hxn : x < n := by have := hxr.lt (by have := HG.out.2.2.1; omega); have := HG.out.2.2.1; omega
      have k1 : (k : Int) < m := by omega
      have HR := hide (And.intro hrow (And.intro hbl (And.intro hmet (And.intro hx (And.intro hxr hlm)))))
      have HC := hide (rarcs_any n cg B x Ag g wr (HG.out.1.below (hbl.mono HG.out.2.1)) (Nat.le_trans HG.out.2.1 hbl.size) hn hxn (HG.out.2.2.2 x))
      have HOZ := hide hoz
      clear hrow hbl hmet hx hxr hlm hoz hob
      go_wp2_with (go_at_call 21; refine (HC.out).mono ?_; rintro e w1 ⟨⟨A1, m1, c1, rfl, hI1⟩, hb1⟩)
      have HI := hide (And.intro hI1 (And.intro hb1 hI1.len))
      have hm1 : m1 ≤ 1000000 := by
        have h1 := hI1.len
        have h2 : (Kn.outs g x).length ≤ (Kn.arcs g x).length := by
          unfold Kn.outs
          rw [List.length_map]
          exact List.length_filter_le _ _
        have h3 := HG.out.2.2.2 x
        omega
      clear hI1 hb1 HC hxc
      generalize wr = wo at *
      go_loopw [5, 8] (fun v jv wr => ReachI w wo g i k x m1 c1 A1 v jv wr) (fun _ jv _ => m1 - (intOf jv).toNat)
      case atStart =>
        exact ⟨⟨0, m, c, _, l, Nat.zero_le _, hlt, rfl, rfl, HR.out.1.below HI.out.2.1, HI.out.1, fun b hb e => by
          have h1 := HI.out.1.own b hb
          simp only [Value.ownBlock, Option.some.injEq] at e
          have := HOZ.out
          omega, HR.out.2.1.trans (HI.out.2.1.mono HR.out.2.1.size), HR.out.2.2.1, HR.out.2.2.2.1, fun q y hq => by omega⟩⟩
      case round =>
        obtain ⟨⟨j, m2, c2, A2, l2, hj, hkm, rfl, rfl, hr2, hrA, hne, hb2, hmet2, hx2, hsn⟩⟩ := hrel
        have j0 : (0 : Int) ≤ j := by omega
        have hl2 := hr2.len
        have hm2 : m2 ≤ n := by have := hmet2.lt (by have := HG.out.2.2.1; omega); have := HG.out.2.2.1; omega
        by_cases hjl : j < m1
        · obtain ⟨y, hy⟩ : ∃ y, (Kn.outs g x)[j]? = some y := ⟨_, List.getElem?_eq_getElem (by have := HI.out.2.2; omega)⟩
          obtain ⟨ba, rfl, _, _, hyc⟩ := hrA.cell hy
          have j1 : (j : Int) < m1 := by omega
          have HC := hide (in_any m2 c2 wr.heap.size A2 l2 (y : Nat) wr hr2.has (by omega))
          have HQ := hide (And.intro hr2 (And.intro hrA (And.intro hne (And.intro hb2 (And.intro hmet2 (And.intro hx2 hsn))))))
          have hyr : Kn.Reach g i y := (HR.out.2.2.2.2.1).tail (Kn.outs_arc.1 (List.mem_of_getElem? hy))
          have HY := hide (And.intro hy (And.intro hyr hl2))
          clear hr2 hrA hne hb2 hmet2 hx2 hsn hy hyr hl2
          by_cases hin : y ∈ l2
          · have hbt : Kn.inB l2 (y : Nat) = true := (Kn.inB_iff _ _).2 hin
            have HN := hide hin
            rw [hbt] at HC
            clear hin hbt
            go_wp2_with (go_at_call 15; refine (HC.out).mono ?_; rintro e w3 ⟨rfl, rfl⟩)
            refine ⟨⟨⟨j + 1, m2, c2, A2, l2, by omega, by omega, by congr 1, rfl, HQ.out.1, HQ.out.2.1, HQ.out.2.2.1, HQ.out.2.2.2.1, HQ.out.2.2.2.2.1, HQ.out.2.2.2.2.2.1, fun q z hq hz => ?_⟩⟩, by simp only [intOf]; omega⟩
            by_cases hqj : q = j
            · subst hqj
              have := HY.out.1
              rw [this] at hz
              injection hz with hz
              rw [← hz]
              exact HN.out
            · exact HQ.out.2.2.2.2.2.2 q z (by omega) hz
          · have hbt : Kn.inB l2 (y : Nat) = false := by
              cases hh : Kn.inB l2 (y : Nat) with
              | false => rfl
              | true => exact absurd ((Kn.inB_iff _ _).1 hh) hin
            have HN := hide hin
            rw [hbt] at HC
            clear hin hbt
            go_upto_region 12 with (go_at_call 15; refine (HC.out).mono ?_; rintro e w3 ⟨rfl, rfl⟩)
            have H2 := hide (And.intro (HQ.out.1.below (below_laid wr (.cells #[.int .i64 (y : Nat)] 3))) (And.intro (heap_alloc_new wr (.cells #[.int .i64 (y : Nat)] 3)) (below_laid wr (.cells #[.int .i64 (y : Nat)] 3))))
            go_wp2_with (at_builtin; refine app_int rfl (.tmp 44) (.tmp 49) rfl rfl rfl H2.out.2.1 H2.out.1 (by have := HQ.out.2.2.2.1.size; rw [World.size_alloc]; omega) (by omega) ?_)
            intro A' c' w' hr hg hb hob
            have HF := hide (And.intro hr (And.intro hg (And.intro hb hob)))
            clear hr hg hb hob
            go_wp2_with fail
            refine ⟨⟨⟨j + 1, m2 + 1, c', A', l2 ++ [y], by omega, by omega, by congr 1, rfl, HF.out.1, (HQ.out.2.1.below H2.out.2.2).keep HF.out.2.1 fun b hb e => HQ.out.2.2.1 b hb e, fun b hb e => ?_, HQ.out.2.2.2.1.trans ((H2.out.2.2.mono HQ.out.2.2.2.1.size).trans HF.out.2.2.1),
              HQ.out.2.2.2.2.1.add HN.out HY.out.2.1 (by have := HY.out.2.2; omega), ?_, fun q z hq hz => ?_⟩⟩, by simp only [intOf]; omega⟩
            · rcases HF.out.2.2.2 with h1 | h1
              · rw [h1] at e; exact HQ.out.2.2.1 b hb e
              · rw [h1] at e
                simp only [Option.some.injEq] at e
                have h3 := RowZ.lt HQ.out.2.1.row b hb
                omega
            · rw [List.getElem?_append_left (by have := HY.out.2.2; omega)]
              exact HQ.out.2.2.2.2.2.1
            · by_cases hqj : q = j
              · subst hqj
                have := HY.out.1
                rw [this] at hz
                injection hz with hz
                rw [← hz]
                simp
              · exact List.mem_append_left _ (HQ.out.2.2.2.2.2.2 q z (by omega) hz)
        · obtain rfl : j = m1 := by omega
          have j1 : ¬ (j : Int) < j := by omega
          have HQ := hide (And.intro hr2 (And.intro hb2 (And.intro hmet2 (And.intro hx2 hsn))))
          clear hr2 hrA hne hb2 hmet2 hx2 hsn hl2
          go_wp2_with fail
          refine ⟨⟨⟨k + 1, m2, c2, A2, l2, by omega, by congr 1, rfl, HQ.out.1, HQ.out.2.1, HQ.out.2.2.1.next HQ.out.2.2.2.1 fun y hy => ?_⟩⟩, by simp only [intOf]; omega⟩
          obtain ⟨q, hq⟩ := List.mem_iff_getElem?.1 hy
          exact HQ.out.2.2.2.2 q y (by have := (List.getElem?_eq_some_iff.1 hq).1; have := HI.out.2.2; omega) hq
    · obtain rfl : k = m := by omega
      have k1 : ¬ (k : Int) < k := by omega
      have HR := hide (And.intro hrow (And.intro hbl (And.intro hmet hlm)))
      clear hrow hbl hmet hlm
      go_wp2_with fail
      go_ret
      exact ⟨⟨A, k, c, l, rfl, HR.out.1, hmn, HR.out.2.2.1.all (by have := HR.out.2.2.2; omega)⟩, HR.out.2.1⟩
end Go.Proofs.Ytgmppddlgbkjmaa
