/- The walks of the reference's free and Order. -/
import Derived.Test.YtgmppddlgbkjmaaKnOrd
namespace Go.Proofs.Ytgmppddlgbkjmaa
open Go.RowKit

theorem outs_len (g : Kn.G) (i : Nat) : (Kn.outs g i).length ≤ (Kn.arcs g i).length := by
  unfold Kn.outs
  rw [List.length_map]
  exact List.length_filter_le _ _
theorem HasG.more {w : World} {B B' : Nat} {A : Option Addr} {n : Nat} {g : Kn.G} (h : HasG w B A n g) (hB : B ≤ B') : HasG w B' A n g := by
  refine ⟨h.1, fun hn => ?_⟩
  obtain ⟨b, off, ha, hb, hc⟩ := h.2 hn
  refine ⟨b, off, ha, by omega, fun i l hl => ?_⟩
  obtain ⟨Ai, ci, h1, h2⟩ := hc i l hl
  refine ⟨Ai, ci, h1, fun hp => ?_⟩
  obtain ⟨bi, oi, e, hbi, hx⟩ := h2 hp
  exact ⟨bi, oi, e, by omega, hx⟩
structure FreeO (w : World) (g : Kn.G) (of out : List Nat) (kk : Nat) (kv : Value) (wr : World) : Prop where
  ex : ∃ (i : Nat), i ≤ g.length ∧ kv = .int .i64 (i : Nat) ∧ ∀ i', i' < i → ∀ j ∈ Kn.outs g i', of.getD j 0 = kk → of.getD i' 0 ≠ kk → of.getD i' 0 ∈ out
  below : Below w.heap.size w wr
structure FreeI (g : Kn.G) (of out : List Nat) (kk i m1 : Nat) (jv : Value) : Prop where
  ex : ∃ (j : Nat), j ≤ m1 ∧ jv = .int .i64 (j : Nat) ∧ ∀ (q y : Nat), q < j → (Kn.outs g i)[q]? = some y → of.getD y 0 = kk → of.getD i 0 ≠ kk → of.getD i 0 ∈ out
structure FreeE (b : Bool) (w : World) (e : Ending) (w' : World) : Prop where
  ret : e = .returned (.bool b)
  below : Below w.heap.size w w'
theorem freeB_false {g : Kn.G} {of out : List Nat} {kk : Nat} {b : Bool} (h : ¬ Kn.Free g of out kk) : (b = true ↔ Kn.freeB g of out kk = true) ↔ b = false := by
  rw [Kn.freeB_iff]
  cases b <;> simp [h]
set_option maxRecDepth 100000 in
set_option maxHeartbeats 4000000 in
theorem rfree_any (n cg co m c B kk : Nat) (Ag Ao Ax : Option Addr) (g : Kn.G) (of out : List Nat) (w : World) (hG : HasG w B Ag n g) (hO : Has w B Ao n (intsV of)) (hX : Has w B Ax m (intsV out)) (hB : B ≤ w.heap.size) (hn : n ≤ 1000000) (hm : m ≤ 1000000) (hA : ∀ i, (Kn.arcs g i).length ≤ 1000000) :
    Calls Try.prog 20 #[.slice Ag n cg, .slice Ao n co, .slice Ax m c, .int .i64 (kk : Nat)] w fun e w' => FreeE (Kn.freeB g of out kk) w e w' := by
  have hgl := hG.1
  have HG := hide (And.intro hG (And.intro hO (And.intro hX (And.intro hB (And.intro hA hgl)))))
  clear hG hO hX hB hA hgl
  go_enter Try.func20, Try.ntmps20
  go_wp2_with fail
  go_loopw [9] (fun kv wr => FreeO w g of out kk kv wr) (fun kv _ => n - (intOf kv).toNat)
  case atStart => exact ⟨⟨0, Nat.zero_le _, rfl, fun i hi => by omega⟩, Below.refl _ _⟩
  case round =>
    obtain ⟨⟨i, hi, rfl, hfr⟩, hbl⟩ := hrel
    rw [HG.out.2.2.2.2.2] at hi
    have HR := hide (And.intro hfr hbl)
    clear hfr hbl
    have i0 : (0 : Int) ≤ i := by omega
    by_cases hlt : i < n
    · have i1 : (i : Int) < n := by omega
      have HC := hide (rarcs_any n cg B i Ag g wr (HG.out.1.below (HR.out.2.mono HG.out.2.2.2.1)) (Nat.le_trans HG.out.2.2.2.1 HR.out.2.size) hn hlt (HG.out.2.2.2.2.1 i))
      go_wp2_with (go_at_call 21; refine (HC.out).mono ?_; rintro e w1 ⟨⟨A1, m1, c1, rfl, hI1⟩, hb1⟩; have H1 := hide (And.intro hI1 hb1); clear hI1 hb1)
      have hBB : Below B w w1 := (HR.out.2.mono HG.out.2.2.2.1).trans (H1.out.2.mono (Nat.le_trans HG.out.2.2.2.1 HR.out.2.size))
      have hO1 := HG.out.2.1.below hBB
      have hX1 := HG.out.2.2.1.below hBB
      have hm1 : m1 ≤ 1000000 := by have h1 := H1.out.1.len; have h2 := outs_len g i; have h3 := HG.out.2.2.2.2.1 i; omega
      obtain ⟨bo, oo, xi, rfl, _, hxi, hci⟩ := hO1.int hlt
      have HO1 := hide (And.intro hO1 (And.intro hX1 hxi))
      clear hO1 hX1 hBB hxi
      have hofi : of.getD i 0 = xi := by rw [List.getD_eq_getElem?_getD, HO1.out.2.2]; rfl
      have HOF := hide hofi
      clear hofi
      go_loop [11] (fun jv => FreeI g of out kk i m1 jv) (fun jv => m1 - (intOf jv).toNat)
      case atStart => exact ⟨⟨0, Nat.zero_le _, rfl, fun q y hq => by omega⟩⟩
      case round =>
        obtain ⟨⟨j, hj, rfl, hsn⟩⟩ := hrel
        have HS := hide hsn
        clear hsn
        have j0 : (0 : Int) ≤ j := by omega
        by_cases hjl : j < m1
        · have j1 : (j : Int) < m1 := by omega
          obtain ⟨y, hy⟩ : ∃ y, (Kn.outs g i)[j]? = some y := ⟨_, List.getElem?_eq_getElem (by have := H1.out.1.len; omega)⟩
          obtain ⟨ba, rfl, _, _, hyc⟩ := H1.out.1.cell hy
          have hyn : y < n := by have := (Kn.outs_iff.1 (List.mem_of_getElem? hy)).2; have := HG.out.2.2.2.2.2; omega
          have y0 : (0 : Int) ≤ y := by omega
          have y1 : (y : Int) < n := by omega
          obtain ⟨bo', oo', xj, hbo, _, hxj, hcj⟩ := HO1.out.1.int hyn
          simp only [Option.some.injEq, Addr.mk.injEq, and_true] at hbo
          obtain ⟨rfl, rfl⟩ := hbo
          have hofj : of.getD y 0 = xj := by rw [List.getD_eq_getElem?_getD, hxj]; rfl
          have HY := hide (And.intro hy hofj)
          have HC := hide (in_any m c B Ax out (xi : Nat) w1 HO1.out.2.1 hm)
          have key : ∀ (q z : Nat), q < j + 1 → (Kn.outs g i)[q]? = some z → of.getD z 0 = kk → of.getD i 0 ≠ kk → (of.getD y 0 = kk → of.getD i 0 ≠ kk → of.getD i 0 ∈ out) → of.getD i 0 ∈ out := fun q z hq hz h1 h2 h3 => by
            by_cases hqj : q = j
            · subst hqj
              rw [HY.out.1] at hz
              injection hz with hz
              subst hz
              exact h3 h1 h2
            · exact HS.out q z (by omega) hz h1 h2
          have HK := hide key
          clear hy hxj hofj key
          by_cases hjk : xj = kk
          · subst hjk
            by_cases hik : xi = xj
            · have hik2 : ((xi : Int) != xj) = false := by simp; omega
              have HIK := hide hik
              clear hik
              go_wp2_with fail
              refine ⟨⟨⟨j + 1, by omega, by congr 1, fun q z hq hz h1 h2 => HK.out q z hq hz h1 h2 fun _ h4 => absurd (HOF.out.trans HIK.out) h4⟩⟩, by simp only [intOf]; omega⟩
            · have hik2 : ((xi : Int) != xj) = true := by simp; omega
              have HIK := hide hik
              clear hik
              cases hin : Kn.inB out (xi : Nat) with
              | true =>
                rw [hin] at HC
                have HIN := hide ((Kn.inB_iff _ _).1 hin)
                clear hin
                go_wp2_with (go_at_call 15; refine (HC.out).mono ?_; rintro e w3 ⟨rfl, rfl⟩)
                refine ⟨⟨⟨j + 1, by omega, by congr 1, fun q z hq hz h1 h2 => HK.out q z hq hz h1 h2 fun _ _ => by rw [HOF.out]; exact HIN.out⟩⟩, by simp only [intOf]; omega⟩
              | false =>
                rw [hin] at HC
                have hni : ¬ xi ∈ out := fun hm => by rw [(Kn.inB_iff _ _).2 hm] at hin; cases hin
                have HIN := hide hni
                clear hni
                clear hin
                go_wp2_with (go_at_call 15; refine (HC.out).mono ?_; rintro e w3 ⟨rfl, rfl⟩)
                go_ret
                have hno : ¬ Kn.Free g of out xj := fun hf => HIN.out (by
                  have := hf i (by have := HG.out.2.2.2.2.2; omega) y (List.mem_of_getElem? HY.out.1) HY.out.2 (by rw [HOF.out]; exact HIK.out)
                  rw [HOF.out] at this
                  exact this)
                exact ⟨ret_bool ((freeB_false hno).2 rfl), HR.out.2.trans (H1.out.2.mono HR.out.2.size)⟩
          · have hjk2 : ((xj : Int) == kk) = false := by simp; omega
            have HJK := hide hjk
            clear hjk
            go_wp2_with fail
            refine ⟨⟨⟨j + 1, by omega, by congr 1, fun q z hq hz h1 h2 => HK.out q z hq hz h1 h2 fun h3 _ => absurd (HY.out.2.symm.trans h3) HJK.out⟩⟩, by simp only [intOf]; omega⟩
        · obtain rfl : j = m1 := by omega
          have j1 : ¬ (j : Int) < j := by omega
          go_wp2_with fail
          refine ⟨⟨⟨i + 1, by have := HG.out.2.2.2.2.2; omega, by congr 1, fun i' hi' y hy h1 h2 => ?_⟩, HR.out.2.trans (H1.out.2.mono HR.out.2.size)⟩, by simp only [intOf]; omega⟩
          by_cases hii : i' = i
          · subst hii
            obtain ⟨q, hq⟩ := List.mem_iff_getElem?.1 hy
            exact HS.out q y (by have := (List.getElem?_eq_some_iff.1 hq).1; have := H1.out.1.len; omega) hq h1 h2
          · exact HR.out.1 i' (by omega) y hy h1 h2
    · obtain rfl : i = n := by omega
      have i1 : ¬ (i : Int) < i := by omega
      go_wp2_with fail
      go_ret
      refine ⟨ret_bool ⟨fun _ => Kn.freeB_iff.2 fun i' hi' => HR.out.1 i' (by have := HG.out.2.2.2.2.2; omega), fun _ => rfl⟩, HR.out.2⟩
end Go.Proofs.Ytgmppddlgbkjmaa
