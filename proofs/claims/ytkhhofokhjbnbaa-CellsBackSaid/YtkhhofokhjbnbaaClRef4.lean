/- The walk of the document's Undo. -/
import Derived.Test.YtkhhofokhjbnbaaClRef3
namespace Go.Proofs.Ytkhhofokhjbnbaa
open Go.RowKit

theorem has_take {w : World} {e : TypeId} {A : Option Addr} {n c : Nat} {xs : List Value} (h : Row w e (.slice A n c) xs) (hn : xs.length = n) : Has w w.heap.size A n xs := by
  subst hn; exact h.has

theorem runo_no (bad : Nat → Prop) (v : Value) (M : List (List Int)) (m : Int) (w : World) (h : Mat w bad v M) (hp : M ≠ []) (hl : M.length ≤ 10000) (hm : (M.length : Int) - 1 < m) :
    Calls Try.prog 21 #[.agg #[v], .int .i64 m] w fun e w' => e = .returned (.tuple #[.agg #[v], .bool false]) ∧ Below w.heap.size w w' := by
  obtain ⟨⟨rows, hrow, hlr, _⟩, _⟩ := h
  have hpos : 0 < M.length := List.length_pos_iff.2 hp
  rw [← hlr] at hm hl hpos
  have hfm := hrow.form
  obtain ⟨A0, c0, rfl, _, _⟩ := hfm
  have hS := St.new w (.slice A0 rows.length c0)
  have HM := hide (rmark_any (.slice A0 rows.length c0) rows _ (hrow.below hS.below) (by omega))
  have HS := hide hS
  have hm0 : ¬ m < 0 := by omega
  have hm1 : ¬ (m ≤ (rows.length : Int) - 1) := by omega
  clear hS hrow hlr
  go_enter Try.func21, Try.ntmps21
  go_wp2_with fail
  refine HM.out.mono ?_
  rintro e w1 ⟨rfl, hb1⟩
  have hS1 := HS.out.step hb1
  have hc1 := hS1.cell0
  have hd1 := hS1.cell1
  have hf1 := hS1.free1
  have hset := hS1.set (.slice A0 rows.length c0)
  have HS1 := hide hS1
  clear hS1 hb1
  go_wp2_with fail
  refine bodyPost_ret (v := .tuple #[.agg #[.slice A0 rows.length c0], .bool false]) (by simp [results, Try.results21, go_sem, hset]) rfl ⟨rfl, HS1.out.out _⟩

set_option maxHeartbeats 1600000 in
theorem runo_any (bad : Nat → Prop) (v : Value) (M : List (List Int)) (m : Int) (w : World) (h : Mat w bad v M) (hp : M ≠ []) (hl : M.length ≤ 10000) (hm : m ≤ (M.length : Int) - 1) (hbad : ∀ g, bad g → g < w.heap.size) :
    Calls Try.prog 21 #[.agg #[v], .int .i64 m] w fun e w' => ∃ v', e = .returned (.tuple #[.agg #[v'], .bool true]) ∧ Below w.heap.size w w' ∧ Mat w' bad v' (M.take (m.toNat + 1)) := by
  obtain ⟨i0, hi, hz0, hz1, hz2⟩ := info_parts info_us
  obtain ⟨⟨rows, hrow, hlr, hx⟩, hg⟩ := h
  have hpos : 0 < M.length := List.length_pos_iff.2 hp
  rw [← hlr] at hm hl hpos
  have hfm := hrow.form
  obtain ⟨A0, c0, rfl, hrc, hcm⟩ := hfm
  obtain ⟨g0, rfl⟩ := hrow.addr hpos
  have hS := St.new w (.slice (some ⟨g0, 0, none⟩) rows.length c0)
  have h1 : ∀ u ∈ rows, u.oneCell' = true := fun u hu => by
    obtain ⟨k, hk, rfl⟩ := List.getElem_of_mem hu
    obtain ⟨A', c', he, _, _⟩ := (hx k _ _ (List.getElem?_eq_getElem hk) (List.getElem?_eq_getElem (show k < M.length by omega))).1.form
    rw [he]; rfl
  have HM := hide (rmark_any (.slice (some ⟨g0, 0, none⟩) rows.length c0) rows _ (hrow.below hS.below) (by omega))
  have HS := hide hS
  have HX := hide (And.intro hrow (And.intro h1 (And.intro hx hlr)))
  have HBad := hide hbad
  have hkM : m.toNat < M.length := by omega
  clear hS hrow h1 hx hg hbad hlr
  obtain ⟨k, hk⟩ : ∃ k : Nat, k = m.toNat := ⟨_, rfl⟩
  rw [← hk]
  rcases Int.lt_or_le m 0 with hm0 | hm0
  · obtain rfl : k = 0 := by omega
    have hk3 : 1 ≤ rows.length := by omega
    have hm1 : ¬ ((rows.length : Int) - 1 < 0) := by omega
    rw [Nat.zero_add]
    clear hk
    go_enter Try.func21, Try.ntmps21
    go_wp2_with fail
    refine HM.out.mono ?_
    rintro e w1 ⟨rfl, hb1⟩
    have hS1 := HS.out.step hb1
    have hS1a := hS1.alloc (.cells #[] 36)
    have hc1 := hS1a.cell0
    have HS1 := hide (And.intro hS1 hS1a)
    clear hS1 hb1 hS1a
    have hk1 : (1 : Int) ≤ c0 := by omega
    have hhas := has_take (n := 1) ((HX.out.1.cut (k := 1) hk3).below (HS1.out.2.below)) (by simp; omega)
    have hrow0 : Row (w1.alloc (.cells #[] 36)) 36 (.slice (some ⟨w1.heap.size, 0, none⟩) 0 0) [] := by
      simpa using Row.laid w1 36 [] (by decide)
    have hw1 := HS1.out.1.size
    have HA := hide (And.intro hhas hrow0)
    clear hhas hrow0
    go_wp2_with (at_builtin; refine app_row rfl (.tmp 13) (.tmp 18) 26 26 rfl 36 i0 _ 24 Try.underlying26 hi hz0 hz1 hz2 rfl (.slice (some ⟨w1.heap.size, 0, none⟩) 0 0) [] rfl HA.out.2 _ (1) (rows.take (1)) rfl (Src.of_has Try.underlying26 HA.out.1 (fun u hu => HX.out.2.1 u (List.mem_of_mem_take hu))) (by simp only [List.length_nil]; unfold maxLen; omega) (by simp only [List.length_nil]; omega) ?_)
    intro A3 c3 w3 hrow3 hgr3 hob3
    have hS3 := HS1.out.2.grown hgr3 (fun g hg => by simp [Value.ownBlock] at hg; omega)
    have hob3' : ∀ g, (Value.slice A3 (1) c3).ownBlock = some g → w.heap.size + 2 ≤ g := fun g hg => by
      have := HS1.out.1.size
      rcases hob3 with h | h <;> rw [h] at hg <;> simp [Value.ownBlock] at hg <;> omega
    have hd3 := hS3.cell1
    have hf3 := hS3.free1
    have hset := hS3.set (.slice A3 (1) c3)
    have hm3 : Mat w3 bad (.slice A3 (1) c3) (M.take (1)) := by
      refine ⟨⟨_, hrow3, by simp [HX.out.2.2.2], fun j r l h1 h2 => ?_⟩, fun g hg hb => by have := hob3' g hg; have := HBad.out g hb; omega⟩
      have hj := (List.getElem?_eq_some_iff.1 h1).1
      simp at hj
      rw [List.getElem?_take_of_lt (by omega)] at h1 h2
      exact (HX.out.2.2.1 j r l h1 h2).below hS3.below
    have HS3 := hide (And.intro hS3 hm3)
    clear hS3 hrow3 hgr3 hob3 hob3' hm3 hc1
    go_wp2_with fail
    refine bodyPost_ret (v := .tuple #[.agg #[.slice A3 (1) c3], .bool true]) (by simp [results, Try.results21, go_sem, hset]) rfl ⟨_, rfl, HS3.out.1.out _, HS3.out.1.mat _ HS3.out.2⟩
  · obtain ⟨k2, rfl⟩ := Int.eq_ofNat_of_zero_le hm0
    obtain rfl : k = k2 := by omega
    have hm1 : ¬ ((k : Int) < 0) := by omega
    have hm2 : (k : Int) ≤ (rows.length : Int) - 1 := by omega
    have hk3 : k + 1 ≤ rows.length := by omega
    clear hk
    go_enter Try.func21, Try.ntmps21
    go_wp2_with fail
    refine HM.out.mono ?_
    rintro e w1 ⟨rfl, hb1⟩
    have hS1 := HS.out.step hb1
    have hS1a := hS1.alloc (.cells #[] 36)
    have hc1 := hS1a.cell0
    have HS1 := hide (And.intro hS1 hS1a)
    clear hS1 hb1 hS1a
    have hk1 : (k : Int) + 1 ≤ c0 := by omega
    have hk2 : (0 : Int) ≤ (k : Int) + 1 := by omega
    have hhas := has_take (n := k + 1) ((HX.out.1.cut (k := k + 1) hk3).below (HS1.out.2.below)) (by simp; omega)
    have hrow0 : Row (w1.alloc (.cells #[] 36)) 36 (.slice (some ⟨w1.heap.size, 0, none⟩) 0 0) [] := by
      simpa using Row.laid w1 36 [] (by decide)
    have hw1 := HS1.out.1.size
    have HA := hide (And.intro hhas hrow0)
    clear hhas hrow0
    go_wp2_with (at_builtin; refine app_row rfl (.tmp 13) (.tmp 18) 26 26 rfl 36 i0 _ 24 Try.underlying26 hi hz0 hz1 hz2 rfl (.slice (some ⟨w1.heap.size, 0, none⟩) 0 0) [] rfl HA.out.2 _ (k + 1) (rows.take (k + 1)) rfl (Src.of_has Try.underlying26 HA.out.1 (fun u hu => HX.out.2.1 u (List.mem_of_mem_take hu))) (by simp only [List.length_nil]; unfold maxLen; omega) (by simp only [List.length_nil]; omega) ?_)
    intro A3 c3 w3 hrow3 hgr3 hob3
    have hS3 := HS1.out.2.grown hgr3 (fun g hg => by simp [Value.ownBlock] at hg; omega)
    have hob3' : ∀ g, (Value.slice A3 (k + 1) c3).ownBlock = some g → w.heap.size + 2 ≤ g := fun g hg => by
      have := HS1.out.1.size
      rcases hob3 with h | h <;> rw [h] at hg <;> simp [Value.ownBlock] at hg <;> omega
    have hd3 := hS3.cell1
    have hf3 := hS3.free1
    have hset := hS3.set (.slice A3 (k + 1) c3)
    have hm3 : Mat w3 bad (.slice A3 (k + 1) c3) (M.take (k + 1)) := by
      refine ⟨⟨_, hrow3, by simp [HX.out.2.2.2], fun j r l h1 h2 => ?_⟩, fun g hg hb => by have := hob3' g hg; have := HBad.out g hb; omega⟩
      have hj := (List.getElem?_eq_some_iff.1 h1).1
      simp at hj
      rw [List.getElem?_take_of_lt (by omega)] at h1 h2
      exact (HX.out.2.2.1 j r l h1 h2).below hS3.below
    have HS3 := hide (And.intro hS3 hm3)
    clear hS3 hrow3 hgr3 hob3 hob3' hm3 hc1
    go_wp2_with fail
    refine bodyPost_ret (v := .tuple #[.agg #[.slice A3 (k + 1) c3], .bool true]) (by simp [results, Try.results21, go_sem, hset]) rfl ⟨_, rfl, HS3.out.1.out _, HS3.out.1.mat _ HS3.out.2⟩
end Go.Proofs.Ytkhhofokhjbnbaa
