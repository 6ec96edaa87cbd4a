/- The walks of the law's own functions: big, alive. -/
import Derived.Test.YtgmppddlgbkjmaaKnOrder
import Derived.Test.YtgmppddlgbkjmaaKnLeads
namespace Go.Proofs.Ytgmppddlgbkjmaa
open Go.RowKit

namespace Kn
def bigB (g : G) : Bool := decide (80 < g.length) || g.any fun l => decide (80 < l.length)
theorem bigB_false {g : G} (h : bigB g = false) : g.length ≤ 80 ∧ ∀ i, (arcs g i).length ≤ 80 := by
  simp only [bigB, Bool.or_eq_false_iff, decide_eq_false_iff_not, List.any_eq_false, decide_eq_true_eq] at h
  refine ⟨by omega, fun i => ?_⟩
  unfold arcs
  rw [List.getD_eq_getElem?_getD]
  cases hi : g[i]? with
  | none => exact Nat.zero_le _
  | some l =>
    have := h.2 l (List.mem_of_getElem? hi)
    show l.length ≤ 80
    omega
/-- The chapter's example. -/
def g0 : G := [[1], [0], [0]]
theorem g0_arc {i j : Nat} (h : Arc g0 i j) : (i = 0 ∧ j = 1) ∨ (i = 1 ∧ j = 0) ∨ (i = 2 ∧ j = 0) := by
  obtain ⟨h1, h2⟩ := h
  match i, h1 with
  | 0, h1 => simp [arcs, g0] at h1; omega
  | 1, h1 => simp [arcs, g0] at h1; omega
  | 2, h1 => simp [arcs, g0] at h1; omega
  | i + 3, h1 => simp [arcs, g0] at h1
theorem g0_low {i j : Nat} (h : Reach g0 i j) (hi : i < 2) : j < 2 := h.closed (C := fun x => x < 2) (fun x y hx ha => by have := g0_arc ha; omega) hi
theorem g0_of : Ofs g0 [0, 0, 2] := by
  have h01 : Arc g0 0 1 := ⟨by simp [arcs, g0], by decide⟩
  have h10 : Arc g0 1 0 := ⟨by simp [arcs, g0], by decide⟩
  refine ⟨rfl, fun i hi => ?_⟩
  match i, hi with
  | 0, _ => exact ⟨⟨Reach.refl _, Reach.refl _⟩, fun z _ => Nat.zero_le _⟩
  | 1, _ => exact ⟨⟨Reach.one h10, Reach.one h01⟩, fun z _ => Nat.zero_le _⟩
  | 2, _ =>
    refine ⟨⟨Reach.refl _, Reach.refl _⟩, fun z hz => ?_⟩
    refine Classical.byContradiction fun h => ?_
    have := g0_low hz.2 (by simp at h; omega)
    omega
  | i + 3, hi => exact absurd hi (by simp [g0])
theorem g0_order : gr g0 [0, 0, 2] g0.length = [2, 0] := by decide
end Kn
theorem big_any (n c B : Nat) (A : Option Addr) (g : Kn.G) (w : World) (hG : HasG w B A n g) (hA : ∀ i, (Kn.arcs g i).length ≤ maxLen) (hn : n ≤ maxLen) :
    Calls Try.prog 7 #[.slice A n c] w fun e w' => e = .returned (.bool (Kn.bigB g)) ∧ w = w' := by
  have hgl := hG.1
  unfold maxLen at hn
  by_cases h80 : 80 < n
  · have hb : Kn.bigB g = true := by unfold Kn.bigB; rw [Bool.or_eq_true]; exact .inl (decide_eq_true (by omega))
    rw [hb]
    have h8 : (80 : Int) < n := by omega
    clear hG hgl hA hb h80
    go_enter Try.func7, Try.ntmps7
    go_wp2_with fail
    go_ret
    exact ⟨rfl, rfl⟩
  · have h8 : ¬ (80 : Int) < n := by omega
    have HG := hide (And.intro hG (And.intro hgl hA))
    clear hG hgl hA
    go_enter Try.func7, Try.ntmps7
    go_wp2_with fail
    go_loop [10] (fun v => ∃ k : Nat, k ≤ n ∧ v = .int .i64 (k : Nat) ∧ ∀ i, i < k → (Kn.arcs g i).length ≤ 80) (fun v => n - (intOf v).toNat)
    case atStart => exact ⟨0, Nat.zero_le _, rfl, fun i hi => by omega⟩
    case round =>
      obtain ⟨k, hk, rfl, hall⟩ := hrel
      have HA := hide hall
      clear hall
      have k0 : (0 : Int) ≤ k := by omega
      by_cases hlt : k < n
      · have k1 : (k : Int) < n := by omega
        obtain ⟨bg, og, rfl, _, _⟩ := HG.out.1.2 (by omega)
        obtain ⟨_, Ai, ci, hrc, _⟩ := HG.out.1.row hlt
        have hml := HG.out.2.2 k
        unfold maxLen at hml
        generalize hla : (Kn.arcs g k).length = la at *
        have HLA := hide hla
        clear hla
        by_cases hla8 : 80 < la
        · have l8 : (80 : Int) < la := by omega
          have H8 := hide hla8
          clear hla8
          go_wp2_with fail
          go_ret
          refine ⟨ret_bool ⟨fun _ => ?_, fun _ => rfl⟩, rfl⟩
          unfold Kn.bigB
          rw [Bool.or_eq_true]
          right
          rw [List.any_eq_true]
          have hl := HLA.out
          unfold Kn.arcs at hl
          rw [List.getD_eq_getElem?_getD, List.getElem?_eq_getElem (by have := HG.out.2.1; omega)] at hl
          exact ⟨_, List.getElem_mem (by have := HG.out.2.1; omega : k < g.length), decide_eq_true (by have := H8.out; simp at hl; omega)⟩
        · have l8 : ¬ (80 : Int) < la := by omega
          have H8 := hide hla8
          clear hla8
          go_wp2_with fail
          refine ⟨⟨k + 1, by omega, by congr 1, fun i hi => ?_⟩, by simp only [intOf]; omega⟩
          by_cases hik : i = k
          · subst hik
            have := HLA.out
            have := H8.out
            omega
          · exact HA.out i (by omega)
      · obtain rfl : k = n := by omega
        have k1 : ¬ (k : Int) < k := by omega
        go_wp2_with fail
        go_ret
        refine ⟨ret_bool ⟨fun h => absurd h (by decide), fun h => ?_⟩, rfl⟩
        unfold Kn.bigB at h
        rw [Bool.or_eq_true, decide_eq_true_eq, List.any_eq_true] at h
        rcases h with h | ⟨l, hl, h⟩
        · have := HG.out.2.1; omega
        · obtain ⟨i, hi⟩ := List.mem_iff_getElem?.1 hl
          have hik := (List.getElem?_eq_some_iff.1 hi).1
          have := HA.out i (by have := HG.out.2.1; omega)
          unfold Kn.arcs at this
          rw [List.getD_eq_getElem?_getD, hi] at this
          have h2 := of_decide_eq_true h
          simp at this
          omega
structure AliveE (w : World) (e : Ending) (w' : World) : Prop where
  ret : e = .returned (.bool true)
  below : Below w.heap.size w w'
theorem Kn.Ofs.g0 {of : List Nat} (h : Kn.Ofs Kn.g0 of) : of = [0, 0, 2] := h.uniq Kn.g0_of
theorem has_new (w : World) (l : List Nat) : Has (w.alloc (.cells (intsV l).toArray 3)) (w.heap.size + 1) (some ⟨w.heap.size, 0, none⟩) l.length (intsV l) :=
  ⟨intsV_len l, fun _ => ⟨w.heap.size, 0, rfl, by omega, fun j u hu => by
    rw [cell_block (heap_alloc_new w _), Nat.zero_add, List.getElem?_toArray]; exact hu⟩⟩
set_option maxRecDepth 100000 in
set_option maxHeartbeats 2000000 in
theorem alive_any (w : World) : Calls Try.prog 8 #[] w fun e w' => AliveE w e w' := by
  have hA : ∀ i, (Kn.arcs Kn.g0 i).length ≤ 1000000 := fun i => by
    unfold Kn.arcs Kn.g0
    match i with
    | 0 => simp
    | 1 => simp
    | 2 => simp
    | i + 3 => simp
  have HA := hide hA
  clear hA
  go_enter Try.func8, Try.ntmps8
  go_upto_region 2 with (fail)
  have hW : ∃ W, W = (((w.alloc (.cells #[.int .i64 1] 3)).alloc (.cells #[.int .i64 0] 3)).alloc (.cells #[.int .i64 0] 3)).alloc (.cells #[.slice (some ⟨w.heap.size, 0, none⟩) 1 1, .slice (some ⟨w.heap.size + 1, 0, none⟩) 1 1, .slice (some ⟨w.heap.size + 1 + 1, 0, none⟩) 1 1] 26) := ⟨_, rfl⟩
  obtain ⟨W, hW⟩ := hW
  rw [← hW]
  have hb : Below w.heap.size w W := by rw [hW]; exact below_laid4 w _ _ _ _
  have hs : W.heap.size = w.heap.size + 4 := by rw [hW]; simp
  have e0 : W.heap[w.heap.size]? = some (.cells #[.int .i64 1] 3) := by rw [hW]; simp only [heap_at, World.size_alloc]; repeat (first | rw [if_neg (by omega)] | rw [if_pos trivial] | rw [if_pos (by omega)])
  have e1 : W.heap[w.heap.size + 1]? = some (.cells #[.int .i64 0] 3) := by rw [hW]; simp only [heap_at, World.size_alloc]; repeat (first | rw [if_neg (by omega)] | rw [if_pos trivial] | rw [if_pos (by omega)])
  have e2 : W.heap[w.heap.size + 1 + 1]? = some (.cells #[.int .i64 0] 3) := by rw [hW]; simp only [heap_at, World.size_alloc]; repeat (first | rw [if_neg (by omega)] | rw [if_pos trivial] | rw [if_pos (by omega)])
  have e3 : W.heap[w.heap.size + 1 + 1 + 1]? = some (.cells #[.slice (some ⟨w.heap.size, 0, none⟩) 1 1, .slice (some ⟨w.heap.size + 1, 0, none⟩) 1 1, .slice (some ⟨w.heap.size + 1 + 1, 0, none⟩) 1 1] 26) := by rw [hW]; simp only [heap_at, World.size_alloc]; repeat (first | rw [if_neg (by omega)] | rw [if_pos trivial] | rw [if_pos (by omega)])
  have hG : HasG W W.heap.size (some ⟨w.heap.size + 1 + 1 + 1, 0, none⟩) 3 Kn.g0 := by
    refine ⟨rfl, fun _ => ⟨_, 0, rfl, by omega, fun i l hl => ?_⟩⟩
    match i, hl with
    | 0, hl =>
      cases hl
      exact ⟨some ⟨w.heap.size, 0, none⟩, 1, by rw [cell_block e3]; rfl, fun _ => ⟨w.heap.size, 0, rfl, by omega, fun j x hx => by
        match j, hx with
        | 0, hx => cases hx; rw [cell_block e0]; rfl⟩⟩
    | 1, hl =>
      cases hl
      exact ⟨some ⟨w.heap.size + 1, 0, none⟩, 1, by rw [cell_block e3]; rfl, fun _ => ⟨w.heap.size + 1, 0, rfl, by omega, fun j x hx => by
        match j, hx with
        | 0, hx => cases hx; rw [cell_block e1]; rfl⟩⟩
    | 2, hl =>
      cases hl
      exact ⟨some ⟨w.heap.size + 1 + 1, 0, none⟩, 1, by rw [cell_block e3]; rfl, fun _ => ⟨w.heap.size + 1 + 1, 0, rfl, by omega, fun j x hx => by
        match j, hx with
        | 0, hx => cases hx; rw [cell_block e2]; rfl⟩⟩
  have HB := hide hb
  have HC := hide (of_any 3 3 W.heap.size (some ⟨w.heap.size + 1 + 1 + 1, 0, none⟩) Kn.g0 W hG (Nat.le_refl _) (by decide) HA.out)
  have HG := hide hG
  clear hW hb hs e0 e1 e2 e3 hG
  go_wp2_with (first | (go_at_call 10; refine (HC.out).mono ?_; rintro e w1 ⟨⟨A1, c1, of1, rfl, hI1, ho1⟩, hb1⟩; obtain rfl := ho1.g0; have H1 := hide (And.intro hI1 hb1); clear hI1 hb1 ho1) | (go_at_call 12; refine (order_any 3 3 W.heap.size (some ⟨w.heap.size + 1 + 1 + 1, 0, none⟩) Kn.g0 w2 (HG.out.below H2.out) H2.out.size (by decide) HA.out).mono ?_; rintro e w3 ⟨⟨A3, m3, c3, of3, rfl, hI3, ho3⟩, hb3⟩; obtain rfl := ho3.g0; rw [Kn.g0_order] at hI3; obtain rfl : 2 = m3 := hI3.len; have H3 := hide (And.intro hI3 (H2.out.trans (hb3.mono H2.out.size))); clear hI3 hb3 ho3) | (go_at_call 9; (with_reducible refine (ints_any 3 c1 3 3 (w1.heap.size + 1) A1 (some ⟨w1.heap.size, 0, none⟩) [0, 0, 2] [0, 0, 2] _ ((H1.out.1.has.alloc (Nat.le_refl _) _).more (Nat.le_succ _)) (has_new w1 [0, 0, 2]) (by decide) (by decide)).mono ?_); rintro e w2 ⟨rfl, hd2⟩; have H2 := hide ((H1.out.2.trans ((below_laid w1 _).mono H1.out.2.size)).trans (hd2.below W.heap.size)); clear hd2) | (go_at_call 9; (with_reducible refine (ints_any 2 c3 2 2 (w3.heap.size + 1) A3 (some ⟨w3.heap.size, 0, none⟩) [2, 0] [2, 0] _ ((H3.out.1.has.alloc (Nat.le_refl _) _).more (Nat.le_succ _)) (has_new w3 [2, 0]) (by decide) (by decide)).mono ?_); rintro e w4 ⟨rfl, hd4⟩; have H4 := hide ((H3.out.2.trans ((below_laid w3 _).mono H3.out.2.size)).trans (hd4.below W.heap.size)); clear hd4))
  go_ret
  exact ⟨rfl, HB.out.trans (H4.out.mono HB.out.size)⟩
end Go.Proofs.Ytgmppddlgbkjmaa
