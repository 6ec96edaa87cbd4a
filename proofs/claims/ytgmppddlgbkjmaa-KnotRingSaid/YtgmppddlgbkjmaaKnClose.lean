/- The walk of close: a knot is whole. -/
import Derived.Test.YtgmppddlgbkjmaaKnEnter2
namespace Go.Proofs.Ytgmppddlgbkjmaa
open Go.RowKit
open Kn (setAll least)

theorem setAll_take {α : Type} (l : List α) (ks : List Nat) (v : α) {q k : Nat} (h : ks[q]? = some k) : setAll l (ks.take (q + 1)) v = (setAll l (ks.take q) v).set k v := by
  obtain ⟨hq, rfl⟩ := List.getElem?_eq_some_iff.1 h
  unfold setAll
  rw [List.take_succ_eq_append_getElem hq, List.foldl_append]
  rfl
theorem least_take (ks : List Nat) (i : Nat) {q k : Nat} (h : ks[q]? = some k) : least (ks.take (q + 1)) i = min (least (ks.take q) i) k := by
  obtain ⟨hq, rfl⟩ := List.getElem?_eq_some_iff.1 h
  unfold least
  rw [List.take_succ_eq_append_getElem hq, List.foldl_append]
  rfl
theorem least_le : ∀ (ks : List Nat) (i : Nat), least ks i ≤ i
  | [], i => Nat.le_refl _
  | k :: ks, i => by
    have := least_le ks (min i k)
    simp only [least, List.foldl_cons] at this ⊢
    omega
/-- A stack's cells, deep part, the node, and what stands above it. -/
theorem stack_at {st suf pre : List Nat} {i : Nat} (h : st = suf ++ i :: pre) : st.reverse = pre.reverse ++ (i :: suf.reverse) := by
  subst h; simp
theorem stack_get {st suf pre : List Nat} {i q k : Nat} (h : st = suf ++ i :: pre) (hk : (i :: suf.reverse)[q]? = some k) : (intsV st.reverse)[pre.length + q]? = some (.int .i64 (k : Nat)) := by
  rw [stack_at h]
  have hq := (List.getElem?_eq_some_iff.1 hk).1
  simp only [intsV, List.map_append]
  rw [List.getElem?_append_right (by simp)]
  simp only [List.length_map, List.length_reverse, Nat.add_sub_cancel_left]
  rw [List.getElem?_map, hk]
  rfl
theorem Wk.setOf' {w : World} {B : Nat} {a : At} {Ag : Option Addr} {n cg : Nat} {vs vo : Value} {s : Kn.St} (h : Wk w B a Ag n cg vs vo s) {k : Nat} (hk : k < s.of.length) : w.cell? ⟨a.f, k, none⟩ = some (.int .i64 (s.of.getD k 0 : Nat)) := by
  rw [cell_block h.hf, List.getElem?_toArray]; exact intsV_get hk

set_option maxRecDepth 100000 in
set_option maxHeartbeats 8000000 in
theorem close_any (i : Nat) (w : World) {B : Nat} {a : At} {Ag : Option Addr} {n cg : Nat} {vs vo : Value} {s : Kn.St} {suf pre : List Nat} (h : Wk w B a Ag n cg vs vo s) (hB : B ≤ w.heap.size) (hst : s.stack = suf ++ i :: pre) (hns : i ∉ suf) (hlt : ∀ x ∈ s.stack, x < n)
    (hlf : s.of.length = n) (hln : s.on.length = n) (hs : s.stack.length ≤ 1000000) :
    Calls Try.prog 23 #[.pointer (some ⟨a.P, 0, none⟩), .int .i64 i] w fun e w' => e = .returned (.tuple #[]) ∧
      (∃ vs', Wk w' B a Ag n cg vs' vo { s with of := setAll s.of (i :: suf.reverse) (least (i :: suf.reverse) i), on := setAll s.on (i :: suf.reverse) false, stack := pre }) ∧ Below B w w' := by
  obtain ⟨As, cs, rfl, hcs, hcsm⟩ := RowZ.form h.st
  obtain ⟨g, rfl⟩ := RowZ.addr h.st (by rw [hst]; simp; omega)
  obtain ⟨k0, k1, k2, k3, k4, k5, k6, k7⟩ := h.cells
  have hsl : s.stack.length = pre.length + suf.length + 1 := by rw [hst]; simp; omega
  have hcell : ∀ j k, pre.length ≤ j → (i :: suf.reverse)[j - pre.length]? = some k → w.cell? ⟨g, j, none⟩ = some (.int .i64 (k : Nat)) := fun j k hj hk => by
    have hq := (List.getElem?_eq_some_iff.1 hk).1
    simp at hq
    have := stack_get hst hk
    rw [show pre.length + (j - pre.length) = j by omega] at this
    rw [RowZ.cell h.st (by rw [intsV_len, List.length_reverse]; omega), this]
  have hown : ∀ x ∈ (i :: suf.reverse), x < n := fun x hx => hlt x (by rw [hst]; simp at hx ⊢; rcases hx with rfl | hx; (· exact .inr (.inl rfl)); (· exact .inl hx))
  have hnot : ∀ q k, 0 < q → (i :: suf.reverse)[q]? = some k → k ≠ i := fun q k hq hk => by
    match q, hq with
    | q + 1, _ =>
      simp only [List.getElem?_cons_succ] at hk
      have := List.mem_of_getElem? hk
      rintro rfl
      exact hns (by simpa using this)
  unfold maxLen at hcsm
  have hol : (i :: suf.reverse).length = suf.length + 1 := by simp
  have hi : i < n := hown i (by simp)
  have H := hide h
  have HB := hide hB
  have HC := hide hcell
  have HO := hide hown
  have hcc : ∀ (wr : World) of' on', Wk wr B a Ag n cg (.slice (some ⟨g, 0, none⟩) s.stack.length cs) vo { s with of := of', on := on' } → ∀ j k, pre.length ≤ j → (i :: suf.reverse)[j - pre.length]? = some k → wr.cell? ⟨g, j, none⟩ = some (.int .i64 (k : Nat)) := fun wr of' on' hwr j k hj hk => by
    have hq := (List.getElem?_eq_some_iff.1 hk).1
    simp at hq
    have := stack_get hst hk
    rw [show pre.length + (j - pre.length) = j by omega] at this
    rw [RowZ.cell hwr.st (by rw [intsV_len, List.length_reverse]; show j < s.stack.length; omega), this]
  have HCC := hide hcc
  have HN := hide hnot
  have HL := hide (And.intro hsl (And.intro hol (And.intro hlf (And.intro hln hst))))
  clear h hB hcell hcc hown hnot hlf hln hst hns hlt k0 k1 k2 k3 k5 k6 k7
  generalize hp : pre.length = p at *
  have HP := hide hp
  generalize hL : s.stack.length = L at *
  have HLL := hide hL
  generalize hom : suf.length = m at *
  have HM := hide hom
  generalize howe : i :: suf.reverse = ow at *
  have HOW := hide howe
  have b0 : p + m + 1 = L := by omega
  have b1 : p ≤ L := by omega
  have b2 : p < cs := by omega
  have HB0 := hide b0
  have pL : p < L := by omega
  clear hp hL hom howe hsl hol b0
  go_enter Try.func23, Try.ntmps23
  go_wp2_with fail
  -- where the node stands
  go_loop [4] (fun v => ∃ j : Nat, p ≤ j ∧ j < L ∧ v = .int .i64 (j : Nat)) (fun v => (intOf v).toNat)
  case atStart => exact ⟨L - 1, by omega, by omega, by congr 1; omega⟩
  case round =>
    obtain ⟨j, hj, hjL, rfl⟩ := hrel
    obtain ⟨k, hk⟩ : ∃ k, ow[j - p]? = some k := ⟨ow[j - p]'(by have := HL.out.2.1; have := HB0.out; omega), List.getElem?_eq_getElem _⟩
    have c0 := HC.out j k hj hk
    have c1 : (0 : Int) ≤ j := by omega
    have c2 : (j : Int) < L := by omega
    by_cases hq0 : p < j
    · have hki := HN.out (j - p) k (by omega) hk
      have hki2 : ((k : Int) == i) = false := by simp; omega
      clear hk hki
      go_wp2_with fail
      exact ⟨⟨j - 1, by omega, by omega, by congr 1; omega⟩, by simp [intOf]; omega⟩
    · obtain rfl : j = p := by omega
      have hki : k = i := by rw [Nat.sub_self, ← HOW.out] at hk; simp at hk; exact hk.symm
      subst hki
      clear hk hq0 hj
      have e1 : (j : Int) ≤ L := by omega
      have e2 : (j : Int) < cs := by omega
      have e3 : (j : Int) ≤ cs := by omega
      go_wp2_with fail
      clear c0
      go_loop [37, 6] (fun v lo => ∃ q : Nat, q ≤ m + 1 ∧ v = .int .i64 (q : Nat) ∧ lo = .int .i64 (least (ow.take q) k : Nat)) (fun v _ => m + 1 - (intOf v).toNat)
      case atStart => exact ⟨0, Nat.zero_le _, rfl, rfl⟩
      case round =>
        obtain ⟨q, hq, rfl, rfl⟩ := hrel
        by_cases hqm : q < m + 1
        · obtain ⟨x, hx⟩ : ∃ x, ow[q]? = some x := ⟨ow[q]'(by have := HL.out.2.1; omega), List.getElem?_eq_getElem _⟩
          have cx := HC.out (j + q) x (by omega) (by rw [Nat.add_sub_cancel_left]; exact hx)
          have hs := least_take ow k hx
          have q0 : (0 : Int) ≤ q := by omega
          have q1 : (q : Int) < ((L - j : Nat) : Int) := by have := HB0.out; omega
          have HX := hide hx
          clear hx
          go_wp2_with fail
          refine ⟨⟨q + 1, by omega, by congr 1, ?_⟩, by simp only [intOf]; omega⟩
          rw [hs]; congr 1; split <;> omega
        · have q1 : ¬ (q : Int) < ((L - j : Nat) : Int) := by have := HB0.out; omega
          go_wp2_with fail
          have hlo := least_le ow k
          rw [show ow.take q = ow from List.take_of_length_le (by have := HL.out.2.1; omega)]
          generalize hlst : least ow k = lst at *
          have HLST := hide hlst
          have kn : k < n := HO.out k (by rw [← HOW.out]; exact List.mem_cons_self)
          have HLO := hide (And.intro hlo kn)
          have HK4 := hide k4
          clear q1 hq hlo hlst kn k4 hqm
          go_loopw [47] (fun v wr => ∃ q : Nat, q ≤ m + 1 ∧ v = .int .i64 (q : Nat) ∧ Wk wr B a Ag n cg (.slice (some ⟨g, 0, none⟩) L cs) vo { s with of := setAll s.of (ow.take q) lst, on := setAll s.on (ow.take q) false } ∧ Below B w wr ∧ B ≤ wr.heap.size) (fun v _ => m + 1 - (intOf v).toNat)
          case atStart => exact ⟨0, Nat.zero_le _, rfl, H.out, Below.refl _ _, HB.out⟩
          case round =>
            obtain ⟨q, hq, rfl, hW, hbl, hsz⟩ := hrel
            have HW := hide (And.intro hW (And.intro hbl hsz))
            by_cases hqm : q < m + 1
            · obtain ⟨x, hx⟩ : ∃ x, ow[q]? = some x := ⟨ow[q]'(by have := HL.out.2.1; omega), List.getElem?_eq_getElem _⟩
              have cx := HCC.out wr _ _ hW (j + q) x (by omega) (by rw [Nat.add_sub_cancel_left]; exact hx)
              have q0 : (0 : Int) ≤ q := by omega
              have q1 : (q : Int) < ((L - j : Nat) : Int) := by have := HB0.out; omega
              have hxn : x < n := HO.out x (List.mem_of_getElem? hx)
              have HX := hide hx
              clear hx hW hbl hsz
              go_upto_region 1 with (fail)
              have hWD := HW.out.1.below (below_drewN (Below.refl _ _) 1)
              have g1 := hWD.setOf x lst
              have g2 := g1.setOn x false
              have HS1 := hide g1
              have HS2 := hide g2
              have f0 : wr.cell? ⟨a.f, x, none⟩ = some (.int .i64 (((setAll s.of (ow.take q) lst).getD x 0 : Nat) : Int)) := HW.out.1.setOf' (by simp only [Kn.setAll_len]; have := HL.out.2.2.1; omega)
              have f1 : wr.frozen? ⟨a.f, x, none⟩ = false := frozen_of_row _ a.f x _ _ HW.out.1.hf
              have n0 : wr.cell? ⟨a.n, x, none⟩ = some (.bool ((setAll s.on (ow.take q) false).getD x false)) := HW.out.1.onn (by simp only [Kn.setAll_len]; have := HL.out.2.2.2.1; omega)
              have n1 : wr.frozen? ⟨a.n, x, none⟩ = false := frozen_of_row _ a.n x _ _ HW.out.1.hn
              have hself : wr.drew.heap[a.P]? = some (walkObj a Ag n cg (.slice (some ⟨g, 0, none⟩) L cs) vo s.time) := hWD.self
              have hxi : (x : Int) < n := by omega
              have hx0 : (0 : Int) ≤ x := by omega
              clear hWD g1 g2
              refine wp_region_chain [0, 1, 2, 3, 4, 5, 6, 7, 8, 9, 10, 11] [(12, true), (13, true), (14, true)] (fun w' => w'.heap[a.P]? = some (walkObj a Ag n cg (.slice (some ⟨g, 0, none⟩) L cs) vo s.time)) (by kernel_rfl) (by kernel_rfl) (fun _ _ _ _ _ h => h) hself ?_
              intro hne
              simp only [picks, picksW, List.filterMap_cons, List.filterMap_nil, List.getElem?_cons_zero, List.getElem?_cons_succ, Option.map_some]
              have hu7 : ∀ u : HoldW (fun w' => w'.heap[a.P]? = some (walkObj a Ag n cg (.slice (some ⟨g, 0, none⟩) L cs) vo s.time)), u.w.cell? ⟨a.P, 7, none⟩ = some (.slice (some ⟨a.f, 0, none⟩) n n) := fun u => by have h := u.ok; unfold walkObj at h; rw [cell_block h]; rfl
              have hu3 : ∀ u : HoldW (fun w' => w'.heap[a.P]? = some (walkObj a Ag n cg (.slice (some ⟨g, 0, none⟩) L cs) vo s.time)), u.w.cell? ⟨a.P, 3, none⟩ = some (.slice (some ⟨a.n, 0, none⟩) n n) := fun u => by have h := u.ok; unfold walkObj at h; rw [cell_block h]; rfl
              repeat (refine wpHeld_step (fun K hK => ?_); go_simp; refine hK _ ?_; clear hK K)
              refine wpHeld_nil ?_
              clear hu7 hu3 hne
              refine wpChain_cons fun K hK => ?_
              go_wp2_with fail
              refine chainF (fun _ => HS1.out.self) (hK _ _ ?_)
              clear hK K
              refine wpChain_cons fun K hK => ?_
              go_wp2_with fail
              refine chainF (fun _ => HS1.out.self) (hK _ _ ?_)
              clear hK K
              have fn : a.n ≠ a.f := HW.out.1.ne.2.2.2.2.2.2
              have n2 : (wr.setCell ⟨a.f, x, none⟩ (.int .i64 (lst : Nat))).cell? ⟨a.n, x, none⟩ = some (.bool ((setAll s.on (ow.take q) false).getD x false)) :=
                (World.cell?_of_block (Below.heap_setCell wr ⟨a.f, x, none⟩ _ a.n fn)).trans n0
              refine wpChain_cons fun K hK => ?_
              go_wp2_with fail
              refine chainF (fun _ => HS2.out.self) (hK _ _ ?_)
              clear hK K
              refine wpChain_nil ?_
              have hX : Wk ((wr.setCell ⟨a.f, x, none⟩ (.int .i64 (lst : Nat))).setCell ⟨a.n, x, none⟩ (.bool false)).drew B a Ag n cg (.slice (some ⟨g, 0, none⟩) L cs) vo { s with of := setAll s.of (ow.take (q + 1)) lst, on := setAll s.on (ow.take (q + 1)) false } := by
                rw [setAll_take _ _ _ HX.out, setAll_take _ _ _ HX.out]; exact HS2.out
              have hbX : Below B w ((wr.setCell ⟨a.f, x, none⟩ (.int .i64 (lst : Nat))).setCell ⟨a.n, x, none⟩ (.bool false)).drew :=
                below_drewN ((HW.out.2.1.setCell (by exact HW.out.1.ge.2.2.2.2) _).setCell (by exact HW.out.1.ge.2.2.2.1) _) 1
              have hszX : B ≤ ((wr.setCell ⟨a.f, x, none⟩ (.int .i64 (lst : Nat))).setCell ⟨a.n, x, none⟩ (.bool false)).drew.heap.size := by
                show B ≤ ((wr.setCell _ _).setCell _ _).heap.size
                simp [HW.out.2.2]
              generalize ((wr.setCell ⟨a.f, x, none⟩ (.int .i64 (lst : Nat))).setCell ⟨a.n, x, none⟩ (.bool false)).drew = X at *
              clear n2 fn f0 f1 n0 n1 hself cx HS1 HS2
              have HXX := hide (And.intro hX (And.intro hbX hszX))
              clear hX hbX hszX
              go_wp2_with fail
              exact ⟨⟨q + 1, by omega, by congr 1, HXX.out.1, HXX.out.2.1, HXX.out.2.2⟩, by simp only [intOf]; omega⟩
            · have q1 : ¬ (q : Int) < ((L - j : Nat) : Int) := by have := HB0.out; omega
              obtain rfl : q = m + 1 := by omega
              obtain ⟨c0, c1, c2, c3, c4, c5, c6, c7⟩ := hW.cells
              have f4 := hW.free 4
              have hgr : wr.grownBy wr (Value.slice (some ⟨g, 0, none⟩) L cs).ownBlock := World.grownBy.refl _ _
              have hr := RowZ.cut hW.st (k := j) (c' := j) (by show j ≤ s.stack.length; have := HLL.out; omega) (Nat.le_refl _) (by omega) (by simp)
              rw [show (intsV s.stack.reverse).take (j * 1) = intsV pre.reverse by
                rw [Nat.mul_one, stack_at HL.out.2.2.2.2, intsV, List.map_append, List.take_append_of_le_length (by simp; exact Nat.le_of_eq HP.out.symm), List.take_of_length_le (by simp; exact Nat.le_of_eq HP.out)]; rfl] at hr
              have hN := hW.newStack (vs' := .slice (some ⟨g, 0, none⟩) j j) (st := pre) hgr (by rw [HP.out]; exact hr) (fun b hb => .inl hb) hsz
              rw [show ow.take (m + 1) = ow from List.take_of_length_le (by have := HL.out.2.1; omega)] at hN
              have hbN : Below B w (wr.setCell ⟨a.P, 4, none⟩ (.slice (some ⟨g, 0, none⟩) j j)) := hbl.setCell (by exact hW.ge.1) _
              have HN := hide (And.intro hN hbN)
              clear hN hbN hr hgr c0 c1 c2 c3 c5 c6 c7 hW hbl hsz HW
              go_wp2_with fail
              go_end0
              have hlz := HLST.out
              subst hlz
              exact ⟨rfl, ⟨_, HN.out.1⟩, HN.out.2⟩
end Go.Proofs.Ytgmppddlgbkjmaa
