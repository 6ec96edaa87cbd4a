/- Texts put together: RfMask RfRel RfPlain RfEq RfSame. -/
import Derived.Deep.WholeRow
import Derived.Laws.CopyOwn
import Derived.Laws.StructEq
import Derived.Test.YthnbhcfpfbimgaaGreatMl12
import Derived.Test.YthnbhcfpfbimgaaGreatMl00
/- The walks of the references of chapter 1, as far as they end: Has, Of, List, Below, Sub. -/
namespace Go.Proofs.YthnbhcfpfbimgaaGreat
open Go.RowKit
/-- A bool, a number, whatever it is. -/
structure RBo (e : Ending) : Prop where
  ex : ∃ b, e = .returned (.bool b)
structure RUo (e : Ending) : Prop where
  ex : ∃ z, e = .returned (.int .u64 z)
def iV (l : List Int) : List Value := l.map fun x => Value.int .i64 x
theorem iV_snoc (l : List Int) (x : Int) : iV (l ++ [x]) = iV l ++ [.int .i64 x] := by simp [iV]
/-- A list of numbers, read. -/
def LI (w : World) (B : Nat) (v : Value) (l : List Int) : Prop := SlAt w B 3 1 v l.length (iV l)
theorem LI.below {w w' : World} {B : Nat} {v : Value} {l : List Int} (h : LI w B v l) (hb : Below w.heap.size w w') : LI w' B v l := SlAt.below h hb
theorem LI.cell {w : World} {B : Nat} {v : Value} {l : List Int} (h : LI w B v l) {k : Nat} (hk : k < l.length) : ∃ b o c, v = .slice (some ⟨b, o, none⟩) l.length c ∧ w.cell? ⟨b, o + k, none⟩ = some (.int .i64 l[k]) := by
  obtain ⟨A, c, e, _, _, _, hc⟩ := SlAt.ex h
  obtain ⟨b, o, rfl, _, _, hcell⟩ := hc (by omega)
  exact ⟨b, o, c, e, hcell k _ (by simp [iV, hk])⟩
theorem LI.form {w : World} {B : Nat} {v : Value} {l : List Int} (h : LI w B v l) : ∃ A c, v = .slice A l.length c ∧ l.length ≤ maxLen := by
  obtain ⟨A, c, e, h1, h2, _⟩ := SlAt.ex h
  exact ⟨A, c, e, Nat.le_trans h1 h2⟩
set_option maxRecDepth 100000 in
theorem has1_tot (s i : Int) (w : World) : Calls Tryz.prog 83 #[.int .u64 s, .int .i64 i] w fun e w' => RBo e ∧ w = w' := by
  by_cases h0 : i < 0
  · go_enter Tryz.func83, Tryz.ntmps83
    go_wp2_with fail
    go_ret
    exact ⟨⟨_, rfl⟩, rfl⟩
  by_cases h1 : 63 < i
  · go_enter Tryz.func83, Tryz.ntmps83
    go_wp2_with fail
    go_ret
    exact ⟨⟨_, rfl⟩, rfl⟩
  go_enter Tryz.func83, Tryz.ntmps83
  go_wp2_with fail
  go_loop [5, 0] (fun v x => ∃ k : Nat, (k : Int) ≤ i ∧ v = .int .i64 (k : Nat) ∧ ∃ z, x = .int .u64 z) (fun v _ => i.toNat - (intOf v).toNat)
  case atStart => exact ⟨0, by omega, rfl, _, rfl⟩
  case round =>
    obtain ⟨k, hk, rfl, z, rfl⟩ := hrel
    by_cases hlt : (k : Int) < i
    · go_wp2_with fail
      exact ⟨⟨k + 1, by omega, rfl, _, rfl⟩, by simp [intOf]; omega⟩
    · go_wp2_with fail
      go_ret
      exact ⟨⟨_, rfl⟩, rfl⟩
set_option maxRecDepth 100000 in
theorem of1_tot (B : Nat) (v : Value) (l : List Int) (w : World) (h : LI w B v l) : Calls Tryz.prog 84 #[v] w fun e w' => RUo e ∧ w = w' := by
  obtain ⟨A, c, rfl, hl⟩ := h.form
  have hl9 : (l.length : Int) ≤ 9223372036854775807 := by unfold maxLen at hl; omega
  have H := hide h
  clear h
  go_enter Tryz.func84, Tryz.ntmps84
  go_wp2_with fail
  go_loop [5, 3, 4] (fun v x y => ∃ k : Nat, k ≤ 64 ∧ v = .int .i64 (k : Nat) ∧ (∃ z, x = .int .u64 z) ∧ ∃ z, y = .int .u64 z) (fun v _ _ => 64 - (intOf v).toNat)
  case atStart => exact ⟨0, by omega, rfl, ⟨_, rfl⟩, _, rfl⟩
  case round =>
    obtain ⟨k, hk, rfl, ⟨z, rfl⟩, z2, rfl⟩ := hrel
    by_cases hlt : k < 64
    · have k0 : (k : Int) < 64 := by omega
      go_wp2_with fail
      go_loop [6, 3] (fun v x => ∃ q : Nat, q ≤ l.length ∧ v = .int .i64 (q : Nat) ∧ ∃ z, x = .int .u64 z) (fun v _ => l.length - (intOf v).toNat)
      case atStart => exact ⟨0, by omega, rfl, _, rfl⟩
      case round =>
        obtain ⟨q, hq, rfl, z5, rfl⟩ := hrel
        by_cases hl2 : q < l.length
        · obtain ⟨b, o, c', e, hcell⟩ := LI.cell H.out hl2
          cases e
          generalize l[q] = x at *
          have q0 : (q : Int) < l.length := by omega
          have q1 : (0 : Int) ≤ q := by omega
          by_cases hx : x = (k : Int)
          · subst hx
            go_wp2_with fail
            exact ⟨⟨k + 1, by omega, rfl, ⟨_, rfl⟩, _, rfl⟩, by simp [intOf]; omega⟩
          · go_wp2_with fail
            exact ⟨⟨q + 1, by omega, rfl, _, rfl⟩, by simp [intOf]; omega⟩
        · obtain rfl : q = l.length := by omega
          go_wp2_with fail
          exact ⟨⟨k + 1, by omega, rfl, ⟨_, rfl⟩, _, rfl⟩, by simp [intOf]; omega⟩
    · obtain rfl : k = 64 := by omega
      go_wp2_with fail
      go_ret
      exact ⟨⟨_, rfl⟩, rfl⟩
/-- Where a list of one's own grows. -/
structure LiL (W : World) (kv v : Value) (m : Nat) (wr : World) : Prop where
  ex : ∃ (k : Nat) (l : List Int), k ≤ m ∧ kv = .int .i64 (k : Nat) ∧ l.length ≤ k ∧ RowZ wr 3 1 v l.length (iV l) ∧ (∀ g, v.ownBlock = some g → W.heap.size ≤ g) ∧ Below W.heap.size W wr
structure RetLi (w : World) (e : Ending) (w' : World) : Prop where
  ex : ∃ v l, e = .returned v ∧ RowZ w' 3 1 v l.length (iV l) ∧ Below w.heap.size w w'
set_option maxRecDepth 100000 in
set_option maxHeartbeats 1000000 in
theorem list1_tot (s : Int) (w : World) : Calls Tryz.prog 82 #[.int .u64 s] w fun e w' => RetLi w e w' := by
  obtain ⟨i1, hj, hy0, hy1, hy2⟩ := info_parts info_int
  go_enter Tryz.func82, Tryz.ntmps82
  go_wp2_with fail
  go_loopw [4, 3, 0] (fun kv v x wr => LiL w kv v 64 wr ∧ ∃ z, x = .int .u64 z) (fun kv _ _ _ => 64 - (intOf kv).toNat)
  case atStart => exact ⟨⟨0, [], by omega, rfl, by simp, RowZ.nil, fun g hg => (by cases hg), Below.refl _ _⟩, _, rfl⟩
  case round =>
    obtain ⟨⟨k, l, hk, rfl, hlk, hr, ho, hb⟩, z, rfl⟩ := hrel
    obtain ⟨A, c, rfl, _⟩ := RowZ.form hr
    by_cases hlt : k < 64
    · have k0 : (k : Int) < 64 := by omega
      have HN := hide (And.intro hr (And.intro ho hb))
      clear hr ho hb
      cases hm : (z.tmod 2 == 1)
      · go_wp2_with fail
        exact ⟨⟨⟨k + 1, l, by omega, rfl, by omega, HN.out.1, HN.out.2.1, HN.out.2.2⟩, _, rfl⟩, by simp [intOf]; omega⟩
      · go_wp2_with (at_builtin; go_must (refine app_rowz rfl (.tmp 12) (.tmp 14) 90 90 rfl 3 i1 _ 1 8 Tryz.underlying90 hj hy0 hy1 hy2 rfl (.slice A l.length c) l.length (iV l) rfl (RowZ.below HN.out.1 (below_laid wr _)) _ 1 [.int .i64 (k : Nat)] rfl (int_news (heap_alloc_new wr _)) (by unfold maxLen; omega) (by omega) ?_); intro A' c' w' hr hg hob; have HG := hide (And.intro hr (And.intro hg hob)); clear hr hg hob)
        have hbl : Below w.heap.size w (wr.alloc (.cells #[.int .i64 (k : Nat)] 3)) := HN.out.2.2.alloc HN.out.2.2.size _
        refine ⟨⟨⟨k + 1, l ++ [(k : Int)], by omega, rfl, by simp; omega, ?_, fun q hq => ?_, hbl.grown HG.out.2.1 hbl.size HN.out.2.1⟩, _, rfl⟩, by simp [intOf]; omega⟩
        · rw [iV_snoc, List.length_append]; exact HG.out.1
        · rcases HG.out.2.2 with e | e
          · rw [e] at hq; exact HN.out.2.1 q hq
          · rw [e] at hq; injection hq with hq; rw [← hq]; exact hbl.size
    · obtain rfl : k = 64 := by omega
      have HN := hide (And.intro hr hb)
      clear hr ho hb
      go_wp2_with fail
      go_ret
      exact ⟨_, l, rfl, HN.out.1, HN.out.2⟩
set_option maxRecDepth 100000 in
set_option maxHeartbeats 1000000 in
theorem below1_tot (n : Int) (w : World) : Calls Tryz.prog 67 #[.int .i64 n] w fun e w' => RUo e ∧ Below w.heap.size w w' := by
  obtain ⟨i1, hj, hy0, hy1, hy2⟩ := info_parts info_int
  go_enter Tryz.func67, Tryz.ntmps67
  go_wp2_with fail
  go_loopw [4, 3] (fun kv v wr => LiL w kv v 64 wr) (fun kv _ _ => 64 - (intOf kv).toNat)
  case atStart => exact ⟨0, [], by omega, rfl, by simp, RowZ.nil, fun g hg => (by cases hg), Below.refl _ _⟩
  case round =>
    obtain ⟨k, l, hk, rfl, hlk, hr, ho, hb⟩ := hrel
    obtain ⟨A, c, rfl, _⟩ := RowZ.form hr
    by_cases hlt : (k : Int) < n
    · by_cases hlt2 : k < 64
      · have k0 : (k : Int) < 64 := by omega
        have HN := hide (And.intro hr (And.intro ho hb))
        clear hr ho hb
        go_wp2_with (at_builtin; go_must (refine app_rowz rfl (.tmp 14) (.tmp 16) 90 90 rfl 3 i1 _ 1 8 Tryz.underlying90 hj hy0 hy1 hy2 rfl (.slice A l.length c) l.length (iV l) rfl (RowZ.below HN.out.1 (below_laid wr _)) _ 1 [.int .i64 (k : Nat)] rfl (int_news (heap_alloc_new wr _)) (by unfold maxLen; omega) (by omega) ?_); intro A' c' w' hr hg hob; have HG := hide (And.intro hr (And.intro hg hob)); clear hr hg hob)
        have hbl : Below w.heap.size w (wr.alloc (.cells #[.int .i64 (k : Nat)] 3)) := HN.out.2.2.alloc HN.out.2.2.size _
        refine ⟨⟨k + 1, l ++ [(k : Int)], by omega, rfl, by simp; omega, ?_, fun q hq => ?_, hbl.grown HG.out.2.1 hbl.size HN.out.2.1⟩, by simp [intOf]; omega⟩
        · rw [iV_snoc, List.length_append]; exact HG.out.1
        · rcases HG.out.2.2 with e | e
          · rw [e] at hq; exact HN.out.2.1 q hq
          · rw [e] at hq; injection hq with hq; rw [← hq]; exact hbl.size
      · obtain rfl : k = 64 := by omega
        have HO := hide (of1_tot wr.heap.size _ l wr (SlAt.of_row hr))
        have HN := hide hb
        clear hr ho hb
        go_wp2_with (go_at_call 84; refine (HO.out).mono ?_; rintro e w1 ⟨⟨z, rfl⟩, rfl⟩)
        go_ret
        exact ⟨⟨_, rfl⟩, HN.out⟩
    · have HO := hide (of1_tot wr.heap.size _ l wr (SlAt.of_row hr))
      have HN := hide hb
      clear hr ho hb
      go_wp2_with (go_at_call 84; refine (HO.out).mono ?_; rintro e w1 ⟨⟨z, rfl⟩, rfl⟩)
      go_ret
      exact ⟨⟨_, rfl⟩, HN.out⟩
set_option maxRecDepth 100000 in
set_option maxHeartbeats 1000000 in
theorem sub1_tot (a b : Int) (w : World) : Calls Tryz.prog 66 #[.int .u64 a, .int .u64 b] w fun e w' => RBo e ∧ Below w.heap.size w w' := by
  have HL := hide (list1_tot a w)
  go_enter Tryz.func66, Tryz.ntmps66
  go_wp2_with (go_at_call 82; refine (HL.out).mono ?_; rintro e w1 ⟨v, l, rfl, hr, hb⟩; obtain ⟨A, c, rfl, hc1, hc2⟩ := RowZ.form hr; have H1 := hide (And.intro (SlAt.of_row (B := 0) hr : LI w1 0 _ l) hb); clear hr hb)
  have hl9 : (l.length : Int) ≤ 9223372036854775807 := by unfold maxLen at hc2; omega
  go_loop [6] (fun v => ∃ q : Nat, q ≤ l.length ∧ v = .int .i64 (q : Nat)) (fun v => l.length - (intOf v).toNat)
  case atStart => exact ⟨0, by omega, rfl⟩
  case round =>
    obtain ⟨q, hq, rfl⟩ := hrel
    by_cases hl2 : q < l.length
    · obtain ⟨b', o, c', e, hcell⟩ := LI.cell H1.out.1 hl2
      cases e
      generalize l[q] = x at *
      have q0 : (q : Int) < l.length := by omega
      have q1 : (0 : Int) ≤ q := by omega
      go_upto_if 21 with (go_at_call 83; refine (has1_tot b x w1).mono ?_; rintro e w2 ⟨⟨r, rfl⟩, rfl⟩)
      cases r
      · go_wp2_with fail
        go_ret
        exact ⟨⟨_, rfl⟩, H1.out.2⟩
      · go_wp2_with fail
        exact ⟨⟨q + 1, by omega, rfl⟩, by simp [intOf]; omega⟩
    · obtain rfl : q = l.length := by omega
      go_wp2_with fail
      go_ret
      exact ⟨⟨_, rfl⟩, H1.out.2⟩
end Go.Proofs.YthnbhcfpfbimgaaGreat
/- The walks of the references of chapter 3, as far as they end: Points, Has. -/
namespace Go.Proofs.YthnbhcfpfbimgaaGreat
open Go.RowKit
/-- A relation's cells. -/
structure Relv (cs : Array Value) : Prop where
  size : cs.size = 65
  num : ∃ N, cs[0]? = some (.int .i64 N)
  row : ∀ k : Nat, k < 64 → ∃ z, cs[1 + k]? = some (.int .u64 z)
theorem zrel_eq : Tryz.zeroCells118 = #[.int .i64 0] ++ Array.replicate 64 (.int .u64 0) := by kernel_rfl
theorem zrel_relv : Relv Tryz.zeroCells118 := by
  rw [zrel_eq]
  refine ⟨by simp, ⟨0, by simp⟩, fun k hk => ⟨0, ?_⟩⟩
  rw [Array.getElem?_append_right (by simp)]
  simp [hk]
theorem rel_info : (Tryz.prog.info? 118).map (·.size) = some 65 := by kernel_rfl
theorem Relv.set0 {cs : Array Value} (h : Relv cs) (n : Int) : Relv (cs.setIfInBounds 0 (.int .i64 n)) := by
  refine ⟨by simp [h.size], ⟨n, by simp [h.size]⟩, fun k hk => ?_⟩
  rw [Array.getElem?_setIfInBounds_ne (by omega)]
  exact h.row k hk
theorem Relv.set {cs : Array Value} (h : Relv cs) (j : Nat) (z : Int) : Relv (cs.setIfInBounds (1 + j) (.int .u64 z)) := by
  refine ⟨by simp [h.size], ?_, fun k hk => ?_⟩
  · rw [Array.getElem?_setIfInBounds_ne (by omega)]
    exact h.num
  · rw [Array.getElem?_setIfInBounds]
    split
    · next e => rw [if_pos (by rw [h.size]; omega)]; exact ⟨z, rfl⟩
    · exact h.row k hk
theorem Relv.ones {cs : Array Value} (h : Relv cs) : cs.all (·.oneCell') = true := by
  rw [Array.all_eq_true]
  intro i hi
  rcases i with _ | i
  · obtain ⟨N, e⟩ := h.num
    rw [Array.getElem?_eq_getElem (by omega)] at e
    injection e with e
    rw [e]; rfl
  · obtain ⟨z, e⟩ := h.row i (by have := h.size; omega)
    rw [Array.getElem?_eq_getElem (by have := h.size; omega)] at e
    injection e with e
    simp only [Nat.add_comm 1 i] at e
    rw [e]; rfl
/-- A number that counts points. -/
structure RPo (e : Ending) : Prop where
  ex : ∃ n : Nat, e = .returned (.int .i64 (n : Nat)) ∧ n ≤ 64
theorem heap_below {w w' : World} {b : Nat} {o : Obj} (h : w.heap[b]? = some o) (hb : Below w.heap.size w w') : w'.heap[b]? = some o := by
  rw [hb.block b (Array.getElem?_eq_some_iff.mp h).1]; exact h
/-- The load of a whole relation. -/
abbrev LdRel (cs : Array Value) (b k : Nat) (w : World) : Prop :=
  ∀ (ops : Array Oper) (rest : List Oper) (o : Oper) (a : Act) (Q : Exit → Act → World → Prop), o.guard = none → o.op = .load 118 (.tmp k) → a.eval (.tmp k) = .pointer (some ⟨b, 0, none⟩) → wpList Tryz.prog ops Q rest (a.put o.dst (.agg cs)) w → wpList Tryz.prog ops Q (o :: rest) a w
theorem ldRel {cs : Array Value} {b : Nat} (k : Nat) {w : World} {o : Nat × Nat} (h : w.heap[b]? = some (.cells cs 118 o)) (hs : cs.size = 65) : LdRel cs b k w := fun ops rest _ a Q h1 h2 h3 h4 => wpList_load_row h1 _ _ h2 b h3 _ cs o _ h Tryz.underlying118 rfl (by rw [hs]; kernel_rfl) h4
set_option maxRecDepth 100000 in
theorem points_tot (cs : Array Value) (hc : Relv cs) (w : World) : Calls Tryz.prog 78 #[.agg cs] w fun e w' => RPo e ∧ Below w.heap.size w w' := by
  obtain ⟨N, h0⟩ := hc.num
  have k0 : (w.alloc (.cells cs 118)).cell? ⟨w.heap.size, 0, none⟩ = some (.int .i64 N) := by rw [cell_block (heap_alloc_new w _)]; exact h0
  have HB := hide (below_laid w (.cells cs 118))
  clear hc h0
  by_cases h1 : N < 0
  · go_enter Tryz.func78, Tryz.ntmps78
    go_wp2_with fail
    go_ret
    exact ⟨⟨0, rfl, by omega⟩, HB.out⟩
  by_cases h2 : 64 < N
  · go_enter Tryz.func78, Tryz.ntmps78
    go_wp2_with fail
    go_ret
    exact ⟨⟨64, rfl, by omega⟩, HB.out⟩
  obtain ⟨n, rfl⟩ := Int.eq_ofNat_of_zero_le (by omega : 0 ≤ N)
  go_enter Tryz.func78, Tryz.ntmps78
  go_wp2_with fail
  go_ret
  exact ⟨⟨n, rfl, by omega⟩, HB.out⟩
set_option maxRecDepth 100000 in
theorem has3_tot (cs : Array Value) (hc : Relv cs) (i j : Int) (w : World) :
    Calls Tryz.prog 97 #[.agg cs, .int .i64 i, .int .i64 j] w fun e w' => RBo e ∧ Below w.heap.size w w' := by
  have HL := hide (ldRel 3 (heap_alloc_new w (.cells cs 118)) hc.size)
  have HP := hide (points_tot cs hc (w.alloc (.cells cs 118)))
  have HB := hide (below_laid w (.cells cs 118))
  have HC := hide hc
  clear hc
  go_enter Tryz.func97, Tryz.ntmps97
  by_cases hi : i < 0
  · go_wp2_with (first | (with_reducible refine HL.out _ _ _ _ _ rfl rfl rfl ?_) | (go_at_call 78; refine HP.out.mono ?_; rintro e w1 ⟨⟨n, rfl, hn⟩, hb1⟩; have HB1 := hide hb1; clear hb1))
    go_ret
    exact ⟨⟨_, rfl⟩, below_next HB.out HB1.out⟩
  by_cases hj : j < 0
  · go_wp2_with (first | (with_reducible refine HL.out _ _ _ _ _ rfl rfl rfl ?_) | (go_at_call 78; refine HP.out.mono ?_; rintro e w1 ⟨⟨n, rfl, hn⟩, hb1⟩; have HB1 := hide hb1; clear hb1))
    go_ret
    exact ⟨⟨_, rfl⟩, below_next HB.out HB1.out⟩
  obtain ⟨i, rfl⟩ := Int.eq_ofNat_of_zero_le (by omega : 0 ≤ i)
  obtain ⟨j, rfl⟩ := Int.eq_ofNat_of_zero_le (by omega : 0 ≤ j)
  go_upto_region 2 with (first | (with_reducible refine HL.out _ _ _ _ _ rfl rfl rfl ?_) | (go_at_call 78; refine HP.out.mono ?_; rintro e w1 ⟨⟨n, rfl, hn⟩, hb1⟩; have HB1 := hide hb1; clear hb1))
  by_cases hin : i < n
  · by_cases hjn : j < n
    · have i0 : (i : Int) < n := by omega
      have j0 : (j : Int) < n := by omega
      have j1 : (0 : Int) ≤ j := by omega
      have hn9 : (n : Int) ≤ 64 := by omega
      obtain ⟨z, hz⟩ := HC.out.row i (by omega)
      have k1 : w1.cell? ⟨w.heap.size, 1 + i, none⟩ = some (.int .u64 z) := by
        rw [cell_block (heap_below (heap_alloc_new w _) HB1.out)]; exact hz
      go_wp2_with fail
      go_ret
      exact ⟨⟨_, rfl⟩, below_next HB.out HB1.out⟩
    · have j0 : (n : Int) ≤ j := by omega
      go_wp2_with fail
      go_ret
      exact ⟨⟨_, rfl⟩, below_next HB.out HB1.out⟩
  · have i0 : (n : Int) ≤ i := by omega
    go_wp2_with fail
    go_ret
    exact ⟨⟨_, rfl⟩, below_next HB.out HB1.out⟩
end Go.Proofs.YthnbhcfpfbimgaaGreat
/- The walk of Plain. -/
namespace Go.Proofs.YthnbhcfpfbimgaaGreat
open Go.RowKit
/-- A relation that is made beside one that is read: the blocks of the argument, the result, and what is made. -/
structure Pl (W : World) (cs : Array Value) (n b3 : Nat) (wr : World) : Prop where
  arg : wr.heap[W.heap.size]? = some (.cells cs 118 (0, 0))
  out : ∃ c, wr.heap[W.heap.size + 1]? = some (.cells c 118 (0, 0)) ∧ c.size = 65
  mine : ∃ c, wr.heap[b3]? = some (.cells c 118 (0, 0)) ∧ Relv c ∧ c[0]? = some (.int .i64 (n : Nat))
  past : W.heap.size + 1 < b3
  below : Below W.heap.size W wr
theorem Pl.step {W : World} {cs : Array Value} {n b3 : Nat} {wr w' : World} (h : Pl W cs n b3 wr) (hb : Below wr.heap.size wr w') : Pl W cs n b3 w' := by
  obtain ⟨c, e, hc⟩ := h.out
  obtain ⟨c3, e3, hc3⟩ := h.mine
  exact ⟨heap_below h.arg hb, ⟨c, heap_below e hb, hc⟩, ⟨c3, heap_below e3 hb, hc3⟩, h.past, below_next h.below hb⟩
theorem Pl.set {W : World} {cs : Array Value} {n b3 : Nat} {wr : World} (h : Pl W cs n b3 wr) (j : Nat) (z : Int) : Pl W cs n b3 (wr.setCell ⟨b3, 1 + j, none⟩ (.int .u64 z)) := by
  obtain ⟨c, e, hc⟩ := h.out
  obtain ⟨c3, e3, hc3, h0⟩ := h.mine
  have hp := h.past
  refine ⟨?_, ⟨c, ?_, hc⟩, ⟨_, heap_setCell_same wr b3 (1 + j) c3 _ _ e3, hc3.set j z, ?_⟩, hp, h.below.setCell (by show _ ≤ b3; omega) _⟩
  · rw [heap_setCell_other _ _ _ _ (by show _ ≠ b3; omega)]; exact h.arg
  · rw [heap_setCell_other _ _ _ _ (by show _ ≠ b3; omega)]; exact e
  · rw [Array.getElem?_setIfInBounds_ne (by omega)]; exact h0
structure RRel (w : World) (n : Nat) (e : Ending) (w' : World) : Prop where
  ex : ∃ c, e = .returned (.agg c) ∧ Relv c ∧ c[0]? = some (.int .i64 (n : Nat)) ∧ Below w.heap.size w w'
theorem Pl.zero {W : World} {cs : Array Value} (w0 : World) (hz : (W.alloc (Obj.cells cs 118)).alloc (Obj.cells Tryz.zeroCells118 118) = w0) {w1 : World} (hb : Below w0.heap.size w0 w1) (n : Nat) :
    Pl W cs n w1.heap.size (w1.alloc (.cells (Tryz.zeroCells118.setIfInBounds 0 (.int .i64 (n : Nat))) 118)) := by
  subst hz
  have hs := hb.size
  simp only [World.size_alloc] at hs
  have h1 : Pl W cs n w1.heap.size (w1.alloc (.cells (Tryz.zeroCells118.setIfInBounds 0 (.int .i64 (n : Nat))) 118)) := by
    refine ⟨?_, ⟨Tryz.zeroCells118, ?_, zrel_relv.size⟩, ⟨_, heap_alloc_last _ _, zrel_relv.set0 n, by simp [zrel_relv.size]⟩, by omega, ?_⟩
    · refine heap_below (heap_below ?_ hb) (below_laid _ _)
      exact heap_below (heap_alloc_last W _) (below_laid _ _)
    · refine heap_below (heap_below ?_ hb) (below_laid _ _)
      have := heap_alloc_last (W.alloc (Obj.cells cs 118)) (Obj.cells Tryz.zeroCells118 118)
      rwa [World.size_alloc] at this
    · exact below_next (below_next (below_next (below_laid _ _) (below_laid _ _)) hb) (below_laid _ _)
  exact h1
theorem results_cell {fn : Func} {tmps : Array Value} {k : Nat} {T : TypeId} {p : Addr} {v : Value} {w : World} (hres : fn.results = #[.cell k T]) (hp : tmps.getD k undef = .pointer (some p)) (hl : (loadVar T p).run Tryz.prog w = .ok v w) : (results fn tmps).run Tryz.prog w = .ok v w := by
  simp only [results, hres, List.mapM_toArray, List.mapM_cons, List.mapM_nil, hp, asAddr]
  simp [hl]
set_option maxRecDepth 100000 in
theorem plain_tot (cs : Array Value) (hc : Relv cs) (w : World) : Calls Tryz.prog 102 #[.agg cs] w fun e w' => ∃ n, RRel w n e w' := by
  obtain ⟨i1, hj, hy0, hy1, hy2⟩ := info_parts info_int
  have HS := hide hc.size
  have HC := hide hc
  clear hc
  go_enter Tryz.func102, Tryz.ntmps102
  go_upto_region 1 with fail
  generalize hz : ((_ : World).alloc (Obj.cells _ 118)) = w0
  have h1 : w0.heap[w.heap.size]? = some (.cells cs 118 (0, 0)) := by
    rw [← hz]
    exact heap_below (heap_alloc_last w _) (below_laid _ _)
  have HL := hide (ldRel 1 h1 HS.out)
  have HP := hide (points_tot cs HC.out w0)
  have HZ := hide (fun w1 (h : Below w0.heap.size w0 w1) n => Pl.zero (W := w) (cs := cs) w0 hz h n)
  clear hz h1
  go_wp2_with (first | (with_reducible refine HL.out _ _ _ _ _ rfl rfl rfl ?_) | (go_at_call 78; refine HP.out.mono ?_; rintro e w1 ⟨⟨n, rfl, hn⟩, hb1⟩; have HB1 := hide (HZ.out w1 hb1 n); clear hb1) | (with_reducible refine wpList_store_row rfl 118 (.tmp 3) (.tmp 9) rfl w1.heap.size _ rfl rfl 118 _ (heap_alloc_last w1 _) (by rw [Array.size_setIfInBounds, zrel_relv.size]; exact rel_info) (by rw [Array.size_setIfInBounds]) (zrel_relv.set0 n).ones ?_; rw [World.setRow_alloc_new]))
  clear HL HP HZ
  generalize w1.heap.size = b3 at *
  go_loopw [4] (fun kv wr => (∃ k : Nat, k ≤ n ∧ kv = .int .i64 (k : Nat)) ∧ Pl w cs n b3 wr) (fun kv _ => n - (intOf kv).toNat)
  case atStart => exact ⟨⟨0, by omega, rfl⟩, HB1.out⟩
  case round =>
    obtain ⟨⟨k, hk, rfl⟩, hp⟩ := hrel
    obtain ⟨c3, e3, hc3, h0⟩ := hp.mine
    have k0 : wr.cell? ⟨b3, 0, none⟩ = some (.int .i64 (n : Nat)) := by rw [cell_block e3]; exact h0
    have HN := hide hp
    clear hp e3 hc3 h0
    by_cases hlt : k < n
    · have i0 : (k : Int) < n := by omega
      go_wp2_with fail
      generalize wr = wx at *
      go_loopw [6, 5] (fun kv v wr => LiL wx kv v n wr) (fun kv _ _ => n - (intOf kv).toNat)
      case atStart => exact ⟨0, [], by omega, rfl, by simp, RowZ.nil, fun g hg => (by cases hg), Below.refl _ _⟩
      case round =>
        obtain ⟨j, l, hj2, rfl, hlj, hr, ho, hb⟩ := hrel
        obtain ⟨A, c, rfl, _⟩ := RowZ.form hr
        have HP := hide (HN.out.step hb)
        obtain ⟨c3, e3, hc3, h0⟩ := HP.out.mine
        have k1 : wr.cell? ⟨b3, 0, none⟩ = some (.int .i64 (n : Nat)) := by rw [cell_block e3]; exact h0
        clear e3 hc3 h0 k0
        by_cases hlt2 : j < n
        · have j0 : (j : Int) < n := by omega
          have HL := hide (ldRel 1 HP.out.arg HS.out)
          have HH := hide (has3_tot cs HC.out k j wr)
          have HX := hide (And.intro hr (And.intro ho hb))
          clear hr ho hb
          go_upto_region 9 with fail
          go_upto_if 25 with (first | (with_reducible refine HL.out _ _ _ _ _ rfl rfl rfl ?_) | (go_at_call 97; refine HH.out.mono ?_; rintro e w2 ⟨⟨r, rfl⟩, hb2⟩; have H2 := hide hb2; clear hb2))
          cases r
          · go_wp2_with fail
            exact ⟨⟨j + 1, l, by omega, rfl, by omega, RowZ.below HX.out.1 H2.out, HX.out.2.1, below_next HX.out.2.2 H2.out⟩, by simp [intOf]; omega⟩
          · clear HL HH
            have hl64 : l.length ≤ 64 := by omega
            have HX2 := hide (And.intro (RowZ.below HX.out.1 H2.out) (And.intro HX.out.2.1 (below_next HX.out.2.2 H2.out)))
            clear HX H2 HP
            go_wp2_with (at_builtin; go_must (refine app_rowz rfl (.tmp 26) (.tmp 28) 90 90 rfl 3 i1 _ 1 8 Tryz.underlying90 hj hy0 hy1 hy2 rfl (.slice A l.length c) l.length (iV l) rfl (RowZ.below HX2.out.1 (below_laid w2 _)) _ 1 [.int .i64 (j : Nat)] rfl (int_news (heap_alloc_new w2 _)) (by unfold maxLen; omega) (by omega) ?_); intro A' c' w' hr hg hob; have HG := hide (And.intro hr (And.intro hg hob)); clear hr hg hob)
            have hbl : Below wx.heap.size wx (w2.alloc (.cells #[.int .i64 (j : Nat)] 3)) := HX2.out.2.2.alloc HX2.out.2.2.size _
            refine ⟨⟨j + 1, l ++ [(j : Int)], by omega, rfl, by simp; omega, ?_, fun q hq => ?_, hbl.grown HG.out.2.1 hbl.size HX2.out.2.1⟩, by simp [intOf]; omega⟩
            · rw [iV_snoc, List.length_append]; exact HG.out.1
            · rcases HG.out.2.2 with e | e
              · rw [e] at hq; exact HX2.out.2.1 q hq
              · rw [e] at hq; injection hq with hq; rw [← hq]; exact hbl.size
        · obtain rfl : j = n := by omega
          have HO := hide (of1_tot wr.heap.size _ l wr (SlAt.of_row hr))
          obtain ⟨c3, e3, hc3, h0⟩ := HP.out.mine
          obtain ⟨z3, hz3⟩ := hc3.row k (by omega)
          have k2 : wr.cell? ⟨b3, 1 + k, none⟩ = some (.int .u64 z3) := by rw [cell_block e3]; exact hz3
          have k3 : wr.frozen? ⟨b3, 1 + k, none⟩ = false := frozen_of_row wr b3 _ _ _ e3
          have k4 : (k : Int) < 64 := by omega
          clear hr ho hb hc3 h0 hz3 e3
          go_wp2_with (go_at_call 84; refine (HO.out).mono ?_; rintro e w2 ⟨⟨z, rfl⟩, rfl⟩)
          exact ⟨⟨⟨k + 1, by omega, rfl⟩, HP.out.set k z⟩, by simp [intOf]; omega⟩
    · obtain rfl : k = n := by omega
      obtain ⟨c3, e3, hc3, h0⟩ := HN.out.mine
      obtain ⟨c2, e2, hc2⟩ := HN.out.out
      have HL := hide (ldRel 3 e3 hc3.size)
      have H3 := hide (And.intro hc3 h0)
      have H2 := hide (And.intro e2 hc2)
      clear e3 hc3 h0 e2 hc2
      go_wp2_with (first | (with_reducible refine HL.out _ _ _ _ _ rfl rfl rfl ?_) | (with_reducible refine wpList_store_row rfl 118 (.tmp 2) (.tmp 35) rfl (w.heap.size + 1) _ rfl rfl 118 _ H2.out.1 (by rw [H3.out.1.size]; exact rel_info) (by rw [H3.out.1.size]; exact H2.out.2) H3.out.1.ones ?_))
      have hq := run_loadVar_row (P := Tryz.prog) (wr.setRow (w.heap.size + 1) c3) (w.heap.size + 1) 118 118 c3 (0, 0) _ (setRow_heap wr _ c2 c3 _ _ H2.out.1) Tryz.underlying118 rfl (by rw [H3.out.1.size]; exact rel_info)
      refine bodyPost_ret (v := .agg c3) (results_cell (k := 2) Tryz.results102 rfl hq) rfl ⟨k, c3, rfl, H3.out.1, H3.out.2, below_setRow HN.out.below (by omega) _⟩
end Go.Proofs.YthnbhcfpfbimgaaGreat
/- Two relations compared: some bool. -/
namespace Go.Proofs.YthnbhcfpfbimgaaGreat
open Go.RowKit
theorem loop_any {P : Program} {w : World} (body : Nat → Option Bool × Unit → Sem (ForInStep (Option Bool × Unit))) : ∀ (l : List Nat), (∀ i ∈ l, ∀ s, (body i s).run P w = .ok (.done (some false, ())) w ∨ (body i s).run P w = .ok (.yield (none, ())) w) → ∃ r, (forIn l (none, ()) body : Sem _).run P w = .ok r w
  | [], _ => ⟨(none, ()), by simp only [List.forIn_nil, Sem.run_pure]⟩
  | i :: l, h => by
    obtain ⟨r, e⟩ := loop_any body l (fun j hj => h j (by simp [hj]))
    rcases h i (by simp) (none, ()) with k | k
    · exact ⟨(some false, ()), by simp only [List.forIn_cons, Sem.run_bind, k, Result.andThen_ok, Sem.run_pure]⟩
    · exact ⟨r, by simp only [List.forIn_cons, Sem.run_bind, k, Result.andThen_ok, e]⟩
set_option maxRecDepth 100000 in
theorem eq_row (d : Nat) (xs ys : Array Value) (hx : ∀ k : Nat, k < 64 → ∃ z, xs[k]? = some (.int .u64 z)) (hy : ∀ k : Nat, k < 64 → ∃ z, ys[k]? = some (.int .u64 z)) (w : World) :
    ∃ b, (Op.equalIn (d + 1 + 1) 116 (.agg xs) (.agg ys)).run Tryz.prog w = .ok b w := by
  have hu := Tryz.underlying40
  have ha := Tryz.isAgg40
  have hz := Tryz.sizeOf40
  rw [Op.equalIn]
  simp only [Sem.run_bind, run_underlying Tryz.underlying116, Result.andThen_ok]
  simp only [Std.Legacy.Range.forIn_eq_forIn_range', Std.Legacy.Range.size, Nat.sub_zero, Nat.add_sub_cancel, Nat.div_one]
  have hl : ∀ i ∈ List.range' 0 64 1, i < 64 := by intro i hi; simp at hi; omega
  generalize List.range' 0 64 1 = l at *
  simp only [hz, Result.andThen_ok, Nat.mul_one]
  obtain ⟨⟨r, u⟩, e⟩ := loop_any (P := Tryz.prog) (w := w) _ l (fun i hi s => by
    obtain ⟨x, ex⟩ := hx i (hl i hi)
    obtain ⟨y, ey⟩ := hy i (hl i hi)
    show Sem.run Tryz.prog (do
                let a ← part 40 xs i
                let b ← part 40 ys i
                let r ← Op.equalIn (d + 1) 40 a b
                if (!r) = true then pure (ForInStep.done (some false, ()))
                  else pure (ForInStep.yield (none, ()))) w = _ ∨ Sem.run Tryz.prog (do
                let a ← part 40 xs i
                let b ← part 40 ys i
                let r ← Op.equalIn (d + 1) 40 a b
                if (!r) = true then pure (ForInStep.done (some false, ()))
                  else pure (ForInStep.yield (none, ()))) w = _
    simp only [Sem.run_bind, part, ha, ex, ey]
    go_simp
    by_cases h : x = y
    · simp [h]
    · simp [h])
  rw [e]
  cases r with
  | none => exact ⟨true, by simp⟩
  | some r => exact ⟨r, by simp⟩
theorem extract_row {cs : Array Value} (h : Relv cs) : ∀ k : Nat, k < 64 → ∃ z, (cs.extract 1 65)[k]? = some (.int .u64 z) := fun k hk => by
  obtain ⟨z, e⟩ := h.row k hk
  refine ⟨z, ?_⟩
  rw [Array.getElem?_extract]
  have := h.size
  simp [e]
  omega
end Go.Proofs.YthnbhcfpfbimgaaGreat
/- The walk of Same, Reach, Closure, Closed, Order. -/
namespace Go.Proofs.YthnbhcfpfbimgaaGreat
open Go.RowKit
/-- Two relations read. -/
structure Two (W : World) (c d : Array Value) (wr : World) : Prop where
  below : Below W.heap.size W wr
  one : wr.heap[W.heap.size]? = some (.cells c 118 (0, 0))
  two : wr.heap[W.heap.size + 1]? = some (.cells d 118 (0, 0))
theorem Two.step {W : World} {c d : Array Value} {wr w' : World} (h : Two W c d wr) (hb : Below wr.heap.size wr w') : Two W c d w' := ⟨below_next h.below hb, heap_below h.one hb, heap_below h.two hb⟩
theorem Two.new (W : World) (c d : Array Value) : Two W c d ((W.alloc (.cells c 118)).alloc (.cells d 118)) :=
  ⟨below_next (below_laid _ _) (below_laid _ _), heap_below (heap_alloc_last W _) (below_laid _ _), by
    have := heap_alloc_last (W.alloc (Obj.cells c 118)) (Obj.cells d 118)
    rwa [World.size_alloc] at this⟩
theorem held_rel {S : World → Prop} {cs : Array Value} {b k : Nat} {o : Oper} {a : Act} {K : Act → Prop} (ho : o.op = .load 118 (.tmp k)) (hx : a.eval (.tmp k) = .pointer (some ⟨b, 0, none⟩)) (hS : ∀ w, S w → w.heap[b]? = some (.cells cs 118 (0, 0))) (hs : cs.size = 65) (h : K (a.put o.dst (.agg cs))) : held Tryz.prog o a S K := by
  refine ⟨_, fun w hw => ?_, h⟩
  unfold execOp
  simp only [ho, hx, Instr.loadAt, Instr.sureAddr, Sem.run_bind, Sem.run_pure, Result.andThen_ok, run_loadVar_row w b _ _ cs (0, 0) _ (hS w hw) Tryz.underlying118 rfl (by rw [hs]; exact rel_info)]
set_option maxRecDepth 100000 in
theorem same3_tot (c d : Array Value) (hc : Relv c) (hd : Relv d) (w : World) : Calls Tryz.prog 100 #[.agg c, .agg d] w fun e w' => RBo e ∧ Below w.heap.size w w' := by
  have HC := hide hc
  have HD := hide hd
  have HT := hide (Two.new w c d)
  clear hc hd
  go_enter Tryz.func100, Tryz.ntmps100
  go_upto_region 1 with fail
  generalize (w.alloc (Obj.cells c 118)).alloc (.cells d 118) = w0 at *
  have HF : Hid (Two w c d w0.drew) := hide (HT.out.step (below_drewN (Below.refl _ _) 1))
  refine wp_region_chain [0, 2] [(1, true), (3, true), (4, true), (5, true)] (Two w c d) (by kernel_rfl) (by kernel_rfl) (fun _ _ _ _ _ h => h) HF.out ?_
  intro hne
  simp only [picks, picksW, List.filterMap_cons, List.filterMap_nil, List.getElem?_cons_zero, List.getElem?_cons_succ, Option.map_some]
  refine wpHeld_step (fun K hK => ?_)
  rw [if_pos (by rfl)]
  refine held_rel rfl rfl (by rintro _ ⟨u, rfl⟩; exact u.ok.one) HC.out.size (hK _ ?_)
  clear hK K
  refine wpHeld_step (fun K hK => ?_)
  rw [if_pos (by rfl)]
  refine held_rel rfl rfl (by rintro _ ⟨u, rfl⟩; exact u.ok.two) HD.out.size (hK _ ?_)
  clear hK K
  refine wpHeld_nil ?_
  clear hne
  generalize w0.drew = w1 at *
  have HP1 := hide (plain_tot c HC.out)
  have HP2 := hide (plain_tot d HD.out)
  refine wpChain_cons fun K hK => ?_
  go_wp2_with (go_at_call 102; refine (HP1.out _).mono ?_; rintro e w2 ⟨n, ⟨⟨c1, rfl, hc1, _, hb⟩⟩⟩; have H2 := hide (And.intro hc1 (HF.out.step hb)); clear hc1 hb)
  refine chainF (fun _ => H2.out.2) (hK _ _ ?_)
  clear hK K
  refine wpChain_cons fun K hK => ?_
  go_wp2_with (go_at_call 102; refine (HP2.out _).mono ?_; rintro e w3 ⟨m, ⟨⟨c2, rfl, hc2, _, hb⟩⟩⟩; have H3 := hide (And.intro hc2 (H2.out.2.step hb)); clear hc2 hb)
  refine chainF (fun _ => H3.out.2) (hK _ _ ?_)
  clear hK K
  obtain ⟨r, hr⟩ := eq_row 9997 _ _ (extract_row H2.out.1) (extract_row H3.out.1) w3
  have hr : (Op.equalIn 9999 116 (.agg (c1.extract 1 65)) (.agg (c2.extract 1 65))).run Tryz.prog w3 = .ok r w3 := hr
  refine wpChain_cons fun K hK => ?_
  cases r <;> go_wp2_with fail
  all_goals
    refine chainF (fun _ => H3.out.2) (hK _ _ ?_)
    clear hK K hr
    refine wpChain_cons fun K hK => ?_
    go_wp2_with fail
    refine chainF (fun _ => H3.out.2) (hK _ _ ?_)
    clear hK K
    refine wpChain_nil ?_
    go_wp2_with fail
    go_ret
    exact ⟨⟨_, rfl⟩, H3.out.2.below⟩
end Go.Proofs.YthnbhcfpfbimgaaGreat
