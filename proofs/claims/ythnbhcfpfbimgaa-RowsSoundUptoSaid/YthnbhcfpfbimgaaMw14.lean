/- Texts put together: RwSmall RfMask RfRel RfPlain. -/
import Derived.Deep.WholeRow
import Derived.Laws.CopyOwn
import Derived.Test.YthnbhcfpfbimgaaMw13
/- The walks of New, Len, Stuck, Mark, Undo (nil), Eqs. -/
namespace Go.Proofs.Ythnbhcfpfbimgaa
open Go.RowKit
open Rw (El At Fld Lk Eqn U T W64 Sp Wf tot Sz Nx Ow)
def zeroTb : Array Value := #[.slice none 0 0, .slice none 0 0, .slice none 0 0, .slice none 0 0, .slice none 0 0, .bool false, .int .u64 0]
def bl0 : Bl := ⟨none, none, none, none, none⟩
/-- A new table in its block. -/
theorem tb_new {w : World} {B P : Nat} (h : w.heap[P]? = some (.cells zeroTb 83 (0, 0))) (hB : B ≤ P) : Tb w B P bl0 Rw.T.new :=
  ⟨.slice none 0 0, .slice none 0 0, .slice none 0 0, .slice none 0 0, .slice none 0 0, [], [], h, ⟨rfl, rfl, rfl, rfl, rfl⟩, RowZ.nil, RowZ.nil, RowZ.nil, RowZ.nil, RowZ.nil, rfl, fun k r v hr => by simp [Rw.T.new] at hr, fun k f u hf => by simp at hf,
    ⟨hB, fun b hb => by simp [bl0] at hb, fun b hb => by simp [bl0] at hb, fun b hb => by simp [bl0] at hb, fun b hb => by simp [bl0] at hb, fun b hb => by simp [bl0] at hb⟩, fun b hb => by simp [bl0] at hb⟩
theorem new_any (w : World) : Calls Try.prog 33 #[] w fun e w' => e = .returned (.pointer (some ⟨w.heap.size, 0, none⟩)) ∧ w' = w.alloc (.cells zeroTb 83) := by
  unfold zeroTb
  go_enter Try.func33, Try.ntmps33
  go_wp2_with fail
  go_ret
  exact ⟨rfl, rfl⟩
theorem len_nil (w : World) : Calls Try.prog 15 #[.pointer none] w fun e w' => e = .returned (.int .i64 0) ∧ w = w' := by
  go_enter Try.func15, Try.ntmps15
  go_wp2_with fail
  go_ret
  exact ⟨rfl, rfl⟩
theorem len_any (P B : Nat) (g : Bl) (s : T) (w : World) (h : Tb w B P g s) : Calls Try.prog 15 #[.pointer (some ⟨P, 0, none⟩)] w fun e w' => e = .returned (.int .i64 (s.own.length : Nat)) ∧ w = w' := by
  obtain ⟨vu, vt, vr, vo, ve, vs, fs, hx⟩ := h
  obtain ⟨Ao, co, rfl, hco, hcom⟩ := RowZ.form hx.own
  have c3 := hx.cells.2.2.2.1
  clear hx
  go_enter Try.func15, Try.ntmps15
  go_wp2_with fail
  go_ret
  exact ⟨rfl, rfl⟩
theorem mark_nil (w : World) : Calls Try.prog 25 #[.pointer none] w fun e w' => e = .returned (.int .i64 0) ∧ w = w' := by
  go_enter Try.func25, Try.ntmps25
  go_wp2_with fail
  go_ret
  exact ⟨rfl, rfl⟩
theorem mark_any (P B : Nat) (g : Bl) (s : T) (w : World) (h : Tb w B P g s) : Calls Try.prog 25 #[.pointer (some ⟨P, 0, none⟩)] w fun e w' => e = .returned (.int .i64 (s.times.length : Nat)) ∧ w = w' := by
  obtain ⟨vu, vt, vr, vo, ve, vs, fs, hx⟩ := h
  obtain ⟨Ao, co, rfl, hco, hcom⟩ := RowZ.form hx.times
  have c1 := hx.cells.2.1
  clear hx
  go_enter Try.func25, Try.ntmps25
  go_wp2_with fail
  go_ret
  exact ⟨rfl, rfl⟩
theorem undo_nil (m : Int) (w : World) : Calls Try.prog 26 #[.pointer none, .int .i64 m] w fun e w' => e = .returned (.bool false) ∧ w = w' := by
  go_enter Try.func26, Try.ntmps26
  go_wp2_with fail
  go_ret
  exact ⟨rfl, rfl⟩
theorem stuck_nil (w : World) : Calls Try.prog 14 #[.pointer none] w fun e w' => e = .returned (.tuple #[.int .u64 0, .bool false]) ∧ w = w' := by
  go_enter Try.func14, Try.ntmps14
  go_wp2_with fail
  go_ret2
  exact ⟨rfl, rfl⟩
theorem stuck_tb (P B : Nat) (g : Bl) (s : T) (w : World) (h : Tb w B P g s) : Calls Try.prog 14 #[.pointer (some ⟨P, 0, none⟩)] w fun e w' => e = .returned (.tuple #[whyV s.why, .bool s.stuck]) ∧ Below w.heap.size w w' := by
  obtain ⟨vu, vt, vr, vo, ve, vs, fs, hx⟩ := h
  obtain ⟨c0, c1, c2, c3, c4, c5, c6⟩ := hx.cells
  clear hx c0 c1 c2 c3 c4
  unfold whyV at *
  go_enter Try.func14, Try.ntmps14
  go_wp2_with fail
  go_quiet (fail)
  go_wp2_with fail
  go_ret2
  exact ⟨rfl, below_drewN (Below.refl _ _) nq⟩
theorem eqs_nil (w : World) : Calls Try.prog 16 #[.pointer none] w fun e w' => e = .returned (.slice none 0 0) ∧ w = w' := by
  go_enter Try.func16, Try.ntmps16
  go_wp2_with fail
  go_ret
  exact ⟨rfl, rfl⟩
structure RetQ (w : World) (l : List Eqn) (e : Ending) (w' : World) : Prop where
  ex : ∃ v, e = .returned v ∧ RowZ w' 52 19 v l.length (eqnsV l) ∧ Below w.heap.size w w'
theorem eqnsV_one (l : List Eqn) : ∀ u ∈ eqnsV l, u.oneCell' = true := fun u hu => by
  simp only [eqnsV, List.mem_flatMap] at hu
  obtain ⟨f, _, hf⟩ := hu
  simp only [eqnV, atV, elV, whyV, List.mem_append, List.mem_cons, List.not_mem_nil, or_false] at hf
  rcases hf with (hf | hf) | rfl
  · rcases hf with rfl | rfl | rfl | rfl | rfl | rfl | rfl | rfl | rfl <;> rfl
  · rcases hf with rfl | rfl | rfl | rfl | rfl | rfl | rfl | rfl | rfl <;> rfl
  · rfl
set_option maxRecDepth 100000 in
set_option maxHeartbeats 1000000 in
theorem eqs_any (P B : Nat) (g : Bl) (s : T) (w : World) (h : Tb w B P g s) (hn : s.eqs.length ≤ 1000000000) : Calls Try.prog 16 #[.pointer (some ⟨P, 0, none⟩)] w fun e w' => RetQ w s.eqs e w' := by
  obtain ⟨i1, hj, hy0, hy1, hy2⟩ := info_parts info_eq
  obtain ⟨vu, vt, vr, vo, ve, vs, fs, hx⟩ := h
  obtain ⟨Ae, ce, rfl, hce, hcem⟩ := RowZ.form hx.eqs
  have hb := below_laid w (.cells #[] 52)
  have hx2 := hx.below hb
  have c4 : (w.alloc (.cells #[] 52)).cell? ⟨P, 4, none⟩ = some (.slice Ae s.eqs.length ce) := hx2.cells.2.2.2.2.1
  have hrow0 : RowZ (w.alloc (.cells #[] 52)) 52 19 (.slice (some ⟨w.heap.size, 0, none⟩) 0 0) 0 [] := RowZ.laid w 52 19 0 [] rfl (Nat.zero_le _)
  have HX := hide (And.intro hrow0 (And.intro hx2 hb))
  clear hx hx2 hb hrow0
  go_enter Try.func16, Try.ntmps16
  go_wp2_with (at_builtin; go_must (refine app_rowz rfl (.tmp 5) (.tmp 9) 45 45 rfl 52 i1 _ 19 152 Try.underlying45 hj hy0 hy1 hy2 rfl (.slice (some ⟨w.heap.size, 0, none⟩) 0 0) 0 [] rfl HX.out.1 (.slice Ae s.eqs.length ce) s.eqs.length (eqnsV s.eqs) rfl (SlAt.src (B := 0) Try.underlying45 (SlAt.of_row HX.out.2.1.eqs) (eqnsV_one s.eqs)) (by unfold maxLen; omega) (by omega) ?_); intro A' c' w' hr hg hob; go_must (simp only [Nat.zero_add, List.nil_append] at hr hob ⊢); have HG := hide (And.intro hr (And.intro hg hob)); clear hr hg hob)
  go_ret
  exact ⟨_, rfl, HG.out.1, HX.out.2.2.grown HG.out.2.1 (by simp) (fun k hk => by simp [Value.ownBlock] at hk; omega)⟩
end Go.Proofs.Ythnbhcfpfbimgaa
/- The walks of the references of chapter 1, as far as they end: Has, Of, List, Below, Sub. -/
namespace Go.Proofs.Ythnbhcfpfbimgaa
open Go.RowKit
/-- A bool, a number, whatever it is. -/
structure RBo (e : Ending) : Prop where
  ex : ∃ b, e = .returned (.bool b)
structure RUo (e : Ending) : Prop where
  ex : ∃ z, e = .returned (.int .u64 z)
structure RIo (e : Ending) : Prop where
  ex : ∃ z, e = .returned (.int .i64 z)
def iV (l : List Int) : List Value := l.map fun x => Value.int .i64 x
theorem iV_len (l : List Int) : (iV l).length = l.length := by simp [iV]
theorem iV_snoc (l : List Int) (x : Int) : iV (l ++ [x]) = iV l ++ [.int .i64 x] := by simp [iV]
theorem iV_one (l : List Int) : ∀ u ∈ iV l, u.oneCell' = true := fun u hu => by
  simp only [iV, List.mem_map] at hu
  obtain ⟨x, _, rfl⟩ := hu
  rfl
/-- A list of numbers, read. -/
def LI (w : World) (B : Nat) (v : Value) (l : List Int) : Prop := SlAt w B 3 1 v l.length (iV l)
theorem LI.below {w w' : World} {B : Nat} {v : Value} {l : List Int} (h : LI w B v l) (hb : Below w.heap.size w w') : LI w' B v l := SlAt.below h hb
theorem LI.cell {w : World} {B : Nat} {v : Value} {l : List Int} (h : LI w B v l) {k : Nat} (hk : k < l.length) : ∃ b o c, v = .slice (some ⟨b, o, none⟩) l.length c ∧ w.cell? ⟨b, o + k, none⟩ = some (.int .i64 l[k]) := by
  obtain ⟨A, c, e, _, _, _, hc⟩ := SlAt.ex h
  obtain ⟨b, o, rfl, _, _, hcell⟩ := hc (by omega)
  exact ⟨b, o, c, e, hcell k _ (by simp [iV, hk])⟩
theorem LI.form {w : World} {B : Nat} {v : Value} {l : List Int} (h : LI w B v l) : ∃ A c, v = .slice A l.length c ∧ l.length ≤ maxLen := by
  obtain ⟨A, c, e, h1, h2, _⟩ := SlAt.ex h
  exact ⟨A, c, e, Nat.le_trans h1 h2⟩
set_option maxRecDepth 100000 in
theorem has1_tot (s i : Int) (w : World) : Calls Try.prog 85 #[.int .u64 s, .int .i64 i] w fun e w' => RBo e ∧ w = w' := by
  by_cases h0 : i < 0
  · go_enter Try.func85, Try.ntmps85
    go_wp2_with fail
    go_ret
    exact ⟨⟨_, rfl⟩, rfl⟩
  by_cases h1 : 63 < i
  · go_enter Try.func85, Try.ntmps85
    go_wp2_with fail
    go_ret
    exact ⟨⟨_, rfl⟩, rfl⟩
  go_enter Try.func85, Try.ntmps85
  go_wp2_with fail
  go_loop [5, 0] (fun v x => ∃ k : Nat, (k : Int) ≤ i ∧ v = .int .i64 (k : Nat) ∧ ∃ z, x = .int .u64 z) (fun v _ => i.toNat - (intOf v).toNat)
  case atStart => exact ⟨0, by omega, rfl, _, rfl⟩
  case round =>
    obtain ⟨k, hk, rfl, z, rfl⟩ := hrel
    by_cases hlt : (k : Int) < i
    · go_wp2_with fail
      exact ⟨⟨k + 1, by omega, rfl, _, rfl⟩, by simp [intOf]; omega⟩
    · go_wp2_with fail
      go_ret
      exact ⟨⟨_, rfl⟩, rfl⟩
set_option maxRecDepth 100000 in
theorem of1_tot (B : Nat) (v : Value) (l : List Int) (w : World) (h : LI w B v l) : Calls Try.prog 93 #[v] w fun e w' => RUo e ∧ w = w' := by
  obtain ⟨A, c, rfl, hl⟩ := h.form
  have hl9 : (l.length : Int) ≤ 9223372036854775807 := by unfold maxLen at hl; omega
  have H := hide h
  clear h
  go_enter Try.func93, Try.ntmps93
  go_wp2_with fail
  go_loop [5, 3, 4] (fun v x y => ∃ k : Nat, k ≤ 64 ∧ v = .int .i64 (k : Nat) ∧ (∃ z, x = .int .u64 z) ∧ ∃ z, y = .int .u64 z) (fun v _ _ => 64 - (intOf v).toNat)
  case atStart => exact ⟨0, by omega, rfl, ⟨_, rfl⟩, _, rfl⟩
  case round =>
    obtain ⟨k, hk, rfl, ⟨z, rfl⟩, z2, rfl⟩ := hrel
    by_cases hlt : k < 64
    · have k0 : (k : Int) < 64 := by omega
      go_wp2_with fail
      go_loop [6, 3] (fun v x => ∃ q : Nat, q ≤ l.length ∧ v = .int .i64 (q : Nat) ∧ ∃ z, x = .int .u64 z) (fun v _ => l.length - (intOf v).toNat)
      case atStart => exact ⟨0, by omega, rfl, _, rfl⟩
      case round =>
        obtain ⟨q, hq, rfl, z5, rfl⟩ := hrel
        by_cases hl2 : q < l.length
        · obtain ⟨b, o, c', e, hcell⟩ := LI.cell H.out hl2
          cases e
          generalize l[q] = x at *
          have q0 : (q : Int) < l.length := by omega
          have q1 : (0 : Int) ≤ q := by omega
          by_cases hx : x = (k : Int)
          · subst hx
            go_wp2_with fail
            exact ⟨⟨k + 1, by omega, rfl, ⟨_, rfl⟩, _, rfl⟩, by simp [intOf]; omega⟩
          · go_wp2_with fail
            exact ⟨⟨q + 1, by omega, rfl, _, rfl⟩, by simp [intOf]; omega⟩
        · obtain rfl : q = l.length := by omega
          go_wp2_with fail
          exact ⟨⟨k + 1, by omega, rfl, ⟨_, rfl⟩, _, rfl⟩, by simp [intOf]; omega⟩
    · obtain rfl : k = 64 := by omega
      go_wp2_with fail
      go_ret
      exact ⟨⟨_, rfl⟩, rfl⟩
/-- Where a list of one's own grows. -/
structure LiL (W : World) (kv v : Value) (m : Nat) (wr : World) : Prop where
  ex : ∃ (k : Nat) (l : List Int), k ≤ m ∧ kv = .int .i64 (k : Nat) ∧ l.length ≤ k ∧ RowZ wr 3 1 v l.length (iV l) ∧ (∀ g, v.ownBlock = some g → W.heap.size ≤ g) ∧ Below W.heap.size W wr
structure RetLi (w : World) (e : Ending) (w' : World) : Prop where
  ex : ∃ v l, e = .returned v ∧ RowZ w' 3 1 v l.length (iV l) ∧ Below w.heap.size w w'
set_option maxRecDepth 100000 in
set_option maxHeartbeats 1000000 in
theorem list1_tot (s : Int) (w : World) : Calls Try.prog 84 #[.int .u64 s] w fun e w' => RetLi w e w' := by
  obtain ⟨i1, hj, hy0, hy1, hy2⟩ := info_parts info_int
  go_enter Try.func84, Try.ntmps84
  go_wp2_with fail
  go_loopw [4, 3, 0] (fun kv v x wr => LiL w kv v 64 wr ∧ ∃ z, x = .int .u64 z) (fun kv _ _ _ => 64 - (intOf kv).toNat)
  case atStart => exact ⟨⟨0, [], by omega, rfl, by simp, RowZ.nil, fun g hg => (by cases hg), Below.refl _ _⟩, _, rfl⟩
  case round =>
    obtain ⟨⟨k, l, hk, rfl, hlk, hr, ho, hb⟩, z, rfl⟩ := hrel
    obtain ⟨A, c, rfl, _⟩ := RowZ.form hr
    by_cases hlt : k < 64
    · have k0 : (k : Int) < 64 := by omega
      have HN := hide (And.intro hr (And.intro ho hb))
      clear hr ho hb
      cases hm : (z.tmod 2 == 1)
      · go_wp2_with fail
        exact ⟨⟨⟨k + 1, l, by omega, rfl, by omega, HN.out.1, HN.out.2.1, HN.out.2.2⟩, _, rfl⟩, by simp [intOf]; omega⟩
      · go_wp2_with (at_builtin; go_must (refine app_rowz rfl (.tmp 12) (.tmp 14) 78 78 rfl 3 i1 _ 1 8 Try.underlying78 hj hy0 hy1 hy2 rfl (.slice A l.length c) l.length (iV l) rfl (RowZ.below HN.out.1 (below_laid wr _)) _ 1 [.int .i64 (k : Nat)] rfl (int_news (heap_alloc_new wr _)) (by unfold maxLen; omega) (by omega) ?_); intro A' c' w' hr hg hob; have HG := hide (And.intro hr (And.intro hg hob)); clear hr hg hob)
        have hbl : Below w.heap.size w (wr.alloc (.cells #[.int .i64 (k : Nat)] 3)) := HN.out.2.2.alloc HN.out.2.2.size _
        refine ⟨⟨⟨k + 1, l ++ [(k : Int)], by omega, rfl, by simp; omega, ?_, fun q hq => ?_, hbl.grown HG.out.2.1 hbl.size HN.out.2.1⟩, _, rfl⟩, by simp [intOf]; omega⟩
        · rw [iV_snoc, List.length_append]; exact HG.out.1
        · rcases HG.out.2.2 with e | e
          · rw [e] at hq; exact HN.out.2.1 q hq
          · rw [e] at hq; injection hq with hq; rw [← hq]; exact hbl.size
    · obtain rfl : k = 64 := by omega
      have HN := hide (And.intro hr hb)
      clear hr ho hb
      go_wp2_with fail
      go_ret
      exact ⟨_, l, rfl, HN.out.1, HN.out.2⟩
set_option maxRecDepth 100000 in
set_option maxHeartbeats 1000000 in
theorem below1_tot (n : Int) (w : World) : Calls Try.prog 80 #[.int .i64 n] w fun e w' => RUo e ∧ Below w.heap.size w w' := by
  obtain ⟨i1, hj, hy0, hy1, hy2⟩ := info_parts info_int
  go_enter Try.func80, Try.ntmps80
  go_wp2_with fail
  go_loopw [4, 3] (fun kv v wr => LiL w kv v 64 wr) (fun kv _ _ => 64 - (intOf kv).toNat)
  case atStart => exact ⟨0, [], by omega, rfl, by simp, RowZ.nil, fun g hg => (by cases hg), Below.refl _ _⟩
  case round =>
    obtain ⟨k, l, hk, rfl, hlk, hr, ho, hb⟩ := hrel
    obtain ⟨A, c, rfl, _⟩ := RowZ.form hr
    by_cases hlt : (k : Int) < n
    · by_cases hlt2 : k < 64
      · have k0 : (k : Int) < 64 := by omega
        have HN := hide (And.intro hr (And.intro ho hb))
        clear hr ho hb
        go_wp2_with (at_builtin; go_must (refine app_rowz rfl (.tmp 14) (.tmp 16) 78 78 rfl 3 i1 _ 1 8 Try.underlying78 hj hy0 hy1 hy2 rfl (.slice A l.length c) l.length (iV l) rfl (RowZ.below HN.out.1 (below_laid wr _)) _ 1 [.int .i64 (k : Nat)] rfl (int_news (heap_alloc_new wr _)) (by unfold maxLen; omega) (by omega) ?_); intro A' c' w' hr hg hob; have HG := hide (And.intro hr (And.intro hg hob)); clear hr hg hob)
        have hbl : Below w.heap.size w (wr.alloc (.cells #[.int .i64 (k : Nat)] 3)) := HN.out.2.2.alloc HN.out.2.2.size _
        refine ⟨⟨k + 1, l ++ [(k : Int)], by omega, rfl, by simp; omega, ?_, fun q hq => ?_, hbl.grown HG.out.2.1 hbl.size HN.out.2.1⟩, by simp [intOf]; omega⟩
        · rw [iV_snoc, List.length_append]; exact HG.out.1
        · rcases HG.out.2.2 with e | e
          · rw [e] at hq; exact HN.out.2.1 q hq
          · rw [e] at hq; injection hq with hq; rw [← hq]; exact hbl.size
      · obtain rfl : k = 64 := by omega
        have HO := hide (of1_tot wr.heap.size _ l wr (SlAt.of_row hr))
        have HN := hide hb
        clear hr ho hb
        go_wp2_with (go_at_call 93; refine (HO.out).mono ?_; rintro e w1 ⟨⟨z, rfl⟩, rfl⟩)
        go_ret
        exact ⟨⟨_, rfl⟩, HN.out⟩
    · have HO := hide (of1_tot wr.heap.size _ l wr (SlAt.of_row hr))
      have HN := hide hb
      clear hr ho hb
      go_wp2_with (go_at_call 93; refine (HO.out).mono ?_; rintro e w1 ⟨⟨z, rfl⟩, rfl⟩)
      go_ret
      exact ⟨⟨_, rfl⟩, HN.out⟩
set_option maxRecDepth 100000 in
set_option maxHeartbeats 1000000 in
theorem sub1_tot (a b : Int) (w : World) : Calls Try.prog 70 #[.int .u64 a, .int .u64 b] w fun e w' => RBo e ∧ Below w.heap.size w w' := by
  have HL := hide (list1_tot a w)
  go_enter Try.func70, Try.ntmps70
  go_wp2_with (go_at_call 84; refine (HL.out).mono ?_; rintro e w1 ⟨v, l, rfl, hr, hb⟩; obtain ⟨A, c, rfl, hc1, hc2⟩ := RowZ.form hr; have H1 := hide (And.intro (SlAt.of_row (B := 0) hr : LI w1 0 _ l) hb); clear hr hb)
  have hl9 : (l.length : Int) ≤ 9223372036854775807 := by unfold maxLen at hc2; omega
  go_loop [6] (fun v => ∃ q : Nat, q ≤ l.length ∧ v = .int .i64 (q : Nat)) (fun v => l.length - (intOf v).toNat)
  case atStart => exact ⟨0, by omega, rfl⟩
  case round =>
    obtain ⟨q, hq, rfl⟩ := hrel
    by_cases hl2 : q < l.length
    · obtain ⟨b', o, c', e, hcell⟩ := LI.cell H1.out.1 hl2
      cases e
      generalize l[q] = x at *
      have q0 : (q : Int) < l.length := by omega
      have q1 : (0 : Int) ≤ q := by omega
      go_upto_if 21 with (go_at_call 85; refine (has1_tot b x w1).mono ?_; rintro e w2 ⟨⟨r, rfl⟩, rfl⟩)
      cases r
      · go_wp2_with fail
        go_ret
        exact ⟨⟨_, rfl⟩, H1.out.2⟩
      · go_wp2_with fail
        exact ⟨⟨q + 1, by omega, rfl⟩, by simp [intOf]; omega⟩
    · obtain rfl : q = l.length := by omega
      go_wp2_with fail
      go_ret
      exact ⟨⟨_, rfl⟩, H1.out.2⟩
end Go.Proofs.Ythnbhcfpfbimgaa
/- The walks of the references of chapter 3, as far as they end: Points, Has. -/
namespace Go.Proofs.Ythnbhcfpfbimgaa
open Go.RowKit
/-- A relation's cells. -/
structure Relv (cs : Array Value) : Prop where
  size : cs.size = 65
  num : ∃ N, cs[0]? = some (.int .i64 N)
  row : ∀ k : Nat, k < 64 → ∃ z, cs[1 + k]? = some (.int .u64 z)
theorem zrel_eq : Try.zeroCells128 = #[.int .i64 0] ++ Array.replicate 64 (.int .u64 0) := by kernel_rfl
theorem zrel_relv : Relv Try.zeroCells128 := by
  rw [zrel_eq]
  refine ⟨by simp, ⟨0, by simp⟩, fun k hk => ⟨0, ?_⟩⟩
  rw [Array.getElem?_append_right (by simp)]
  simp [hk]
theorem rel_info : (Try.prog.info? 128).map (·.size) = some 65 := by kernel_rfl
theorem Relv.set0 {cs : Array Value} (h : Relv cs) (n : Int) : Relv (cs.setIfInBounds 0 (.int .i64 n)) := by
  refine ⟨by simp [h.size], ⟨n, by simp [h.size]⟩, fun k hk => ?_⟩
  rw [Array.getElem?_setIfInBounds_ne (by omega)]
  exact h.row k hk
theorem Relv.set {cs : Array Value} (h : Relv cs) (j : Nat) (z : Int) : Relv (cs.setIfInBounds (1 + j) (.int .u64 z)) := by
  refine ⟨by simp [h.size], ?_, fun k hk => ?_⟩
  · rw [Array.getElem?_setIfInBounds_ne (by omega)]
    exact h.num
  · rw [Array.getElem?_setIfInBounds]
    split
    · next e => rw [if_pos (by rw [h.size]; omega)]; exact ⟨z, rfl⟩
    · exact h.row k hk
theorem Relv.ones {cs : Array Value} (h : Relv cs) : cs.all (·.oneCell') = true := by
  rw [Array.all_eq_true]
  intro i hi
  rcases i with _ | i
  · obtain ⟨N, e⟩ := h.num
    rw [Array.getElem?_eq_getElem (by omega)] at e
    injection e with e
    rw [e]; rfl
  · obtain ⟨z, e⟩ := h.row i (by have := h.size; omega)
    rw [Array.getElem?_eq_getElem (by have := h.size; omega)] at e
    injection e with e
    simp only [Nat.add_comm 1 i] at e
    rw [e]; rfl
/-- A number that counts points. -/
structure RPo (e : Ending) : Prop where
  ex : ∃ n : Nat, e = .returned (.int .i64 (n : Nat)) ∧ n ≤ 64
theorem heap_below {w w' : World} {b : Nat} {o : Obj} (h : w.heap[b]? = some o) (hb : Below w.heap.size w w') : w'.heap[b]? = some o := by
  rw [hb.block b (Array.getElem?_eq_some_iff.mp h).1]; exact h
/-- The load of a whole relation. -/
abbrev LdRel (cs : Array Value) (b k : Nat) (w : World) : Prop :=
  ∀ (ops : Array Oper) (rest : List Oper) (o : Oper) (a : Act) (Q : Exit → Act → World → Prop), o.guard = none → o.op = .load 128 (.tmp k) → a.eval (.tmp k) = .pointer (some ⟨b, 0, none⟩) → wpList Try.prog ops Q rest (a.put o.dst (.agg cs)) w → wpList Try.prog ops Q (o :: rest) a w
theorem ldRel {cs : Array Value} {b : Nat} (k : Nat) {w : World} {o : Nat × Nat} (h : w.heap[b]? = some (.cells cs 128 o)) (hs : cs.size = 65) : LdRel cs b k w := fun ops rest _ a Q h1 h2 h3 h4 => wpList_load_row h1 _ _ h2 b h3 _ cs o _ h Try.underlying128 rfl (by rw [hs]; kernel_rfl) h4
set_option maxRecDepth 100000 in
theorem points_tot (cs : Array Value) (hc : Relv cs) (w : World) : Calls Try.prog 89 #[.agg cs] w fun e w' => RPo e ∧ Below w.heap.size w w' := by
  obtain ⟨N, h0⟩ := hc.num
  have k0 : (w.alloc (.cells cs 128)).cell? ⟨w.heap.size, 0, none⟩ = some (.int .i64 N) := by rw [cell_block (heap_alloc_new w _)]; exact h0
  have HB := hide (below_laid w (.cells cs 128))
  clear hc h0
  by_cases h1 : N < 0
  · go_enter Try.func89, Try.ntmps89
    go_wp2_with fail
    go_ret
    exact ⟨⟨0, rfl, by omega⟩, HB.out⟩
  by_cases h2 : 64 < N
  · go_enter Try.func89, Try.ntmps89
    go_wp2_with fail
    go_ret
    exact ⟨⟨64, rfl, by omega⟩, HB.out⟩
  obtain ⟨n, rfl⟩ := Int.eq_ofNat_of_zero_le (by omega : 0 ≤ N)
  go_enter Try.func89, Try.ntmps89
  go_wp2_with fail
  go_ret
  exact ⟨⟨n, rfl, by omega⟩, HB.out⟩
set_option maxRecDepth 100000 in
theorem has3_tot (cs : Array Value) (hc : Relv cs) (i j : Int) (w : World) :
    Calls Try.prog 103 #[.agg cs, .int .i64 i, .int .i64 j] w fun e w' => RBo e ∧ Below w.heap.size w w' := by
  have HL := hide (ldRel 3 (heap_alloc_new w (.cells cs 128)) hc.size)
  have HP := hide (points_tot cs hc (w.alloc (.cells cs 128)))
  have HB := hide (below_laid w (.cells cs 128))
  have HC := hide hc
  clear hc
  go_enter Try.func103, Try.ntmps103
  by_cases hi : i < 0
  · go_wp2_with (first | (with_reducible refine HL.out _ _ _ _ _ rfl rfl rfl ?_) | (go_at_call 89; refine HP.out.mono ?_; rintro e w1 ⟨⟨n, rfl, hn⟩, hb1⟩; have HB1 := hide hb1; clear hb1))
    go_ret
    exact ⟨⟨_, rfl⟩, below_next HB.out HB1.out⟩
  by_cases hj : j < 0
  · go_wp2_with (first | (with_reducible refine HL.out _ _ _ _ _ rfl rfl rfl ?_) | (go_at_call 89; refine HP.out.mono ?_; rintro e w1 ⟨⟨n, rfl, hn⟩, hb1⟩; have HB1 := hide hb1; clear hb1))
    go_ret
    exact ⟨⟨_, rfl⟩, below_next HB.out HB1.out⟩
  obtain ⟨i, rfl⟩ := Int.eq_ofNat_of_zero_le (by omega : 0 ≤ i)
  obtain ⟨j, rfl⟩ := Int.eq_ofNat_of_zero_le (by omega : 0 ≤ j)
  go_upto_region 2 with (first | (with_reducible refine HL.out _ _ _ _ _ rfl rfl rfl ?_) | (go_at_call 89; refine HP.out.mono ?_; rintro e w1 ⟨⟨n, rfl, hn⟩, hb1⟩; have HB1 := hide hb1; clear hb1))
  by_cases hin : i < n
  · by_cases hjn : j < n
    · have i0 : (i : Int) < n := by omega
      have j0 : (j : Int) < n := by omega
      have j1 : (0 : Int) ≤ j := by omega
      have hn9 : (n : Int) ≤ 64 := by omega
      obtain ⟨z, hz⟩ := HC.out.row i (by omega)
      have k1 : w1.cell? ⟨w.heap.size, 1 + i, none⟩ = some (.int .u64 z) := by
        rw [cell_block (heap_below (heap_alloc_new w _) HB1.out)]; exact hz
      go_wp2_with fail
      go_ret
      exact ⟨⟨_, rfl⟩, below_next HB.out HB1.out⟩
    · have j0 : (n : Int) ≤ j := by omega
      go_wp2_with fail
      go_ret
      exact ⟨⟨_, rfl⟩, below_next HB.out HB1.out⟩
  · have i0 : (n : Int) ≤ i := by omega
    go_wp2_with fail
    go_ret
    exact ⟨⟨_, rfl⟩, below_next HB.out HB1.out⟩
end Go.Proofs.Ythnbhcfpfbimgaa
/- The walk of Plain. -/
namespace Go.Proofs.Ythnbhcfpfbimgaa
open Go.RowKit
/-- A relation that is made beside one that is read: the blocks of the argument, the result, and what is made. -/
structure Pl (W : World) (cs : Array Value) (n b3 : Nat) (wr : World) : Prop where
  arg : wr.heap[W.heap.size]? = some (.cells cs 128 (0, 0))
  out : ∃ c, wr.heap[W.heap.size + 1]? = some (.cells c 128 (0, 0)) ∧ c.size = 65
  mine : ∃ c, wr.heap[b3]? = some (.cells c 128 (0, 0)) ∧ Relv c ∧ c[0]? = some (.int .i64 (n : Nat))
  past : W.heap.size + 1 < b3
  below : Below W.heap.size W wr
theorem Pl.step {W : World} {cs : Array Value} {n b3 : Nat} {wr w' : World} (h : Pl W cs n b3 wr) (hb : Below wr.heap.size wr w') : Pl W cs n b3 w' := by
  obtain ⟨c, e, hc⟩ := h.out
  obtain ⟨c3, e3, hc3⟩ := h.mine
  exact ⟨heap_below h.arg hb, ⟨c, heap_below e hb, hc⟩, ⟨c3, heap_below e3 hb, hc3⟩, h.past, below_next h.below hb⟩
theorem Pl.set {W : World} {cs : Array Value} {n b3 : Nat} {wr : World} (h : Pl W cs n b3 wr) (j : Nat) (z : Int) : Pl W cs n b3 (wr.setCell ⟨b3, 1 + j, none⟩ (.int .u64 z)) := by
  obtain ⟨c, e, hc⟩ := h.out
  obtain ⟨c3, e3, hc3, h0⟩ := h.mine
  have hp := h.past
  refine ⟨?_, ⟨c, ?_, hc⟩, ⟨_, heap_setCell_same wr b3 (1 + j) c3 _ _ e3, hc3.set j z, ?_⟩, hp, h.below.setCell (by show _ ≤ b3; omega) _⟩
  · rw [heap_setCell_other _ _ _ _ (by show _ ≠ b3; omega)]; exact h.arg
  · rw [heap_setCell_other _ _ _ _ (by show _ ≠ b3; omega)]; exact e
  · rw [Array.getElem?_setIfInBounds_ne (by omega)]; exact h0
structure RRel (w : World) (n : Nat) (e : Ending) (w' : World) : Prop where
  ex : ∃ c, e = .returned (.agg c) ∧ Relv c ∧ c[0]? = some (.int .i64 (n : Nat)) ∧ Below w.heap.size w w'
theorem Pl.zero {W : World} {cs : Array Value} (w0 : World) (hz : (W.alloc (Obj.cells cs 128)).alloc (Obj.cells Try.zeroCells128 128) = w0) {w1 : World} (hb : Below w0.heap.size w0 w1) (n : Nat) :
    Pl W cs n w1.heap.size (w1.alloc (.cells (Try.zeroCells128.setIfInBounds 0 (.int .i64 (n : Nat))) 128)) := by
  subst hz
  have hs := hb.size
  simp only [World.size_alloc] at hs
  have h1 : Pl W cs n w1.heap.size (w1.alloc (.cells (Try.zeroCells128.setIfInBounds 0 (.int .i64 (n : Nat))) 128)) := by
    refine ⟨?_, ⟨Try.zeroCells128, ?_, zrel_relv.size⟩, ⟨_, heap_alloc_last _ _, zrel_relv.set0 n, by simp [zrel_relv.size]⟩, by omega, ?_⟩
    · refine heap_below (heap_below ?_ hb) (below_laid _ _)
      exact heap_below (heap_alloc_last W _) (below_laid _ _)
    · refine heap_below (heap_below ?_ hb) (below_laid _ _)
      have := heap_alloc_last (W.alloc (Obj.cells cs 128)) (Obj.cells Try.zeroCells128 128)
      rwa [World.size_alloc] at this
    · exact below_next (below_next (below_next (below_laid _ _) (below_laid _ _)) hb) (below_laid _ _)
  exact h1
theorem results_cell {fn : Func} {tmps : Array Value} {k : Nat} {T : TypeId} {p : Addr} {v : Value} {w : World} (hres : fn.results = #[.cell k T]) (hp : tmps.getD k undef = .pointer (some p)) (hl : (loadVar T p).run Try.prog w = .ok v w) : (results fn tmps).run Try.prog w = .ok v w := by
  simp only [results, hres, List.mapM_toArray, List.mapM_cons, List.mapM_nil, hp, asAddr]
  simp [hl]
set_option maxRecDepth 100000 in
theorem plain_tot (cs : Array Value) (hc : Relv cs) (w : World) : Calls Try.prog 106 #[.agg cs] w fun e w' => ∃ n, RRel w n e w' := by
  obtain ⟨i1, hj, hy0, hy1, hy2⟩ := info_parts info_int
  have HS := hide hc.size
  have HC := hide hc
  clear hc
  go_enter Try.func106, Try.ntmps106
  go_upto_region 1 with fail
  generalize hz : ((_ : World).alloc (Obj.cells _ 128)) = w0
  have h1 : w0.heap[w.heap.size]? = some (.cells cs 128 (0, 0)) := by
    rw [← hz]
    exact heap_below (heap_alloc_last w _) (below_laid _ _)
  have HL := hide (ldRel 1 h1 HS.out)
  have HP := hide (points_tot cs HC.out w0)
  have HZ := hide (fun w1 (h : Below w0.heap.size w0 w1) n => Pl.zero (W := w) (cs := cs) w0 hz h n)
  clear hz h1
  go_wp2_with (first | (with_reducible refine HL.out _ _ _ _ _ rfl rfl rfl ?_) | (go_at_call 89; refine HP.out.mono ?_; rintro e w1 ⟨⟨n, rfl, hn⟩, hb1⟩; have HB1 := hide (HZ.out w1 hb1 n); clear hb1) | (with_reducible refine wpList_store_row rfl 128 (.tmp 3) (.tmp 9) rfl w1.heap.size _ rfl rfl 128 _ (heap_alloc_last w1 _) (by rw [Array.size_setIfInBounds, zrel_relv.size]; exact rel_info) (by rw [Array.size_setIfInBounds]) (zrel_relv.set0 n).ones ?_; rw [World.setRow_alloc_new]))
  clear HL HP HZ
  generalize w1.heap.size = b3 at *
  go_loopw [4] (fun kv wr => (∃ k : Nat, k ≤ n ∧ kv = .int .i64 (k : Nat)) ∧ Pl w cs n b3 wr) (fun kv _ => n - (intOf kv).toNat)
  case atStart => exact ⟨⟨0, by omega, rfl⟩, HB1.out⟩
  case round =>
    obtain ⟨⟨k, hk, rfl⟩, hp⟩ := hrel
    obtain ⟨c3, e3, hc3, h0⟩ := hp.mine
    have k0 : wr.cell? ⟨b3, 0, none⟩ = some (.int .i64 (n : Nat)) := by rw [cell_block e3]; exact h0
    have HN := hide hp
    clear hp e3 hc3 h0
    by_cases hlt : k < n
    · have i0 : (k : Int) < n := by omega
      go_wp2_with fail
      generalize wr = wx at *
      go_loopw [6, 5] (fun kv v wr => LiL wx kv v n wr) (fun kv _ _ => n - (intOf kv).toNat)
      case atStart => exact ⟨0, [], by omega, rfl, by simp, RowZ.nil, fun g hg => (by cases hg), Below.refl _ _⟩
      case round =>
        obtain ⟨j, l, hj2, rfl, hlj, hr, ho, hb⟩ := hrel
        obtain ⟨A, c, rfl, _⟩ := RowZ.form hr
        have HP := hide (HN.out.step hb)
        obtain ⟨c3, e3, hc3, h0⟩ := HP.out.mine
        have k1 : wr.cell? ⟨b3, 0, none⟩ = some (.int .i64 (n : Nat)) := by rw [cell_block e3]; exact h0
        clear e3 hc3 h0 k0
        by_cases hlt2 : j < n
        · have j0 : (j : Int) < n := by omega
          have HL := hide (ldRel 1 HP.out.arg HS.out)
          have HH := hide (has3_tot cs HC.out k j wr)
          have HX := hide (And.intro hr (And.intro ho hb))
          clear hr ho hb
          go_upto_region 9 with fail
          go_upto_if 25 with (first | (with_reducible refine HL.out _ _ _ _ _ rfl rfl rfl ?_) | (go_at_call 103; refine HH.out.mono ?_; rintro e w2 ⟨⟨r, rfl⟩, hb2⟩; have H2 := hide hb2; clear hb2))
          cases r
          · go_wp2_with fail
            exact ⟨⟨j + 1, l, by omega, rfl, by omega, RowZ.below HX.out.1 H2.out, HX.out.2.1, below_next HX.out.2.2 H2.out⟩, by simp [intOf]; omega⟩
          · clear HL HH
            have hl64 : l.length ≤ 64 := by omega
            have HX2 := hide (And.intro (RowZ.below HX.out.1 H2.out) (And.intro HX.out.2.1 (below_next HX.out.2.2 H2.out)))
            clear HX H2 HP
            go_wp2_with (at_builtin; go_must (refine app_rowz rfl (.tmp 26) (.tmp 28) 78 78 rfl 3 i1 _ 1 8 Try.underlying78 hj hy0 hy1 hy2 rfl (.slice A l.length c) l.length (iV l) rfl (RowZ.below HX2.out.1 (below_laid w2 _)) _ 1 [.int .i64 (j : Nat)] rfl (int_news (heap_alloc_new w2 _)) (by unfold maxLen; omega) (by omega) ?_); intro A' c' w' hr hg hob; have HG := hide (And.intro hr (And.intro hg hob)); clear hr hg hob)
            have hbl : Below wx.heap.size wx (w2.alloc (.cells #[.int .i64 (j : Nat)] 3)) := HX2.out.2.2.alloc HX2.out.2.2.size _
            refine ⟨⟨j + 1, l ++ [(j : Int)], by omega, rfl, by simp; omega, ?_, fun q hq => ?_, hbl.grown HG.out.2.1 hbl.size HX2.out.2.1⟩, by simp [intOf]; omega⟩
            · rw [iV_snoc, List.length_append]; exact HG.out.1
            · rcases HG.out.2.2 with e | e
              · rw [e] at hq; exact HX2.out.2.1 q hq
              · rw [e] at hq; injection hq with hq; rw [← hq]; exact hbl.size
        · obtain rfl : j = n := by omega
          have HO := hide (of1_tot wr.heap.size _ l wr (SlAt.of_row hr))
          obtain ⟨c3, e3, hc3, h0⟩ := HP.out.mine
          obtain ⟨z3, hz3⟩ := hc3.row k (by omega)
          have k2 : wr.cell? ⟨b3, 1 + k, none⟩ = some (.int .u64 z3) := by rw [cell_block e3]; exact hz3
          have k3 : wr.frozen? ⟨b3, 1 + k, none⟩ = false := frozen_of_row wr b3 _ _ _ e3
          have k4 : (k : Int) < 64 := by omega
          clear hr ho hb hc3 h0 hz3 e3
          go_wp2_with (go_at_call 93; refine (HO.out).mono ?_; rintro e w2 ⟨⟨z, rfl⟩, rfl⟩)
          exact ⟨⟨⟨k + 1, by omega, rfl⟩, HP.out.set k z⟩, by simp [intOf]; omega⟩
    · obtain rfl : k = n := by omega
      obtain ⟨c3, e3, hc3, h0⟩ := HN.out.mine
      obtain ⟨c2, e2, hc2⟩ := HN.out.out
      have HL := hide (ldRel 3 e3 hc3.size)
      have H3 := hide (And.intro hc3 h0)
      have H2 := hide (And.intro e2 hc2)
      clear e3 hc3 h0 e2 hc2
      go_wp2_with (first | (with_reducible refine HL.out _ _ _ _ _ rfl rfl rfl ?_) | (with_reducible refine wpList_store_row rfl 128 (.tmp 2) (.tmp 35) rfl (w.heap.size + 1) _ rfl rfl 128 _ H2.out.1 (by rw [H3.out.1.size]; exact rel_info) (by rw [H3.out.1.size]; exact H2.out.2) H3.out.1.ones ?_))
      have hq := run_loadVar_row (P := Try.prog) (wr.setRow (w.heap.size + 1) c3) (w.heap.size + 1) 128 128 c3 (0, 0) _ (setRow_heap wr _ c2 c3 _ _ H2.out.1) Try.underlying128 rfl (by rw [H3.out.1.size]; exact rel_info)
      refine bodyPost_ret (v := .agg c3) (results_cell (k := 2) Try.results106 rfl hq) rfl ⟨k, c3, rfl, H3.out.1, H3.out.2, below_setRow HN.out.below (by omega) _⟩
end Go.Proofs.Ythnbhcfpfbimgaa
