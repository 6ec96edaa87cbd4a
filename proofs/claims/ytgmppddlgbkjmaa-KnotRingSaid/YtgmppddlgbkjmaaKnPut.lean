/- The walk of put: a knot is ready. -/
import Derived.Test.YtgmppddlgbkjmaaKnIR
import Derived.StillTailTactics
import Derived.Laws.CopyOwn
import Derived.Laws.Tables
namespace Go.Proofs.Ytgmppddlgbkjmaa
open Go.RowKit

/-- All is as it was, but for the blocks of S and new ones. -/
structure Kp (S : Nat → Prop) (w w' : World) : Prop where
  os : w'.os = w.os
  tape : w'.tape = w.tape
  output : w'.output = w.output
  size : w.heap.size ≤ w'.heap.size
  block : ∀ k, k < w.heap.size → ¬ S k → w'.heap[k]? = w.heap[k]?
theorem Kp.refl (S : Nat → Prop) (w : World) : Kp S w w := ⟨rfl, rfl, rfl, Nat.le_refl _, fun _ _ _ => rfl⟩
theorem Kp.drew {S : Nat → Prop} {w w' : World} (h : Kp S w w') : Kp S w w'.drew := ⟨h.os, h.tape, h.output, h.size, h.block⟩
theorem Kp.alloc {S : Nat → Prop} {w w' : World} (h : Kp S w w') (o : Obj) : Kp S w (w'.alloc o) :=
  ⟨h.os, h.tape, h.output, by have := h.size; rw [World.size_alloc]; omega, fun k hk hs => (Below.heap_alloc w' o k (Nat.lt_of_lt_of_le hk h.size)).trans (h.block k hk hs)⟩
theorem Kp.setCell {S : Nat → Prop} {w w' : World} (h : Kp S w w') {a : Addr} (ha : S a.block ∨ w.heap.size ≤ a.block) (v : Value) : Kp S w (w'.setCell a v) :=
  ⟨h.os, h.tape, h.output, by have := h.size; simp; omega, fun k hk hs => (Below.heap_setCell w' a v k (fun e => by rcases ha with h1 | h1; (· exact hs (e ▸ h1)); (· omega))).trans (h.block k hk hs)⟩
theorem Kp.setRow {S : Nat → Prop} {w w' : World} (h : Kp S w w') {g : Nat} (ha : S g ∨ w.heap.size ≤ g) (cs : Array Value) : Kp S w (w'.setRow g cs) :=
  ⟨h.os, h.tape, h.output, by have := h.size; simp [World.setRow]; omega, fun k hk hs => (setRow_other w' g k cs (fun e => by rcases ha with h1 | h1; (· exact hs (e ▸ h1)); (· omega))).trans (h.block k hk hs)⟩
theorem Kp.grown {S : Nat → Prop} {w w' w2 : World} (h : Kp S w w') {own : Option Nat} (hg : w'.grownBy w2 own) (ho : ∀ b, own = some b → S b ∨ w.heap.size ≤ b) : Kp S w w2 :=
  ⟨hg.os.trans h.os, hg.tape.trans h.tape, hg.output.trans h.output, Nat.le_trans h.size hg.size, fun k hk hs =>
    (hg.block k (Nat.lt_of_lt_of_le hk h.size) (fun e => by rcases ho k e.symm with h1 | h1; (· exact hs h1); (· omega))).trans (h.block k hk hs)⟩
theorem Kp.trans {S : Nat → Prop} {w w' w2 : World} (h : Kp S w w') (h2 : Kp S w' w2) : Kp S w w2 :=
  ⟨h2.os.trans h.os, h2.tape.trans h.tape, h2.output.trans h.output, Nat.le_trans h.size h2.size, fun k hk hs => (h2.block k (Nat.lt_of_lt_of_le hk h.size) hs).trans (h.block k hk hs)⟩
theorem Kp.below {S : Nat → Prop} {w w' : World} {B : Nat} (h : Kp S w w') (hB : B ≤ w.heap.size) (hS : ∀ k, S k → B ≤ k) : Below B w w' :=
  ⟨h.os, h.tape, h.output, h.size, fun k hk => h.block k (Nat.lt_of_lt_of_le hk hB) (fun hs => by have := hS k hs; omega)⟩
theorem Kp.of_below {S : Nat → Prop} {w w' : World} {B : Nat} (h : Below B w w') (hS : ∀ k, k < w.heap.size → B ≤ k → S k) : Kp S w w' :=
  ⟨h.os, h.tape, h.output, h.size, fun k hk hs => h.block k (Classical.byContradiction fun e => hs (hS k hk (by omega)))⟩

theorem RowZ.over {w : World} {e : TypeId} {g n cap off : Nat} {xs cs : List Value} {cur : Array Value} (h : RowZ w e 1 (.slice (some ⟨g, 0, none⟩) n cap) n xs)
    (hg : w.heap[g]? = some (.cells cur e (0, 0))) (hf : off + cs.length ≤ n) :
    RowZ (w.setRow g (cur.toList.take off ++ (cs ++ cur.toList.drop (off + cs.length))).toArray) e 1 (.slice (some ⟨g, 0, none⟩) n cap) n (xs.take off ++ (cs ++ xs.drop (off + cs.length))) := by
  rcases h with ⟨h0, _⟩ | ⟨g', cap', cur', he, hgg, hn, hsz, hm, hl, ht⟩
  · cases h0
  · simp only [Value.slice.injEq, Option.some.injEq, Addr.mk.injEq, and_true, true_and] at he
    obtain ⟨rfl, rfl⟩ := he
    rw [hg] at hgg
    simp only [Option.some.injEq, Obj.cells.injEq, and_true] at hgg
    subst hgg
    simp only [Nat.mul_one] at hl hsz ht
    refine .inr ⟨g, cap, _, rfl, setRow_heap w g cur _ e _ hg, hn, ?_, hm, ?_, ?_⟩
    · simp only [List.size_toArray, List.length_append, List.length_take, List.length_drop, Array.length_toList]
      omega
    · simp; omega
    · have hx : xs = cur.toList.take n := ht.symm
      subst hx
      simp only [Nat.mul_one]
      rw [List.take_append, List.take_append, List.take_take, List.take_take]
      simp only [List.length_take, Array.length_toList, List.drop_take]
      rw [show min n off = min off n from Nat.min_comm _ _]
      congr 1
      rw [show min off cur.size = off from by omega, List.take_of_length_le (l := cs) (by omega)]
      congr 2
      omega
theorem ins_nat (l : List Nat) (z k q : Nat) (h : q < l.length) : ((l ++ [z]).take (q + 1) ++ (l.drop q ++ (l ++ [z]).drop (q + 1 + (l.drop q).length))).set q k = l.take q ++ k :: l.drop q := by
  rw [List.drop_of_length_le (l := l ++ [z]) (by simp; omega), List.append_nil, List.take_append_of_le_length (by omega), List.take_succ_eq_append_getElem h]
  rw [List.append_assoc, List.set_append_right _ _ (by rw [List.length_take]; omega)]
  have hm : min q l.length = q := Nat.min_eq_left (Nat.le_of_lt h)
  simp [hm]
theorem ins_end (l : List Nat) (k q : Nat) (h : l.length = q) : (l ++ [0]).set q k = l.take q ++ k :: l.drop q := by
  subst h
  rw [List.set_append_right _ _ (Nat.le_refl _), Nat.sub_self, List.take_of_length_le (Nat.le_refl _), List.drop_of_length_le (Nat.le_refl _)]
  rfl
/-- The box that holds the row of what is ready. -/
def boxR (A : Option Addr) (m c : Nat) : Obj := .cells #[.slice A m c] 26 (0, 0)
structure PutE (R B m k : Nat) (l : List Nat) (own : Option Nat) (w : World) (e : Ending) (w' : World) : Prop where
  ret : e = .returned (.tuple #[])
  ex : ∃ A' c' q, q ≤ m ∧ w'.heap[R]? = some (boxR A' (m + 1) c') ∧ IR w' B A' (m + 1) c' (l.take q ++ k :: l.drop q) ∧ (∀ b, (Value.slice A' (m + 1) c').ownBlock = some b → own = some b ∨ w.heap.size ≤ b) ∧
    (∀ x, 0 < q → l[q - 1]? = some x → k ≤ x) ∧ (∀ (p x : Nat), q ≤ p → l[p]? = some x → x < k)
  kp : Kp (fun b => b = R ∨ own = some b) w w'
/-- Behind the append and the store. -/
structure PutA (R B m : Nat) (l : List Nat) (own : Option Nat) (w : World) (A' : Option Addr) (c' : Nat) (W : World) : Prop where
  box : W.heap[R]? = some (boxR A' (m + 1) c')
  row : IR W B A' (m + 1) c' (l ++ [0])
  ob : ∀ b, (Value.slice A' (m + 1) c').ownBlock = some b → own = some b ∨ w.heap.size ≤ b
  kp : Kp (fun b => b = R ∨ own = some b) w W
section
variable {R B m c' : Nat} {l : List Nat} {own : Option Nat} {w W : World} {A' : Option Addr}
theorem PutA.ownS (h : PutA R B m l own w A' c' W) : ∀ g, (Value.slice A' (m + 1) c').ownBlock = some g → (g = R ∨ own = some g) ∨ w.heap.size ≤ g := fun g hg => (h.ob g hg).imp .inr id
theorem PutA.ne (h : PutA R B m l own w A' c' W) : (Value.slice A' (m + 1) c').ownBlock ≠ some R := RowZ.ne_type h.row.row h.box (by decide)
theorem PutA.cap (h : PutA R B m l own w A' c' W) : m + 1 ≤ c' ∧ c' ≤ maxLen := h.row.bound
theorem PutA.block (h : PutA R B m l own w A' c' W) : ∃ g cur, A' = some ⟨g, 0, none⟩ ∧ W.heap[g]? = some (.cells cur 3 (0, 0)) ∧ c' ≤ cur.size := by
  rcases h.row.row with ⟨h0, _⟩ | ⟨g, cap, cur, h0, hh, _, h2, _⟩
  · cases h0
  · simp only [Value.slice.injEq] at h0
    obtain ⟨rfl, _, rfl⟩ := h0
    exact ⟨g, cur, rfl, hh, by simpa using h2⟩
end
theorem put_app {R B m c c' : Nat} {A A' : Option Addr} {l : List Nat} {w w' : World} (hR : w.heap[R]? = some (boxR A m c)) (hI : IR w B A m c l)
    (hr : IR w' B A' (m + 1) c' (l ++ [0])) (hg : (w.alloc (.cells #[.int .i64 0] 3)).grownBy w' (Value.slice A m c).ownBlock) (hob : (Value.slice A' (m + 1) c').ownBlock = (Value.slice A m c).ownBlock ∨ (Value.slice A' (m + 1) c').ownBlock = some (w.alloc (.cells #[.int .i64 0] 3)).heap.size) :
    w'.cell? ⟨R, 0, none⟩ = some (.slice A m c) ∧ w'.frozen? ⟨R, 0, none⟩ = false ∧ Hid (PutA R B m l (Value.slice A m c).ownBlock w A' c' (w'.setCell ⟨R, 0, none⟩ (.slice A' (m + 1) c'))) := by
  have hne : (Value.slice A m c).ownBlock ≠ some R := RowZ.ne_type hI.row hR (by decide)
  have hRw : w'.heap[R]? = some (boxR A m c) := by
    rw [hg.block R (by rw [World.size_alloc]; have := blk_lt hR; omega) (fun e => hne e.symm), Below.heap_alloc w _ _ (blk_lt hR)]
    exact hR
  have hne' : (Value.slice A' (m + 1) c').ownBlock ≠ some R := RowZ.ne_type hr.row hRw (by decide)
  have hown : ∀ b, (Value.slice A' (m + 1) c').ownBlock = some b → (Value.slice A m c).ownBlock = some b ∨ w.heap.size ≤ b := fun b hb => by
    rcases hob with e | e
    · exact .inl (e ▸ hb)
    · rw [e] at hb; simp only [Option.some.injEq] at hb; rw [World.size_alloc] at hb; right; omega
  refine ⟨by unfold boxR at hRw; rw [cell_block hRw]; rfl, by unfold boxR at hRw; exact frozen_of_row _ R 0 _ _ hRw, ⟨?_, hr.far (p := ⟨R, 0, none⟩) hne' _, hown, ?_⟩⟩
  · rw [heap_setCell_same w' R 0 _ _ _ hRw]; rfl
  · exact (((Kp.refl _ w).alloc _).grown hg fun b hb => .inl (.inr hb)).setCell (.inl (.inl rfl)) _
theorem put_copied {R B m c' q g : Nat} {l : List Nat} {own : Option Nat} {w W : World} {cur : Array Value} (h : PutA R B m l own w (some ⟨g, 0, none⟩) c' W) (hg : W.heap[g]? = some (.cells cur 3 (0, 0))) (hq : q < l.length) (hml : l.length = m) :
    (W.drew.setRow g (cur.toList.take (q + 1) ++ (intsV (l.drop q) ++ cur.toList.drop (q + 1 + (intsV (l.drop q)).length))).toArray).heap[R]? = some (boxR (some ⟨g, 0, none⟩) (m + 1) c') ∧
    IR (W.drew.setRow g (cur.toList.take (q + 1) ++ (intsV (l.drop q) ++ cur.toList.drop (q + 1 + (intsV (l.drop q)).length))).toArray) B (some ⟨g, 0, none⟩) (m + 1) c' ((l ++ [0]).take (q + 1) ++ (l.drop q ++ (l ++ [0]).drop (q + 1 + (l.drop q).length))) ∧
    Kp (fun b => b = R ∨ own = some b) w (W.drew.setRow g (cur.toList.take (q + 1) ++ (intsV (l.drop q) ++ cur.toList.drop (q + 1 + (intsV (l.drop q)).length))).toArray) ∧
    ∃ y, (W.drew.setRow g (cur.toList.take (q + 1) ++ (intsV (l.drop q) ++ cur.toList.drop (q + 1 + (intsV (l.drop q)).length))).toArray).cell? ⟨g, q, none⟩ = some y := by
  have hrow : IR (W.drew.setRow g (cur.toList.take (q + 1) ++ (intsV (l.drop q) ++ cur.toList.drop (q + 1 + (intsV (l.drop q)).length))).toArray) B (some ⟨g, 0, none⟩) (m + 1) c' ((l ++ [0]).take (q + 1) ++ (l.drop q ++ (l ++ [0]).drop (q + 1 + (l.drop q).length))) := by
    refine ⟨?_, h.row.own⟩
    have := RowZ.over (w := W.drew) (RowZ.below h.row.row (below_drewN (Below.refl _ _) 1)) hg (off := q + 1) (cs := intsV (l.drop q)) (by rw [intsV_len, List.length_drop]; omega)
    have e : intsV ((l ++ [0]).take (q + 1) ++ (l.drop q ++ (l ++ [0]).drop (q + 1 + (l.drop q).length))) = (intsV (l ++ [0])).take (q + 1) ++ (intsV (l.drop q) ++ (intsV (l ++ [0])).drop (q + 1 + (intsV (l.drop q)).length)) := by
      simp only [intsV, List.map_append, List.map_take, List.map_drop, List.length_map, List.length_drop]
    rw [e]
    exact this
  refine ⟨(setRow_other _ _ _ _ (fun e => h.ne (by rw [e]; rfl))).trans h.box, hrow, h.kp.drew.setRow (h.ownS g rfl) _, ?_⟩
  obtain ⟨x, hx⟩ : ∃ x, ((l ++ [0]).take (q + 1) ++ (l.drop q ++ (l ++ [0]).drop (q + 1 + (l.drop q).length)))[q]? = some x := ⟨_, List.getElem?_eq_getElem (by simp; omega)⟩
  obtain ⟨_, e, _, _, hc⟩ := hrow.cell hx
  cases e
  exact ⟨_, hc⟩
structure PutL (l : List Nat) (m k : Nat) (v : Value) : Prop where
  ex : ∃ q, q ≤ m ∧ v = .int .i64 (q : Nat) ∧ ∀ (p x : Nat), q ≤ p → l[p]? = some x → x < k
set_option maxRecDepth 100000 in
set_option maxHeartbeats 4000000 in
theorem put_any (R B m c k : Nat) (A : Option Addr) (l : List Nat) (w : World) (hR : w.heap[R]? = some (boxR A m c)) (hI : IR w B A m c l) (hB : B ≤ w.heap.size) (hm : m ≤ 1000000) :
    Calls Try.prog 19 #[.int .i64 (k : Nat), .pointer (some ⟨R, 0, none⟩)] w fun e w' => PutE R B m k l (Value.slice A m c).ownBlock w e w' := by
  have hml := hI.len
  have hc0 : w.cell? ⟨R, 0, none⟩ = some (.slice A m c) := by unfold boxR at hR; rw [cell_block hR]; rfl
  have hf0 : w.frozen? ⟨R, 0, none⟩ = false := by unfold boxR at hR; exact frozen_of_row _ R 0 _ _ hR
  have H := hide (And.intro hR (And.intro hI (And.intro hB hml)))
  clear hR hI hB hml
  go_enter Try.func19, Try.ntmps19
  go_wp2_with fail
  go_loop [3] (fun v => PutL l m k v) (fun v => (intOf v).toNat)
  case atStart => exact ⟨⟨m, Nat.le_refl _, rfl, fun p x hp hx => by have := (List.getElem?_eq_some_iff.1 hx).1; have := H.out.2.2.2; omega⟩⟩
  case round =>
    obtain ⟨⟨q, hq, rfl, hall⟩⟩ := hrel
    have HA := hide hall
    clear hall
    have q0 : (0 : Int) ≤ q := by omega
    by_cases hgo : ∃ p x, q = p + 1 ∧ l[p]? = some x ∧ x < k
    · obtain ⟨p, x, rfl, hx, hxk⟩ := hgo
      obtain ⟨g, rfl, _, _, hxc⟩ := H.out.2.1.cell hx
      have p1 : (p : Int) < m := by omega
      have p0 : (0 : Int) ≤ p := by omega
      have hxk2 : (x : Int) < k := by omega
      have HX := hide (And.intro hx hxk)
      clear hx hxk
      go_wp2_with fail
      refine ⟨⟨⟨p, by omega, rfl, fun p' x' hp hx' => ?_⟩⟩, by simp only [intOf]; omega⟩
      by_cases hpp : p' = p
      · subst hpp
        rw [HX.out.1] at hx'
        injection hx' with hx'
        rw [← hx']
        exact HX.out.2
      · exact HA.out p' x' (by omega) hx'
    · have hstop : ∀ x, 0 < q → l[q - 1]? = some x → k ≤ x := fun x h0 hx => by
        refine Classical.byContradiction fun hxk => hgo ⟨q - 1, x, by omega, hx, by omega⟩
      have HST := hide hstop
      clear hgo hstop
      have hways : (decide ((0 : Int) < q) = false ∧ decide (0 < q) = false) ∨ ((0 : Int) < q ∧ ∃ x g, A = some ⟨g, 0, none⟩ ∧ decide (x < k) = false ∧ w.cell? ⟨g, q - 1, none⟩ = some (.int .i64 (x : Nat))) := by
        by_cases h0 : q = 0
        · exact .inl ⟨by simp; omega, by simp; omega⟩
        · obtain ⟨x, hx⟩ : ∃ x, l[q - 1]? = some x := ⟨_, List.getElem?_eq_getElem (by have := H.out.2.2.2; omega)⟩
          obtain ⟨g, hg, _, _, hxc⟩ := H.out.2.1.cell hx
          exact .inr ⟨by omega, x, g, hg, by have := HST.out x (by omega) hx; simp; omega, hxc⟩
      rcases hways with ⟨hd, hd2⟩ | ⟨h0, x, g, rfl, hxk, hxc⟩
      · go_upto_region 3 with (fail)
        clear hd hd2
        have H3 := hide (And.intro (H.out.2.1.below (below_laid w (.cells #[.int .i64 0] 3))) (And.intro (heap_alloc_new w (.cells #[.int .i64 0] 3)) (below_laid w (.cells #[.int .i64 0] 3))))
        go_upto_region 4 with (at_builtin; refine app_int rfl (.tmp 19) (.tmp 20) rfl rfl rfl (k := 0) H3.out.2.1 H3.out.1 (by have := H.out.2.2.1; rw [World.size_alloc]; omega) hm ?_; intro A' c' w' hr hg hb hob; obtain ⟨h4c, h4f, H4⟩ := put_app H.out.1 H.out.2.1 hr hg hob; clear hr hg hb hob)
        generalize w'.setCell ⟨R, 0, none⟩ (.slice A' (m + 1) c') = W at *
        clear hc0 hf0 h4c h4f
        obtain ⟨g', cur, rfl, hgc, hcs⟩ := H4.out.block
        have hcc := H4.out.cap
        have hcell : W.cell? ⟨R, 0, none⟩ = some (.slice (some ⟨g', 0, none⟩) (m + 1) c') := by have h := H4.out.box; unfold boxR at h; rw [cell_block h]; rfl
        have q1 : (q : Int) ≤ m := by omega
        have j0 : (0 : Int) ≤ q + 1 := by omega
        have j1 : (q : Int) + 1 ≤ c' := by omega
        have j2 : (q : Int) ≤ c' := by omega
        have j3 : (q : Int) + 1 ≤ (m : Int) + 1 := by omega
        have j4 : (q : Int) ≤ (m : Int) + 1 := by omega
        have j7 : IntKind.i64.wrap ((q : Int) + 1) = (q : Int) + 1 := IntWalk.i64_in _ (by omega)
        have j8 : ((q : Int) + 1).toNat = q + 1 := by omega
        have hml := H.out.2.2.2
        have q2 : (q : Int) < (m : Int) + 1 := by omega
        by_cases hqm : q < m
        · have j5 : ¬ c' = q + 1 := by omega
          have j6 : ¬ c' = q := by omega
          go_still_tail 7, (by kernel_rfl)
          clear j7 j8 hcell
          change wpList _ _ _ _ _ W.drew
          have HC := hide (put_copied H4.out hgc (by omega : q < l.length) hml)
          have HGC := hide (And.intro hgc (And.intro hcs hml))
          clear hcs hml
          refine wpList_copy_own rfl (.tmp 25) (.tmp 28) 26 26 rfl 3 Try.underlying26 (by kernel_rfl) g' (q + 1) (m - q) (c' - (q + 1)) ⟨g', q, none⟩ (m + 1 - q) (c' - q) rfl rfl cur 3 hgc (intsV (l.drop q)) ?k1 ?k2 ?k3 ?k4 ?_
          case k1 => rw [intsV_len, List.length_drop, HGC.out.2.2]; exact (Nat.min_eq_right (by omega)).symm
          case k2 =>
            intro j u hu
            have hj := (List.getElem?_eq_some_iff.1 hu).1
            rw [intsV_len, List.length_drop] at hj
            rw [add_plain]
            show W.cell? _ = _
            have hx : (l ++ [0])[q + j]? = some (l[q + j]'(by omega)) := by rw [List.getElem?_append_left (by omega)]; exact List.getElem?_eq_getElem _
            obtain ⟨_, e, _, _, h⟩ := H4.out.row.cell hx
            cases e
            rw [h, ← hu]
            have e2 : l[q + j]? = some (l[q + j]'(by omega)) := List.getElem?_eq_getElem _
            simp [intsV, List.getElem?_drop, e2]
          case k3 => rw [intsV_len, List.length_drop]; have := HGC.out; omega
          case k4 => intro u hu; obtain ⟨s, _, rfl⟩ := List.mem_map.1 hu; rfl
          clear hgc
          generalize W.drew.setRow g' _ = W4 at *
          have d0 : W4.cell? ⟨R, 0, none⟩ = some (.slice (some ⟨g', 0, none⟩) (m + 1) c') := by have h := HC.out.1; unfold boxR at h; rw [cell_block h]; rfl
          obtain ⟨y, hy⟩ := HC.out.2.2.2
          have hfr := HC.out.2.1.free q
          go_wp2_with fail
          go_end0
          refine ⟨rfl, ⟨some ⟨g', 0, none⟩, c', q, hq, ?_, ?_, H4.out.ob, HST.out, HA.out⟩, ?_⟩
          · exact (Below.heap_setCell W4 _ _ _ (fun e => H4.out.ne (by rw [e]; rfl))).trans HC.out.1
          · have := HC.out.2.1.set q k
            rw [ins_nat l 0 k q (by have := HGC.out; omega)] at this
            exact this
          · exact HC.out.2.2.1.setCell (H4.out.ownS g' rfl) _
        · obtain rfl : q = m := by omega
          have HC := hide (And.intro H4.out.row (And.intro H4.out.box H4.out.kp))
          have hx : (l ++ [0])[q]? = some 0 := by rw [List.getElem?_append_right (by omega), hml, Nat.sub_self]; rfl
          obtain ⟨_, e, _, _, hxc⟩ := H4.out.row.cell hx
          cases e
          have hfr := H4.out.row.free q
          have HML := hide hml
          clear hx hml hgc hcs
          by_cases hcq : c' = q + 1
          · subst hcq
            have j6 : ¬ (q + 1) = q := by omega
            go_still_tail 7, (by kernel_rfl)
            clear j7 j8
            change wpList _ _ _ _ _ W.drew
            refine wpList_copy_nothing rfl (.tmp 25) (.tmp 28) 26 26 rfl 3 Try.underlying26 (by kernel_rfl) _ _ _ _ _ _ rfl rfl (by simp) ?_
            change wpList _ _ _ _ _ W.drew
            go_wp2_with fail
            go_end0
            refine ⟨rfl, ⟨some ⟨g', 0, none⟩, _, q, hq, ?_, ?_, H4.out.ob, HST.out, HA.out⟩, ?_⟩
            · exact (Below.heap_setCell W.drew _ _ _ (fun e => H4.out.ne (by rw [e]; rfl))).trans HC.out.2.1
            · have := (HC.out.1.below (below_drewN (Below.refl _ _) 1)).set q k
              rw [ins_end l k q HML.out] at this
              exact this
            · exact HC.out.2.2.drew.setCell (H4.out.ownS g' rfl) _
          · have j5 : ¬ c' = q + 1 := hcq
            have j6 : ¬ c' = q := by omega
            go_still_tail 7, (by kernel_rfl)
            clear j7 j8
            change wpList _ _ _ _ _ W.drew
            refine wpList_copy_nothing rfl (.tmp 25) (.tmp 28) 26 26 rfl 3 Try.underlying26 (by kernel_rfl) _ _ _ _ _ _ rfl rfl (by simp) ?_
            change wpList _ _ _ _ _ W.drew
            go_wp2_with fail
            go_end0
            refine ⟨rfl, ⟨some ⟨g', 0, none⟩, _, q, hq, ?_, ?_, H4.out.ob, HST.out, HA.out⟩, ?_⟩
            · exact (Below.heap_setCell W.drew _ _ _ (fun e => H4.out.ne (by rw [e]; rfl))).trans HC.out.2.1
            · have := (HC.out.1.below (below_drewN (Below.refl _ _) 1)).set q k
              rw [ins_end l k q HML.out] at this
              exact this
            · exact HC.out.2.2.drew.setCell (H4.out.ownS g' rfl) _
      · go_upto_region 3 with (fail)
        clear h0 hxk hxc
        have H3 := hide (And.intro (H.out.2.1.below (below_laid w (.cells #[.int .i64 0] 3))) (And.intro (heap_alloc_new w (.cells #[.int .i64 0] 3)) (below_laid w (.cells #[.int .i64 0] 3))))
        go_upto_region 4 with (at_builtin; refine app_int rfl (.tmp 19) (.tmp 20) rfl rfl rfl (k := 0) H3.out.2.1 H3.out.1 (by have := H.out.2.2.1; rw [World.size_alloc]; omega) hm ?_; intro A' c' w' hr hg hb hob; obtain ⟨h4c, h4f, H4⟩ := put_app H.out.1 H.out.2.1 hr hg hob; clear hr hg hb hob)
        generalize w'.setCell ⟨R, 0, none⟩ (.slice A' (m + 1) c') = W at *
        clear hc0 hf0 h4c h4f
        obtain ⟨g', cur, rfl, hgc, hcs⟩ := H4.out.block
        have hcc := H4.out.cap
        have hcell : W.cell? ⟨R, 0, none⟩ = some (.slice (some ⟨g', 0, none⟩) (m + 1) c') := by have h := H4.out.box; unfold boxR at h; rw [cell_block h]; rfl
        have q1 : (q : Int) ≤ m := by omega
        have j0 : (0 : Int) ≤ q + 1 := by omega
        have j1 : (q : Int) + 1 ≤ c' := by omega
        have j2 : (q : Int) ≤ c' := by omega
        have j3 : (q : Int) + 1 ≤ (m : Int) + 1 := by omega
        have j4 : (q : Int) ≤ (m : Int) + 1 := by omega
        have j7 : IntKind.i64.wrap ((q : Int) + 1) = (q : Int) + 1 := IntWalk.i64_in _ (by omega)
        have j8 : ((q : Int) + 1).toNat = q + 1 := by omega
        have hml := H.out.2.2.2
        have q2 : (q : Int) < (m : Int) + 1 := by omega
        by_cases hqm : q < m
        · have j5 : ¬ c' = q + 1 := by omega
          have j6 : ¬ c' = q := by omega
          go_still_tail 7, (by kernel_rfl)
          clear j7 j8 hcell
          change wpList _ _ _ _ _ W.drew
          have HC := hide (put_copied H4.out hgc (by omega : q < l.length) hml)
          have HGC := hide (And.intro hgc (And.intro hcs hml))
          clear hcs hml
          refine wpList_copy_own rfl (.tmp 25) (.tmp 28) 26 26 rfl 3 Try.underlying26 (by kernel_rfl) g' (q + 1) (m - q) (c' - (q + 1)) ⟨g', q, none⟩ (m + 1 - q) (c' - q) rfl rfl cur 3 hgc (intsV (l.drop q)) ?k1 ?k2 ?k3 ?k4 ?_
          case k1 => rw [intsV_len, List.length_drop, HGC.out.2.2]; exact (Nat.min_eq_right (by omega)).symm
          case k2 =>
            intro j u hu
            have hj := (List.getElem?_eq_some_iff.1 hu).1
            rw [intsV_len, List.length_drop] at hj
            rw [add_plain]
            show W.cell? _ = _
            have hx : (l ++ [0])[q + j]? = some (l[q + j]'(by omega)) := by rw [List.getElem?_append_left (by omega)]; exact List.getElem?_eq_getElem _
            obtain ⟨_, e, _, _, h⟩ := H4.out.row.cell hx
            cases e
            rw [h, ← hu]
            have e2 : l[q + j]? = some (l[q + j]'(by omega)) := List.getElem?_eq_getElem _
            simp [intsV, List.getElem?_drop, e2]
          case k3 => rw [intsV_len, List.length_drop]; have := HGC.out; omega
          case k4 => intro u hu; obtain ⟨s, _, rfl⟩ := List.mem_map.1 hu; rfl
          clear hgc
          generalize W.drew.setRow g' _ = W4 at *
          have d0 : W4.cell? ⟨R, 0, none⟩ = some (.slice (some ⟨g', 0, none⟩) (m + 1) c') := by have h := HC.out.1; unfold boxR at h; rw [cell_block h]; rfl
          obtain ⟨y, hy⟩ := HC.out.2.2.2
          have hfr := HC.out.2.1.free q
          go_wp2_with fail
          go_end0
          refine ⟨rfl, ⟨some ⟨g', 0, none⟩, c', q, hq, ?_, ?_, H4.out.ob, HST.out, HA.out⟩, ?_⟩
          · exact (Below.heap_setCell W4 _ _ _ (fun e => H4.out.ne (by rw [e]; rfl))).trans HC.out.1
          · have := HC.out.2.1.set q k
            rw [ins_nat l 0 k q (by have := HGC.out; omega)] at this
            exact this
          · exact HC.out.2.2.1.setCell (H4.out.ownS g' rfl) _
        · obtain rfl : q = m := by omega
          have HC := hide (And.intro H4.out.row (And.intro H4.out.box H4.out.kp))
          have hx : (l ++ [0])[q]? = some 0 := by rw [List.getElem?_append_right (by omega), hml, Nat.sub_self]; rfl
          obtain ⟨_, e, _, _, hxc⟩ := H4.out.row.cell hx
          cases e
          have hfr := H4.out.row.free q
          have HML := hide hml
          clear hx hml hgc hcs
          by_cases hcq : c' = q + 1
          · subst hcq
            have j6 : ¬ (q + 1) = q := by omega
            go_still_tail 7, (by kernel_rfl)
            clear j7 j8
            change wpList _ _ _ _ _ W.drew
            refine wpList_copy_nothing rfl (.tmp 25) (.tmp 28) 26 26 rfl 3 Try.underlying26 (by kernel_rfl) _ _ _ _ _ _ rfl rfl (by simp) ?_
            change wpList _ _ _ _ _ W.drew
            go_wp2_with fail
            go_end0
            refine ⟨rfl, ⟨some ⟨g', 0, none⟩, _, q, hq, ?_, ?_, H4.out.ob, HST.out, HA.out⟩, ?_⟩
            · exact (Below.heap_setCell W.drew _ _ _ (fun e => H4.out.ne (by rw [e]; rfl))).trans HC.out.2.1
            · have := (HC.out.1.below (below_drewN (Below.refl _ _) 1)).set q k
              rw [ins_end l k q HML.out] at this
              exact this
            · exact HC.out.2.2.drew.setCell (H4.out.ownS g' rfl) _
          · have j5 : ¬ c' = q + 1 := hcq
            have j6 : ¬ c' = q := by omega
            go_still_tail 7, (by kernel_rfl)
            clear j7 j8
            change wpList _ _ _ _ _ W.drew
            refine wpList_copy_nothing rfl (.tmp 25) (.tmp 28) 26 26 rfl 3 Try.underlying26 (by kernel_rfl) _ _ _ _ _ _ rfl rfl (by simp) ?_
            change wpList _ _ _ _ _ W.drew
            go_wp2_with fail
            go_end0
            refine ⟨rfl, ⟨some ⟨g', 0, none⟩, _, q, hq, ?_, ?_, H4.out.ob, HST.out, HA.out⟩, ?_⟩
            · exact (Below.heap_setCell W.drew _ _ _ (fun e => H4.out.ne (by rw [e]; rfl))).trans HC.out.2.1
            · have := (HC.out.1.below (below_drewN (Below.refl _ _) 1)).set q k
              rw [ins_end l k q HML.out] at this
              exact this
            · exact HC.out.2.2.drew.setCell (H4.out.ownS g' rfl) _
end Go.Proofs.Ytgmppddlgbkjmaa
