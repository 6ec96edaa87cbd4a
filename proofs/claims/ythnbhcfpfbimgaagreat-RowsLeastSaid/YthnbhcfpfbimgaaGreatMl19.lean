/- Texts put together: RgAsn NmSortW. -/
import Derived.Laws.CopyOwn
import Derived.Test.YthnbhcfpfbimgaaGreatMl18
import Derived.Test.YthnbhcfpfbimgaaGreatMl16
/- Assignments, read; the walk of chapter 18's Big. -/
namespace Go.Proofs.YthnbhcfpfbimgaaGreat
open Go.RowKit
open Rw (El At Fld)
/-- A value of a field. -/
structure Vl where
  name : ByteArray
  el : El
def vlV (x : Vl) : List Value := .string x.name :: elV x.el
def SmV (l : List Vl) : Prop := ∀ x ∈ l, x.name.size ≤ maxLen
structure Vls (w : World) (B : Nat) (v : Value) (l : List Vl) : Prop where
  at_ : SlAt w B 62 9 v l.length (l.flatMap vlV)
  small : SmV l
theorem Vls.below {w w' : World} {B : Nat} {v : Value} {l : List Vl} (h : Vls w B v l) (hb : Below w.heap.size w w') : Vls w' B v l := ⟨h.at_.below hb, h.small⟩
theorem Vls.mono {w : World} {B B' : Nat} {v : Value} {l : List Vl} (h : Vls w B v l) (hB : B ≤ B') : Vls w B' v l := ⟨h.at_.mono hB, h.small⟩
structure Rws (w : World) (B : Nat) (v : Value) (l : List (List Vl)) : Prop where
  ex : ∃ vs, SlAt w B 57 1 v l.length vs ∧ ∀ (i : Nat) (r : List Vl), l[i]? = some r → ∃ u, vs[i]? = some u ∧ Vls w B u r
theorem Rws.below {w w' : World} {B : Nat} {v : Value} {l : List (List Vl)} (h : Rws w B v l) (hb : Below w.heap.size w w') : Rws w' B v l := by
  obtain ⟨⟨xs, h1, h2⟩⟩ := h
  refine ⟨⟨xs, h1.below hb, fun i x hx => ?_⟩⟩
  obtain ⟨u, h3, h4⟩ := h2 i x hx
  exact ⟨u, h3, h4.below hb⟩
theorem Rws.mono {w : World} {B B' : Nat} {v : Value} {l : List (List Vl)} (h : Rws w B v l) (hB : B ≤ B') : Rws w B' v l := by
  obtain ⟨⟨xs, h1, h2⟩⟩ := h
  refine ⟨⟨xs, h1.mono hB, fun i x hx => ?_⟩⟩
  obtain ⟨u, h3, h4⟩ := h2 i x hx
  exact ⟨u, h3, h4.mono hB⟩
theorem Rws.form {w : World} {B : Nat} {v : Value} {l : List (List Vl)} (h : Rws w B v l) : ∃ A c, v = .slice A l.length c ∧ l.length ≤ c ∧ c ≤ maxLen := by
  obtain ⟨⟨xs, h1, h2⟩⟩ := h
  exact SlAt.form h1
theorem Rws.at {w : World} {B : Nat} {v : Value} {l : List (List Vl)} (h : Rws w B v l) {i : Nat} (hi : i < l.length) : ∃ bl off c u, v = .slice (some ⟨bl, off, none⟩) l.length c ∧ bl < w.heap.size ∧ w.cell? ⟨bl, off + i, none⟩ = some u ∧ Vls w B u l[i] := by
  obtain ⟨⟨xs, h1, h2⟩⟩ := h
  obtain ⟨bl, off, c, h3, h4, h5⟩ := SlAt.at h1 hi
  obtain ⟨u, h6, h7⟩ := h2 i _ (List.getElem?_eq_getElem hi)
  refine ⟨bl, off, c, u, h3, h4, ?_, h7⟩
  have := h5 0 u (by rw [part_get (by omega), Nat.mul_one, Nat.add_zero]; exact h6)
  rw [Nat.mul_one, Nat.add_zero] at this
  exact this
structure Lbs (w : World) (B : Nat) (v : Value) (l : List El) : Prop where
  at_ : SlAt w B 48 8 v l.length (l.flatMap elV)
theorem Lbs.below {w w' : World} {B : Nat} {v : Value} {l : List El} (h : Lbs w B v l) (hb : Below w.heap.size w w') : Lbs w' B v l := ⟨h.at_.below hb⟩
theorem Lbs.mono {w : World} {B B' : Nat} {v : Value} {l : List El} (h : Lbs w B v l) (hB : B ≤ B') : Lbs w B' v l := ⟨h.at_.mono hB⟩
/-- An assignment's cells, boxed at a. -/
structure AnW (W : World) (a : Nat) (vl vr : Value) (L : List El) (R : List (List Vl)) (wr : World) : Prop where
  below : Below W.heap.size W wr
  one : wr.heap[a]? = some (.cells #[vl, vr] 32 (0, 0))
  labs : Lbs wr W.heap.size vl L
  rows : Rws wr W.heap.size vr R
theorem AnW.step {W : World} {a : Nat} {vl vr : Value} {L : List El} {R : List (List Vl)} {wr w' : World} (h : AnW W a vl vr L R wr) (hb : Below wr.heap.size wr w') : AnW W a vl vr L R w' := ⟨below_next h.below hb, heap_below h.one hb, h.labs.below hb, h.rows.below hb⟩
theorem AnW.new {W : World} {B : Nat} {vl vr : Value} {L : List El} {R : List (List Vl)} (h : Lbs W B vl L) (h2 : Rws W B vr R) (hB : B ≤ W.heap.size) : AnW W W.heap.size vl vr L R (W.alloc (.cells #[vl, vr] 32)) :=
  ⟨below_laid _ _, heap_alloc_last _ _, (h.below (below_laid _ _)).mono hB, (h2.below (below_laid _ _)).mono hB⟩
theorem AnW.c0 {W : World} {a : Nat} {vl vr : Value} {L : List El} {R : List (List Vl)} {wr : World} (h : AnW W a vl vr L R wr) : wr.cell? ⟨a, 0, none⟩ = some vl := by rw [cell_block h.one]; rfl
theorem AnW.c1 {W : World} {a : Nat} {vl vr : Value} {L : List El} {R : List (List Vl)} {wr : World} (h : AnW W a vl vr L R wr) : wr.cell? ⟨a, 1, none⟩ = some vr := by rw [cell_block h.one]; rfl
theorem val_info : (Tryz.prog.info? 62).map (·.size) = some 9 := by kernel_rfl
set_option maxRecDepth 100000 in
set_option maxHeartbeats 2000000 in
theorem big18_tot (B : Nat) (vl vr : Value) (L : List El) (R : List (List Vl)) (w : World) (h : Lbs w B vl L) (h2 : Rws w B vr R) (hB : B ≤ w.heap.size) : Calls Tryz.prog 5 #[.agg #[vl, vr]] w fun e w' => RBo e ∧ Below w.heap.size w w' := by
  obtain ⟨A, c, rfl, hnc, hcm⟩ := h2.form
  obtain ⟨A2, c2, rfl, hnc2, hcm2⟩ := SlAt.form h.at_
  have HT := hide (AnW.new h h2 hB)
  have hl9 : (R.length : Int) ≤ 9223372036854775807 := by unfold maxLen at hcm; omega
  have hl8 : (L.length : Int) ≤ 9223372036854775807 := by unfold maxLen at hcm2; omega
  clear h hnc hcm h2 hnc2 hcm2
  have k0 := HT.out.c0
  have k1 := HT.out.c1
  go_enter Tryz.func5, Tryz.ntmps5
  go_upto_region 1 with fail
  generalize w.alloc (Obj.cells _ 32) = w0 at *
  by_cases h1 : 100 < L.length
  · have d1 : decide (100 < (L.length : Int)) = true := decide_eq_true (by omega)
    go_wp2_with fail
    go_ret
    exact ⟨⟨_, rfl⟩, HT.out.below⟩
  have d1 : decide (100 < (L.length : Int)) = false := decide_eq_false (by omega)
  by_cases h2 : 100 < R.length
  · have d2 : decide (100 < (R.length : Int)) = true := decide_eq_true (by omega)
    go_wp2_with fail
    go_ret
    exact ⟨⟨_, rfl⟩, HT.out.below⟩
  have d2 : decide (100 < (R.length : Int)) = false := decide_eq_false (by omega)
  go_wp2_with fail
  clear d1 d2 k0 k1
  go_loopw [3, 21] (fun nv kv wr => ((∃ z, nv = .int .i64 z) ∧ ∃ q : Nat, q ≤ R.length ∧ kv = .int .i64 (q : Nat)) ∧ AnW w w.heap.size (.slice A2 L.length c2) (.slice A R.length c) L R wr) (fun _ kv _ => R.length - (intOf kv).toNat)
  case atStart => exact ⟨⟨⟨_, rfl⟩, 0, by omega, rfl⟩, HT.out⟩
  case round =>
    obtain ⟨⟨⟨z, rfl⟩, q, hq, rfl⟩, ho⟩ := hrel
    clear HT
    have HO := hide ho
    clear ho
    by_cases hlt : q < R.length
    · have i0 : (q : Int) < R.length := by omega
      obtain ⟨bl, off, c', u, e, hbl, hc1, hu⟩ := HO.out.rows.at hlt
      cases e
      generalize R[q] = r at *
      obtain ⟨Au, cu, rfl, _, hcu⟩ := SlAt.form hu.at_
      have hr9 : (r.length : Int) ≤ 9223372036854775807 := by unfold maxLen at hcu; omega
      have HU := hide hu
      clear hu hcu
      go_wp2_with fail
      clear hc1
      have HK : Hid (Kpt wr wr) := hide ⟨Below.refl _ _⟩
      generalize hwo : wr = wo at HK
      subst hwo
      generalize wr = wo at *
      go_loopw [31] (fun kv wr => (∃ j : Nat, j ≤ r.length ∧ kv = .int .i64 (j : Nat)) ∧ Kpt wo wr) (fun kv _ => r.length - (intOf kv).toNat)
      case atStart => exact ⟨⟨0, by omega, rfl⟩, HK.out⟩
      case round =>
        obtain ⟨⟨j, hj, rfl⟩, ho⟩ := hrel
        clear HK
        have HK := hide ho
        clear ho
        by_cases hjl : j < r.length
        · have j0 : (j : Int) < r.length := by omega
          obtain ⟨b2, o2, c3, e, hbl2, hr⟩ := SlAt.elem (HU.out.at_.below HK.out.below) (fun _ => rfl) hjl
          cases e
          generalize r[j] = x at *
          obtain ⟨nm, e0, e1, e2, e3, e4, e5, e6, e7⟩ := x
          have HL := hide (ldA (cs := #[.string nm, .int .u64 e0, .int .u64 e1, .int .u64 e2, .int .u64 e3, .int .u64 e4, .int .u64 e5, .int .u64 e6, .int .u64 e7]) 33 hr Tryz.underlying62 rfl val_info)
          have HST := hide (stA (w := wr) (new := #[.string nm, .int .u64 e0, .int .u64 e1, .int .u64 e2, .int .u64 e3, .int .u64 e4, .int .u64 e5, .int .u64 e6, .int .u64 e7]) 7 34 val_info (by simp [Value.oneCell']))
          clear hr
          have H5 : Hid (Kpt wo (wr.alloc (.cells #[.string nm, .int .u64 e0, .int .u64 e1, .int .u64 e2, .int .u64 e3, .int .u64 e4, .int .u64 e5, .int .u64 e6, .int .u64 e7] 62))) := hide ⟨below_next HK.out.below (below_laid _ _)⟩
          go_wp2_with (first | (with_reducible refine HL.out _ _ _ _ _ rfl rfl (by with_unfolding_all rfl) ?_) | (with_reducible refine HST.out _ _ _ _ _ _ rfl rfl rfl rfl (by with_unfolding_all rfl) ?_))
          all_goals first
            | exact ⟨⟨⟨j + 1, by omega, rfl⟩, H5.out⟩, by simp [intOf]; omega⟩
            | (go_ret; exact ⟨⟨_, rfl⟩, below_next HO.out.below H5.out.below⟩)
        · obtain rfl : j = r.length := by omega
          go_wp2_with fail
          exact ⟨⟨⟨⟨_, rfl⟩, q + 1, by omega, rfl⟩, HO.out.step HK.out.below⟩, by simp [intOf]; omega⟩
    · obtain rfl : q = R.length := by omega
      go_wp2_with fail
      go_ret
      exact ⟨⟨_, rfl⟩, HO.out.below⟩
end Go.Proofs.YthnbhcfpfbimgaaGreat
/- The walk of name.Sort. -/
namespace Go.Proofs.YthnbhcfpfbimgaaGreat
open Go.RowKit

theorem enters_sort1 : ∀ (a : Array Value) (w : World), (callFunc 58 a).run Tryz.prog w = .ok (.enter 58 a) w := fun _ _ => by kernel_rfl
theorem info_string : (Tryz.prog.info? 9).map (fun i => (i.zero, i.size, i.bytes)) = some (some (.string ByteArray.empty), 1, 16) := by kernel_rfl

set_option maxHeartbeats 400000 in
theorem sort1_any (i n c m d k B b1 b2 b3 : Nat) (A A' : Option Addr) (ss out : List ByteArray) (w : World) (hi : i < m) (hk : k < n)
    (h1 : w.cell? ⟨b1, 0, none⟩ = some (.slice A' m d)) (h2 : w.cell? ⟨b2, 0, none⟩ = some (.slice A n c)) (h3 : w.cell? ⟨b3, 0, none⟩ = some (.int .i64 k))
    (hs : HasStr w B A n ss) (ht : HasStr w w.heap.size A' m out) :
    Calls Tryz.prog 58 #[.int .i64 i, .pointer (some ⟨b1, 0, none⟩), .pointer (some ⟨b2, 0, none⟩), .pointer (some ⟨b3, 0, none⟩)] w
      fun e w' => e = .returned (.bool (!Nm.ls (Nm.at_ out i) (Nm.at_ ss k))) ∧ Dr w w' := by
  obtain ⟨b, off, rfl, _, hc⟩ := hs.str hk
  obtain ⟨b', off', rfl, _, hc'⟩ := ht.str hi
  have hi0 : (0 : Int) ≤ i := by omega
  have hi1 : (i : Int) < m := by omega
  have hk0 : (0 : Int) ≤ k := by omega
  have hk1 : (k : Int) < n := by omega
  go_enter Tryz.func58, Tryz.ntmps58
  go_wp2_with fail
  go_quiet (fail)
  go_wp2_with fail
  go_ret
  exact ⟨rfl, (Dr.refl _).drewN _⟩

/-- The boxes of Sort: the list came in; the row out lies in the second box. -/
structure SortBox (w wr : World) (A : Option Addr) (n c : Nat) (xs : List Value) (v : Value) : Prop where
  size : w.heap.size + 2 ≤ wr.heap.size
  below : Below w.heap.size w wr
  box1 : wr.cell? ⟨w.heap.size, 0, none⟩ = some (.slice A n c)
  box2 : wr.cell? ⟨w.heap.size + 1, 0, none⟩ = some v
  free2 : wr.frozen? ⟨w.heap.size + 1, 0, none⟩ = false
  own : wr.ownsRow (w.heap.size + 2) 9 1 v xs.length xs

/-- The new row goes into its box. -/
theorem sort_store {w w2 : World} {A : Option Addr} {n c : Nat} {xs : List Value} {v u : Value} (hz : w.heap.size + 2 ≤ w2.heap.size) (hb : Below w.heap.size w w2)
    (h1 : w2.cell? ⟨w.heap.size, 0, none⟩ = some (.slice A n c)) (h2 : w2.cell? ⟨w.heap.size + 1, 0, none⟩ = some u) (hf : w2.frozen? ⟨w.heap.size + 1, 0, none⟩ = false)
    (ho : w2.ownsRow (w.heap.size + 2) 9 1 v xs.length xs) :
    SortBox w (w2.setCell ⟨w.heap.size + 1, 0, none⟩ v) A n c xs v where
  size := by simp [World.setCell]; omega
  below := hb.setCell (by show w.heap.size ≤ w.heap.size + 1; omega) _
  box1 := by rw [World.cell?_setCell_far _ _ _ _ (by show w.heap.size + 1 ≠ w.heap.size; omega)]; exact h1
  box2 := World.cell?_setCell_same _ _ _ h2
  free2 := by simpa using hf
  own := ownsRow_setCell_below ho (by show w.heap.size + 1 < _; omega) _

theorem SortBox.dr {w w2 w3 : World} {A : Option Addr} {n c : Nat} {xs : List Value} {v : Value} (h : SortBox w w2 A n c xs v) (hd : Dr w2 w3) : SortBox w w3 A n c xs v where
  size := by rw [hd.size]; exact h.size
  below := below_dr h.below hd
  box1 := (hd.cell _).trans h.box1
  box2 := (hd.cell _).trans h.box2
  free2 := (hd.frozen _).trans h.free2
  own := own_below h.own (hd.below _)

/-- A part of an owned row is written over. -/
theorem own_over {w : World} {base : Nat} {e : TypeId} {g n cap off : Nat} {xs cs : List Value} {cur : Array Value} (h : w.ownsRow base e 1 (.slice (some ⟨g, 0, none⟩) n cap) n xs)
    (hg : w.heap[g]? = some (.cells cur e (0, 0))) (hf : off + cs.length ≤ n) :
    (w.setRow g (cur.toList.take off ++ (cs ++ cur.toList.drop (off + cs.length))).toArray).ownsRow base e 1 (.slice (some ⟨g, 0, none⟩) n cap) n (xs.take off ++ (cs ++ xs.drop (off + cs.length))) := by
  obtain ⟨hl, hr⟩ := h
  rcases hr with ⟨h0, _⟩ | ⟨g', cap', cur', he, hb, hgg, hn, hm, hsz, ht⟩
  · cases h0
  · simp only [Value.slice.injEq, Option.some.injEq, Addr.mk.injEq, and_true, true_and] at he
    obtain ⟨rfl, rfl⟩ := he
    rw [hg] at hgg
    simp only [Option.some.injEq, Obj.cells.injEq, and_true] at hgg
    subst hgg
    simp only [Nat.mul_one] at hl hsz ht
    refine ⟨by simp; omega, .inr ⟨g, cap, _, rfl, hb, setRow_heap w g cur _ e _ hg, hn, hm, ?_, ?_⟩⟩
    · simp only [List.size_toArray, List.length_append, List.length_take, List.length_drop, Array.length_toList]
      omega
    · have hx : xs = cur.toList.take n := ht.symm
      subst hx
      simp only [Nat.mul_one]
      rw [List.take_append, List.take_append, List.take_take, List.take_take]
      simp only [List.length_take, Array.length_toList, List.drop_take]
      rw [show min n off = min off n from Nat.min_comm _ _]
      congr 1
      rw [show min off cur.size = off from by omega, List.take_of_length_le (l := cs) (by omega)]
      congr 2
      omega

theorem ins_list {α : Type} (M : List α) (z s : α) (a : Nat) (h : a < M.length) :
    ((M ++ [z]).take (a + 1) ++ (M.drop a ++ (M ++ [z]).drop (a + 1 + (M.drop a).length))).set a s = M.take a ++ s :: M.drop a := by
  rw [List.drop_of_length_le (l := M ++ [z]) (by simp; omega), List.append_nil, List.take_append_of_le_length (by omega), List.take_succ_eq_append_getElem h]
  rw [List.append_assoc, List.set_append_right _ _ (by rw [List.length_take]; omega)]
  have hm : min a M.length = a := Nat.min_eq_left (Nat.le_of_lt h)
  simp [hm]

/-- What a copy of the end of a row, one place to the right, makes. -/
def shifted (M : List Value) (z : Value) (a : Nat) : List Value := (M ++ [z]).take (a + 1) ++ (M.drop a ++ (M ++ [z]).drop (a + 1 + (M.drop a).length))
theorem shifted_length (M : List Value) (z : Value) (a : Nat) (h : a < M.length) : (shifted M z a).length = M.length + 1 := by
  simp only [shifted, List.length_append, List.length_take, List.length_drop, List.length_singleton]; omega

theorem SortBox.copied {w W : World} {A : Option Addr} {n c g cap a : Nat} {M : List Value} {z : Value} {cur : Array Value} (h : SortBox w W A n c (M ++ [z]) (.slice (some ⟨g, 0, none⟩) (M.length + 1) cap))
    (hgb : w.heap.size + 2 ≤ g) (hg : W.heap[g]? = some (.cells cur 9 (0, 0))) (ha : a < M.length) :
    SortBox w (W.setRow g (cur.toList.take (a + 1) ++ (M.drop a ++ cur.toList.drop (a + 1 + (M.drop a).length))).toArray) A n c (shifted M z a) (.slice (some ⟨g, 0, none⟩) (M.length + 1) cap) := by
  have ho := h.own
  rw [List.length_append, List.length_singleton] at ho
  have hov := own_over ho hg (off := a + 1) (cs := M.drop a) (by simp only [List.length_drop]; omega)
  have hl := shifted_length M z a ha
  have hk : ∀ k, k ≠ g → (W.setRow g (cur.toList.take (a + 1) ++ (M.drop a ++ cur.toList.drop (a + 1 + (M.drop a).length))).toArray).heap[k]? = W.heap[k]? := fun k hk => setRow_other _ _ _ _ hk
  exact {
    size := by have := h.size; simpa [World.setRow] using this
    below := h.below.trans ⟨rfl, rfl, rfl, by simp [World.setRow], fun k hk' => hk k (by omega)⟩
    box1 := (World.cell?_of_block (hk _ (by show w.heap.size ≠ g; omega))).trans h.box1
    box2 := (World.cell?_of_block (hk _ (by show w.heap.size + 1 ≠ g; omega))).trans h.box2
    free2 := (World.frozen?_of_block (hk _ (by show w.heap.size + 1 ≠ g; omega))).trans h.free2
    own := by rw [hl]; exact hov }

theorem SortBox.stored {w W : World} {A : Option Addr} {n c g cap a : Nat} {xs ys : List Value} {u : Value} (h : SortBox w W A n c xs (.slice (some ⟨g, 0, none⟩) xs.length cap))
    (hgb : w.heap.size + 2 ≤ g) (hy : xs.set a u = ys) :
    SortBox w (W.setCell ⟨g, a, none⟩ u) A n c ys (.slice (some ⟨g, 0, none⟩) ys.length cap) := by
  subst hy
  obtain ⟨h1, h2⟩ := h.own.stored a u
  exact {
    size := by have := h.size; simpa [World.setCell] using this
    below := h.below.setCell (by show w.heap.size ≤ g; omega) _
    box1 := by rw [World.cell?_setCell_far _ _ _ _ (by show g ≠ w.heap.size; omega)]; exact h.box1
    box2 := by rw [World.cell?_setCell_far _ _ _ _ (by show g ≠ w.heap.size + 1; omega), List.length_set]; exact h.box2
    free2 := by have := h.free2; simpa using this
    own := by rw [List.length_set]; exact h1 }

theorem take_one {ss : List ByteArray} {k : Nat} (h : k < ss.length) : ss.take (k + 1) = ss.take k ++ [Nm.at_ ss k] := by
  rw [List.take_succ_eq_append_getElem h]; simp [Nm.at_, h]

set_option maxRecDepth 100000 in
set_option maxHeartbeats 4000000 in
theorem sort_any (n c B : Nat) (A : Option Addr) (ss : List ByteArray) (w : World) (hn : n ≤ 1000000) (hB : B ≤ w.heap.size) (hs : HasStr w B A n ss) :
    Calls Tryz.prog 32 #[.slice A n c] w fun e w' => ∃ out v, e = .returned v ∧ Nm.Sorts ss out ∧
      w'.ownsRow (w.heap.size + 2) 9 1 v out.length (out.map Value.string) ∧ Below w.heap.size w w' := by
  have hmf := @makes Tryz.prog
  have hl := hs.len
  subst hl
  obtain ⟨i0, hi, hz0, hz1, hz2⟩ := info_parts info_string
  go_enter Tryz.func32, Tryz.ntmps32
  go_wp2_with fail
  go_loopw [8] (fun i wr => ∃ (k : Nat) (out : List ByteArray) (v : Value), k ≤ ss.length ∧ i = .int .i64 k ∧ SortBox w wr A ss.length c (out.map Value.string) v ∧ Nm.Sorts (ss.take k) out) (fun i _ => ss.length - (intOf i).toNat)
  case atStart =>
    obtain ⟨hb2, hz2, hc1, hc2⟩ := box2 w (.slice A ss.length c) (.slice none 0 0) 101 101
    exact ⟨0, [], .slice none 0 0, Nat.zero_le _, rfl, ⟨by omega, hb2, hc1, hc2, World.frozen?_alloc_at _ _ _ _ (by simp), World.ownsRow_nil _ _ _ _⟩, Nm.sorts_nil⟩
  case round =>
    obtain ⟨k, out, v, hk, rfl, S, hso⟩ := hrel
    have hSo := S.own
    rw [List.length_map] at hSo
    by_cases hlt : k < ss.length
    · obtain ⟨A', c', rfl, hown⟩ : ∃ A' c', v = .slice A' out.length c' ∧ wr.ownsRow (w.heap.size + 2) 9 1 (.slice A' out.length c') out.length (out.map Value.string) := by
        rcases hSo.2 with ⟨rfl, h0⟩ | ⟨g, cap, cur, rfl, _⟩
        · exact ⟨none, 0, by rw [h0], by rw [h0]; have := hSo; rw [h0] at this; exact this⟩
        · exact ⟨_, _, rfl, hSo⟩
      have hB3 : (wr.alloc (.cells #[.int .i64 k] 3)).heap[wr.heap.size]? = some (.cells #[.int .i64 k] 3 (0, 0)) := heap_alloc_new wr _
      have HB3 := hide hB3
      clear hB3
      have HBK := hide (fun q hq => (hown.lt q hq).2 : ∀ q, (Value.slice A' out.length c').ownBlock = some q → q < wr.heap.size)
      obtain ⟨hb3, hz3, hc3⟩ := box1 wr (.int .i64 k) 3
      have hz := S.size
      have h1 : (wr.alloc (.cells #[.int .i64 k] 3)).cell? ⟨w.heap.size, 0, none⟩ = some (.slice A ss.length c) := (hb3.cell (by show w.heap.size < _; omega)).trans S.box1
      have h2 : (wr.alloc (.cells #[.int .i64 k] 3)).cell? ⟨w.heap.size + 1, 0, none⟩ = some (.slice A' out.length c') := (hb3.cell (by show w.heap.size + 1 < _; omega)).trans S.box2
      have h2f : (wr.alloc (.cells #[.int .i64 k] 3)).frozen? ⟨w.heap.size + 1, 0, none⟩ = false := (hb3.frozen (by show w.heap.size + 1 < _; omega)).trans S.free2
      have hown2 := hown.alloc (.cells #[.int .i64 k] 3)
      have hbw : Below w.heap.size w (wr.alloc (.cells #[.int .i64 k] 3)) := S.below.trans (hb3.mono (by omega))
      have hp := place_any 58 #[.pointer (some ⟨w.heap.size + 1, 0, none⟩), .pointer (some ⟨w.heap.size, 0, none⟩), .pointer (some ⟨wr.heap.size, 0, none⟩)]
        (fun i => !Nm.ls (Nm.at_ out i) (Nm.at_ ss k)) out.length (wr.alloc (.cells #[.int .i64 k] 3)) (by have := Nm.Sorts.length_le hso.1 (fun x hx => List.mem_of_mem_take ((hso.2 x).1 hx)); omega) enters_sort1 fun i w' hi hd => by
          refine (sort1_any i ss.length c out.length c' k w.heap.size (w.heap.size + 1) w.heap.size wr.heap.size A A' ss out w' hi hlt ?_ ?_ ?_ ?_ ?_).mono fun e w'' ⟨he, hw⟩ => ⟨he, below_dr hd hw⟩
          · rw [hd.cell (by show w.heap.size + 1 < _; omega)]; exact h2
          · rw [hd.cell (by show w.heap.size < _; omega)]; exact h1
          · rw [hd.cell (by show wr.heap.size < _; omega)]; exact hc3
          · exact Has.below (Has.more hs hB) (hbw.trans (hd.mono (by omega)))
          · exact Has.more (Has.below (Has.of_own hown2) hd) hd.size
      have HO := hide (And.intro hown2 (And.intro hbw hso))
      have HF := hide hb3
      have HP := hide hp
      have HC := hide hc3
      clear hown hown2 hbw hb3 hso hSo S hp hc3
      go_wp2_with fail
      refine HP.out.mono ?_
      rintro e w1 ⟨rfl, hw1⟩
      have g1 : w1.cell? ⟨w.heap.size, 0, none⟩ = some (.slice A ss.length c) := (hw1.cell (by show w.heap.size < _; omega)).trans h1
      have g2 : w1.cell? ⟨w.heap.size + 1, 0, none⟩ = some (.slice A' out.length c') := (hw1.cell (by show w.heap.size + 1 < _; omega)).trans h2
      have g2f : w1.frozen? ⟨w.heap.size + 1, 0, none⟩ = false := (hw1.frozen (by show w.heap.size + 1 < _; omega)).trans h2f
      have g3 : w1.cell? ⟨wr.heap.size, 0, none⟩ = some (.int .i64 k) := (hw1.cell (by show wr.heap.size < _; omega)).trans HC.out
      have hzw : wr.heap.size + 1 ≤ w1.heap.size := by have := hw1.size; omega
      have G3 : Hid (w1.heap[wr.heap.size]? = some (.cells #[.int .i64 k] 3 (0, 0))) := hide ((hw1.block _ (by omega)).trans HB3.out)
      obtain ⟨hown2, hbw, hso⟩ := HO.out
      have hown1 : w1.ownsRow (w.heap.size + 2) 9 1 (.slice A' out.length c') out.length (out.map Value.string) := own_below hown2 hw1
      have hb1 : Below w.heap.size w w1 := hbw.trans (hw1.mono (by omega))
      have hs1 := Has.below (Has.more hs hB) hb1
      clear HP HC HO HF HB3 hw1 h1 h2 h2f hz3 hown2 hbw
      have hlen : out.length ≤ ss.length := by
        have := Nm.Sorts.length_le hso.1 (fun x hx => List.mem_of_mem_take ((hso.2 x).1 hx)); omega
      obtain ⟨b, off, rfl, hbB, hcell⟩ := HasStr.str hs1 hlt
      have hk0 : (0 : Int) ≤ k := by omega
      have hk1 : (k : Int) < ss.length := by omega
      have HB1 := hide hb1
      have HS := hide hso
      have HO := hide hown1
      clear hb1 hso hown1
      rcases Nm.first_cases (fun i => !Nm.ls (Nm.at_ out i) (Nm.at_ ss k)) out.length 0 with ⟨hpl, _⟩ | ⟨at', hpl, _, _, hat, _⟩
      · rw [hpl]
        have HPL := hide hpl
        clear hpl
        go_wp2_with fail
        have g2a : (w1.alloc (.cells #[.string (Nm.at_ ss k)] 9)).cell? ⟨w.heap.size + 1, 0, none⟩ = some (.slice A' out.length c') := by
          rw [World.cell?_alloc_lt _ _ _ (by show w.heap.size + 1 < _; omega)]; exact g2
        go_region_law ((refine step_append_lies _ (by rfl) _ _ _ (by rfl) (w.heap.size + 2) 9 i0 _ 1 16 Tryz.underlying101 hi hz0 hz1 hz2 rfl (by decide) _ out.length (out.map Value.string) (by rfl) (HO.out.alloc _) ⟨w1.heap.size, 0, none⟩ 1 1 [.string (Nm.at_ ss k)] (by rfl) (by rfl) (World.news_of_block (cs := #[.string (Nm.at_ ss k)]) (t := 9) (fr := (0, 0)) (heap_alloc_new w1 _)) (by simp [Value.oneCell']) (by decide) (by unfold maxLen; omega) (by omega) (by simp; omega) (w1.heap.size + 1) (by simp) ?_; intro gg cap w2 hown2 hgr hat hlt2; obtain ⟨e2, e2f⟩ := grown_old HO.out (below_laidD _ _) hgr (a := ⟨w.heap.size + 1, 0, none⟩) (by show w.heap.size + 1 < _; omega) (by show w.heap.size + 1 < _; omega); rw [g2] at e2; rw [g2f] at e2f; have HN := hide hown2; have HG := hide hgr; clear hown2 hgr hat))
        go_wp2_with fail
        all_goals
          refine ⟨⟨k + 1, out ++ [Nm.at_ ss k], .slice (some ⟨gg, 0, none⟩) (out.length + 1) cap, by omega, by go_num, ?_, ?_⟩, by simp [intOf]; omega⟩
          rotate_left
          · rw [take_one hlt]; exact Nm.insert_end HS.out (by unfold Nm.place; rw [HPL.out]; omega)
          have hgb := grown_below (B := w.heap.size) HO.out (below_laidD _ _) HG.out (by omega) (by omega)
          refine sort_store (by have := hgb.size; omega) (HB1.out.trans hgb) (((grown_old HO.out (below_laidD _ _) HG.out (a := ⟨w.heap.size, 0, none⟩) (by show w.heap.size < _; omega) (by show w.heap.size < _; omega)).1).trans g1) e2 e2f ?_
          have := HN.out; rw [List.length_map, List.length_append, List.map_append]; exact this
      · rw [hpl]
        have HPL := hide hpl
        clear hpl
        have ha0 : (0 : Int) ≤ at' := by omega
        have ha1 : (at' : Int) < out.length := by omega
        have hat' : at' < out.length := by omega
        have hoH := Has.of_own HO.out
        obtain ⟨b', off', rfl, hb', hcell'⟩ := HasStr.str hoH (by omega : at' < out.length)
        cases he : Nm.eqs (Nm.at_ out at') (Nm.at_ ss k)
        · have he' : ((Nm.at_ out at').toList == (Nm.at_ ss k).toList) = false := he
          have HE := hide he
          clear he hoH
          go_wp2_with fail
          go_quiet (fail)
          go_wp2_with (at_builtin; refine app_own rfl (.tmp 33) (.tmp 34) 101 rfl (w.heap.size + 2) 9 i0 _ 1 16 Tryz.underlying101 hi hz0 hz1 hz2 rfl (by decide) _ out.length (out.map Value.string) rfl ?d0 ⟨w1.heap.size, 0, none⟩ 1 1 [.string ⟨#[]⟩] rfl rfl ?d1 ?d2 ?d3 ?d4 ?d5 ?_)
          case d0 => exact HO.out.alloc _
          case d1 => exact World.news_of_block (cs := #[.string ⟨#[]⟩]) (t := 9) (fr := (0, 0)) (heap_alloc_new w1 _)
          case d2 => intro u hu; simp at hu; subst hu; rfl
          case d3 => unfold maxLen; omega
          case d4 => omega
          case d5 => simp; omega
          intro A3 c3 w2 hown2 hgr
          obtain ⟨e1, _⟩ := grown_old HO.out (below_laidN _ _ _) hgr (a := ⟨w.heap.size, 0, none⟩) (by show w.heap.size < _; omega) (by show w.heap.size < _; omega)
          obtain ⟨e2, e2f⟩ := grown_old HO.out (below_laidN _ _ _) hgr (a := ⟨w.heap.size + 1, 0, none⟩) (by show w.heap.size + 1 < _; omega) (by show w.heap.size + 1 < _; omega)
          rw [g1] at e1
          rw [g2] at e2
          rw [g2f] at e2f
          have e3 : w2.heap[wr.heap.size]? = some (.cells #[.int .i64 k] 3 (0, 0)) := by
            have hlt1 : wr.heap.size < w1.heap.size := by omega
            have hl := below_laidN w1 (.cells #[.string ⟨#[]⟩] 9)
            rw [hgr.block wr.heap.size (Nat.lt_of_lt_of_le hlt1 (hl nq).size) (fun h => by have := HBK.out _ h.symm; omega)]
            exact ((hl nq).block _ hlt1).trans G3.out
          have hgb := grown_below (B := w.heap.size) HO.out (below_laidN _ _ _) hgr (by omega) (by omega)
          have hS := sort_store (v := .slice A3 (out.length + 1) c3) (xs := out.map Value.string ++ [.string ⟨#[]⟩]) (by have := hgb.size; omega) (HB1.out.trans hgb) e1 e2 e2f (by simpa using hown2)
          have e3' : (w2.setCell ⟨w.heap.size + 1, 0, none⟩ (.slice A3 (out.length + 1) c3)).heap[wr.heap.size]? = some (.cells #[.int .i64 k] 3 (0, 0)) :=
            (Below.heap_setCell w2 _ _ _ (by show wr.heap.size ≠ w.heap.size + 1; omega)).trans e3
          have HS3 := hide hS
          have HX := hide e3'
          clear hS e3' hown2 hgr e1 hgb g1 g2 g2f g3 e3 hcell hcell'
          go_wp2_with fail
          generalize w2.setCell ⟨w.heap.size + 1, 0, none⟩ (.slice A3 (out.length + 1) c3) = W3 at HS3 HX ⊢
          have f2 := HS3.out.box2
          obtain ⟨g, cur, rfl, hg, hgb3, hcur, hcap⟩ : ∃ g cur, A3 = some ⟨g, 0, none⟩ ∧ W3.heap[g]? = some (.cells cur 9 (0, 0)) ∧ w.heap.size + 2 ≤ g ∧ cur.size = c3 ∧ out.length + 1 ≤ c3 := by
            have ho := HS3.out.own
            rcases ho.2 with ⟨h0, _⟩ | ⟨g, cap, cur, h0, hb, hgg, hn, hm, hsz, _⟩
            · cases h0
            · simp only [Value.slice.injEq] at h0
              obtain ⟨rfl, _, rfl⟩ := h0
              exact ⟨g, cur, rfl, hgg, hb, by simpa using hsz, by simpa using hn⟩
          have j0 : (0 : Int) ≤ at' + 1 := by omega
          have j1 : (at' : Int) + 1 ≤ c3 := by omega
          have j2 : (at' : Int) ≤ c3 := by omega
          have j3 : (at' : Int) + 1 ≤ (out.length : Int) + 1 := by omega
          have j4 : (at' : Int) ≤ (out.length : Int) + 1 := by omega
          have j5 : ¬ c3 = at' + 1 := by omega
          have j6 : ¬ c3 = at' := by omega
          have j7 : IntKind.i64.wrap ((at' : Int) + 1) = (at' : Int) + 1 := IntWalk.i64_in _ (by omega)
          have j8 : ((at' : Int) + 1).toNat = at' + 1 := by omega
          go_still_tail 7, (by kernel_rfl)
          clear j7 j8
          change wpList _ _ _ _ _ W3.drew
          have hOwn : W3.ownsRow (w.heap.size + 2) 9 1 (.slice (some ⟨g, 0, none⟩) (out.length + 1) c3) (out.length + 1) (out.map Value.string ++ [.string ⟨#[]⟩]) := by
            have := HS3.out.own; simpa using this
          refine wpList_copy_own rfl (.tmp 39) (.tmp 42) 101 101 rfl 9 Tryz.underlying101 (by kernel_rfl) g (at' + 1) (out.length - at') (c3 - (at' + 1)) ⟨g, at', none⟩ (out.length + 1 - at') (c3 - at') rfl rfl cur 9 hg ((out.map Value.string).drop at') ?k1 ?k2 ?k3 ?k4 ?_
          case k1 => simp only [List.length_drop, List.length_map]; exact (Nat.min_eq_right (by omega)).symm
          case k2 =>
            intro j u hu
            have hj := (List.getElem?_eq_some_iff.1 hu).1
            simp only [List.length_drop, List.length_map] at hj
            rw [add_plain]
            show W3.cell? _ = _
            rw [hOwn.cellAt (at' + j) (by omega), List.getElem?_append_left (by simp; omega)]
            rw [List.getElem?_drop] at hu
            exact hu
          case k3 => simp only [List.length_drop, List.length_map]; omega
          case k4 => intro u hu; obtain ⟨s, _, rfl⟩ := List.mem_map.1 (List.mem_of_mem_drop hu); rfl
          have hno : wr.heap.size ≠ g := blocks_ne HX.out hg (by decide)
          have hS3 : SortBox w W3 (some ⟨b, off, none⟩) ss.length c (out.map Value.string ++ [.string ⟨#[]⟩]) (.slice (some ⟨g, 0, none⟩) ((out.map Value.string).length + 1) c3) := by rw [List.length_map]; exact HS3.out
          have hS4 := SortBox.copied (hS3.dr (Dr.refl W3).drew) hgb3 hg (a := at') (by rw [List.length_map]; exact hat')
          have hX4 := (setRow_other W3.drew g wr.heap.size (cur.toList.take (at' + 1) ++ ((out.map Value.string).drop at' ++ cur.toList.drop (at' + 1 + ((out.map Value.string).drop at').length))).toArray hno).trans HX.out
          have HS4 := hide hS4
          have HX4 := hide hX4
          have HG := hide hg
          clear hS4 hS3 hX4 hg hOwn HS3 f2
          generalize W3.drew.setRow g _ = W4 at HS4 HX4 ⊢
          obtain ⟨b2, off2, hA2, _, l4⟩ := HasStr.str (Has.below (Has.more hs hB) HS4.out.below) hlt
          simp only [Option.some.injEq, Addr.mk.injEq, and_true] at hA2
          obtain ⟨rfl, rfl⟩ := hA2
          have l1 := HS4.out.box1
          have l2 := HS4.out.box2
          rw [List.length_map] at l2
          have l3 : W4.cell? ⟨wr.heap.size, 0, none⟩ = some (.int .i64 k) := by rw [cell_block HX4.out]; rfl
          have hso4 := HS4.out.own
          have hl4 := shifted_length (out.map Value.string) (.string ⟨#[]⟩) at' (by rw [List.length_map]; exact hat')
          rw [hl4, List.length_map] at hso4
          have l5f := hso4.frozenAt at'
          have l5 : W4.cell? ⟨g, at', none⟩ = some ((shifted (out.map Value.string) (.string ⟨#[]⟩) at').getD at' undef) := by
            rw [hso4.cellAt at' (by omega)]
            rw [List.getElem?_eq_getElem (by rw [hl4, List.length_map]; omega), List.getD_eq_getElem?_getD, List.getElem?_eq_getElem (by rw [hl4, List.length_map]; omega)]
            rfl
          have HL4 := hide hl4
          clear hso4 hl4
          have j9 : (at' : Int) < (out.length : Int) + 1 := by omega
          go_wp2_with fail
          go_still_tail 7, (by kernel_rfl)
          change wpList _ _ _ _ _ W4.drew
          go_wp2_with fail
          refine ⟨⟨k + 1, out.take at' ++ Nm.at_ ss k :: out.drop at', .slice (some ⟨g, 0, none⟩) (out.length + 1) c3, by omega, by go_num, ?_, ?_⟩, by simp [intOf]; omega⟩
          · have hfin := SortBox.stored (a := at') (u := .string (Nm.at_ ss k)) (ys := (out.take at' ++ Nm.at_ ss k :: out.drop at').map Value.string)
              (by have := HS4.out; rw [← HL4.out] at this; exact this) hgb3
              (by rw [List.map_append, List.map_take, List.map_cons, List.map_drop]; exact ins_list _ _ _ _ (by rw [List.length_map]; exact hat'))
            have hlen2 : ((out.take at' ++ Nm.at_ ss k :: out.drop at').map Value.string).length = out.length + 1 := by
              simp only [List.length_map, List.length_append, List.length_take, List.length_cons, List.length_drop]; omega
            rw [hlen2] at hfin
            exact hfin.dr (Dr.refl _).drew
          · rw [take_one hlt]
            exact (Nm.insert_mid HS.out HPL.out (Nm.eqs_false.1 HE.out)).2
        · have he' : ((Nm.at_ out at').toList == (Nm.at_ ss k).toList) = true := he
          have HE := hide he
          clear he hoH
          go_wp2_with fail
          go_quiet (fail)
          go_wp2_with fail
          go_roundw
          case rel =>
            refine ⟨k + 1, out, .slice (some ⟨b', off', none⟩) out.length c', by omega, by go_num, SortBox.dr ⟨by omega, HB1.out, g1, g2, g2f, by rw [List.length_map]; exact HO.out⟩ ((Dr.refl _).drewN _), ?_⟩
            rw [take_one hlt]
            exact Nm.insert_there HS.out (by omega) (Nm.eqs_iff.1 HE.out)
          case measure => simp [intOf]; omega
    · obtain rfl : k = ss.length := by omega
      have h2 := S.box2
      go_wp2_with fail
      go_ret
      exact ⟨out, v, rfl, by rwa [List.take_length] at hso, hSo, S.below⟩

end Go.Proofs.YthnbhcfpfbimgaaGreat
