/- Texts put together: RgBig RgAsr RgBig2. -/
import Derived.Test.YthnbhcfpfbimgaaGreatMl17
import Derived.Test.YthnbhcfpfbimgaaGreatMl06
/- The walks of Big: chapters 7, 13. -/
namespace Go.Proofs.YthnbhcfpfbimgaaGreat
open Go.RowKit
theorem Fac.ones {w : World} {B : Nat} {xs : List Value} (h : Fac w B xs) : xs.toArray.all (·.oneCell') = true := by
  obtain ⟨⟨k, v, cs, l, rfl, hc, hl⟩⟩ := h
  obtain ⟨A, c, rfl, _⟩ := hl.form
  rw [Array.all_eq_true_iff_forall_mem]
  intro x hx
  simp only [List.mem_toArray, List.mem_cons, Array.mem_toList_iff] at hx
  rcases hx with rfl | rfl | hx
  · rfl
  · rfl
  · exact (Array.all_eq_true_iff_forall_mem.1 hc.ones) x hx
/-- A new struct of many cells is filled at once. -/
abbrev StN (T : TypeId) (old new : Array Value) (w : World) (k1 k2 : Nat) : Prop :=
  ∀ (ops : Array Oper) (rest : List Oper) (op : Oper) (a : Act) (Q : Exit → Act → World → Prop), op.guard = none → op.op = .store T (.tmp k1) (.tmp k2) → a.eval (.tmp k1) = .pointer (some ⟨w.heap.size, 0, none⟩) → a.eval (.tmp k2) = .agg new → wpList Tryz.prog ops Q rest (a.put op.dst undef) (w.alloc (.cells new T)) → wpList Tryz.prog ops Q (op :: rest) a (w.alloc (.cells old T))
theorem stN {T : TypeId} {old new : Array Value} {w : World} (k1 k2 : Nat) (hi : (Tryz.prog.info? T).map (·.size) = some new.size) (ho : old.size = new.size) (h1 : new.all (·.oneCell') = true) : StN T old new w k1 k2 := fun _ _ _ _ _ h2 h3 h4 h5 h6 => by
  refine wpList_store_row h2 T (.tmp k1) (.tmp k2) h3 w.heap.size new h4 h5 T old (heap_alloc_last w _) hi ho h1 ?_
  rw [World.setRow_alloc_new]
  exact h6
theorem zfac_size : Tryz.zeroCells120.size = 67 := by kernel_rfl
set_option maxRecDepth 100000 in
set_option maxHeartbeats 1000000 in
theorem big7_tot (B : Nat) (b : Bool) (v : Value) (n : Nat) (w : World) (h : Sh w B v n) (hB : B ≤ w.heap.size) : Calls Tryz.prog 36 #[.agg #[.bool b, v]] w fun e w' => RBo e ∧ Below w.heap.size w w' := by
  obtain ⟨A, c, rfl, hnc, hcm⟩ := h.form
  have HT := hide (ShW.new (b := b) h hB)
  have k1 := HT.out.c1
  have hl9 : (n : Int) ≤ 9223372036854775807 := by unfold maxLen at hcm; omega
  clear h hnc hcm
  go_enter Tryz.func36, Tryz.ntmps36
  go_upto_region 1 with fail
  generalize w.alloc (Obj.cells _ 78) = w0 at *
  by_cases h2 : 12 < n
  · have d2 : decide (12 < (n : Int)) = true := decide_eq_true (by omega)
    go_wp2_with fail
    go_ret
    exact ⟨⟨_, rfl⟩, HT.out.below⟩
  have d2 : decide (12 < (n : Int)) = false := decide_eq_false (by omega)
  go_wp2_with fail
  clear d2 k1
  go_loopw [3] (fun kv wr => (∃ k : Nat, k ≤ n ∧ kv = .int .i64 (k : Nat)) ∧ ShW w b (.slice A n c) n wr) (fun kv _ => n - (intOf kv).toNat)
  case atStart => exact ⟨⟨0, by omega, rfl⟩, HT.out⟩
  case round =>
    obtain ⟨⟨k, hk, rfl⟩, ho⟩ := hrel
    have HO := hide ho
    clear ho
    have k1 := HO.out.c1
    by_cases hlt : k < n
    · have i0 : (k : Int) < n := by omega
      obtain ⟨bl, off, c', cs, e, hbl, hr, hf⟩ := HO.out.sh.at hlt
      cases e
      have HL := hide (ldFac (k := 20) hr hf)
      have HF := hide hf
      have HST := hide (stN (T := 120) (old := Tryz.zeroCells120) (new := cs.toArray) (w := wr) 4 21 (by rw [List.size_toArray, hf.len]; exact fac_info) (zfac_size.trans (by rw [List.size_toArray, hf.len])) hf.ones)
      clear hr hf
      go_upto_region 7 with (first | (with_reducible refine HL.out _ _ _ _ _ rfl rfl (by with_unfolding_all rfl) ?_) | (with_reducible refine HST.out _ _ _ _ _ rfl rfl rfl rfl ?_))
      clear HL HST k1
      have H5 := hide (HO.out.step (below_laid wr (.cells cs.toArray 120)))
      have H6 := hide (heap_alloc_last wr (.cells cs.toArray 120))
      obtain ⟨⟨kf, vf, rs, l, hcs, hc, hl⟩⟩ := HF.out.below (below_laid wr (.cells cs.toArray 120))
      obtain ⟨A2, c2, rfl, hlc, hcm⟩ := hl.form
      have HN := hide hl
      have hl8 : (l.length : Int) ≤ 9223372036854775807 := by unfold maxLen at hcm; omega
      have k4 : (wr.alloc (.cells cs.toArray 120)).cell? ⟨wr.heap.size, 1, none⟩ = some (.slice A2 l.length c2) := by rw [cell_block H6.out, hcs]; rfl
      clear hc hl hlc hcm hcs HF HO
      generalize wr.alloc (Obj.cells cs.toArray 120) = w5 at *
      by_cases h7 : 70 < l.length
      · have d2 : decide (70 < (l.length : Int)) = true := decide_eq_true (by omega)
        go_wp2_with fail
        go_ret
        exact ⟨⟨_, rfl⟩, H5.out.below⟩
      have d2 : decide (70 < (l.length : Int)) = false := decide_eq_false (by omega)
      go_wp2_with fail
      clear d2
      go_loop [5] (fun qv => ∃ q : Nat, q ≤ l.length ∧ qv = .int .i64 (q : Nat)) (fun qv => l.length - (intOf qv).toNat)
      case atStart => exact ⟨0, by omega, rfl⟩
      case round =>
        obtain ⟨q, hq, rfl⟩ := hrel
        by_cases hql : q < l.length
        · have q0 : (q : Int) < l.length := by omega
          obtain ⟨b2, o2, c3, e, hcell, hsm⟩ := HN.out.str hql
          cases e
          generalize l[q] = s at *
          by_cases h40 : 40 < s.size
          · go_wp2_with fail
            go_ret
            exact ⟨⟨_, rfl⟩, H5.out.below⟩
          · go_wp2_with fail
            exact ⟨⟨q + 1, by omega, rfl⟩, by simp [intOf]; omega⟩
        · obtain rfl : q = l.length := by omega
          go_wp2_with fail
          exact ⟨⟨⟨k + 1, by omega, rfl⟩, H5.out⟩, by simp [intOf]; omega⟩
    · obtain rfl : k = n := by omega
      go_wp2_with fail
      go_ret
      exact ⟨⟨_, rfl⟩, HO.out.below⟩
/-- A scope's cells, boxed. -/
structure ScW (W : World) (vl vv : Value) (n : Nat) (l : List Vr) (wr : World) : Prop where
  below : Below W.heap.size W wr
  one : wr.heap[W.heap.size]? = some (.cells #[vl, vv] 25 (0, 0))
  lats : Lats wr W.heap.size vl n
  vars : Vars wr W.heap.size vv l
theorem ScW.step {W : World} {vl vv : Value} {n : Nat} {l : List Vr} {wr w' : World} (h : ScW W vl vv n l wr) (hb : Below wr.heap.size wr w') : ScW W vl vv n l w' := ⟨below_next h.below hb, heap_below h.one hb, h.lats.below hb, h.vars.below hb⟩
theorem ScW.new {W : World} {B : Nat} {vl vv : Value} {n : Nat} {l : List Vr} (h : Lats W B vl n) (h2 : Vars W B vv l) (hB : B ≤ W.heap.size) : ScW W vl vv n l (W.alloc (.cells #[vl, vv] 25)) :=
  ⟨below_laid _ _, heap_alloc_last _ _, (h.below (below_laid _ _)).mono hB, (h2.below (below_laid _ _)).mono hB⟩
theorem ScW.c0 {W : World} {vl vv : Value} {n : Nat} {l : List Vr} {wr : World} (h : ScW W vl vv n l wr) : wr.cell? ⟨W.heap.size, 0, none⟩ = some vl := by rw [cell_block h.one]; rfl
theorem ScW.c1 {W : World} {vl vv : Value} {n : Nat} {l : List Vr} {wr : World} (h : ScW W vl vv n l wr) : wr.cell? ⟨W.heap.size, 1, none⟩ = some vv := by rw [cell_block h.one]; rfl
set_option maxRecDepth 100000 in
set_option maxHeartbeats 1000000 in
theorem big13_tot (B : Nat) (vl vv : Value) (n : Nat) (l : List Vr) (w : World) (h : Lats w B vl n) (h2 : Vars w B vv l) (hB : B ≤ w.heap.size) : Calls Tryz.prog 19 #[.agg #[vl, vv]] w fun e w' => RBo e ∧ Below w.heap.size w w' := by
  obtain ⟨A, c, rfl, hnc, hcm⟩ := h.form
  obtain ⟨A2, c2, rfl, hnc2, hcm2⟩ := h2.form
  have HT := hide (ScW.new h h2 hB)
  have k0 := HT.out.c0
  have k1 := HT.out.c1
  have hl9 : (n : Int) ≤ 9223372036854775807 := by unfold maxLen at hcm; omega
  have hl8 : (l.length : Int) ≤ 9223372036854775807 := by unfold maxLen at hcm2; omega
  clear h hnc hcm h2 hnc2 hcm2
  go_enter Tryz.func19, Tryz.ntmps19
  go_upto_region 1 with fail
  generalize w.alloc (Obj.cells _ 25) = w0 at *
  by_cases h2 : 20 < n
  · have d2 : decide (20 < (n : Int)) = true := decide_eq_true (by omega)
    go_wp2_with fail
    go_ret
    exact ⟨⟨_, rfl⟩, HT.out.below⟩
  have d2 : decide (20 < (n : Int)) = false := decide_eq_false (by omega)
  by_cases h3 : 80 < l.length
  · have d3 : decide (80 < (l.length : Int)) = true := decide_eq_true (by omega)
    go_wp2_with fail
    go_ret
    exact ⟨⟨_, rfl⟩, HT.out.below⟩
  have d3 : decide (80 < (l.length : Int)) = false := decide_eq_false (by omega)
  go_wp2_with fail
  clear d2 d3 k1 k0
  go_loopw [20] (fun kv wr => (∃ k : Nat, k ≤ n ∧ kv = .int .i64 (k : Nat)) ∧ ScW w (.slice A n c) (.slice A2 l.length c2) n l wr) (fun kv _ => n - (intOf kv).toNat)
  case atStart => exact ⟨⟨0, by omega, rfl⟩, HT.out⟩
  case round =>
    obtain ⟨⟨k, hk, rfl⟩, ho⟩ := hrel
    have HO := hide ho
    clear ho HT
    by_cases hlt : k < n
    · have i0 : (k : Int) < n := by omega
      obtain ⟨bl, off, c', nm, bb, u, m, e, hbl, g0, g1, g2, hsm, hsh⟩ := HO.out.lats.at hlt
      cases e
      obtain ⟨A3, c3, rfl, _⟩ := hsh.form
      have HS := hide hsh
      clear hsh
      go_upto_region 6 with fail
      have H5 := hide (HO.out.step (below_laid wr (.cells #[.string nm, .bool bb, .slice A3 m c3] 80)))
      have H6 := hide (heap_alloc_last wr (.cells #[.string nm, .bool bb, .slice A3 m c3] 80))
      have HB := hide (big7_tot w.heap.size bb (.slice A3 m c3) m _ (HS.out.below (below_laid wr (.cells #[.string nm, .bool bb, .slice A3 m c3] 80))) H5.out.below.size)
      have q0 : (wr.alloc (.cells #[.string nm, .bool bb, .slice A3 m c3] 80)).cell? ⟨wr.heap.size, 0, none⟩ = some (.string nm) := by rw [cell_block H6.out]; rfl
      have q1 : (wr.alloc (.cells #[.string nm, .bool bb, .slice A3 m c3] 80)).cell? ⟨wr.heap.size, 1, none⟩ = some (.bool bb) := by rw [cell_block H6.out]; rfl
      have q2 : (wr.alloc (.cells #[.string nm, .bool bb, .slice A3 m c3] 80)).cell? ⟨wr.heap.size, 2, none⟩ = some (.slice A3 m c3) := by rw [cell_block H6.out]; rfl
      clear g0 g1 g2 HS HO
      have hlt6 := blk_lt H6.out
      generalize wr.alloc (Obj.cells _ 80) = w5 at *
      go_wp2_with (go_at_call 36; refine HB.out.mono ?_; rintro e w4 ⟨⟨⟨z, rfl⟩⟩, hb4⟩; have H7 := hide (H5.out.step hb4); have q3 := (World.cell?_of_block (hb4.block _ hlt6)).trans q0; clear hb4 q0 q1 q2; cases z)
      all_goals first
        | exact ⟨⟨⟨k + 1, by omega, rfl⟩, H7.out⟩, by simp [intOf]; omega⟩
        | (go_ret; exact ⟨⟨_, rfl⟩, H7.out.below⟩)
    · obtain rfl : k = n := by omega
      have k1 := HO.out.c1
      go_wp2_with fail
      clear k1
      generalize wr = wo at *
      go_loopw [37] (fun kv wr => (∃ q : Nat, q ≤ l.length ∧ kv = .int .i64 (q : Nat)) ∧ ScW w (.slice A k c) (.slice A2 l.length c2) k l wr) (fun kv _ => l.length - (intOf kv).toNat)
      case atStart => exact ⟨⟨0, by omega, rfl⟩, HO.out⟩
      case round =>
        obtain ⟨⟨q, hq, rfl⟩, ho⟩ := hrel
        clear HO
        have HO := hide ho
        clear ho
        by_cases hlt : q < l.length
        · have i0 : (q : Int) < l.length := by omega
          obtain ⟨bl, off, c', e, hbl, g0, g1, g2, hsm⟩ := HO.out.vars.at hlt
          cases e
          generalize l[q] = vr at *
          obtain ⟨nm, kd, lt⟩ := vr
          have H5 := hide (HO.out.step (below_laid wr (.cells #[.string nm, .int .i64 kd, .int .i64 lt] 75)))
          go_wp2_with fail
          all_goals first
            | exact ⟨⟨⟨q + 1, by omega, rfl⟩, H5.out⟩, by simp [intOf]; omega⟩
            | (go_ret; exact ⟨⟨_, rfl⟩, H5.out.below⟩)
        · obtain rfl : q = l.length := by omega
          go_wp2_with fail
          go_ret
          exact ⟨⟨_, rfl⟩, HO.out.below⟩
end Go.Proofs.YthnbhcfpfbimgaaGreat
/- Assertions, read; the walk of chapter 15's Many. (Printed by rgasr.py.) -/
namespace Go.Proofs.YthnbhcfpfbimgaaGreat
open Go.RowKit
open Rw (El At Fld)
/-- An instruction; an assertion. -/
structure Ins where
  op : Int
  n : Int
  el : El
structure As where
  op : Int
  lat : Int
  code : List Ins
  to_ : At
  a : Rw.Term
  b : Rw.Term
  var : Int
  field : ByteArray
def insV (x : Ins) : List Value := .int .i64 x.op :: .int .i64 x.n :: elV x.el
def asV (x : As) (vc va vb : Value) : List Value := (#[.int .i64 x.op, .int .i64 x.lat, vc, .int .i64 x.to_.var, .int .u64 x.to_.el.e0, .int .u64 x.to_.el.e1, .int .u64 x.to_.el.e2, .int .u64 x.to_.el.e3, .int .u64 x.to_.el.e4, .int .u64 x.to_.el.e5, .int .u64 x.to_.el.e6, .int .u64 x.to_.el.e7, va, .int .i64 x.a.tail, vb, .int .i64 x.b.tail, .int .i64 x.var, .string x.field]).toList
/-- The names of some fields. -/
def Sml (l : List Fld) : Prop := ∀ f ∈ l, f.name.size ≤ maxLen
structure AsAt (w : World) (B : Nat) (x : As) (vc va vb : Value) : Prop where
  code : SlAt w B 114 10 vc x.code.length (x.code.flatMap insV)
  fa : SlAt w B 59 10 va x.a.fields.length (fdsV x.a.fields)
  fb : SlAt w B 59 10 vb x.b.fields.length (fdsV x.b.fields)
  sa : Sml x.a.fields
  sb : Sml x.b.fields
  sf : x.field.size ≤ maxLen
theorem AsAt.below {w w' : World} {B : Nat} {x : As} {vc va vb : Value} (h : AsAt w B x vc va vb) (hb : Below w.heap.size w w') : AsAt w' B x vc va vb := ⟨h.code.below hb, h.fa.below hb, h.fb.below hb, h.sa, h.sb, h.sf⟩
theorem AsAt.mono {w : World} {B B' : Nat} {x : As} {vc va vb : Value} (h : AsAt w B x vc va vb) (hB : B ≤ B') : AsAt w B' x vc va vb := ⟨h.code.mono hB, h.fa.mono hB, h.fb.mono hB, h.sa, h.sb, h.sf⟩
structure AsC (w : World) (B : Nat) (x : As) (xs : List Value) : Prop where
  ex : ∃ vc va vb, xs = asV x vc va vb ∧ AsAt w B x vc va vb
structure Asrs (w : World) (B : Nat) (v : Value) (l : List As) : Prop where
  ex : ∃ xs, SlAt w B 71 18 v l.length xs ∧ ∀ (i : Nat) (x : As), l[i]? = some x → AsC w B x (part xs 18 i)
theorem Asrs.below {w w' : World} {B : Nat} {v : Value} {l : List As} (h : Asrs w B v l) (hb : Below w.heap.size w w') : Asrs w' B v l := by
  obtain ⟨⟨xs, h1, h2⟩⟩ := h
  refine ⟨⟨xs, h1.below hb, fun i x hx => ?_⟩⟩
  obtain ⟨⟨vc, va, vb, h3, h4⟩⟩ := h2 i x hx
  exact ⟨⟨vc, va, vb, h3, h4.below hb⟩⟩
theorem Asrs.mono {w : World} {B B' : Nat} {v : Value} {l : List As} (h : Asrs w B v l) (hB : B ≤ B') : Asrs w B' v l := by
  obtain ⟨⟨xs, h1, h2⟩⟩ := h
  refine ⟨⟨xs, h1.mono hB, fun i x hx => ?_⟩⟩
  obtain ⟨⟨vc, va, vb, h3, h4⟩⟩ := h2 i x hx
  exact ⟨⟨vc, va, vb, h3, h4.mono hB⟩⟩
theorem Asrs.form {w : World} {B : Nat} {v : Value} {l : List As} (h : Asrs w B v l) : ∃ A c, v = .slice A l.length c ∧ l.length ≤ c ∧ c ≤ maxLen := by
  obtain ⟨⟨xs, h1, h2⟩⟩ := h
  exact SlAt.form h1
theorem Asrs.at {w : World} {B : Nat} {v : Value} {l : List As} (h : Asrs w B v l) {i : Nat} (hi : i < l.length) : ∃ bl off c vc va vb, v = .slice (some ⟨bl, off, none⟩) l.length c ∧ bl < w.heap.size ∧ w.rangeAt bl (off + i * 18) (asV l[i] vc va vb) ∧ AsAt w B l[i] vc va vb := by
  obtain ⟨⟨xs, h1, h2⟩⟩ := h
  obtain ⟨bl, off, c, h3, h4, h5⟩ := SlAt.at h1 hi
  obtain ⟨⟨vc, va, vb, h6, h7⟩⟩ := h2 i _ (List.getElem?_eq_getElem hi)
  rw [h6] at h5
  exact ⟨bl, off, c, vc, va, vb, h3, h4, h5, h7⟩
/-- All that lay there lies there. -/
structure Kpt (W wr : World) : Prop where
  below : Below W.heap.size W wr
theorem Kpt.cell {W wr : World} (h : Kpt W wr) {b o : Nat} {v : Value} (hc : W.cell? ⟨b, o, none⟩ = some v) : wr.cell? ⟨b, o, none⟩ = some v := by
  rw [World.cell?_of_block (h.below.block b (World.block_lt_of_cell? W _ hc))]
  exact hc
theorem fd_cells {w : World} {b o : Nat} {f : Fld} (h : w.rangeAt b o (fdV f)) : w.cell? ⟨b, o, none⟩ = some (.string f.name) ∧ w.cell? ⟨b, o + 1, none⟩ = some (.int .i64 f.at_.var) ∧ w.cell? ⟨b, o + 2, none⟩ = some (.int .u64 f.at_.el.e0) ∧ w.cell? ⟨b, o + 3, none⟩ = some (.int .u64 f.at_.el.e1) ∧ w.cell? ⟨b, o + 4, none⟩ = some (.int .u64 f.at_.el.e2) ∧ w.cell? ⟨b, o + 5, none⟩ = some (.int .u64 f.at_.el.e3) ∧ w.cell? ⟨b, o + 6, none⟩ = some (.int .u64 f.at_.el.e4) ∧ w.cell? ⟨b, o + 7, none⟩ = some (.int .u64 f.at_.el.e5) ∧ w.cell? ⟨b, o + 8, none⟩ = some (.int .u64 f.at_.el.e6) ∧ w.cell? ⟨b, o + 9, none⟩ = some (.int .u64 f.at_.el.e7) :=
  ⟨h 0 _ rfl, h 1 _ rfl, h 2 _ rfl, h 3 _ rfl, h 4 _ rfl, h 5 _ rfl, h 6 _ rfl, h 7 _ rfl, h 8 _ rfl, h 9 _ rfl⟩
/-- Where the fields are looked at. -/
structure MaS (W : World) (v : Value) (l : List Fld) (wr : World) : Prop where
  row : RowZ wr 59 10 v l.length (fdsV l)
  own : ∀ g, v.ownBlock = some g → W.heap.size ≤ g
  below : Below W.heap.size W wr
set_option maxRecDepth 100000 in
set_option maxHeartbeats 2000000 in
theorem many15_tot (B : Nat) (x : As) (vc va vb : Value) (w : World) (h : AsAt w B x vc va vb) : Calls Tryz.prog 20 #[.agg #[.int .i64 x.op, .int .i64 x.lat, vc, .int .i64 x.to_.var, .int .u64 x.to_.el.e0, .int .u64 x.to_.el.e1, .int .u64 x.to_.el.e2, .int .u64 x.to_.el.e3, .int .u64 x.to_.el.e4, .int .u64 x.to_.el.e5, .int .u64 x.to_.el.e6, .int .u64 x.to_.el.e7, va, .int .i64 x.a.tail, vb, .int .i64 x.b.tail, .int .i64 x.var, .string x.field]] w fun e w' => RBo e ∧ Below w.heap.size w w' := by
  obtain ⟨i1, hj, hy0, hy1, hy2⟩ := info_parts info_fd
  obtain ⟨Ac, cc, rfl, _, hcc⟩ := SlAt.form h.code
  obtain ⟨Aa, ca, rfl, _, hca⟩ := SlAt.form h.fa
  obtain ⟨Ab, cb, rfl, _, hcb⟩ := SlAt.form h.fb
  have hl1 : (x.code.length : Int) ≤ 9223372036854775807 := by unfold maxLen at hcc; omega
  have hl2 : (x.a.fields.length : Int) ≤ 9223372036854775807 := by unfold maxLen at hca; omega
  have hl3 : (x.b.fields.length : Int) ≤ 9223372036854775807 := by unfold maxLen at hcb; omega
  have HX := hide h
  have HB := hide (below_laid w (.cells #[.int .i64 x.op, .int .i64 x.lat, (.slice Ac x.code.length cc), .int .i64 x.to_.var, .int .u64 x.to_.el.e0, .int .u64 x.to_.el.e1, .int .u64 x.to_.el.e2, .int .u64 x.to_.el.e3, .int .u64 x.to_.el.e4, .int .u64 x.to_.el.e5, .int .u64 x.to_.el.e6, .int .u64 x.to_.el.e7, (.slice Aa x.a.fields.length ca), .int .i64 x.a.tail, (.slice Ab x.b.fields.length cb), .int .i64 x.b.tail, .int .i64 x.var, .string x.field] 71))
  have HO := hide (heap_alloc_last w (.cells #[.int .i64 x.op, .int .i64 x.lat, (.slice Ac x.code.length cc), .int .i64 x.to_.var, .int .u64 x.to_.el.e0, .int .u64 x.to_.el.e1, .int .u64 x.to_.el.e2, .int .u64 x.to_.el.e3, .int .u64 x.to_.el.e4, .int .u64 x.to_.el.e5, .int .u64 x.to_.el.e6, .int .u64 x.to_.el.e7, (.slice Aa x.a.fields.length ca), .int .i64 x.a.tail, (.slice Ab x.b.fields.length cb), .int .i64 x.b.tail, .int .i64 x.var, .string x.field] 71))
  have k2 : (w.alloc (.cells #[.int .i64 x.op, .int .i64 x.lat, (.slice Ac x.code.length cc), .int .i64 x.to_.var, .int .u64 x.to_.el.e0, .int .u64 x.to_.el.e1, .int .u64 x.to_.el.e2, .int .u64 x.to_.el.e3, .int .u64 x.to_.el.e4, .int .u64 x.to_.el.e5, .int .u64 x.to_.el.e6, .int .u64 x.to_.el.e7, (.slice Aa x.a.fields.length ca), .int .i64 x.a.tail, (.slice Ab x.b.fields.length cb), .int .i64 x.b.tail, .int .i64 x.var, .string x.field] 71)).cell? ⟨w.heap.size, 2, none⟩ = some (.slice Ac x.code.length cc) := by rw [cell_block HO.out]; rfl
  have k12 : (w.alloc (.cells #[.int .i64 x.op, .int .i64 x.lat, (.slice Ac x.code.length cc), .int .i64 x.to_.var, .int .u64 x.to_.el.e0, .int .u64 x.to_.el.e1, .int .u64 x.to_.el.e2, .int .u64 x.to_.el.e3, .int .u64 x.to_.el.e4, .int .u64 x.to_.el.e5, .int .u64 x.to_.el.e6, .int .u64 x.to_.el.e7, (.slice Aa x.a.fields.length ca), .int .i64 x.a.tail, (.slice Ab x.b.fields.length cb), .int .i64 x.b.tail, .int .i64 x.var, .string x.field] 71)).cell? ⟨w.heap.size, 12, none⟩ = some (.slice Aa x.a.fields.length ca) := by rw [cell_block HO.out]; rfl
  have k14 : (w.alloc (.cells #[.int .i64 x.op, .int .i64 x.lat, (.slice Ac x.code.length cc), .int .i64 x.to_.var, .int .u64 x.to_.el.e0, .int .u64 x.to_.el.e1, .int .u64 x.to_.el.e2, .int .u64 x.to_.el.e3, .int .u64 x.to_.el.e4, .int .u64 x.to_.el.e5, .int .u64 x.to_.el.e6, .int .u64 x.to_.el.e7, (.slice Aa x.a.fields.length ca), .int .i64 x.a.tail, (.slice Ab x.b.fields.length cb), .int .i64 x.b.tail, .int .i64 x.var, .string x.field] 71)).cell? ⟨w.heap.size, 14, none⟩ = some (.slice Ab x.b.fields.length cb) := by rw [cell_block HO.out]; rfl
  have k17 : (w.alloc (.cells #[.int .i64 x.op, .int .i64 x.lat, (.slice Ac x.code.length cc), .int .i64 x.to_.var, .int .u64 x.to_.el.e0, .int .u64 x.to_.el.e1, .int .u64 x.to_.el.e2, .int .u64 x.to_.el.e3, .int .u64 x.to_.el.e4, .int .u64 x.to_.el.e5, .int .u64 x.to_.el.e6, .int .u64 x.to_.el.e7, (.slice Aa x.a.fields.length ca), .int .i64 x.a.tail, (.slice Ab x.b.fields.length cb), .int .i64 x.b.tail, .int .i64 x.var, .string x.field] 71)).cell? ⟨w.heap.size, 17, none⟩ = some (.string x.field) := by rw [cell_block HO.out]; rfl
  have hsf := h.sf
  unfold maxLen at hsf
  clear h hcc hca hcb
  go_enter Tryz.func20, Tryz.ntmps20
  go_upto_region 1 with fail
  generalize w.alloc (Obj.cells _ 71) = w0 at *
  by_cases h1 : 200 < x.code.length
  · have d1 : decide (200 < (x.code.length : Int)) = true := decide_eq_true (by omega)
    go_wp2_with fail
    go_ret
    exact ⟨⟨_, rfl⟩, HB.out⟩
  have d1 : decide (200 < (x.code.length : Int)) = false := decide_eq_false (by omega)
  by_cases h2 : 40 < x.a.fields.length
  · have d2 : decide (40 < (x.a.fields.length : Int)) = true := decide_eq_true (by omega)
    go_wp2_with fail
    go_ret
    exact ⟨⟨_, rfl⟩, HB.out⟩
  have d2 : decide (40 < (x.a.fields.length : Int)) = false := decide_eq_false (by omega)
  by_cases h3 : 40 < x.b.fields.length
  · have d3 : decide (40 < (x.b.fields.length : Int)) = true := decide_eq_true (by omega)
    go_wp2_with fail
    go_ret
    exact ⟨⟨_, rfl⟩, HB.out⟩
  have d3 : decide (40 < (x.b.fields.length : Int)) = false := decide_eq_false (by omega)
  by_cases h4 : 40 < x.field.size
  · have d4 : decide (40 < (x.field.size : Int)) = true := decide_eq_true (by omega)
    go_wp2_with fail
    go_ret
    exact ⟨⟨_, rfl⟩, HB.out⟩
  have d4 : decide (40 < (x.field.size : Int)) = false := decide_eq_false (by omega)
  go_upto_region 3 with fail
  clear d1 d2 d3 d4 k2 k17
  have HA : Hid (SlAt w B 59 10 (.slice Aa x.a.fields.length ca) x.a.fields.length (fdsV x.a.fields)) := hide HX.out.fa
  have HS0 : Hid (Kpt w0 w0.drew) := hide ⟨below_drewN (Below.refl _ _) 1⟩
  refine wp_region_chain [1, 2, 3, 5, 6, 7, 10] [(0, true), (4, true), (8, true), (9, true)] (Kpt w0) (by kernel_rfl) (by kernel_rfl) (fun _ _ _ _ _ h => h) HS0.out ?_
  intro hne
  simp only [picks, picksW, List.filterMap_cons, List.filterMap_nil, List.getElem?_cons_zero, List.getElem?_cons_succ, Option.map_some]
  have hu12 : ∀ u : HoldW (Kpt w0), u.w.cell? ⟨w.heap.size, 12, none⟩ = some (.slice Aa x.a.fields.length ca) := fun u => u.ok.cell k12
  have hu14 : ∀ u : HoldW (Kpt w0), u.w.cell? ⟨w.heap.size, 14, none⟩ = some (.slice Ab x.b.fields.length cb) := fun u => u.ok.cell k14
  iterate 7 (refine wpHeld_step (fun K hK => ?_); go_simp; refine hK _ ?_; clear hK K)
  refine wpHeld_nil ?_
  clear hu12 hu14 hne k12 k14
  have hal : x.a.fields.length ≤ 40 := by omega
  have hbl : x.b.fields.length ≤ 40 := by omega
  have HK := hide (And.intro hal hbl)
  have HXa := hide (fun (wr : World) (hk : Kpt w0 wr) => (SlAt.src Tryz.underlying54 ((HX.out.fa.below HB.out).below hk.below) (fdsV_one x.a.fields) : Src Tryz.prog 10 54 _ _ _ wr))
  have HXb := hide (fun (wr : World) (hk : Kpt w0 wr) => (SlAt.src Tryz.underlying54 ((HX.out.fb.below HB.out).below hk.below) (fdsV_one x.b.fields) : Src Tryz.prog 10 54 _ _ _ wr))
  clear hal hbl
  refine wpChain_cons fun K hK => ?_
  go_wp2_with fail
  have H1 : Hid (MaS w0 (.slice (some ⟨w0.heap.size, 0, none⟩) 0 0) [] (w0.alloc (.cells #[] 59)).drew) := hide ⟨RowZ.below (RowZ.laid w0 59 10 0 [] rfl (by decide)) (below_drewN (Below.refl _ _) 1), fun g hg => by cases hg; exact Nat.le_refl _, below_drewN (below_laid _ _) 1⟩
  generalize (w0.alloc (Obj.cells #[] 59)).drew = w1 at *
  refine chainF (fun _ => ⟨H1.out.below⟩) (hK _ _ ?_)
  clear hK K
  refine wpChain_cons fun K hK => ?_
  go_wp2_with (at_builtin; go_must (refine app_rowz rfl (.tmp 29) (.tmp 32) 54 54 rfl 59 i1 _ 10 88 Tryz.underlying54 hj hy0 hy1 hy2 rfl (.slice (some ⟨w0.heap.size, 0, none⟩) 0 0) 0 [] rfl H1.out.row (.slice Aa x.a.fields.length ca) x.a.fields.length (fdsV x.a.fields) rfl (HXa.out _ ⟨H1.out.below⟩) (by have := HK.out.1; unfold maxLen; omega) (by have := HK.out.1; omega) ?_); intro A' c' w' hr hg hob; have HG := hide (And.intro hr (And.intro hg hob)); clear hr hg hob)
  have H2 : Hid (MaS w0 (.slice A' x.a.fields.length c') x.a.fields w') := hide ⟨by have := HG.out.1; rwa [Nat.zero_add, List.nil_append] at this, fun g hg => by
      rcases HG.out.2.2 with e | e
      · rw [Nat.zero_add] at e; rw [e] at hg; exact H1.out.own g hg
      · rw [Nat.zero_add] at e; rw [e] at hg; injection hg with hg; rw [← hg]; exact H1.out.below.size, H1.out.below.grown HG.out.2.1 H1.out.below.size H1.out.own⟩
  clear HG H1
  refine chainF (fun _ => ⟨H2.out.below⟩) (hK _ _ ?_)
  clear hK K
  refine wpChain_cons fun K hK => ?_
  generalize w' = w2 at *
  go_wp2_with (at_builtin; go_must (refine app_rowz rfl (.tmp 33) (.tmp 36) 54 54 rfl 59 i1 _ 10 88 Tryz.underlying54 hj hy0 hy1 hy2 rfl (.slice A' x.a.fields.length c') x.a.fields.length (fdsV x.a.fields) rfl H2.out.row (.slice Ab x.b.fields.length cb) x.b.fields.length (fdsV x.b.fields) rfl (HXb.out _ ⟨H2.out.below⟩) (by have := HK.out.1; have := HK.out.2; unfold maxLen; omega) (by have := HK.out.1; have := HK.out.2; omega) ?_); intro A3 c3 w' hr hg hob; have HG := hide (And.intro hr (And.intro hg hob)); clear hr hg hob)
  have H3 : Hid (MaS w0 (.slice A3 (x.a.fields.length + x.b.fields.length) c3) (x.a.fields ++ x.b.fields) w') := hide ⟨by have := HG.out.1; rw [List.length_append]; simpa only [fdsV, List.flatMap_append] using this, fun g hg => by
      rcases HG.out.2.2 with e | e
      · rw [e] at hg; exact H2.out.own g hg
      · rw [e] at hg; injection hg with hg; rw [← hg]; exact H2.out.below.size, H2.out.below.grown HG.out.2.1 H2.out.below.size H2.out.own⟩
  have hsz : x.a.fields.length + x.b.fields.length ≤ 80 := by have := HK.out.1; have := HK.out.2; omega
  have hlen : (x.a.fields ++ x.b.fields).length = x.a.fields.length + x.b.fields.length := List.length_append
  have HLN := hide hlen
  clear hlen HG H2
  refine chainF (fun _ => ⟨H3.out.below⟩) (hK _ _ ?_)
  clear hK K
  generalize hl : x.a.fields ++ x.b.fields = l at *
  generalize hn : x.a.fields.length + x.b.fields.length = n at *
  clear hl hn
  refine wpChain_cons fun K hK => ?_
  go_wp2_with fail
  refine chainF (fun _ => ⟨H3.out.below⟩) (hK _ _ ?_)
  clear hK K
  refine wpChain_nil ?_
  generalize w' = w3 at *
  have HQ := hide (SlAt.of_row (B := w3.heap.size) H3.out.row)
  go_wp2_with fail
  go_loopw [39] (fun kv wr => (∃ q : Nat, q ≤ n ∧ kv = .int .i64 (q : Nat)) ∧ Kpt w3 wr) (fun kv _ => n - (intOf kv).toNat)
  case atStart => exact ⟨⟨0, by omega, rfl⟩, ⟨Below.refl _ _⟩⟩
  case round =>
    obtain ⟨⟨q, hq, rfl⟩, ho⟩ := hrel
    have HO3 := hide ho
    clear ho
    by_cases hlt : q < n
    · have i0 : (q : Int) < n := by omega
      have hql : q < l.length := by rw [HLN.out]; exact hlt
      obtain ⟨bl, off, c', e, hbl, hr⟩ := SlAt.elem (HQ.out.below HO3.out.below) fdV_len hql
      cases e
      obtain ⟨g0, g1, g2, g3, g4, g5, g6, g7, g8, g9⟩ := fd_cells hr
      clear hr
      generalize l[q] = fd at *
      obtain ⟨nm, vr, e0, e1, e2, e3, e4, e5, e6, e7⟩ := fd
      have H5 : Hid (Kpt w3 (wr.alloc (.cells #[.string nm, .int .i64 vr, .int .u64 e0, .int .u64 e1, .int .u64 e2, .int .u64 e3, .int .u64 e4, .int .u64 e5, .int .u64 e6, .int .u64 e7] 59))) := hide ⟨below_next HO3.out.below (below_laid _ _)⟩
      go_wp2_with fail
      all_goals first
        | exact ⟨⟨⟨q + 1, by omega, rfl⟩, H5.out⟩, by simp [intOf]; omega⟩
        | (go_ret; exact ⟨⟨_, rfl⟩, below_next HB.out (H3.out.below.trans (H5.out.below.mono H3.out.below.size))⟩)
    · obtain rfl : q = n := by omega
      go_wp2_with fail
      go_ret
      exact ⟨⟨_, rfl⟩, below_next HB.out (H3.out.below.trans (HO3.out.below.mono H3.out.below.size))⟩
end Go.Proofs.YthnbhcfpfbimgaaGreat
/- The walks of Big: chapters 19, 18. (Printed by rgasr.py.) -/
namespace Go.Proofs.YthnbhcfpfbimgaaGreat
open Go.RowKit
open Rw (El At Fld)
/-- The load of a struct, out of the middle of a block; a new struct filled at once. -/
abbrev LdA (T : TypeId) (cs : Array Value) (b o k : Nat) (w : World) : Prop :=
  ∀ (ops : Array Oper) (rest : List Oper) (op : Oper) (a : Act) (Q : Exit → Act → World → Prop), op.op = .load T (.tmp k) → a.eval (.tmp k) = .pointer (some ⟨b, o, none⟩) → Region.wanted op (yielded ops a.tmps) = true → wpList Tryz.prog ops Q rest (a.put op.dst (.agg cs)) w → wpList Tryz.prog ops Q (op :: rest) a w
theorem ldA {T : TypeId} {cs : Array Value} {b o : Nat} (k : Nat) {w : World} {d : TypeDesc} (h : w.rangeAt b o cs.toList) (hu : Tryz.prog.underlying T = some d) (hd : d.isRow = true) (hi : (Tryz.prog.info? T).map (·.size) = some cs.size) : LdA T cs b o k w := fun ops rest op a Q h2 h3 h1 h4 =>
  ldM k h hu hd (by rw [hi, Array.length_toList]) ops rest op a Q h2 h3 h1 (by rw [Array.toArray_toList]; exact h4)
abbrev StA (T : TypeId) (new : Array Value) (w : World) (k1 k2 : Nat) : Prop :=
  ∀ (ops : Array Oper) (rest : List Oper) (op : Oper) (a : Act) (Q : Exit → Act → World → Prop) (old : Array Value), op.guard = none → op.op = .store T (.tmp k1) (.tmp k2) → a.eval (.tmp k1) = .pointer (some ⟨w.heap.size, 0, none⟩) → a.eval (.tmp k2) = .agg new → old.size = new.size → wpList Tryz.prog ops Q rest (a.put op.dst undef) (w.alloc (.cells new T)) → wpList Tryz.prog ops Q (op :: rest) a (w.alloc (.cells old T))
theorem stA {T : TypeId} {new : Array Value} {w : World} (k1 k2 : Nat) (hi : (Tryz.prog.info? T).map (·.size) = some new.size) (h1 : new.all (·.oneCell') = true) : StA T new w k1 k2 := fun _ _ _ _ _ _ h2 h3 h4 h5 h6 h7 => stN k1 k2 hi h6 h1 _ _ _ _ _ h2 h3 h4 h5 h7
theorem as_info : (Tryz.prog.info? 71).map (·.size) = some 18 := by kernel_rfl
/-- A problem's cells, boxed. -/
structure PrW (W : World) (vl vv vs : Value) (n : Nat) (l : List Vr) (as_ : List As) (wr : World) : Prop where
  below : Below W.heap.size W wr
  one : wr.heap[W.heap.size]? = some (.cells #[vl, vv, vs] 28 (0, 0))
  lats : Lats wr W.heap.size vl n
  vars : Vars wr W.heap.size vv l
  asr : Asrs wr W.heap.size vs as_
theorem PrW.step {W : World} {vl vv vs : Value} {n : Nat} {l : List Vr} {as_ : List As} {wr w' : World} (h : PrW W vl vv vs n l as_ wr) (hb : Below wr.heap.size wr w') : PrW W vl vv vs n l as_ w' := ⟨below_next h.below hb, heap_below h.one hb, h.lats.below hb, h.vars.below hb, h.asr.below hb⟩
theorem PrW.new {W : World} {B : Nat} {vl vv vs : Value} {n : Nat} {l : List Vr} {as_ : List As} (h : Lats W B vl n) (h2 : Vars W B vv l) (h3 : Asrs W B vs as_) (hB : B ≤ W.heap.size) : PrW W vl vv vs n l as_ (W.alloc (.cells #[vl, vv, vs] 28)) :=
  ⟨below_laid _ _, heap_alloc_last _ _, (h.below (below_laid _ _)).mono hB, (h2.below (below_laid _ _)).mono hB, (h3.below (below_laid _ _)).mono hB⟩
theorem PrW.c0 {W : World} {vl vv vs : Value} {n : Nat} {l : List Vr} {as_ : List As} {wr : World} (h : PrW W vl vv vs n l as_ wr) : wr.cell? ⟨W.heap.size, 0, none⟩ = some vl := by rw [cell_block h.one]; rfl
theorem PrW.c1 {W : World} {vl vv vs : Value} {n : Nat} {l : List Vr} {as_ : List As} {wr : World} (h : PrW W vl vv vs n l as_ wr) : wr.cell? ⟨W.heap.size, 1, none⟩ = some vv := by rw [cell_block h.one]; rfl
theorem PrW.c2 {W : World} {vl vv vs : Value} {n : Nat} {l : List Vr} {as_ : List As} {wr : World} (h : PrW W vl vv vs n l as_ wr) : wr.cell? ⟨W.heap.size, 2, none⟩ = some vs := by rw [cell_block h.one]; rfl
set_option maxRecDepth 100000 in
set_option maxHeartbeats 2000000 in
theorem big19_tot (B : Nat) (vl vv vs : Value) (n : Nat) (l : List Vr) (as_ : List As) (w : World) (h : Lats w B vl n) (h2 : Vars w B vv l) (h3 : Asrs w B vs as_) (hB : B ≤ w.heap.size) : Calls Tryz.prog 4 #[.agg #[vl, vv, vs]] w fun e w' => RBo e ∧ Below w.heap.size w w' := by
  obtain ⟨A, c, rfl, hnc, hcm⟩ := h3.form
  have HT := hide (PrW.new h h2 h3 hB)
  have hl9 : (as_.length : Int) ≤ 9223372036854775807 := by unfold maxLen at hcm; omega
  clear h hnc hcm h2 h3
  obtain ⟨Al, cl, rfl, _, _⟩ := HT.out.lats.form
  obtain ⟨Av, cv, rfl, _, _⟩ := HT.out.vars.form
  have k0 := HT.out.c0
  have k1 := HT.out.c1
  have k2 := HT.out.c2
  go_enter Tryz.func4, Tryz.ntmps4
  go_upto_region 1 with fail
  generalize w.alloc (Obj.cells _ 28) = w0 at *
  have HBG := hide (big13_tot w.heap.size _ _ n l w0 HT.out.lats HT.out.vars HT.out.below.size)
  go_upto_if 13 with (go_at_call 19; refine HBG.out.mono ?_; rintro e w4 ⟨⟨⟨z, rfl⟩⟩, hb4⟩; have H4 := hide (HT.out.step hb4); have k3 := H4.out.c2; clear hb4; cases z)
  rotate_left
  · go_wp2_with fail
    go_ret
    exact ⟨⟨_, rfl⟩, H4.out.below⟩
  clear k0 k1 k2 HBG HT
  by_cases h80 : 80 < as_.length
  · have d1 : decide (80 < (as_.length : Int)) = true := decide_eq_true (by omega)
    go_wp2_with fail
    go_ret
    exact ⟨⟨_, rfl⟩, H4.out.below⟩
  have d1 : decide (80 < (as_.length : Int)) = false := decide_eq_false (by omega)
  go_wp2_with fail
  clear d1 k3
  go_loopw [17] (fun kv wr => (∃ q : Nat, q ≤ as_.length ∧ kv = .int .i64 (q : Nat)) ∧ PrW w (.slice Al n cl) (.slice Av l.length cv) (.slice A as_.length c) n l as_ wr) (fun kv _ => as_.length - (intOf kv).toNat)
  case atStart => exact ⟨⟨0, by omega, rfl⟩, H4.out⟩
  case round =>
    obtain ⟨⟨q, hq, rfl⟩, ho⟩ := hrel
    clear H4
    have HO := hide ho
    clear ho
    by_cases hlt : q < as_.length
    · have i0 : (q : Int) < as_.length := by omega
      obtain ⟨bl, off, c', vc, va, vb, e, hbl, hr, ha⟩ := HO.out.asr.at hlt
      cases e
      generalize as_[q] = x at *
      obtain ⟨Ac, cc, rfl, _, _⟩ := SlAt.form ha.code
      obtain ⟨Aa, ca, rfl, _, _⟩ := SlAt.form ha.fa
      obtain ⟨Ab, cb, rfl, _, _⟩ := SlAt.form ha.fb
      have HA := hide ha
      have HL := hide (ldA (cs := #[.int .i64 x.op, .int .i64 x.lat, (.slice Ac x.code.length cc), .int .i64 x.to_.var, .int .u64 x.to_.el.e0, .int .u64 x.to_.el.e1, .int .u64 x.to_.el.e2, .int .u64 x.to_.el.e3, .int .u64 x.to_.el.e4, .int .u64 x.to_.el.e5, .int .u64 x.to_.el.e6, .int .u64 x.to_.el.e7, (.slice Aa x.a.fields.length ca), .int .i64 x.a.tail, (.slice Ab x.b.fields.length cb), .int .i64 x.b.tail, .int .i64 x.var, .string x.field]) 19 hr Tryz.underlying71 rfl as_info)
      have HST := hide (stA (w := wr) (new := #[.int .i64 x.op, .int .i64 x.lat, (.slice Ac x.code.length cc), .int .i64 x.to_.var, .int .u64 x.to_.el.e0, .int .u64 x.to_.el.e1, .int .u64 x.to_.el.e2, .int .u64 x.to_.el.e3, .int .u64 x.to_.el.e4, .int .u64 x.to_.el.e5, .int .u64 x.to_.el.e6, .int .u64 x.to_.el.e7, (.slice Aa x.a.fields.length ca), .int .i64 x.a.tail, (.slice Ab x.b.fields.length cb), .int .i64 x.b.tail, .int .i64 x.var, .string x.field]) 4 20 as_info (by simp [Value.oneCell']))
      clear hr ha
      go_upto_region 6 with (first | (with_reducible refine HL.out _ _ _ _ _ rfl rfl (by with_unfolding_all rfl) ?_) | (with_reducible refine HST.out _ _ _ _ _ _ rfl rfl rfl rfl (by with_unfolding_all rfl) ?_))
      have HL2 := hide (ldA (k := 4) (cs := #[.int .i64 x.op, .int .i64 x.lat, (.slice Ac x.code.length cc), .int .i64 x.to_.var, .int .u64 x.to_.el.e0, .int .u64 x.to_.el.e1, .int .u64 x.to_.el.e2, .int .u64 x.to_.el.e3, .int .u64 x.to_.el.e4, .int .u64 x.to_.el.e5, .int .u64 x.to_.el.e6, .int .u64 x.to_.el.e7, (.slice Aa x.a.fields.length ca), .int .i64 x.a.tail, (.slice Ab x.b.fields.length cb), .int .i64 x.b.tail, .int .i64 x.var, .string x.field]) (b := wr.heap.size) (o := 0) (w := wr.alloc (.cells #[.int .i64 x.op, .int .i64 x.lat, (.slice Ac x.code.length cc), .int .i64 x.to_.var, .int .u64 x.to_.el.e0, .int .u64 x.to_.el.e1, .int .u64 x.to_.el.e2, .int .u64 x.to_.el.e3, .int .u64 x.to_.el.e4, .int .u64 x.to_.el.e5, .int .u64 x.to_.el.e6, .int .u64 x.to_.el.e7, (.slice Aa x.a.fields.length ca), .int .i64 x.a.tail, (.slice Ab x.b.fields.length cb), .int .i64 x.b.tail, .int .i64 x.var, .string x.field] 71)) (range_block (heap_alloc_last wr _) 0 _ fun j u hu => by rw [Nat.zero_add]; simpa using hu) Tryz.underlying71 rfl as_info)
      have H5 := hide (HO.out.step (below_laid wr (.cells #[.int .i64 x.op, .int .i64 x.lat, (.slice Ac x.code.length cc), .int .i64 x.to_.var, .int .u64 x.to_.el.e0, .int .u64 x.to_.el.e1, .int .u64 x.to_.el.e2, .int .u64 x.to_.el.e3, .int .u64 x.to_.el.e4, .int .u64 x.to_.el.e5, .int .u64 x.to_.el.e6, .int .u64 x.to_.el.e7, (.slice Aa x.a.fields.length ca), .int .i64 x.a.tail, (.slice Ab x.b.fields.length cb), .int .i64 x.b.tail, .int .i64 x.var, .string x.field] 71)))
      have HM := hide (many15_tot w.heap.size x _ _ _ _ (HA.out.below (below_laid wr (.cells #[.int .i64 x.op, .int .i64 x.lat, (.slice Ac x.code.length cc), .int .i64 x.to_.var, .int .u64 x.to_.el.e0, .int .u64 x.to_.el.e1, .int .u64 x.to_.el.e2, .int .u64 x.to_.el.e3, .int .u64 x.to_.el.e4, .int .u64 x.to_.el.e5, .int .u64 x.to_.el.e6, .int .u64 x.to_.el.e7, (.slice Aa x.a.fields.length ca), .int .i64 x.a.tail, (.slice Ab x.b.fields.length cb), .int .i64 x.b.tail, .int .i64 x.var, .string x.field] 71))))
      clear HO HA HL HST
      go_wp2_with (first | (with_reducible refine HL2.out _ _ _ _ _ rfl rfl (by with_unfolding_all rfl) ?_) | go_at_call 20; refine HM.out.mono ?_; rintro e w4 ⟨⟨⟨z, rfl⟩⟩, hb4⟩; have H7 := hide (H5.out.step hb4); clear hb4; cases z)
      all_goals first
        | exact ⟨⟨⟨q + 1, by omega, rfl⟩, H7.out⟩, by simp [intOf]; omega⟩
        | (go_ret; exact ⟨⟨_, rfl⟩, H7.out.below⟩)
    · obtain rfl : q = as_.length := by omega
      go_wp2_with fail
      go_ret
      exact ⟨⟨_, rfl⟩, HO.out.below⟩
end Go.Proofs.YthnbhcfpfbimgaaGreat
