/- Texts put together: RgRead RgShape RgShape2 RgFits. -/
import Derived.Deep.MidRow
import Derived.Test.YthnbhcfpfbimgaaGreatMl16
import Derived.Test.YthnbhcfpfbimgaaGreatMl01
/- What comes in, read: strings, factors, shapes, lattices, variables; whole elements out of the middle of a block. -/
namespace Go.Proofs.YthnbhcfpfbimgaaGreat
open Go.RowKit
/-- The load of a struct of many cells, out of the middle of a block. -/
abbrev LdM (T : TypeId) (cs : List Value) (b o k : Nat) (w : World) : Prop :=
  ∀ (ops : Array Oper) (rest : List Oper) (op : Oper) (a : Act) (Q : Exit → Act → World → Prop), op.op = .load T (.tmp k) → a.eval (.tmp k) = .pointer (some ⟨b, o, none⟩) → Region.wanted op (yielded ops a.tmps) = true → wpList Tryz.prog ops Q rest (a.put op.dst (.agg cs.toArray)) w → wpList Tryz.prog ops Q (op :: rest) a w
theorem ldM {T : TypeId} {cs : List Value} {b o : Nat} (k : Nat) {w : World} {d : TypeDesc} (h : w.rangeAt b o cs) (hu : Tryz.prog.underlying T = some d) (hd : d.isRow = true) (hi : (Tryz.prog.info? T).map (·.size) = some cs.length) : LdM T cs b o k w := fun _ _ _ _ _ h2 h3 h1 h4 =>
  BigFrame.wpList_want h1 fun _ hK => wp_load_mid T _ h2 b o h3 cs d h hu hd hi (hK _ _ h4)
theorem held_mid {S : World → Prop} {T : TypeId} {cs : List Value} {b o k : Nat} {d : TypeDesc} {op : Oper} {a : Act} {K : Act → Prop} (ho : op.op = .load T (.tmp k)) (hx : a.eval (.tmp k) = .pointer (some ⟨b, o, none⟩)) (hS : ∀ w, S w → w.rangeAt b o cs) (hu : Tryz.prog.underlying T = some d) (hd : d.isRow = true) (hi : (Tryz.prog.info? T).map (·.size) = some cs.length) (h : K (a.put op.dst (.agg cs.toArray))) : held Tryz.prog op a S K := by
  refine ⟨_, fun w hw => ?_, h⟩
  unfold execOp
  simp only [ho, hx, Instr.loadAt, Instr.sureAddr, Sem.run_bind, Sem.run_pure, Result.andThen_ok, run_loadVar_mid w b o T cs d (hS w hw) hu hd hi]
theorem range_below {w w' : World} {b o : Nat} {cs : List Value} (h : w.rangeAt b o cs) (hlt : b < w.heap.size) (hb : Below w.heap.size w w') : w'.rangeAt b o cs := fun j v hv => by
  rw [World.cell?_of_block (hb.block b hlt)]
  exact h j v hv
theorem range_block {w : World} {b : Nat} {cs : Array Value} {T : TypeId} (h : w.heap[b]? = some (.cells cs T (0, 0))) (k : Nat) (xs : List Value) (hx : ∀ (j : Nat) v, xs[j]? = some v → cs[k + j]? = some v) : w.rangeAt b k xs := fun j v hv => by
  rw [cell_block h]
  exact hx j v hv
/-- The i-th element's cells. -/
def part (xs : List Value) (z i : Nat) : List Value := (xs.drop (i * z)).take z
theorem part_len {xs : List Value} {z n i : Nat} (h : xs.length = n * z) (hi : i < n) : (part xs z i).length = z := by
  have : (i + 1) * z ≤ n * z := Nat.mul_le_mul_right z hi
  rw [Nat.succ_mul] at this
  simp only [part, List.length_take, List.length_drop, h]
  omega
theorem part_get {xs : List Value} {z i j : Nat} (hj : j < z) : (part xs z i)[j]? = xs[i * z + j]? := by
  simp only [part, List.getElem?_take, if_pos hj, List.getElem?_drop]
theorem SlAt.form {w : World} {B : Nat} {e : TypeId} {z n : Nat} {v : Value} {xs : List Value} (h : SlAt w B e z v n xs) : ∃ A c, v = .slice A n c ∧ n ≤ c ∧ c ≤ maxLen := by
  obtain ⟨A, c, h1, h2, h3, _⟩ := h.ex
  exact ⟨A, c, h1, h2, h3⟩
theorem SlAt.at {w : World} {B : Nat} {e : TypeId} {z n : Nat} {v : Value} {xs : List Value} (h : SlAt w B e z v n xs) {i : Nat} (hi : i < n) : ∃ b off c, v = .slice (some ⟨b, off, none⟩) n c ∧ b < w.heap.size ∧ w.rangeAt b (off + i * z) (part xs z i) := by
  obtain ⟨A, c, h1, h2, h3, h4, h5⟩ := h.ex
  obtain ⟨b, off, rfl, _, h7, h8⟩ := h5 (by omega)
  refine ⟨b, off, c, h1, h7, fun j u hu => ?_⟩
  have hj : j < z := by
    have := (List.getElem?_eq_some_iff.1 hu).1
    rw [part_len h4 hi] at this
    exact this
  rw [part_get hj] at hu
  rw [Nat.add_assoc]
  exact h8 _ u hu
/-- A list of strings. -/
def strV (l : List ByteArray) : List Value := l.map Value.string
structure LS (w : World) (B : Nat) (v : Value) (l : List ByteArray) : Prop where
  at_ : SlAt w B 9 1 v l.length (strV l)
  small : ∀ s ∈ l, s.size ≤ maxLen
theorem LS.below {w w' : World} {B : Nat} {v : Value} {l : List ByteArray} (h : LS w B v l) (hb : Below w.heap.size w w') : LS w' B v l := ⟨h.at_.below hb, h.small⟩
theorem LS.form {w : World} {B : Nat} {v : Value} {l : List ByteArray} (h : LS w B v l) : ∃ A c, v = .slice A l.length c ∧ l.length ≤ c ∧ c ≤ maxLen := SlAt.form h.at_
theorem LS.has {w : World} {B c : Nat} {A : Option Addr} {l : List ByteArray} (h : LS w B (.slice A l.length c) l) : HasStr w w.heap.size A l.length l := by
  obtain ⟨A', c', h1, h2, h3, h4, h5⟩ := SlAt.ex h.at_
  cases h1
  refine ⟨by simp, fun h0 => ?_⟩
  obtain ⟨b, off, rfl, _, h7, h8⟩ := h5 h0
  exact ⟨b, off, rfl, h7, h8⟩
theorem LS.str {w : World} {B : Nat} {v : Value} {l : List ByteArray} (h : LS w B v l) {k : Nat} (hk : k < l.length) : ∃ b o c, v = .slice (some ⟨b, o, none⟩) l.length c ∧ w.cell? ⟨b, o + k, none⟩ = some (.string l[k]) ∧ l[k].size ≤ maxLen := by
  obtain ⟨A', c', h1, h2, h3, h4, h5⟩ := SlAt.ex h.at_
  obtain ⟨b, off, rfl, _, h7, h8⟩ := h5 (by omega)
  exact ⟨b, off, c', h1, h8 k _ (by simp [strV, hk]), h.small _ (List.getElem_mem hk)⟩
/-- A factor's cells. -/
structure Fac (w : World) (B : Nat) (xs : List Value) : Prop where
  ex : ∃ k v cs l, xs = .int .i64 k :: v :: cs.toList ∧ Relv cs ∧ LS w B v l
theorem Fac.below {w w' : World} {B : Nat} {xs : List Value} (h : Fac w B xs) (hb : Below w.heap.size w w') : Fac w' B xs := by
  obtain ⟨⟨k, v, cs, l, h1, h2, h3⟩⟩ := h
  exact ⟨⟨k, v, cs, l, h1, h2, h3.below hb⟩⟩
theorem fac_info : (Tryz.prog.info? 120).map (·.size) = some 67 := by kernel_rfl
theorem Fac.len {w : World} {B : Nat} {xs : List Value} (h : Fac w B xs) : xs.length = 67 := by
  obtain ⟨⟨k, v, cs, l, h1, h2, h3⟩⟩ := h
  rw [h1]
  simp [h2.size]
/-- A shape's factors. -/
structure Sh (w : World) (B : Nat) (v : Value) (n : Nat) : Prop where
  ex : ∃ xs, SlAt w B 120 67 v n xs ∧ ∀ i, i < n → Fac w B (part xs 67 i)
theorem Sh.below {w w' : World} {B : Nat} {v : Value} {n : Nat} (h : Sh w B v n) (hb : Below w.heap.size w w') : Sh w' B v n := by
  obtain ⟨⟨xs, h1, h2⟩⟩ := h
  exact ⟨⟨xs, h1.below hb, fun i hi => (h2 i hi).below hb⟩⟩
theorem Sh.form {w : World} {B : Nat} {v : Value} {n : Nat} (h : Sh w B v n) : ∃ A c, v = .slice A n c ∧ n ≤ c ∧ c ≤ maxLen := by
  obtain ⟨⟨xs, h1, h2⟩⟩ := h
  exact SlAt.form h1
theorem Sh.at {w : World} {B : Nat} {v : Value} {n : Nat} (h : Sh w B v n) {i : Nat} (hi : i < n) : ∃ b off c cs, v = .slice (some ⟨b, off, none⟩) n c ∧ b < w.heap.size ∧ w.rangeAt b (off + i * 67) cs ∧ Fac w B cs := by
  obtain ⟨⟨xs, h1, h2⟩⟩ := h
  obtain ⟨b, off, c, h3, h4, h5⟩ := SlAt.at h1 hi
  exact ⟨b, off, c, _, h3, h4, h5, h2 i hi⟩
/-- A lattice's cells. -/
structure LatC (w : World) (B : Nat) (xs : List Value) : Prop where
  ex : ∃ nm b v n, xs = [.string nm, .bool b, v] ∧ nm.size ≤ maxLen ∧ Sh w B v n
theorem LatC.below {w w' : World} {B : Nat} {xs : List Value} (h : LatC w B xs) (hb : Below w.heap.size w w') : LatC w' B xs := by
  obtain ⟨⟨nm, b, v, n, h1, h2, h3⟩⟩ := h
  exact ⟨⟨nm, b, v, n, h1, h2, h3.below hb⟩⟩
structure Lats (w : World) (B : Nat) (v : Value) (n : Nat) : Prop where
  ex : ∃ xs, SlAt w B 80 3 v n xs ∧ ∀ i, i < n → LatC w B (part xs 3 i)
theorem Lats.below {w w' : World} {B : Nat} {v : Value} {n : Nat} (h : Lats w B v n) (hb : Below w.heap.size w w') : Lats w' B v n := by
  obtain ⟨⟨xs, h1, h2⟩⟩ := h
  exact ⟨⟨xs, h1.below hb, fun i hi => (h2 i hi).below hb⟩⟩
theorem Lats.form {w : World} {B : Nat} {v : Value} {n : Nat} (h : Lats w B v n) : ∃ A c, v = .slice A n c ∧ n ≤ c ∧ c ≤ maxLen := by
  obtain ⟨⟨xs, h1, h2⟩⟩ := h
  exact SlAt.form h1
theorem Lats.at {w : World} {B : Nat} {v : Value} {n : Nat} (h : Lats w B v n) {i : Nat} (hi : i < n) : ∃ bl off c nm b u m, v = .slice (some ⟨bl, off, none⟩) n c ∧ bl < w.heap.size ∧ w.cell? ⟨bl, off + i * 3, none⟩ = some (.string nm) ∧ w.cell? ⟨bl, off + i * 3 + 1, none⟩ = some (.bool b) ∧ w.cell? ⟨bl, off + i * 3 + 2, none⟩ = some u ∧ nm.size ≤ maxLen ∧ Sh w B u m := by
  obtain ⟨⟨xs, h1, h2⟩⟩ := h
  obtain ⟨bl, off, c, h3, h4, h5⟩ := SlAt.at h1 hi
  obtain ⟨⟨nm, b, u, m, h6, h7, h8⟩⟩ := h2 i hi
  rw [h6] at h5
  exact ⟨bl, off, c, nm, b, u, m, h3, h4, h5 0 _ rfl, h5 1 _ rfl, h5 2 _ rfl, h7, h8⟩
/-- A variable. -/
structure Vr where
  name : ByteArray
  kind : Int
  lat : Int
def vrV (x : Vr) : List Value := [.string x.name, .int .i64 x.kind, .int .i64 x.lat]
def vrsV (l : List Vr) : List Value := l.flatMap vrV
structure Vars (w : World) (B : Nat) (v : Value) (l : List Vr) : Prop where
  at_ : SlAt w B 75 3 v l.length (vrsV l)
  small : ∀ x ∈ l, x.name.size ≤ maxLen
theorem Vars.below {w w' : World} {B : Nat} {v : Value} {l : List Vr} (h : Vars w B v l) (hb : Below w.heap.size w w') : Vars w' B v l := ⟨h.at_.below hb, h.small⟩
theorem Vars.form {w : World} {B : Nat} {v : Value} {l : List Vr} (h : Vars w B v l) : ∃ A c, v = .slice A l.length c ∧ l.length ≤ c ∧ c ≤ maxLen := SlAt.form h.at_
theorem SlAt.elem {α : Type} {f : α → List Value} {w : World} {B : Nat} {e : TypeId} {z : Nat} {v : Value} {l : List α} (h : SlAt w B e z v l.length (l.flatMap f)) (hz : ∀ x, (f x).length = z) {i : Nat} (hi : i < l.length) : ∃ b off c, v = .slice (some ⟨b, off, none⟩) l.length c ∧ b < w.heap.size ∧ w.rangeAt b (off + i * z) (f l[i]) := by
  obtain ⟨A, c, h1, h2, h3, h4, h5⟩ := h.ex
  obtain ⟨b, off, rfl, _, h7, h8⟩ := h5 (by omega)
  refine ⟨b, off, c, h1, h7, fun j u hu => ?_⟩
  have hj := (List.getElem?_eq_some_iff.1 hu).1
  rw [hz] at hj
  rw [Nat.add_assoc]
  exact h8 _ u (by rw [flat_get f hz l i j _ (List.getElem?_eq_getElem hi) hj]; exact hu)
theorem Vars.at {w : World} {B : Nat} {v : Value} {l : List Vr} (h : Vars w B v l) {i : Nat} (hi : i < l.length) : ∃ b off c, v = .slice (some ⟨b, off, none⟩) l.length c ∧ b < w.heap.size ∧ w.cell? ⟨b, off + i * 3, none⟩ = some (.string l[i].name) ∧ w.cell? ⟨b, off + i * 3 + 1, none⟩ = some (.int .i64 l[i].kind) ∧ w.cell? ⟨b, off + i * 3 + 2, none⟩ = some (.int .i64 l[i].lat) ∧ l[i].name.size ≤ maxLen := by
  obtain ⟨b, off, c, h3, h4, h5⟩ := SlAt.elem h.at_ (fun _ => rfl) hi
  exact ⟨b, off, c, h3, h4, h5 0 _ rfl, h5 1 _ rfl, h5 2 _ rfl, h.small _ (List.getElem_mem hi)⟩
end Go.Proofs.YthnbhcfpfbimgaaGreat
/- The walks of chapter 7: factor, word. -/
namespace Go.Proofs.YthnbhcfpfbimgaaGreat
open Go.RowKit
/-- A factor's cells, boxed. -/
structure FaW (W : World) (k : Int) (v : Value) (cs : Array Value) (l : List ByteArray) (wr : World) : Prop where
  below : Below W.heap.size W wr
  c0 : wr.cell? ⟨W.heap.size, 0, none⟩ = some (.int .i64 k)
  c1 : wr.cell? ⟨W.heap.size, 1, none⟩ = some v
  rel : wr.rangeAt W.heap.size 2 cs.toList
  lt : W.heap.size < wr.heap.size
  names : LS wr W.heap.size v l
theorem FaW.step {W : World} {k : Int} {v : Value} {cs : Array Value} {l : List ByteArray} {wr w' : World} (h : FaW W k v cs l wr) (hb : Below wr.heap.size wr w') : FaW W k v cs l w' :=
  ⟨below_next h.below hb, (World.cell?_of_block (hb.block _ h.lt)).trans h.c0, (World.cell?_of_block (hb.block _ h.lt)).trans h.c1, range_below h.rel h.lt hb, Nat.lt_of_lt_of_le h.lt hb.size, h.names.below hb⟩
theorem FaW.new {W : World} {B : Nat} {k : Int} {v : Value} {cs : Array Value} {l : List ByteArray} (hl : LS W B v l) (hB : B ≤ W.heap.size) : FaW W k v cs l (W.alloc (.cells (Value.int .i64 k :: v :: cs.toList).toArray 120)) := by
  have hb := heap_alloc_last W (.cells (Value.int .i64 k :: v :: cs.toList).toArray 120)
  have hbl := below_laid W (.cells (Value.int .i64 k :: v :: cs.toList).toArray 120)
  refine ⟨hbl, by rw [cell_block hb]; rfl, by rw [cell_block hb]; rfl, range_block hb 2 _ fun j u hu => ?_, blk_lt hb, ?_⟩
  · rw [Nat.add_comm]; simpa using hu
  · have h1 := hl.below hbl
    refine ⟨?_, h1.small⟩
    obtain ⟨A, c, e, a1, a2, a3, a4⟩ := h1.at_.ex
    refine ⟨A, c, e, a1, a2, a3, fun h0 => ?_⟩
    obtain ⟨b, off, e1, e2, e3, e4⟩ := a4 h0
    refine ⟨b, off, e1, ?_, e3, e4⟩
    rcases e2 with e2 | e2
    · exact .inl (by omega)
    · exact .inr e2
theorem FaW.num {W : World} {k : Int} {v : Value} {cs : Array Value} {l : List ByteArray} {wr : World} (h : FaW W k v cs l wr) {N : Int} (h0 : cs[0]? = some (.int .i64 N)) : wr.cell? ⟨W.heap.size, 2, none⟩ = some (.int .i64 N) := h.rel 0 _ (by simpa using h0)
theorem FaW.ld {W : World} {k : Int} {v : Value} {cs : Array Value} {l : List ByteArray} {wr : World} (h : FaW W k v cs l wr) (hs : cs.size = 65) (q : Nat) : LdM 118 cs.toList W.heap.size 2 q wr := ldM q h.rel Tryz.underlying118 rfl (by rw [Array.length_toList, hs]; exact rel_info)
set_option maxRecDepth 100000 in
set_option maxHeartbeats 1000000 in
theorem factor_tot (B : Nat) (xs : List Value) (w : World) (h : Fac w B xs) (hB : B ≤ w.heap.size) : Calls Tryz.prog 62 #[.agg xs.toArray] w fun e w' => RBo e ∧ Below w.heap.size w w' := by
  obtain ⟨⟨k, v, cs, l, rfl, hc, hl⟩⟩ := h
  obtain ⟨A, c, rfl, hlc, hcm⟩ := hl.form
  obtain ⟨N, h0⟩ := hc.num
  have HT := hide (FaW.new (k := k) (cs := cs) hl hB)
  have HC := hide hc
  have H0 := hide h0
  have k0 := HT.out.c0
  have k1 := HT.out.c1
  have hl9 : (l.length : Int) ≤ 9223372036854775807 := by unfold maxLen at hcm; omega
  clear hc h0 hl hlc hcm
  go_enter Tryz.func62, Tryz.ntmps62
  go_upto_region 1 with fail
  generalize w.alloc (Obj.cells _ 120) = w0 at *
  by_cases h1 : l.length < 1
  · have d1 : decide ((l.length : Int) < 1) = true := decide_eq_true (by omega)
    go_wp2_with fail
    go_ret
    exact ⟨⟨_, rfl⟩, HT.out.below⟩
  by_cases h2 : 64 < l.length
  · have d1 : decide ((l.length : Int) < 1) = false := decide_eq_false (by omega)
    have d2 : decide (64 < (l.length : Int)) = true := decide_eq_true (by omega)
    go_wp2_with fail
    go_ret
    exact ⟨⟨_, rfl⟩, HT.out.below⟩
  have d1 : decide ((l.length : Int) < 1) = false := decide_eq_false (by omega)
  have d2 : decide (64 < (l.length : Int)) = false := decide_eq_false (by omega)
  have HW := hide (twiceR_any l.length c w0.heap.size A l w0 (by omega) (HT.out.names.has))
  by_cases h3 : 0 ≤ Nm.twice l
  · go_wp2_with (go_at_call 39; refine HW.out.mono ?_; rintro e w1 ⟨rfl, rfl⟩)
    go_ret
    exact ⟨⟨_, rfl⟩, HT.out.below⟩
  have d3 : decide (0 ≤ Nm.twice l) = false := decide_eq_false h3
  go_wp2_with (go_at_call 39; refine HW.out.mono ?_; rintro e w1 ⟨rfl, rfl⟩)
  clear HW d1 d2 d3
  go_loop [4] (fun kv => ∃ q : Nat, q ≤ l.length ∧ kv = .int .i64 (q : Nat)) (fun kv => l.length - (intOf kv).toNat)
  case atStart => exact ⟨0, by omega, rfl⟩
  case round =>
    obtain ⟨q, hq, rfl⟩ := hrel
    by_cases hlt : q < l.length
    · obtain ⟨b, o, c', e, hcell, hsm⟩ := HT.out.names.str hlt
      cases e
      generalize l[q] = s at *
      have q0 : (q : Int) < l.length := by omega
      have HR := hide (rightR_any s w0 hsm)
      generalize Nm.right s = r at *
      cases r
      · go_wp2_with (go_at_call 38; refine HR.out.mono ?_; rintro e w1 ⟨rfl, rfl⟩)
        go_ret
        exact ⟨⟨_, rfl⟩, HT.out.below⟩
      · go_wp2_with (go_at_call 38; refine HR.out.mono ?_; rintro e w1 ⟨rfl, rfl⟩)
        exact ⟨⟨q + 1, by omega, rfl⟩, by simp [intOf]; omega⟩
    · obtain rfl : q = l.length := by omega
      have HLP := hide (HT.out.ld HC.out.size 40)
      have HP := hide (points_tot cs HC.out w0)
      by_cases e1 : k = 1
      · subst e1
        go_wp2_with (first | (with_reducible refine HLP.out _ _ _ _ _ rfl rfl (by with_unfolding_all rfl) ?_) | (go_at_call 78; refine HP.out.mono ?_; rintro e w1 ⟨⟨n, rfl, hn⟩, hb1⟩; have HB1 := hide (HT.out.step hb1); clear hb1))
        go_ret
        exact ⟨⟨_, rfl⟩, HB1.out.below⟩
      by_cases e2 : k = 2
      · subst e2
        go_wp2_with (first | (with_reducible refine HLP.out _ _ _ _ _ rfl rfl (by with_unfolding_all rfl) ?_) | (go_at_call 78; refine HP.out.mono ?_; rintro e w1 ⟨⟨n, rfl, hn⟩, hb1⟩; have HB1 := hide (HT.out.step hb1); clear hb1))
        go_ret
        exact ⟨⟨_, rfl⟩, HB1.out.below⟩
      clear HLP HP
      have b1 : (k == 1) = false := by simpa using e1
      have b2 : (k == 2) = false := by simpa using e2
      have k2 := HT.out.num H0.out
      by_cases e3 : k = 3
      · subst e3
        by_cases e4 : N = l.length
        · have HLP := hide (HT.out.ld HC.out.size 53)
          have HP := hide (right5_tot cs HC.out N H0.out w0)
          go_wp2_with (first | (with_reducible refine HLP.out _ _ _ _ _ rfl rfl (by with_unfolding_all rfl) ?_) | (go_at_call 79; refine HP.out.mono ?_; rintro e w1 ⟨⟨⟨n, rfl, hn⟩⟩, hb1⟩; have HB1 := hide (HT.out.step hb1); clear hb1))
          go_ret
          exact ⟨⟨_, rfl⟩, HB1.out.below⟩
        · go_wp2_with fail
          go_ret
          exact ⟨⟨_, rfl⟩, HT.out.below⟩
      have b3 : (k == 3) = false := by simpa using e3
      by_cases e4 : k = 4
      · subst e4
        by_cases e4 : N = l.length
        · have HLP := hide (HT.out.ld HC.out.size 68)
          have HP := hide (latt6_tot cs HC.out w0)
          go_wp2_with (first | (with_reducible refine HLP.out _ _ _ _ _ rfl rfl (by with_unfolding_all rfl) ?_) | (go_at_call 80; refine HP.out.mono ?_; rintro e w1 ⟨⟨⟨n, rfl⟩⟩, hb1⟩; have HB1 := hide (HT.out.step hb1); clear hb1))
          go_ret
          exact ⟨⟨_, rfl⟩, HB1.out.below⟩
        · go_wp2_with fail
          go_ret
          exact ⟨⟨_, rfl⟩, HT.out.below⟩
      · have b4 : (k == 4) = false := by simpa using e4
        go_wp2_with fail
        go_ret
        exact ⟨⟨_, rfl⟩, HT.out.below⟩
set_option maxRecDepth 100000 in
set_option maxHeartbeats 1000000 in
theorem word7_tot (B : Nat) (xs : List Value) (x : Int) (w : World) (h : Fac w B xs) (hB : B ≤ w.heap.size) : Calls Tryz.prog 44 #[.agg xs.toArray, .int .u64 x] w fun e w' => RBo e ∧ Below w.heap.size w w' := by
  obtain ⟨⟨k, v, cs, l, rfl, hc, hl⟩⟩ := h
  obtain ⟨A, c, rfl, hlc, hcm⟩ := hl.form
  obtain ⟨N, h0⟩ := hc.num
  have HT := hide (FaW.new (k := k) (cs := cs) hl hB)
  have HC := hide hc
  have H0 := hide h0
  have k0 := HT.out.c0
  have k1 := HT.out.c1
  have hl9 : (l.length : Int) ≤ 9223372036854775807 := by unfold maxLen at hcm; omega
  clear hc h0 hl hlc hcm
  go_enter Tryz.func44, Tryz.ntmps44
  go_upto_region 1 with fail
  generalize w.alloc (Obj.cells _ 120) = w0 at *
  by_cases e1 : k = 1
  · subst e1
    have HW := hide (level_tot l.length x w0)
    go_wp2_with (go_at_call 65; refine HW.out.mono ?_; rintro e w1 ⟨⟨⟨z, b, rfl⟩⟩, hb1⟩; have HB1 := hide (HT.out.step hb1); clear hb1)
    go_ret
    exact ⟨⟨_, rfl⟩, HB1.out.below⟩
  have b1 : (k == 1) = false := by simpa using e1
  by_cases e2 : k = 2
  · subst e2
    have HW := hide (below1_tot l.length w0)
    have HS := hide (sub1_tot x)
    go_wp2_with (first | (go_at_call 67; refine HW.out.mono ?_; rintro e w1 ⟨⟨⟨z, rfl⟩⟩, hb1⟩; have HB1 := hide (HT.out.step hb1); clear hb1) | (go_at_call 66; refine (HS.out z w1).mono ?_; rintro e w2 ⟨⟨⟨r, rfl⟩⟩, hb2⟩; have HB2 := hide (HB1.out.step hb2); clear hb2))
    go_ret
    exact ⟨⟨_, rfl⟩, HB2.out.below⟩
  have b2 : (k == 2) = false := by simpa using e2
  by_cases e3 : k = 3
  · subst e3
    have HLP := hide (HT.out.ld HC.out.size 33)
    have HP := hide (close5_tot cs HC.out N H0.out x w0)
    go_wp2_with (first | (with_reducible refine HLP.out _ _ _ _ _ rfl rfl (by with_unfolding_all rfl) ?_) | (go_at_call 68; refine HP.out.mono ?_; rintro e w1 ⟨⟨⟨z, rfl⟩⟩, hb1⟩; have HB1 := hide (HT.out.step hb1); clear hb1))
    go_ret
    exact ⟨⟨_, rfl⟩, HB1.out.below⟩
  have b3 : (k == 3) = false := by simpa using e3
  have HLP := hide (HT.out.ld HC.out.size 40)
  have HP := hide (point6_tot cs HC.out x w0)
  go_wp2_with (first | (with_reducible refine HLP.out _ _ _ _ _ rfl rfl (by with_unfolding_all rfl) ?_) | (go_at_call 69; refine HP.out.mono ?_; rintro e w1 ⟨⟨⟨z, b, rfl⟩⟩, hb1⟩; have HB1 := hide (HT.out.step hb1); clear hb1))
  go_ret
  exact ⟨⟨_, rfl⟩, HB1.out.below⟩
end Go.Proofs.YthnbhcfpfbimgaaGreat
/- The walks of chapter 7: Right, Big. -/
namespace Go.Proofs.YthnbhcfpfbimgaaGreat
open Go.RowKit
theorem SlAt.mono {w : World} {B B' : Nat} {e : TypeId} {z n : Nat} {v : Value} {xs : List Value} (h : SlAt w B e z v n xs) (hB : B ≤ B') : SlAt w B' e z v n xs := by
  obtain ⟨A, c, e, a1, a2, a3, a4⟩ := h.ex
  refine ⟨A, c, e, a1, a2, a3, fun h0 => ?_⟩
  obtain ⟨b, off, e1, e2, e3, e4⟩ := a4 h0
  refine ⟨b, off, e1, ?_, e3, e4⟩
  rcases e2 with e2 | e2
  · exact .inl (by omega)
  · exact .inr e2
theorem LS.mono {w : World} {B B' : Nat} {v : Value} {l : List ByteArray} (h : LS w B v l) (hB : B ≤ B') : LS w B' v l := ⟨h.at_.mono hB, h.small⟩
theorem Fac.mono {w : World} {B B' : Nat} {xs : List Value} (h : Fac w B xs) (hB : B ≤ B') : Fac w B' xs := by
  obtain ⟨⟨k, v, cs, l, h1, h2, h3⟩⟩ := h
  exact ⟨⟨k, v, cs, l, h1, h2, h3.mono hB⟩⟩
theorem Sh.mono {w : World} {B B' : Nat} {v : Value} {n : Nat} (h : Sh w B v n) (hB : B ≤ B') : Sh w B' v n := by
  obtain ⟨⟨xs, h1, h2⟩⟩ := h
  exact ⟨⟨xs, h1.mono hB, fun i hi => (h2 i hi).mono hB⟩⟩
theorem LatC.mono {w : World} {B B' : Nat} {xs : List Value} (h : LatC w B xs) (hB : B ≤ B') : LatC w B' xs := by
  obtain ⟨⟨nm, b, v, n, h1, h2, h3⟩⟩ := h
  exact ⟨⟨nm, b, v, n, h1, h2, h3.mono hB⟩⟩
theorem Lats.mono {w : World} {B B' : Nat} {v : Value} {n : Nat} (h : Lats w B v n) (hB : B ≤ B') : Lats w B' v n := by
  obtain ⟨⟨xs, h1, h2⟩⟩ := h
  exact ⟨⟨xs, h1.mono hB, fun i hi => (h2 i hi).mono hB⟩⟩
theorem Vars.mono {w : World} {B B' : Nat} {v : Value} {l : List Vr} (h : Vars w B v l) (hB : B ≤ B') : Vars w B' v l := ⟨h.at_.mono hB, h.small⟩
/-- A shape's cells, boxed. -/
structure ShW (W : World) (b : Bool) (v : Value) (n : Nat) (wr : World) : Prop where
  below : Below W.heap.size W wr
  one : wr.heap[W.heap.size]? = some (.cells #[.bool b, v] 78 (0, 0))
  sh : Sh wr W.heap.size v n
theorem ShW.step {W : World} {b : Bool} {v : Value} {n : Nat} {wr w' : World} (h : ShW W b v n wr) (hb : Below wr.heap.size wr w') : ShW W b v n w' := ⟨below_next h.below hb, heap_below h.one hb, h.sh.below hb⟩
theorem ShW.new {W : World} {B : Nat} {b : Bool} {v : Value} {n : Nat} (h : Sh W B v n) (hB : B ≤ W.heap.size) : ShW W b v n (W.alloc (.cells #[.bool b, v] 78)) :=
  ⟨below_laid _ _, heap_alloc_last _ _, (h.below (below_laid _ _)).mono hB⟩
theorem ShW.c0 {W : World} {b : Bool} {v : Value} {n : Nat} {wr : World} (h : ShW W b v n wr) : wr.cell? ⟨W.heap.size, 0, none⟩ = some (.bool b) := by rw [cell_block h.one]; rfl
theorem ShW.c1 {W : World} {b : Bool} {v : Value} {n : Nat} {wr : World} (h : ShW W b v n wr) : wr.cell? ⟨W.heap.size, 1, none⟩ = some v := by rw [cell_block h.one]; rfl
theorem ldFac {w : World} {B b o k : Nat} {cs : List Value} (h : w.rangeAt b o cs) (hf : Fac w B cs) : LdM 120 cs b o k w := ldM k h Tryz.underlying120 rfl (by rw [hf.len]; exact fac_info)
set_option maxRecDepth 100000 in
set_option maxHeartbeats 1000000 in
theorem right7_tot (B : Nat) (b : Bool) (v : Value) (n : Nat) (w : World) (h : Sh w B v n) (hB : B ≤ w.heap.size) : Calls Tryz.prog 37 #[.agg #[.bool b, v]] w fun e w' => RBo e ∧ Below w.heap.size w w' := by
  obtain ⟨A, c, rfl, hnc, hcm⟩ := h.form
  have HT := hide (ShW.new (b := b) h hB)
  have k0 := HT.out.c0
  have k1 := HT.out.c1
  have hl9 : (n : Int) ≤ 9223372036854775807 := by unfold maxLen at hcm; omega
  clear h hnc hcm
  go_enter Tryz.func37, Tryz.ntmps37
  go_upto_region 1 with fail
  generalize w.alloc (Obj.cells _ 78) = w0 at *
  by_cases h1 : n < 1
  · have d1 : decide ((n : Int) < 1) = true := decide_eq_true (by omega)
    go_wp2_with fail
    go_ret
    exact ⟨⟨_, rfl⟩, HT.out.below⟩
  have d1 : decide ((n : Int) < 1) = false := decide_eq_false (by omega)
  by_cases h2 : 8 < n
  · have d2 : decide (8 < (n : Int)) = true := decide_eq_true (by omega)
    go_wp2_with fail
    go_ret
    exact ⟨⟨_, rfl⟩, HT.out.below⟩
  have d2 : decide (8 < (n : Int)) = false := decide_eq_false (by omega)
  have key : ∀ r, (b = true ∨ n = 1) → r = n → r ≤ 8 := fun r _ e => by omega
  clear key
  by_cases h3 : b = false ∧ n ≠ 1
  · obtain ⟨rfl, h3⟩ := h3
    have d3 : (((n : Int)) == 1) = false := by simp; omega
    have d4 : (((n : Int)) != 1) = true := by simp; omega
    go_wp2_with fail
    go_ret
    exact ⟨⟨_, rfl⟩, HT.out.below⟩
  have h4 : b = true ∨ n = 1 := by
    cases b
    · right; simpa using h3
    · exact .inl rfl
  clear h3
  have hn8 : n ≤ 8 := by omega
  clear h1 h2
  cases b
  · obtain rfl : n = 1 := by simpa using h4
    go_wp2_with fail
    clear d1 d2 k0 k1
    go_loopw [3] (fun kv wr => (∃ k : Nat, k ≤ 1 ∧ kv = .int .i64 (k : Nat)) ∧ ShW w false (.slice A 1 c) 1 wr) (fun kv _ => 1 - (intOf kv).toNat)
    case atStart => exact ⟨⟨0, by omega, rfl⟩, HT.out⟩
    case round =>
      obtain ⟨⟨k, hk, rfl⟩, ho⟩ := hrel
      have HO := hide ho
      clear ho
      have k1 := HO.out.c1
      by_cases hlt : k < 1
      · have i0 : (k : Int) < 1 := by omega
        obtain ⟨bl, off, c', cs, e, hbl, hr, hf⟩ := HO.out.sh.at hlt
        cases e
        have HL := hide (ldFac (k := 35) hr hf)
        have HF := hide (factor_tot w.heap.size cs wr hf HO.out.below.size)
        clear hr hf
        go_upto_if 38 with (first | (with_reducible refine HL.out _ _ _ _ _ rfl rfl (by with_unfolding_all rfl) ?_) | (go_at_call 62; refine HF.out.mono ?_; rintro e w4 ⟨⟨⟨z, rfl⟩⟩, hb4⟩; have H4 := hide (HO.out.step hb4); clear hb4))
        clear k1 HL HF
        cases z
        · go_wp2_with fail
          go_ret
          exact ⟨⟨_, rfl⟩, H4.out.below⟩
        · go_wp2_with fail
          exact ⟨⟨⟨k + 1, by omega, rfl⟩, H4.out⟩, by simp [intOf]; omega⟩
      · obtain rfl : k = 1 := by omega
        go_wp2_with fail
        go_ret
        exact ⟨⟨_, rfl⟩, HO.out.below⟩
  · clear h4
    go_wp2_with fail
    clear d1 d2 k0 k1
    go_loopw [3] (fun kv wr => (∃ k : Nat, k ≤ n ∧ kv = .int .i64 (k : Nat)) ∧ ShW w true (.slice A n c) n wr) (fun kv _ => n - (intOf kv).toNat)
    case atStart => exact ⟨⟨0, by omega, rfl⟩, HT.out⟩
    case round =>
      obtain ⟨⟨k, hk, rfl⟩, ho⟩ := hrel
      have HO := hide ho
      clear ho
      have k1 := HO.out.c1
      by_cases hlt : k < n
      · have i0 : (k : Int) < n := by omega
        obtain ⟨bl, off, c', cs, e, hbl, hr, hf⟩ := HO.out.sh.at hlt
        cases e
        have HL := hide (ldFac (k := 35) hr hf)
        have HF := hide (factor_tot w.heap.size cs wr hf HO.out.below.size)
        clear hr hf
        go_upto_if 38 with (first | (with_reducible refine HL.out _ _ _ _ _ rfl rfl (by with_unfolding_all rfl) ?_) | (go_at_call 62; refine HF.out.mono ?_; rintro e w4 ⟨⟨⟨z, rfl⟩⟩, hb4⟩; have H4 := hide (HO.out.step hb4); clear hb4))
        clear k1 HL HF
        cases z
        · go_wp2_with fail
          go_ret
          exact ⟨⟨_, rfl⟩, H4.out.below⟩
        · go_wp2_with fail
          exact ⟨⟨⟨k + 1, by omega, rfl⟩, H4.out⟩, by simp [intOf]; omega⟩
      · obtain rfl : k = n := by omega
        go_wp2_with fail
        go_ret
        exact ⟨⟨_, rfl⟩, HO.out.below⟩
end Go.Proofs.YthnbhcfpfbimgaaGreat
/- The walk of chapter 7: Fits. -/
namespace Go.Proofs.YthnbhcfpfbimgaaGreat
open Go.RowKit
open Rw (El)
theorem el_word (e : El) {k : Nat} (h : k < 8) : ∃ z, (elV e)[k]? = some (.int .u64 z) := by
  match k, h with
  | 0, _ => exact ⟨_, rfl⟩
  | 1, _ => exact ⟨_, rfl⟩
  | 2, _ => exact ⟨_, rfl⟩
  | 3, _ => exact ⟨_, rfl⟩
  | 4, _ => exact ⟨_, rfl⟩
  | 5, _ => exact ⟨_, rfl⟩
  | 6, _ => exact ⟨_, rfl⟩
  | 7, _ => exact ⟨_, rfl⟩
/-- A shape and an element, boxed. -/
structure FiW (W : World) (b : Bool) (v : Value) (n : Nat) (e : El) (wr : World) : Prop where
  below : Below W.heap.size W wr
  one : wr.heap[W.heap.size]? = some (.cells #[.bool b, v] 78 (0, 0))
  two : wr.heap[W.heap.size + 1]? = some (.cells (elV e).toArray 48 (0, 0))
  sh : Sh wr W.heap.size v n
theorem FiW.step {W : World} {b : Bool} {v : Value} {n : Nat} {e : El} {wr w' : World} (h : FiW W b v n e wr) (hb : Below wr.heap.size wr w') : FiW W b v n e w' := ⟨below_next h.below hb, heap_below h.one hb, heap_below h.two hb, h.sh.below hb⟩
theorem FiW.new {W : World} {B : Nat} {b : Bool} {v : Value} {n : Nat} {e : El} (h : Sh W B v n) (hB : B ≤ W.heap.size) : FiW W b v n e ((W.alloc (.cells #[.bool b, v] 78)).alloc (.cells (elV e).toArray 48)) :=
  ⟨below_next (below_laid _ _) (below_laid _ _), heap_below (heap_alloc_last _ _) (below_laid _ _), by
    have := heap_alloc_last (W.alloc (Obj.cells #[.bool b, v] 78)) (Obj.cells (elV e).toArray 48)
    rwa [World.size_alloc] at this, ((h.below (below_laid _ _)).below (below_laid _ _)).mono hB⟩
theorem FiW.c1 {W : World} {b : Bool} {v : Value} {n : Nat} {e : El} {wr : World} (h : FiW W b v n e wr) : wr.cell? ⟨W.heap.size, 1, none⟩ = some v := by rw [cell_block h.one]; rfl
theorem FiW.word {W : World} {b : Bool} {v : Value} {n : Nat} {e : El} {wr : World} (h : FiW W b v n e wr) {k : Nat} {z : Int} (hz : (elV e)[k]? = some (.int .u64 z)) : wr.cell? ⟨W.heap.size + 1, k, none⟩ = some (.int .u64 z) := by rw [cell_block h.two]; simpa using hz
/-- With the factor that is looked at. -/
structure FiR (W : World) (b : Bool) (v : Value) (n : Nat) (e : El) (bl o : Nat) (cs : List Value) (wr : World) : Prop where
  fi : FiW W b v n e wr
  rng : wr.rangeAt bl o cs
  lt : bl < wr.heap.size
theorem FiR.step {W : World} {b : Bool} {v : Value} {n : Nat} {e : El} {bl o : Nat} {cs : List Value} {wr w' : World} (h : FiR W b v n e bl o cs wr) (hb : Below wr.heap.size wr w') : FiR W b v n e bl o cs w' := ⟨h.fi.step hb, range_below h.rng h.lt hb, Nat.lt_of_lt_of_le h.lt hb.size⟩
set_option maxRecDepth 100000 in
set_option maxHeartbeats 2000000 in
theorem fits7_tot (B : Nat) (b : Bool) (v : Value) (n : Nat) (e : El) (w : World) (h : Sh w B v n) (hB : B ≤ w.heap.size) : Calls Tryz.prog 23 #[.agg #[.bool b, v], .agg (elV e).toArray] w fun e w' => RBo e ∧ Below w.heap.size w w' := by
  obtain ⟨A, c, rfl, hnc, hcm⟩ := h.form
  have HT := hide (FiW.new (b := b) (e := e) h hB)
  have hl9 : (n : Int) ≤ 9223372036854775807 := by unfold maxLen at hcm; omega
  clear h hnc hcm
  generalize hes : (elV e).toArray = es at *
  go_enter Tryz.func23, Tryz.ntmps23
  go_upto_region 1 with fail
  generalize (w.alloc (Obj.cells _ 78)).alloc (Obj.cells es 48) = w0 at *
  have k0 : w0.cell? ⟨w.heap.size, 0, none⟩ = some (.bool b) := by rw [cell_block HT.out.one]; rfl
  have k1 := HT.out.c1
  have HR := hide (right7_tot w.heap.size b _ n w0 HT.out.sh HT.out.below.size)
  go_upto_if 8 with (go_at_call 37; refine HR.out.mono ?_; rintro e w4 ⟨⟨⟨z, rfl⟩⟩, hb4⟩; have H4 := hide (HT.out.step hb4); clear hb4)
  clear HR k0 k1
  cases z
  · go_wp2_with fail
    go_ret
    exact ⟨⟨_, rfl⟩, H4.out.below⟩
  simp only [Bool.not_true]
  go_wp2_with fail
  go_loopw [5] (fun kv wr => (∃ k : Nat, k ≤ 8 ∧ kv = .int .i64 (k : Nat)) ∧ FiW w b (.slice A n c) n e wr) (fun kv _ => 8 - (intOf kv).toNat)
  case atStart => exact ⟨⟨0, by omega, rfl⟩, H4.out⟩
  case round =>
    obtain ⟨⟨k, hk, rfl⟩, ho⟩ := hrel
    have HO := hide ho
    clear ho HT H4
    by_cases hk8 : k < 8
    · have i0 : (k : Int) < 8 := by omega
      go_upto_region 6 with fail
      obtain ⟨z, hz⟩ := el_word e hk8
      have HZ := hide hz
      clear hz
      by_cases hlt : k < n
      · have i1 : (k : Int) < n := by omega
        obtain ⟨bl, off, c', cs, e', hbl, hr, hf⟩ := HO.out.sh.at hlt
        cases e'
        have HF := hide hf
        have HS : Hid (FiR w b (.slice (some ⟨bl, off, none⟩) n c) n e bl (off + k * 67) cs wr.drew) := hide ((FiR.mk HO.out hr hbl).step (below_drewN (Below.refl _ _) 1))
        have HB := hide (below_drewN (Below.refl wr.heap.size wr) 1)
        have HW := hide (word7_tot w.heap.size cs z wr.drew (hf.below HB.out) HS.out.fi.below.size)
        clear hf hr HB
        refine wp_region_tree [0, 1, 2, 3, 4, 5, 6, 7, 8, 9, 10, 11, 12, 13] (.step 14 true (.take 15 (.take 16 (.take 17 (.take 18 (.take 19 (.take 20 (.take 21 (.take 22 (.take 23 (.take 24 (.take 25 (.take 26 (.take 27 (.take 28 (.take 29 .done))))))))))))))) .done) (FiR w b (.slice (some ⟨bl, off, none⟩) n c) n e bl (off + k * 67) cs) (by kernel_rfl) (by kernel_rfl) (fun _ _ _ _ _ h => h) HS.out ?_
        intro hne
        simp only [picks, List.filterMap_cons, List.filterMap_nil, List.getElem?_cons_zero, List.getElem?_cons_succ]
        have hu1 : ∀ u : HoldW (FiR w b (.slice (some ⟨bl, off, none⟩) n c) n e bl (off + k * 67) cs), u.w.cell? ⟨w.heap.size, 1, none⟩ = some (.slice (some ⟨bl, off, none⟩) n c) := fun u => u.ok.fi.c1
        have hu2 : ∀ u : HoldW (FiR w b (.slice (some ⟨bl, off, none⟩) n c) n e bl (off + k * 67) cs), u.w.cell? ⟨w.heap.size + 1, k, none⟩ = some (.int .u64 z) := fun u => u.ok.fi.word HZ.out
        iterate 10 (refine wpHeld_step (fun K hK => ?_); go_simp; refine hK _ ?_; clear hK K)
        refine wpHeld_step (fun K hK => ?_)
        rw [if_pos (by with_unfolding_all rfl)]
        refine held_mid (b := bl) (o := off + k * 67) (cs := cs) rfl rfl (by rintro _ ⟨u, rfl⟩; exact u.ok.rng) Tryz.underlying120 rfl (by rw [HF.out.len]; exact fac_info) (hK _ ?_)
        clear hK K
        iterate 3 (refine wpHeld_step (fun K hK => ?_); go_simp; refine hK _ ?_; clear hK K)
        refine wpHeld_nil ?_
        have HU := hide hu1
        have HNE := hide hne
        clear hu1 hu2 hne
        refine wpTree_step rfl fun K hK => ?_
        go_wp2_with (go_at_call 44; refine HW.out.mono ?_; rintro e w4 ⟨⟨⟨r, rfl⟩⟩, hb4⟩; have H4 := hide (HS.out.step hb4); clear hb4)
        refine chainF (fun _ => H4.out) (hK _ _ ?_)
        clear hK K
        have hu1 := HU.out
        have hne := HNE.out
        have hnk : ¬ n ≤ k := by omega
        have hnd : decide (n ≤ k) = false := decide_eq_false hnk
        cases r
        all_goals
          iterate 15 (refine wpTree_take rfl (fun K hK => ?_); go_simp; refine hK _ ?_; clear hK K)
          refine wpTree_end ?_
          clear hu1 hne
          go_wp2_with fail
        · go_ret
          exact ⟨⟨_, rfl⟩, H4.out.fi.below⟩
        · exact ⟨⟨⟨k + 1, by omega, rfl⟩, H4.out.fi⟩, by simp [intOf]; omega⟩
      · have i1 : (n : Int) ≤ k := by omega
        have k1 := HO.out.c1
        have k2 := HO.out.word HZ.out
        by_cases hz0 : z = 0
        · subst hz0
          go_quiet (fail)
          go_wp2_with fail
          exact ⟨⟨⟨k + 1, by omega, rfl⟩, HO.out.step (below_drewN (Below.refl _ _) nq)⟩, by simp [intOf]; omega⟩
        · have hz1 : (z != 0) = true := by simpa using hz0
          go_quiet (fail)
          go_wp2_with fail
          go_ret
          exact ⟨⟨_, rfl⟩, (HO.out.step (below_drewN (Below.refl _ _) nq)).below⟩
    · obtain rfl : k = 8 := by omega
      go_wp2_with fail
      go_ret
      exact ⟨⟨_, rfl⟩, HO.out.below⟩
end Go.Proofs.YthnbhcfpfbimgaaGreat
