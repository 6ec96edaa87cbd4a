/- The walk of TreeWraps. -/
import Derived.Test.YtokfcnjmgnmncaaTrPk
import Derived.Test.YtokfcnjmgnmncaaTrBack
namespace Go.Proofs.Ytokfcnjmgnmncaa
open Go.RowKit

theorem fault_below2 {w wr : World} {b : Nat} (hb : Below w.heap.size w wr) (h : w.heap.size ≤ b) (fa fb : Int) : Below w.heap.size w ((wr.setCell ⟨b, 0, none⟩ (.int .i64 fa)).setCell ⟨b, 1, none⟩ (.int .i64 fb)) :=
  (hb.setCell (by exact h) _).setCell (by exact h) _
def okb (x : World) (b11 : Option Nat) : Nat → Prop := fun b => b < x.heap.size ∧ ∀ b', b11 = some b' → b ≠ b'
def CutR (V wx : World) (F : Tr.Fo) (fa fb : Int) (v p : Value) : Prop := ∃ (A7 : Option Addr) (c7 b11 : Nat), v = .slice A7 F.len c7 ∧ p = .pointer (some ⟨b11, 0, none⟩) ∧
  V.heap.size ≤ b11 ∧ wx.heap[b11]? = some (.cells #[.int .i64 fa, .int .i64 fb] 27 (0, 0)) ∧ Holds wx (· < wx.heap.size) F A7 F.len c7 ∧ Below V.heap.size V wx
section
variable {wB x x' : World} {l : List Lx.T} {n : Nat} {b1 b5 b11 : Option Nat} {s58 s61 : Option (Option Addr × Nat)} {F : Tr.Fo} {A : Option Addr} {q c : Nat}
theorem hv7 (h : Pk wB x l n b1 b5 b11 s58 s61) (hv : Holds x' (fun b => x.heap.size ≤ b ∧ b < x'.heap.size) F A q c) : Holds x' (okb x' b11) F A q c :=
  hv.more (fun b hb => ⟨hb.2, fun b' e => by have := blk_lt (h.f11 b' e).2; omega⟩)
theorem hv11 (hv : Holds x (okb x none) F A q c) (ob : Obj) : Holds (x.alloc ob) (okb (x.alloc ob) (some x.heap.size)) F A q c :=
  hv.mono (fun b hb => ⟨⟨Nat.lt_of_lt_of_le hb.1 (below_laid x ob).size, fun b' e => by cases e; have := hb.1; omega⟩, fun o => World.cell?_alloc_lt x ob ⟨b, o, none⟩ hb.1⟩)
theorem fin13 {b : Nat} (h : Pk wB x l n b1 b5 (some b) s58 s61) (hv : Holds x (okb x (some b)) F A q c) (fa fb : Int) :
    wB.heap.size ≤ b ∧ ((x.setCell ⟨b, 0, none⟩ (.int .i64 fa)).setCell ⟨b, 1, none⟩ (.int .i64 fb)).heap[b]? = some (.cells #[.int .i64 fa, .int .i64 fb] 27 (0, 0)) ∧
      Holds ((x.setCell ⟨b, 0, none⟩ (.int .i64 fa)).setCell ⟨b, 1, none⟩ (.int .i64 fb)) (· < ((x.setCell ⟨b, 0, none⟩ (.int .i64 fa)).setCell ⟨b, 1, none⟩ (.int .i64 fb)).heap.size) F A q c ∧
      Below wB.heap.size wB ((x.setCell ⟨b, 0, none⟩ (.int .i64 fa)).setCell ⟨b, 1, none⟩ (.int .i64 fb)) := by
  obtain ⟨h1, h2⟩ := h.f11 b rfl
  refine ⟨h1, ?_, ?_, fault_below2 h.below h1 fa fb⟩
  · have k1 := heap_setCell_same x b 0 _ _ (.int .i64 fa) h2
    have k2 := heap_setCell_same _ b 1 _ _ (.int .i64 fb) k1
    rw [k2]; rfl
  · refine hv.mono (fun b' hb => ⟨by have := hb.1; simp; exact this, fun o => ?_⟩)
    have hne := hb.2 b rfl
    exact (World.cell?_of_block (Below.heap_setCell _ ⟨b, 1, none⟩ _ b' hne)).trans (World.cell?_of_block (Below.heap_setCell x ⟨b, 0, none⟩ _ b' hne))
end

/-- An append under a guard that says yes. -/
theorem app_rowz_w {P : Program} {w : World} {ops : Array Oper} {rest : List Oper} {o : Oper} {a : Act} {Q : Exit → Act → World → Prop} (hw : Region.wanted o (yielded ops a.tmps) = true) (s x : Operand) (t tx : TypeId)
    (ho : o.op = .call { callee := .builtin .append, args := #[s, x], argTypes := #[t, tx] })
    (e : TypeId) (i : TypeInfo) (z : Value) (sz bytes : Nat) (ht : P.underlying t = some (.slice e)) (hi : P.info? e = some i) (hz : i.zero = some z)
    (hsize : i.size = sz) (hby : i.bytes = bytes) (hzs : z.cells.size = sz)
    (v : Value) (n : Nat) (xs : List Value) (hs : a.eval s = v) (hrow : RowZ w e sz v n xs)
    (xv : Value) (m : Nat) (news : List Value) (hx : a.eval x = xv) (hsrc : Src P sz tx xv m news w)
    (h63 : n + m ≤ maxLen) (hbytes : (n + m) * bytes ≤ 140737488355328)
    (h : ∀ A' c' w', RowZ w' e sz (.slice A' (n + m) c') (n + m) (xs ++ news) → w.grownBy w' v.ownBlock → ((Value.slice A' (n + m) c').ownBlock = v.ownBlock ∨ (Value.slice A' (n + m) c').ownBlock = some w.heap.size) →
      wpList P ops Q rest (a.put o.dst (.slice A' (n + m) c')) w') : wpList P ops Q (o :: rest) a w := by
  refine BigFrame.wpList_want hw fun K hK => ?_
  obtain ⟨A', c', w', hr, h2, h3, h4⟩ := run_app_rowz (P := P) (w := w) t tx o.type e i z sz bytes ht hi hz hsize hby hzs v n xs hrow xv m news hsrc h63 hbytes
  unfold Oper.wp
  simp [execOp, ho, resolve, invoke, builtin, hs, hx, hr, Result.andThen]
  exact hK _ _ (h A' c' w' h2 h3 h4)

theorem Elems.one {w : World} {ok : Nat → Prop} : ∀ (f : Tr.Fo) (xs : List Value), Elems w ok f xs → ∀ u ∈ xs, u.oneCell' = true
  | .nil, xs, h, u, hu => by rw [show xs = [] from h] at hu; cases hu
  | .cons t k e r, xs, h, u, hu => by
    obtain ⟨A, n, c, ys, rfl, _, h6⟩ := h
    simp only [List.mem_cons] at hu
    rcases hu with rfl | rfl | rfl | rfl | rfl | hu
    · rfl
    · rfl
    · rfl
    · rfl
    · rfl
    · exact Elems.one r ys h6 u hu
theorem Src.of_holds {w : World} {ok : Nat → Prop} {f : Tr.Fo} {A : Option Addr} {n c : Nat} (h : Holds w ok f A n c) : ∃ xs, Elems w ok f xs ∧ Src Try.prog 5 25 (.slice A n c) n xs w := by
  by_cases hn : 0 < n
  · obtain ⟨b, off, zs, rfl, _, h3, h4⟩ := h.2.2.2 hn
    refine ⟨zs, h3, Src.ofSlice w Try.underlying25 ⟨b, off, none⟩ n c zs (by rw [Elems.len f zs h3, ← h.1]) (fun j u hu => ?_) (Elems.one f zs h3)⟩
    rw [add_plain]
    exact h4 j u hu
  · obtain rfl : n = 0 := by omega
    have hf : f = .nil := by
      have := h.1
      cases f with
      | nil => rfl
      | cons t k e r => simp [Tr.Fo.len] at this
    subst hf
    refine ⟨[], rfl, ?_⟩
    cases A with
    | none => exact Src.ofNil w Try.underlying25 c
    | some a => exact Src.ofSlice w Try.underlying25 a 0 c [] rfl (fun j u hu => by simp at hu) (fun u hu => by cases hu)
theorem Holds.of_rowz {w : World} {ok : Nat → Prop} {f : Tr.Fo} {A : Option Addr} {n c : Nat} {xs : List Value} (h : RowZ w 37 5 (.slice A n c) n xs) (he : Elems w ok f xs) (hn : n = f.len) (hok : ∀ b, ok b → b < w.heap.size) : Holds w (· < w.heap.size) f A n c := by
  obtain ⟨A', c', e, hc, hm⟩ := RowZ.form h
  simp only [Value.slice.injEq] at e
  obtain ⟨rfl, _, rfl⟩ := e
  refine ⟨hn, hc, hm, fun hp => ?_⟩
  obtain ⟨g, rfl⟩ := RowZ.addr h hp
  refine ⟨g, 0, xs, rfl, RowZ.lt h g rfl, he.mono (fun b hb => ⟨hok b hb, fun _ => rfl⟩), fun j u hu => ?_⟩
  rw [Nat.zero_add, RowZ.cell h (List.getElem?_eq_some_iff.1 hu).1, hu]

set_option maxRecDepth 100000 in
set_option maxHeartbeats 40000000 in
theorem treeWraps_core (A : Option Addr) (n c : Nat) (l : List Lx.T) (A2 : Option Addr) (n2 c2 : Nat) (m : List Lx.T) (w : World) (a b F : Tr.Fo) (fa fb : Int) (h : HasT w w.heap.size A n l) (h2 : HasT w w.heap.size A2 n2 m) (hn : n ≤ 140) (hn2 : n2 ≤ 140)
    (hb1 : Lx.big l = false) (hb2 : Lx.big m = false) (hra : Tr.read l = .good a) (hrb : Tr.read m = .good b) (hzl : ∀ t ∈ l, t.text.size ≤ maxLen) (hzm : ∀ t ∈ m, t.text.size ≤ maxLen)
    (hrF : outF (Tr.read (tkO :: l ++ [tkE])) = F) (hrV : outV (Tr.read (tkO :: l ++ [tkE])) = .agg #[.int .i64 fa, .int .i64 fb])
    (hcase : (24 ≤ Tr.depth a ∧ fa = 2 ∧ F = .nil) ∨ (Tr.depth a + 1 ≤ 24 ∧ fa = 0 ∧ fb = 0 ∧ F = .cons tkO a 7 .nil)) :
    Calls Try.prog 5 #[.slice A n c, .slice A2 n2 c2] w fun e w' => e = .returned (.bool true) ∧ Below w.heap.size w w' := by
  obtain ⟨it, hit, hzt0, hzt1, hzt2⟩ := info_parts info_tok
  obtain ⟨ie, hie, hze0, hze1, hze2⟩ := info_parts info_tree
  have hln := h.1
  have hlm := h2.1
  have hsa : a.size ≤ 140 := by have := (Tr.read_bal hra).size; omega
  have hsb : b.size ≤ 140 := by have := (Tr.read_bal hrb).size; omega
  have HR1 := hide (fun W (hW : Below w.heap.size w W) => (tread_any n c w.heap.size A l W (h.below hW) hW.size (by omega)))
  have HR2 := hide (fun W (hW : Below w.heap.size w W) => (tread_any n2 c2 w.heap.size A2 m W (h2.below hW) hW.size (by omega)))
  rw [hra] at HR1
  rw [hrb] at HR2
  have HB1 := hide (fun W (hW : Below w.heap.size w W) => big_any n c w.heap.size A l W (h.below hW) (by unfold maxLen; omega) hzl)
  have HB2 := hide (fun W (hW : Below w.heap.size w W) => big_any n2 c2 w.heap.size A2 m W (h2.below hW) (by unfold maxLen; omega) hzm)
  rw [hb1] at HB1
  rw [hb2] at HB2
  have HR3 := hide (fun (W : World) (Ax : Option Addr) (cx : Nat) (hh : HasT W W.heap.size Ax (1 + n + 1) (tkO :: l ++ [tkE])) =>
    ((tread_any (1 + n + 1) cx W.heap.size Ax _ W hh (Nat.le_refl _) (by omega)).mono (fun e w' ⟨v, he, hrow, hb⟩ => by
      rw [hrV] at he
      rw [hrF] at hrow
      obtain ⟨A', c', rfl, _, _⟩ := hrow.form
      exact ⟨A', c', he, hrow.holds, hb⟩) : Calls Try.prog 9 #[.slice Ax (1 + n + 1) cx] W fun e w' => ∃ A' c', e = .returned (.tuple #[.slice A' F.len c', .agg #[.int .i64 fa, .int .i64 fb]]) ∧ Holds w' (fun b => W.heap.size ≤ b ∧ b < w'.heap.size) F A' F.len c' ∧ Below W.heap.size W w'))
  have HHL := hide h
  have HHM := hide h2
  have HLN := hide hln
  have HLM := hide hlm
  have HRA := hide (And.intro hra hrb)
  have HC := hide hcase
  have g1 : ¬ (140 : Int) < n := by omega
  have g2 : ¬ (140 : Int) < n2 := by omega
  clear h h2 hln hlm hra hrb hb1 hb2 hzl hzm hrF hrV hcase
  go_enter Try.func5, Try.ntmps5
  go_wp2_with fail
  refine (HR1.out _ (Below.refl _ _)).mono ?_
  rintro e w1 ⟨v1, rfl, hrow1, hb1⟩
  obtain ⟨Aa, ca, rfl, hca, hcam⟩ := hrow1.form
  have hbl := below_laid w1 (.cells #[.int .i64 0, .int .i64 0] 27)
  have H1 := hide (And.intro ((hrow1.holds.more (fun b hb => hb.2)).below hbl) (And.intro (below_next hb1 hbl) (heap_alloc_new w1 (.cells #[.int .i64 0, .int .i64 0] 27))))
  have hs1 : w1.heap.size < (w1.alloc (.cells #[.int .i64 0, .int .i64 0] 27)).heap.size := by simp
  clear hrow1 hb1 hbl
  simp only [outV, outF] at H1 ⊢
  go_wp2_with fail
  generalize w1.alloc (.cells #[.int .i64 0, .int .i64 0] 27) = W at *
  refine (HR2.out _ H1.out.2.1).mono ?_
  rintro e w2 ⟨v2, rfl, hrow2, hb2⟩
  obtain ⟨Ab, cb, rfl, hcb, hcbm⟩ := hrow2.form
  have hbl := below_laid w2 (.cells #[.int .i64 0, .int .i64 0] 27)
  have hbx := heap_alloc_new w2 (.cells #[.int .i64 0, .int .i64 0] 27)
  have hb3 := below_next hb2 hbl
  have hs2 : w2.heap.size < (w2.alloc (.cells #[.int .i64 0, .int .i64 0] 27)).heap.size := by simp
  have hh1 := (H1.out.1.more (fun b hb => Nat.lt_of_lt_of_le hb (Nat.le_of_lt hs1))).below hb3
  have hh2 := (hrow2.holds.more (fun b hb => hb.2)).below hbl
  have hf1 := (hb3.block w1.heap.size hs1).trans H1.out.2.2
  simp only [outF] at hh2
  have y0 := cell_block hf1 0
  have y1 := cell_block hf1 1
  have z0 := cell_block hbx 0
  have z1 := cell_block hbx 1
  simp only [List.getElem?_toArray, List.getElem?_cons_zero, List.getElem?_cons_succ] at y0 y1 z0 z1
  have H2 := hide (And.intro (hh1.more (fun b hb => Nat.lt_of_lt_of_le hb hb3.size)) (And.intro (hh2.more (fun b hb => Nat.lt_trans hb hs2)) (below_next H1.out.2.1 hb3)))
  clear hrow2 hb2 hbl hbx hb3 hh1 hh2 hf1
  simp only [outV, outF] at H2 ⊢
  go_wp2_with fail
  generalize w2.alloc (.cells #[.int .i64 0, .int .i64 0] 27) = W2 at *
  refine (HB1.out _ H2.out.2.2).mono ?_
  rintro e w' ⟨rfl, rfl⟩
  go_wp2_with fail
  refine (HB2.out _ H2.out.2.2).mono ?_
  rintro e w' ⟨rfl, rfl⟩
  go_upto_region 6 with (fail)
  have hv9 : ((W2.alloc cellsO).alloc cellsE).heap[W2.heap.size]? = some cellsO := by
    rw [(below_laid (W2.alloc cellsO) cellsE).block W2.heap.size (by simp)]
    exact heap_alloc_new W2 cellsO
  have hv10 : ((W2.alloc cellsO).alloc cellsE).heap[W2.heap.size + 1]? = some cellsE := by
    have := heap_alloc_new (W2.alloc cellsO) cellsE
    rwa [World.size_alloc] at this
  have hbV := (below_laid W2 cellsO).trans ((below_laid (W2.alloc cellsO) cellsE).mono (by simp))
  have HV := hide (And.intro hv9 (And.intro hv10 hbV))
  clear hv9 hv10 hbV y0 y1 z0 z1
  change Code.wp _ _ _ _ ((W2.alloc cellsO).alloc cellsE)
  generalize (W2.alloc cellsO).alloc cellsE = V at *
  have HWV := hide (H2.out.2.2.trans (HV.out.2.2.mono H2.out.2.2.size))
  have HL := hide (fun x (hx : Below V.heap.size V x) => (HHL.out.below (HWV.out.trans (hx.mono HWV.out.size)) : HasT x w.heap.size A n l))
  go_cut [11, 12] (fun v p wx => CutR V wx F fa fb v p)
  case first =>
    refine wp_region_tree [0, 2, 4] (.step 1 true (.step 3 true (.step 5 true (.step 6 true (.step 7 true (.take 8 (.take 9 (.take 10 (.step 11 true (.step 12 true (.step 13 false .done .done) .done) .done)))) (.step 11 true (.step 7 true (.take 8 (.take 9 (.take 10 (.step 12 true (.step 13 false .done .done) .done)))) .done) .done)) (.step 11 true (.step 6 true (.step 7 true (.take 8 (.take 9 (.take 10 (.step 12 true (.step 13 false .done .done) .done)))) .done) .done) .done)) (.step 11 true (.step 5 true (.step 6 true (.step 7 true (.take 8 (.take 9 (.take 10 (.step 12 true (.step 13 false .done .done) .done)))) .done) .done) .done) .done)) (.step 5 true (.step 3 true (.step 6 true (.step 7 true (.take 8 (.take 9 (.take 10 (.step 11 true (.step 12 true (.step 13 false .done .done) .done) .done)))) (.step 11 true (.step 7 true (.take 8 (.take 9 (.take 10 (.step 12 true (.step 13 false .done .done) .done)))) .done) .done)) (.step 11 true (.step 6 true (.step 7 true (.take 8 (.take 9 (.take 10 (.step 12 true (.step 13 false .done .done) .done)))) .done) .done) .done)) (.step 11 true (.step 3 true (.step 6 true (.step 7 true (.take 8 (.take 9 (.take 10 (.step 12 true (.step 13 false .done .done) .done)))) .done) .done) .done) .done)) (.step 11 true (.step 3 true (.step 5 true (.step 6 true (.step 7 true (.take 8 (.take 9 (.take 10 (.step 12 true (.step 13 false .done .done) .done)))) .done) .done) .done) (.step 5 true (.step 3 true (.step 6 true (.step 7 true (.take 8 (.take 9 (.take 10 (.step 12 true (.step 13 false .done .done) .done)))) .done) .done) .done) .done)) .done))) (.step 5 true (.step 1 true (.step 3 true (.step 6 true (.step 7 true (.take 8 (.take 9 (.take 10 (.step 11 true (.step 12 true (.step 13 false .done .done) .done) .done)))) (.step 11 true (.step 7 true (.take 8 (.take 9 (.take 10 (.step 12 true (.step 13 false .done .done) .done)))) .done) .done)) (.step 11 true (.step 6 true (.step 7 true (.take 8 (.take 9 (.take 10 (.step 12 true (.step 13 false .done .done) .done)))) .done) .done) .done)) (.step 11 true (.step 3 true (.step 6 true (.step 7 true (.take 8 (.take 9 (.take 10 (.step 12 true (.step 13 false .done .done) .done)))) .done) .done) .done) .done)) (.step 11 true (.step 1 true (.step 3 true (.step 6 true (.step 7 true (.take 8 (.take 9 (.take 10 (.step 12 true (.step 13 false .done .done) .done)))) .done) .done) .done) .done) .done)) (.step 11 true (.step 1 true (.step 3 true (.step 5 true (.step 6 true (.step 7 true (.take 8 (.take 9 (.take 10 (.step 12 true (.step 13 false .done .done) .done)))) .done) .done) .done) (.step 5 true (.step 3 true (.step 6 true (.step 7 true (.take 8 (.take 9 (.take 10 (.step 12 true (.step 13 false .done .done) .done)))) .done) .done) .done) .done)) (.step 5 true (.step 1 true (.step 3 true (.step 6 true (.step 7 true (.take 8 (.take 9 (.take 10 (.step 12 true (.step 13 false .done .done) .done)))) .done) .done) .done) .done) .done)) .done))) (fun w' => w'.heap[W2.heap.size]? = some cellsO ∧ w'.heap[W2.heap.size + 1]? = some cellsE) (by kernel_rfl) (by kernel_rfl) (fun _ _ _ _ _ h => h) ⟨HV.out.1, HV.out.2.1⟩ ?_
    intro hne
    simp only [picks, List.filterMap_cons, List.filterMap_nil, List.getElem?_cons_zero, List.getElem?_cons_succ]
    have hu0 : ∀ u : HoldW (fun w' => w'.heap[W2.heap.size]? = some cellsO ∧ w'.heap[W2.heap.size + 1]? = some cellsE), u.w.cell? ⟨W2.heap.size, 0, none⟩ = some (.int .u8 123) := fun u => by rw [cell_block u.ok.1]; rfl
    have hu1 : ∀ u : HoldW (fun w' => w'.heap[W2.heap.size]? = some cellsO ∧ w'.heap[W2.heap.size + 1]? = some cellsE), u.w.cell? ⟨W2.heap.size, 1, none⟩ = some (.string ⟨#[123]⟩) := fun u => by rw [cell_block u.ok.1]; rfl
    have hu2 : ∀ u : HoldW (fun w' => w'.heap[W2.heap.size]? = some cellsO ∧ w'.heap[W2.heap.size + 1]? = some cellsE), u.w.cell? ⟨W2.heap.size, 2, none⟩ = some (.int .i64 (-5)) := fun u => by rw [cell_block u.ok.1]; rfl
    have hu3 : ∀ u : HoldW (fun w' => w'.heap[W2.heap.size]? = some cellsO ∧ w'.heap[W2.heap.size + 1]? = some cellsE), u.w.cell? ⟨W2.heap.size + 1, 0, none⟩ = some (.int .u8 125) := fun u => by rw [cell_block u.ok.2]; rfl
    have hu4 : ∀ u : HoldW (fun w' => w'.heap[W2.heap.size]? = some cellsO ∧ w'.heap[W2.heap.size + 1]? = some cellsE), u.w.cell? ⟨W2.heap.size + 1, 1, none⟩ = some (.string ⟨#[125]⟩) := fun u => by rw [cell_block u.ok.2]; rfl
    have hu5 : ∀ u : HoldW (fun w' => w'.heap[W2.heap.size]? = some cellsO ∧ w'.heap[W2.heap.size + 1]? = some cellsE), u.w.cell? ⟨W2.heap.size + 1, 2, none⟩ = some (.int .i64 7) := fun u => by rw [cell_block u.ok.2]; rfl
    repeat (refine wpHeld_step (fun K hK => ?_); go_simp; refine hK _ ?_; clear hK K)
    refine wpHeld_nil ?_
    clear hu0 hu1 hu2 hu3 hu4 hu5 hne
    have HP0 := hide (Pk.start V l n)
    have HF0 := hide (fun (x : World) (b1 b5 b11 : Option Nat) (s58 s61 : Option (Option Addr × Nat)) (h : Pk V x l n b1 b5 b11 s58 s61) => And.intro (h.old HV.out.1) (h.old HV.out.2.1))
    generalize V.drew = x0 at HP0 ⊢
    refine wpTree_both rfl (fun K hK => ?_) (wpTree_both rfl (fun K hK => ?_) (wpTree_step rfl fun K hK => ?_))
    · go_wp2_with fail
      have HP1 := hide (HP0.out.one)
      change chainPost _ _ _ _ _ (x0.alloc cellsO)
      refine chainF (fun _ => HF0.out _ _ _ _ _ _ HP1.out) (hK _ _ ?_)
      clear hK K
      generalize x0.alloc cellsO = x1 at *
      refine wpTree_both rfl (fun K hK => ?_) (wpTree_both rfl (fun K hK => ?_) (wpTree_step rfl fun K hK => ?_))
      · refine app_rowz rfl (.tmp 56) (.tmp 57) 22 22 rfl 35 it _ 3 32 Try.underlying22 hit hzt0 hzt1 hzt2 rfl (.slice (some ⟨x0.heap.size, 0, none⟩) 1 1) 1 (tokV tkO) rfl (Pk.row1 HP1.out) _ n (toksV l) rfl (Src.of_hasT (HL.out _ HP1.out.below)) (by unfold maxLen; omega) (by omega) ?_
        intro A3 c3 x2 hrow hgr hob
        have HP2 := hide (Pk.three HP1.out hrow hgr hob)
        clear hrow hgr hob
        go_wp2_with fail
        refine chainF (fun _ => HF0.out _ _ _ _ _ _ HP2.out) (hK _ _ ?_)
        clear hK K
        refine wpTree_both rfl (fun K hK => ?_) (wpTree_step rfl fun K hK => ?_)
        · go_wp2_with fail
          have HP3 := hide (HP2.out.five)
          change chainPost _ _ _ _ _ (x2.alloc cellsE)
          refine chainF (fun _ => HF0.out _ _ _ _ _ _ HP3.out) (hK _ _ ?_)
          clear hK K
          generalize x2.alloc cellsE = x3 at *
          refine wpTree_both rfl (fun K hK => ?_) (wpTree_step rfl fun K hK => ?_)
          · refine app_rowz rfl (.tmp 58) (.tmp 60) 22 22 rfl 35 it _ 3 32 Try.underlying22 hit hzt0 hzt1 hzt2 rfl (.slice A3 (1 + n) c3) (1 + n) (toksV (tkO :: l)) rfl (Pk.row58 HP3.out) _ 1 (tokV tkE) rfl (Pk.src5 HP3.out) (by unfold maxLen; omega) (by omega) ?_
            intro A6 c6 x4 hrow hgr hob
            have HP4 := hide (Pk.six HP3.out hrow hgr hob)
            clear hrow hgr hob
            go_wp2_with fail
            refine chainF (fun _ => HF0.out _ _ _ _ _ _ HP4.out) (hK _ _ ?_)
            clear hK K
            refine wpTree_both rfl (fun K hK => ?_) (wpTree_step rfl fun K hK => ?_)
            · go_wp2_with fail
              refine (HR3.out x4 A6 c6 (Pk.has61 HP4.out HLN.out)).mono ?_
              rintro e x5 ⟨A7, c7, rfl, hv, hb⟩
              have HP5 := hide (Pk.step HP4.out hb)
              have HV5 := hide (hv7 HP4.out hv)
              clear hv hb
              go_wp2_with fail
              refine chainF (fun _ => HF0.out _ _ _ _ _ _ HP5.out) (hK _ _ ?_)
              clear hK K
              refine wpTree_take rfl fun K hK => ?_
              go_simp
              refine ⟨_, fun _ => rfl, hK _ ?_⟩
              clear hK K
              refine wpTree_take rfl fun K hK => ?_
              go_simp
              refine ⟨_, fun _ => rfl, hK _ ?_⟩
              clear hK K
              refine wpTree_take rfl fun K hK => ?_
              go_simp
              refine ⟨_, fun _ => rfl, hK _ ?_⟩
              clear hK K
              refine wpTree_step rfl fun K hK => ?_
              go_wp2_with fail
              have HP6 := hide (HP5.out.eleven)
              have HV6 := hide (hv11 HV5.out cellsZ)
              change chainPost _ _ _ _ _ (x5.alloc cellsZ)
              refine chainF (fun _ => HF0.out _ _ _ _ _ _ HP6.out) (hK _ _ ?_)
              clear hK K
              generalize x5.alloc cellsZ = x6 at *
              refine wpTree_step rfl fun K hK => ?_
              go_wp2_with fail
              refine chainF (fun _ => HF0.out _ _ _ _ _ _ HP6.out) (hK _ _ ?_)
              clear hK K
              refine wpTree_step rfl fun K hK => ?_
              have hfz := (HP6.out.f11 _ rfl).2
              have y0 := cell_block hfz 0
              have y1 := cell_block hfz 1
              simp only [List.getElem?_toArray, List.getElem?_cons_zero, List.getElem?_cons_succ] at y0 y1
              have y2 := frozen_of_row _ x5.heap.size 0 _ _ hfz
              have y3 := frozen_of_row _ x5.heap.size 1 _ _ hfz
              have HZ := hide (fin13 HP6.out HV6.out fa fb)
              clear hfz
              go_wp2_with fail
              refine chainSkip (hK _ _ ?_)
              clear hK K
              refine wpTree_end ?_
              go_wp2_with fail
              go_meet
              exact ⟨A7, c7, x5.heap.size, rfl, rfl, HZ.out⟩
            · go_wp2_with fail
              have HP9 := hide (HP4.out.eleven)
              change chainPost _ _ _ _ _ (x4.alloc cellsZ)
              refine chainF (fun _ => HF0.out _ _ _ _ _ _ HP9.out) (hK _ _ ?_)
              clear hK K
              generalize x4.alloc cellsZ = x9 at *
              refine wpTree_step rfl fun K hK => ?_
              go_wp2_with fail
              refine (HR3.out x9 A6 c6 (Pk.has61 HP9.out HLN.out)).mono ?_
              rintro e x10 ⟨A7, c7, rfl, hv, hb⟩
              have HP10 := hide (Pk.step HP9.out hb)
              have HV10 := hide (hv7 HP9.out hv)
              clear hv hb
              go_wp2_with fail
              refine chainF (fun _ => HF0.out _ _ _ _ _ _ HP10.out) (hK _ _ ?_)
              clear hK K
              refine wpTree_take rfl fun K hK => ?_
              go_simp
              refine ⟨_, fun _ => rfl, hK _ ?_⟩
              clear hK K
              refine wpTree_take rfl fun K hK => ?_
              go_simp
              refine ⟨_, fun _ => rfl, hK _ ?_⟩
              clear hK K
              refine wpTree_take rfl fun K hK => ?_
              go_simp
              refine ⟨_, fun _ => rfl, hK _ ?_⟩
              clear hK K
              refine wpTree_step rfl fun K hK => ?_
              go_wp2_with fail
              refine chainF (fun _ => HF0.out _ _ _ _ _ _ HP10.out) (hK _ _ ?_)
              clear hK K
              refine wpTree_step rfl fun K hK => ?_
              have hfz := (HP10.out.f11 _ rfl).2
              have y0 := cell_block hfz 0
              have y1 := cell_block hfz 1
              simp only [List.getElem?_toArray, List.getElem?_cons_zero, List.getElem?_cons_succ] at y0 y1
              have y2 := frozen_of_row _ x4.heap.size 0 _ _ hfz
              have y3 := frozen_of_row _ x4.heap.size 1 _ _ hfz
              have HZ := hide (fin13 HP10.out HV10.out fa fb)
              clear hfz
              go_wp2_with fail
              refine chainSkip (hK _ _ ?_)
              clear hK K
              refine wpTree_end ?_
              go_wp2_with fail
              go_meet
              exact ⟨A7, c7, x4.heap.size, rfl, rfl, HZ.out⟩
          · go_wp2_with fail
            have HP13 := hide (HP3.out.eleven)
            change chainPost _ _ _ _ _ (x3.alloc cellsZ)
            refine chainF (fun _ => HF0.out _ _ _ _ _ _ HP13.out) (hK _ _ ?_)
            clear hK K
            generalize x3.alloc cellsZ = x13 at *
            refine wpTree_step rfl fun K hK => ?_
            refine app_rowz rfl (.tmp 58) (.tmp 60) 22 22 rfl 35 it _ 3 32 Try.underlying22 hit hzt0 hzt1 hzt2 rfl (.slice A3 (1 + n) c3) (1 + n) (toksV (tkO :: l)) rfl (Pk.row58 HP13.out) _ 1 (tokV tkE) rfl (Pk.src5 HP13.out) (by unfold maxLen; omega) (by omega) ?_
            intro A6 c6 x14 hrow hgr hob
            have HP14 := hide (Pk.six HP13.out hrow hgr hob)
            clear hrow hgr hob
            go_wp2_with fail
            refine chainF (fun _ => HF0.out _ _ _ _ _ _ HP14.out) (hK _ _ ?_)
            clear hK K
            refine wpTree_step rfl fun K hK => ?_
            go_wp2_with fail
            refine (HR3.out x14 A6 c6 (Pk.has61 HP14.out HLN.out)).mono ?_
            rintro e x15 ⟨A7, c7, rfl, hv, hb⟩
            have HP15 := hide (Pk.step HP14.out hb)
            have HV15 := hide (hv7 HP14.out hv)
            clear hv hb
            go_wp2_with fail
            refine chainF (fun _ => HF0.out _ _ _ _ _ _ HP15.out) (hK _ _ ?_)
            clear hK K
            refine wpTree_take rfl fun K hK => ?_
            go_simp
            refine ⟨_, fun _ => rfl, hK _ ?_⟩
            clear hK K
            refine wpTree_take rfl fun K hK => ?_
            go_simp
            refine ⟨_, fun _ => rfl, hK _ ?_⟩
            clear hK K
            refine wpTree_take rfl fun K hK => ?_
            go_simp
            refine ⟨_, fun _ => rfl, hK _ ?_⟩
            clear hK K
            refine wpTree_step rfl fun K hK => ?_
            go_wp2_with fail
            refine chainF (fun _ => HF0.out _ _ _ _ _ _ HP15.out) (hK _ _ ?_)
            clear hK K
            refine wpTree_step rfl fun K hK => ?_
            have hfz := (HP15.out.f11 _ rfl).2
            have y0 := cell_block hfz 0
            have y1 := cell_block hfz 1
            simp only [List.getElem?_toArray, List.getElem?_cons_zero, List.getElem?_cons_succ] at y0 y1
            have y2 := frozen_of_row _ x3.heap.size 0 _ _ hfz
            have y3 := frozen_of_row _ x3.heap.size 1 _ _ hfz
            have HZ := hide (fin13 HP15.out HV15.out fa fb)
            clear hfz
            go_wp2_with fail
            refine chainSkip (hK _ _ ?_)
            clear hK K
            refine wpTree_end ?_
            go_wp2_with fail
            go_meet
            exact ⟨A7, c7, x3.heap.size, rfl, rfl, HZ.out⟩
        · go_wp2_with fail
          have HP18 := hide (HP2.out.eleven)
          change chainPost _ _ _ _ _ (x2.alloc cellsZ)
          refine chainF (fun _ => HF0.out _ _ _ _ _ _ HP18.out) (hK _ _ ?_)
          clear hK K
          generalize x2.alloc cellsZ = x18 at *
          refine wpTree_step rfl fun K hK => ?_
          go_wp2_with fail
          have HP19 := hide (HP18.out.five)
          change chainPost _ _ _ _ _ (x18.alloc cellsE)
          refine chainF (fun _ => HF0.out _ _ _ _ _ _ HP19.out) (hK _ _ ?_)
          clear hK K
          generalize x18.alloc cellsE = x19 at *
          refine wpTree_step rfl fun K hK => ?_
          refine app_rowz rfl (.tmp 58) (.tmp 60) 22 22 rfl 35 it _ 3 32 Try.underlying22 hit hzt0 hzt1 hzt2 rfl (.slice A3 (1 + n) c3) (1 + n) (toksV (tkO :: l)) rfl (Pk.row58 HP19.out) _ 1 (tokV tkE) rfl (Pk.src5 HP19.out) (by unfold maxLen; omega) (by omega) ?_
          intro A6 c6 x20 hrow hgr hob
          have HP20 := hide (Pk.six HP19.out hrow hgr hob)
          clear hrow hgr hob
          go_wp2_with fail
          refine chainF (fun _ => HF0.out _ _ _ _ _ _ HP20.out) (hK _ _ ?_)
          clear hK K
          refine wpTree_step rfl fun K hK => ?_
          go_wp2_with fail
          refine (HR3.out x20 A6 c6 (Pk.has61 HP20.out HLN.out)).mono ?_
          rintro e x21 ⟨A7, c7, rfl, hv, hb⟩
          have HP21 := hide (Pk.step HP20.out hb)
          have HV21 := hide (hv7 HP20.out hv)
          clear hv hb
          go_wp2_with fail
          refine chainF (fun _ => HF0.out _ _ _ _ _ _ HP21.out) (hK _ _ ?_)
          clear hK K
          refine wpTree_take rfl fun K hK => ?_
          go_simp
          refine ⟨_, fun _ => rfl, hK _ ?_⟩
          clear hK K
          refine wpTree_take rfl fun K hK => ?_
          go_simp
          refine ⟨_, fun _ => rfl, hK _ ?_⟩
          clear hK K
          refine wpTree_take rfl fun K hK => ?_
          go_simp
          refine ⟨_, fun _ => rfl, hK _ ?_⟩
          clear hK K
          refine wpTree_step rfl fun K hK => ?_
          go_wp2_with fail
          refine chainF (fun _ => HF0.out _ _ _ _ _ _ HP21.out) (hK _ _ ?_)
          clear hK K
          refine wpTree_step rfl fun K hK => ?_
          have hfz := (HP21.out.f11 _ rfl).2
          have y0 := cell_block hfz 0
          have y1 := cell_block hfz 1
          simp only [List.getElem?_toArray, List.getElem?_cons_zero, List.getElem?_cons_succ] at y0 y1
          have y2 := frozen_of_row _ x2.heap.size 0 _ _ hfz
          have y3 := frozen_of_row _ x2.heap.size 1 _ _ hfz
          have HZ := hide (fin13 HP21.out HV21.out fa fb)
          clear hfz
          go_wp2_with fail
          refine chainSkip (hK _ _ ?_)
          clear hK K
          refine wpTree_end ?_
          go_wp2_with fail
          go_meet
          exact ⟨A7, c7, x2.heap.size, rfl, rfl, HZ.out⟩
      · go_wp2_with fail
        have HP24 := hide (HP1.out.five)
        change chainPost _ _ _ _ _ (x1.alloc cellsE)
        refine chainF (fun _ => HF0.out _ _ _ _ _ _ HP24.out) (hK _ _ ?_)
        clear hK K
        generalize x1.alloc cellsE = x24 at *
        refine wpTree_both rfl (fun K hK => ?_) (wpTree_step rfl fun K hK => ?_)
        · refine app_rowz rfl (.tmp 56) (.tmp 57) 22 22 rfl 35 it _ 3 32 Try.underlying22 hit hzt0 hzt1 hzt2 rfl (.slice (some ⟨x0.heap.size, 0, none⟩) 1 1) 1 (tokV tkO) rfl (Pk.row1 HP24.out) _ n (toksV l) rfl (Src.of_hasT (HL.out _ HP24.out.below)) (by unfold maxLen; omega) (by omega) ?_
          intro A3 c3 x25 hrow hgr hob
          have HP25 := hide (Pk.three HP24.out hrow hgr hob)
          clear hrow hgr hob
          go_wp2_with fail
          refine chainF (fun _ => HF0.out _ _ _ _ _ _ HP25.out) (hK _ _ ?_)
          clear hK K
          refine wpTree_both rfl (fun K hK => ?_) (wpTree_step rfl fun K hK => ?_)
          · refine app_rowz rfl (.tmp 58) (.tmp 60) 22 22 rfl 35 it _ 3 32 Try.underlying22 hit hzt0 hzt1 hzt2 rfl (.slice A3 (1 + n) c3) (1 + n) (toksV (tkO :: l)) rfl (Pk.row58 HP25.out) _ 1 (tokV tkE) rfl (Pk.src5 HP25.out) (by unfold maxLen; omega) (by omega) ?_
            intro A6 c6 x26 hrow hgr hob
            have HP26 := hide (Pk.six HP25.out hrow hgr hob)
            clear hrow hgr hob
            go_wp2_with fail
            refine chainF (fun _ => HF0.out _ _ _ _ _ _ HP26.out) (hK _ _ ?_)
            clear hK K
            refine wpTree_both rfl (fun K hK => ?_) (wpTree_step rfl fun K hK => ?_)
            · go_wp2_with fail
              refine (HR3.out x26 A6 c6 (Pk.has61 HP26.out HLN.out)).mono ?_
              rintro e x27 ⟨A7, c7, rfl, hv, hb⟩
              have HP27 := hide (Pk.step HP26.out hb)
              have HV27 := hide (hv7 HP26.out hv)
              clear hv hb
              go_wp2_with fail
              refine chainF (fun _ => HF0.out _ _ _ _ _ _ HP27.out) (hK _ _ ?_)
              clear hK K
              refine wpTree_take rfl fun K hK => ?_
              go_simp
              refine ⟨_, fun _ => rfl, hK _ ?_⟩
              clear hK K
              refine wpTree_take rfl fun K hK => ?_
              go_simp
              refine ⟨_, fun _ => rfl, hK _ ?_⟩
              clear hK K
              refine wpTree_take rfl fun K hK => ?_
              go_simp
              refine ⟨_, fun _ => rfl, hK _ ?_⟩
              clear hK K
              refine wpTree_step rfl fun K hK => ?_
              go_wp2_with fail
              have HP28 := hide (HP27.out.eleven)
              have HV28 := hide (hv11 HV27.out cellsZ)
              change chainPost _ _ _ _ _ (x27.alloc cellsZ)
              refine chainF (fun _ => HF0.out _ _ _ _ _ _ HP28.out) (hK _ _ ?_)
              clear hK K
              generalize x27.alloc cellsZ = x28 at *
              refine wpTree_step rfl fun K hK => ?_
              go_wp2_with fail
              refine chainF (fun _ => HF0.out _ _ _ _ _ _ HP28.out) (hK _ _ ?_)
              clear hK K
              refine wpTree_step rfl fun K hK => ?_
              have hfz := (HP28.out.f11 _ rfl).2
              have y0 := cell_block hfz 0
              have y1 := cell_block hfz 1
              simp only [List.getElem?_toArray, List.getElem?_cons_zero, List.getElem?_cons_succ] at y0 y1
              have y2 := frozen_of_row _ x27.heap.size 0 _ _ hfz
              have y3 := frozen_of_row _ x27.heap.size 1 _ _ hfz
              have HZ := hide (fin13 HP28.out HV28.out fa fb)
              clear hfz
              go_wp2_with fail
              refine chainSkip (hK _ _ ?_)
              clear hK K
              refine wpTree_end ?_
              go_wp2_with fail
              go_meet
              exact ⟨A7, c7, x27.heap.size, rfl, rfl, HZ.out⟩
            · go_wp2_with fail
              have HP31 := hide (HP26.out.eleven)
              change chainPost _ _ _ _ _ (x26.alloc cellsZ)
              refine chainF (fun _ => HF0.out _ _ _ _ _ _ HP31.out) (hK _ _ ?_)
              clear hK K
              generalize x26.alloc cellsZ = x31 at *
              refine wpTree_step rfl fun K hK => ?_
              go_wp2_with fail
              refine (HR3.out x31 A6 c6 (Pk.has61 HP31.out HLN.out)).mono ?_
              rintro e x32 ⟨A7, c7, rfl, hv, hb⟩
              have HP32 := hide (Pk.step HP31.out hb)
              have HV32 := hide (hv7 HP31.out hv)
              clear hv hb
              go_wp2_with fail
              refine chainF (fun _ => HF0.out _ _ _ _ _ _ HP32.out) (hK _ _ ?_)
              clear hK K
              refine wpTree_take rfl fun K hK => ?_
              go_simp
              refine ⟨_, fun _ => rfl, hK _ ?_⟩
              clear hK K
              refine wpTree_take rfl fun K hK => ?_
              go_simp
              refine ⟨_, fun _ => rfl, hK _ ?_⟩
              clear hK K
              refine wpTree_take rfl fun K hK => ?_
              go_simp
              refine ⟨_, fun _ => rfl, hK _ ?_⟩
              clear hK K
              refine wpTree_step rfl fun K hK => ?_
              go_wp2_with fail
              refine chainF (fun _ => HF0.out _ _ _ _ _ _ HP32.out) (hK _ _ ?_)
              clear hK K
              refine wpTree_step rfl fun K hK => ?_
              have hfz := (HP32.out.f11 _ rfl).2
              have y0 := cell_block hfz 0
              have y1 := cell_block hfz 1
              simp only [List.getElem?_toArray, List.getElem?_cons_zero, List.getElem?_cons_succ] at y0 y1
              have y2 := frozen_of_row _ x26.heap.size 0 _ _ hfz
              have y3 := frozen_of_row _ x26.heap.size 1 _ _ hfz
              have HZ := hide (fin13 HP32.out HV32.out fa fb)
              clear hfz
              go_wp2_with fail
              refine chainSkip (hK _ _ ?_)
              clear hK K
              refine wpTree_end ?_
              go_wp2_with fail
              go_meet
              exact ⟨A7, c7, x26.heap.size, rfl, rfl, HZ.out⟩
          · go_wp2_with fail
            have HP35 := hide (HP25.out.eleven)
            change chainPost _ _ _ _ _ (x25.alloc cellsZ)
            refine chainF (fun _ => HF0.out _ _ _ _ _ _ HP35.out) (hK _ _ ?_)
            clear hK K
            generalize x25.alloc cellsZ = x35 at *
            refine wpTree_step rfl fun K hK => ?_
            refine app_rowz rfl (.tmp 58) (.tmp 60) 22 22 rfl 35 it _ 3 32 Try.underlying22 hit hzt0 hzt1 hzt2 rfl (.slice A3 (1 + n) c3) (1 + n) (toksV (tkO :: l)) rfl (Pk.row58 HP35.out) _ 1 (tokV tkE) rfl (Pk.src5 HP35.out) (by unfold maxLen; omega) (by omega) ?_
            intro A6 c6 x36 hrow hgr hob
            have HP36 := hide (Pk.six HP35.out hrow hgr hob)
            clear hrow hgr hob
            go_wp2_with fail
            refine chainF (fun _ => HF0.out _ _ _ _ _ _ HP36.out) (hK _ _ ?_)
            clear hK K
            refine wpTree_step rfl fun K hK => ?_
            go_wp2_with fail
            refine (HR3.out x36 A6 c6 (Pk.has61 HP36.out HLN.out)).mono ?_
            rintro e x37 ⟨A7, c7, rfl, hv, hb⟩
            have HP37 := hide (Pk.step HP36.out hb)
            have HV37 := hide (hv7 HP36.out hv)
            clear hv hb
            go_wp2_with fail
            refine chainF (fun _ => HF0.out _ _ _ _ _ _ HP37.out) (hK _ _ ?_)
            clear hK K
            refine wpTree_take rfl fun K hK => ?_
            go_simp
            refine ⟨_, fun _ => rfl, hK _ ?_⟩
            clear hK K
            refine wpTree_take rfl fun K hK => ?_
            go_simp
            refine ⟨_, fun _ => rfl, hK _ ?_⟩
            clear hK K
            refine wpTree_take rfl fun K hK => ?_
            go_simp
            refine ⟨_, fun _ => rfl, hK _ ?_⟩
            clear hK K
            refine wpTree_step rfl fun K hK => ?_
            go_wp2_with fail
            refine chainF (fun _ => HF0.out _ _ _ _ _ _ HP37.out) (hK _ _ ?_)
            clear hK K
            refine wpTree_step rfl fun K hK => ?_
            have hfz := (HP37.out.f11 _ rfl).2
            have y0 := cell_block hfz 0
            have y1 := cell_block hfz 1
            simp only [List.getElem?_toArray, List.getElem?_cons_zero, List.getElem?_cons_succ] at y0 y1
            have y2 := frozen_of_row _ x25.heap.size 0 _ _ hfz
            have y3 := frozen_of_row _ x25.heap.size 1 _ _ hfz
            have HZ := hide (fin13 HP37.out HV37.out fa fb)
            clear hfz
            go_wp2_with fail
            refine chainSkip (hK _ _ ?_)
            clear hK K
            refine wpTree_end ?_
            go_wp2_with fail
            go_meet
            exact ⟨A7, c7, x25.heap.size, rfl, rfl, HZ.out⟩
        · go_wp2_with fail
          have HP40 := hide (HP24.out.eleven)
          change chainPost _ _ _ _ _ (x24.alloc cellsZ)
          refine chainF (fun _ => HF0.out _ _ _ _ _ _ HP40.out) (hK _ _ ?_)
          clear hK K
          generalize x24.alloc cellsZ = x40 at *
          refine wpTree_step rfl fun K hK => ?_
          refine app_rowz rfl (.tmp 56) (.tmp 57) 22 22 rfl 35 it _ 3 32 Try.underlying22 hit hzt0 hzt1 hzt2 rfl (.slice (some ⟨x0.heap.size, 0, none⟩) 1 1) 1 (tokV tkO) rfl (Pk.row1 HP40.out) _ n (toksV l) rfl (Src.of_hasT (HL.out _ HP40.out.below)) (by unfold maxLen; omega) (by omega) ?_
          intro A3 c3 x41 hrow hgr hob
          have HP41 := hide (Pk.three HP40.out hrow hgr hob)
          clear hrow hgr hob
          go_wp2_with fail
          refine chainF (fun _ => HF0.out _ _ _ _ _ _ HP41.out) (hK _ _ ?_)
          clear hK K
          refine wpTree_step rfl fun K hK => ?_
          refine app_rowz rfl (.tmp 58) (.tmp 60) 22 22 rfl 35 it _ 3 32 Try.underlying22 hit hzt0 hzt1 hzt2 rfl (.slice A3 (1 + n) c3) (1 + n) (toksV (tkO :: l)) rfl (Pk.row58 HP41.out) _ 1 (tokV tkE) rfl (Pk.src5 HP41.out) (by unfold maxLen; omega) (by omega) ?_
          intro A6 c6 x42 hrow hgr hob
          have HP42 := hide (Pk.six HP41.out hrow hgr hob)
          clear hrow hgr hob
          go_wp2_with fail
          refine chainF (fun _ => HF0.out _ _ _ _ _ _ HP42.out) (hK _ _ ?_)
          clear hK K
          refine wpTree_step rfl fun K hK => ?_
          go_wp2_with fail
          refine (HR3.out x42 A6 c6 (Pk.has61 HP42.out HLN.out)).mono ?_
          rintro e x43 ⟨A7, c7, rfl, hv, hb⟩
          have HP43 := hide (Pk.step HP42.out hb)
          have HV43 := hide (hv7 HP42.out hv)
          clear hv hb
          go_wp2_with fail
          refine chainF (fun _ => HF0.out _ _ _ _ _ _ HP43.out) (hK _ _ ?_)
          clear hK K
          refine wpTree_take rfl fun K hK => ?_
          go_simp
          refine ⟨_, fun _ => rfl, hK _ ?_⟩
          clear hK K
          refine wpTree_take rfl fun K hK => ?_
          go_simp
          refine ⟨_, fun _ => rfl, hK _ ?_⟩
          clear hK K
          refine wpTree_take rfl fun K hK => ?_
          go_simp
          refine ⟨_, fun _ => rfl, hK _ ?_⟩
          clear hK K
          refine wpTree_step rfl fun K hK => ?_
          go_wp2_with fail
          refine chainF (fun _ => HF0.out _ _ _ _ _ _ HP43.out) (hK _ _ ?_)
          clear hK K
          refine wpTree_step rfl fun K hK => ?_
          have hfz := (HP43.out.f11 _ rfl).2
          have y0 := cell_block hfz 0
          have y1 := cell_block hfz 1
          simp only [List.getElem?_toArray, List.getElem?_cons_zero, List.getElem?_cons_succ] at y0 y1
          have y2 := frozen_of_row _ x24.heap.size 0 _ _ hfz
          have y3 := frozen_of_row _ x24.heap.size 1 _ _ hfz
          have HZ := hide (fin13 HP43.out HV43.out fa fb)
          clear hfz
          go_wp2_with fail
          refine chainSkip (hK _ _ ?_)
          clear hK K
          refine wpTree_end ?_
          go_wp2_with fail
          go_meet
          exact ⟨A7, c7, x24.heap.size, rfl, rfl, HZ.out⟩
      · go_wp2_with fail
        have HP46 := hide (HP1.out.eleven)
        change chainPost _ _ _ _ _ (x1.alloc cellsZ)
        refine chainF (fun _ => HF0.out _ _ _ _ _ _ HP46.out) (hK _ _ ?_)
        clear hK K
        generalize x1.alloc cellsZ = x46 at *
        refine wpTree_both rfl (fun K hK => ?_) (wpTree_step rfl fun K hK => ?_)
        · refine app_rowz rfl (.tmp 56) (.tmp 57) 22 22 rfl 35 it _ 3 32 Try.underlying22 hit hzt0 hzt1 hzt2 rfl (.slice (some ⟨x0.heap.size, 0, none⟩) 1 1) 1 (tokV tkO) rfl (Pk.row1 HP46.out) _ n (toksV l) rfl (Src.of_hasT (HL.out _ HP46.out.below)) (by unfold maxLen; omega) (by omega) ?_
          intro A3 c3 x47 hrow hgr hob
          have HP47 := hide (Pk.three HP46.out hrow hgr hob)
          clear hrow hgr hob
          go_wp2_with fail
          refine chainF (fun _ => HF0.out _ _ _ _ _ _ HP47.out) (hK _ _ ?_)
          clear hK K
          refine wpTree_step rfl fun K hK => ?_
          go_wp2_with fail
          have HP48 := hide (HP47.out.five)
          change chainPost _ _ _ _ _ (x47.alloc cellsE)
          refine chainF (fun _ => HF0.out _ _ _ _ _ _ HP48.out) (hK _ _ ?_)
          clear hK K
          generalize x47.alloc cellsE = x48 at *
          refine wpTree_step rfl fun K hK => ?_
          refine app_rowz rfl (.tmp 58) (.tmp 60) 22 22 rfl 35 it _ 3 32 Try.underlying22 hit hzt0 hzt1 hzt2 rfl (.slice A3 (1 + n) c3) (1 + n) (toksV (tkO :: l)) rfl (Pk.row58 HP48.out) _ 1 (tokV tkE) rfl (Pk.src5 HP48.out) (by unfold maxLen; omega) (by omega) ?_
          intro A6 c6 x49 hrow hgr hob
          have HP49 := hide (Pk.six HP48.out hrow hgr hob)
          clear hrow hgr hob
          go_wp2_with fail
          refine chainF (fun _ => HF0.out _ _ _ _ _ _ HP49.out) (hK _ _ ?_)
          clear hK K
          refine wpTree_step rfl fun K hK => ?_
          go_wp2_with fail
          refine (HR3.out x49 A6 c6 (Pk.has61 HP49.out HLN.out)).mono ?_
          rintro e x50 ⟨A7, c7, rfl, hv, hb⟩
          have HP50 := hide (Pk.step HP49.out hb)
          have HV50 := hide (hv7 HP49.out hv)
          clear hv hb
          go_wp2_with fail
          refine chainF (fun _ => HF0.out _ _ _ _ _ _ HP50.out) (hK _ _ ?_)
          clear hK K
          refine wpTree_take rfl fun K hK => ?_
          go_simp
          refine ⟨_, fun _ => rfl, hK _ ?_⟩
          clear hK K
          refine wpTree_take rfl fun K hK => ?_
          go_simp
          refine ⟨_, fun _ => rfl, hK _ ?_⟩
          clear hK K
          refine wpTree_take rfl fun K hK => ?_
          go_simp
          refine ⟨_, fun _ => rfl, hK _ ?_⟩
          clear hK K
          refine wpTree_step rfl fun K hK => ?_
          go_wp2_with fail
          refine chainF (fun _ => HF0.out _ _ _ _ _ _ HP50.out) (hK _ _ ?_)
          clear hK K
          refine wpTree_step rfl fun K hK => ?_
          have hfz := (HP50.out.f11 _ rfl).2
          have y0 := cell_block hfz 0
          have y1 := cell_block hfz 1
          simp only [List.getElem?_toArray, List.getElem?_cons_zero, List.getElem?_cons_succ] at y0 y1
          have y2 := frozen_of_row _ x1.heap.size 0 _ _ hfz
          have y3 := frozen_of_row _ x1.heap.size 1 _ _ hfz
          have HZ := hide (fin13 HP50.out HV50.out fa fb)
          clear hfz
          go_wp2_with fail
          refine chainSkip (hK _ _ ?_)
          clear hK K
          refine wpTree_end ?_
          go_wp2_with fail
          go_meet
          exact ⟨A7, c7, x1.heap.size, rfl, rfl, HZ.out⟩
        · go_wp2_with fail
          have HP53 := hide (HP46.out.five)
          change chainPost _ _ _ _ _ (x46.alloc cellsE)
          refine chainF (fun _ => HF0.out _ _ _ _ _ _ HP53.out) (hK _ _ ?_)
          clear hK K
          generalize x46.alloc cellsE = x53 at *
          refine wpTree_step rfl fun K hK => ?_
          refine app_rowz rfl (.tmp 56) (.tmp 57) 22 22 rfl 35 it _ 3 32 Try.underlying22 hit hzt0 hzt1 hzt2 rfl (.slice (some ⟨x0.heap.size, 0, none⟩) 1 1) 1 (tokV tkO) rfl (Pk.row1 HP53.out) _ n (toksV l) rfl (Src.of_hasT (HL.out _ HP53.out.below)) (by unfold maxLen; omega) (by omega) ?_
          intro A3 c3 x54 hrow hgr hob
          have HP54 := hide (Pk.three HP53.out hrow hgr hob)
          clear hrow hgr hob
          go_wp2_with fail
          refine chainF (fun _ => HF0.out _ _ _ _ _ _ HP54.out) (hK _ _ ?_)
          clear hK K
          refine wpTree_step rfl fun K hK => ?_
          refine app_rowz rfl (.tmp 58) (.tmp 60) 22 22 rfl 35 it _ 3 32 Try.underlying22 hit hzt0 hzt1 hzt2 rfl (.slice A3 (1 + n) c3) (1 + n) (toksV (tkO :: l)) rfl (Pk.row58 HP54.out) _ 1 (tokV tkE) rfl (Pk.src5 HP54.out) (by unfold maxLen; omega) (by omega) ?_
          intro A6 c6 x55 hrow hgr hob
          have HP55 := hide (Pk.six HP54.out hrow hgr hob)
          clear hrow hgr hob
          go_wp2_with fail
          refine chainF (fun _ => HF0.out _ _ _ _ _ _ HP55.out) (hK _ _ ?_)
          clear hK K
          refine wpTree_step rfl fun K hK => ?_
          go_wp2_with fail
          refine (HR3.out x55 A6 c6 (Pk.has61 HP55.out HLN.out)).mono ?_
          rintro e x56 ⟨A7, c7, rfl, hv, hb⟩
          have HP56 := hide (Pk.step HP55.out hb)
          have HV56 := hide (hv7 HP55.out hv)
          clear hv hb
          go_wp2_with fail
          refine chainF (fun _ => HF0.out _ _ _ _ _ _ HP56.out) (hK _ _ ?_)
          clear hK K
          refine wpTree_take rfl fun K hK => ?_
          go_simp
          refine ⟨_, fun _ => rfl, hK _ ?_⟩
          clear hK K
          refine wpTree_take rfl fun K hK => ?_
          go_simp
          refine ⟨_, fun _ => rfl, hK _ ?_⟩
          clear hK K
          refine wpTree_take rfl fun K hK => ?_
          go_simp
          refine ⟨_, fun _ => rfl, hK _ ?_⟩
          clear hK K
          refine wpTree_step rfl fun K hK => ?_
          go_wp2_with fail
          refine chainF (fun _ => HF0.out _ _ _ _ _ _ HP56.out) (hK _ _ ?_)
          clear hK K
          refine wpTree_step rfl fun K hK => ?_
          have hfz := (HP56.out.f11 _ rfl).2
          have y0 := cell_block hfz 0
          have y1 := cell_block hfz 1
          simp only [List.getElem?_toArray, List.getElem?_cons_zero, List.getElem?_cons_succ] at y0 y1
          have y2 := frozen_of_row _ x1.heap.size 0 _ _ hfz
          have y3 := frozen_of_row _ x1.heap.size 1 _ _ hfz
          have HZ := hide (fin13 HP56.out HV56.out fa fb)
          clear hfz
          go_wp2_with fail
          refine chainSkip (hK _ _ ?_)
          clear hK K
          refine wpTree_end ?_
          go_wp2_with fail
          go_meet
          exact ⟨A7, c7, x1.heap.size, rfl, rfl, HZ.out⟩
    · go_wp2_with fail
      have HP59 := hide (HP0.out.five)
      change chainPost _ _ _ _ _ (x0.alloc cellsE)
      refine chainF (fun _ => HF0.out _ _ _ _ _ _ HP59.out) (hK _ _ ?_)
      clear hK K
      generalize x0.alloc cellsE = x59 at *
      refine wpTree_both rfl (fun K hK => ?_) (wpTree_step rfl fun K hK => ?_)
      · go_wp2_with fail
        have HP60 := hide (HP59.out.one)
        change chainPost _ _ _ _ _ (x59.alloc cellsO)
        refine chainF (fun _ => HF0.out _ _ _ _ _ _ HP60.out) (hK _ _ ?_)
        clear hK K
        generalize x59.alloc cellsO = x60 at *
        refine wpTree_both rfl (fun K hK => ?_) (wpTree_step rfl fun K hK => ?_)
        · refine app_rowz rfl (.tmp 56) (.tmp 57) 22 22 rfl 35 it _ 3 32 Try.underlying22 hit hzt0 hzt1 hzt2 rfl (.slice (some ⟨x59.heap.size, 0, none⟩) 1 1) 1 (tokV tkO) rfl (Pk.row1 HP60.out) _ n (toksV l) rfl (Src.of_hasT (HL.out _ HP60.out.below)) (by unfold maxLen; omega) (by omega) ?_
          intro A3 c3 x61 hrow hgr hob
          have HP61 := hide (Pk.three HP60.out hrow hgr hob)
          clear hrow hgr hob
          go_wp2_with fail
          refine chainF (fun _ => HF0.out _ _ _ _ _ _ HP61.out) (hK _ _ ?_)
          clear hK K
          refine wpTree_both rfl (fun K hK => ?_) (wpTree_step rfl fun K hK => ?_)
          · refine app_rowz rfl (.tmp 58) (.tmp 60) 22 22 rfl 35 it _ 3 32 Try.underlying22 hit hzt0 hzt1 hzt2 rfl (.slice A3 (1 + n) c3) (1 + n) (toksV (tkO :: l)) rfl (Pk.row58 HP61.out) _ 1 (tokV tkE) rfl (Pk.src5 HP61.out) (by unfold maxLen; omega) (by omega) ?_
            intro A6 c6 x62 hrow hgr hob
            have HP62 := hide (Pk.six HP61.out hrow hgr hob)
            clear hrow hgr hob
            go_wp2_with fail
            refine chainF (fun _ => HF0.out _ _ _ _ _ _ HP62.out) (hK _ _ ?_)
            clear hK K
            refine wpTree_both rfl (fun K hK => ?_) (wpTree_step rfl fun K hK => ?_)
            · go_wp2_with fail
              refine (HR3.out x62 A6 c6 (Pk.has61 HP62.out HLN.out)).mono ?_
              rintro e x63 ⟨A7, c7, rfl, hv, hb⟩
              have HP63 := hide (Pk.step HP62.out hb)
              have HV63 := hide (hv7 HP62.out hv)
              clear hv hb
              go_wp2_with fail
              refine chainF (fun _ => HF0.out _ _ _ _ _ _ HP63.out) (hK _ _ ?_)
              clear hK K
              refine wpTree_take rfl fun K hK => ?_
              go_simp
              refine ⟨_, fun _ => rfl, hK _ ?_⟩
              clear hK K
              refine wpTree_take rfl fun K hK => ?_
              go_simp
              refine ⟨_, fun _ => rfl, hK _ ?_⟩
              clear hK K
              refine wpTree_take rfl fun K hK => ?_
              go_simp
              refine ⟨_, fun _ => rfl, hK _ ?_⟩
              clear hK K
              refine wpTree_step rfl fun K hK => ?_
              go_wp2_with fail
              have HP64 := hide (HP63.out.eleven)
              have HV64 := hide (hv11 HV63.out cellsZ)
              change chainPost _ _ _ _ _ (x63.alloc cellsZ)
              refine chainF (fun _ => HF0.out _ _ _ _ _ _ HP64.out) (hK _ _ ?_)
              clear hK K
              generalize x63.alloc cellsZ = x64 at *
              refine wpTree_step rfl fun K hK => ?_
              go_wp2_with fail
              refine chainF (fun _ => HF0.out _ _ _ _ _ _ HP64.out) (hK _ _ ?_)
              clear hK K
              refine wpTree_step rfl fun K hK => ?_
              have hfz := (HP64.out.f11 _ rfl).2
              have y0 := cell_block hfz 0
              have y1 := cell_block hfz 1
              simp only [List.getElem?_toArray, List.getElem?_cons_zero, List.getElem?_cons_succ] at y0 y1
              have y2 := frozen_of_row _ x63.heap.size 0 _ _ hfz
              have y3 := frozen_of_row _ x63.heap.size 1 _ _ hfz
              have HZ := hide (fin13 HP64.out HV64.out fa fb)
              clear hfz
              go_wp2_with fail
              refine chainSkip (hK _ _ ?_)
              clear hK K
              refine wpTree_end ?_
              go_wp2_with fail
              go_meet
              exact ⟨A7, c7, x63.heap.size, rfl, rfl, HZ.out⟩
            · go_wp2_with fail
              have HP67 := hide (HP62.out.eleven)
              change chainPost _ _ _ _ _ (x62.alloc cellsZ)
              refine chainF (fun _ => HF0.out _ _ _ _ _ _ HP67.out) (hK _ _ ?_)
              clear hK K
              generalize x62.alloc cellsZ = x67 at *
              refine wpTree_step rfl fun K hK => ?_
              go_wp2_with fail
              refine (HR3.out x67 A6 c6 (Pk.has61 HP67.out HLN.out)).mono ?_
              rintro e x68 ⟨A7, c7, rfl, hv, hb⟩
              have HP68 := hide (Pk.step HP67.out hb)
              have HV68 := hide (hv7 HP67.out hv)
              clear hv hb
              go_wp2_with fail
              refine chainF (fun _ => HF0.out _ _ _ _ _ _ HP68.out) (hK _ _ ?_)
              clear hK K
              refine wpTree_take rfl fun K hK => ?_
              go_simp
              refine ⟨_, fun _ => rfl, hK _ ?_⟩
              clear hK K
              refine wpTree_take rfl fun K hK => ?_
              go_simp
              refine ⟨_, fun _ => rfl, hK _ ?_⟩
              clear hK K
              refine wpTree_take rfl fun K hK => ?_
              go_simp
              refine ⟨_, fun _ => rfl, hK _ ?_⟩
              clear hK K
              refine wpTree_step rfl fun K hK => ?_
              go_wp2_with fail
              refine chainF (fun _ => HF0.out _ _ _ _ _ _ HP68.out) (hK _ _ ?_)
              clear hK K
              refine wpTree_step rfl fun K hK => ?_
              have hfz := (HP68.out.f11 _ rfl).2
              have y0 := cell_block hfz 0
              have y1 := cell_block hfz 1
              simp only [List.getElem?_toArray, List.getElem?_cons_zero, List.getElem?_cons_succ] at y0 y1
              have y2 := frozen_of_row _ x62.heap.size 0 _ _ hfz
              have y3 := frozen_of_row _ x62.heap.size 1 _ _ hfz
              have HZ := hide (fin13 HP68.out HV68.out fa fb)
              clear hfz
              go_wp2_with fail
              refine chainSkip (hK _ _ ?_)
              clear hK K
              refine wpTree_end ?_
              go_wp2_with fail
              go_meet
              exact ⟨A7, c7, x62.heap.size, rfl, rfl, HZ.out⟩
          · go_wp2_with fail
            have HP71 := hide (HP61.out.eleven)
            change chainPost _ _ _ _ _ (x61.alloc cellsZ)
            refine chainF (fun _ => HF0.out _ _ _ _ _ _ HP71.out) (hK _ _ ?_)
            clear hK K
            generalize x61.alloc cellsZ = x71 at *
            refine wpTree_step rfl fun K hK => ?_
            refine app_rowz rfl (.tmp 58) (.tmp 60) 22 22 rfl 35 it _ 3 32 Try.underlying22 hit hzt0 hzt1 hzt2 rfl (.slice A3 (1 + n) c3) (1 + n) (toksV (tkO :: l)) rfl (Pk.row58 HP71.out) _ 1 (tokV tkE) rfl (Pk.src5 HP71.out) (by unfold maxLen; omega) (by omega) ?_
            intro A6 c6 x72 hrow hgr hob
            have HP72 := hide (Pk.six HP71.out hrow hgr hob)
            clear hrow hgr hob
            go_wp2_with fail
            refine chainF (fun _ => HF0.out _ _ _ _ _ _ HP72.out) (hK _ _ ?_)
            clear hK K
            refine wpTree_step rfl fun K hK => ?_
            go_wp2_with fail
            refine (HR3.out x72 A6 c6 (Pk.has61 HP72.out HLN.out)).mono ?_
            rintro e x73 ⟨A7, c7, rfl, hv, hb⟩
            have HP73 := hide (Pk.step HP72.out hb)
            have HV73 := hide (hv7 HP72.out hv)
            clear hv hb
            go_wp2_with fail
            refine chainF (fun _ => HF0.out _ _ _ _ _ _ HP73.out) (hK _ _ ?_)
            clear hK K
            refine wpTree_take rfl fun K hK => ?_
            go_simp
            refine ⟨_, fun _ => rfl, hK _ ?_⟩
            clear hK K
            refine wpTree_take rfl fun K hK => ?_
            go_simp
            refine ⟨_, fun _ => rfl, hK _ ?_⟩
            clear hK K
            refine wpTree_take rfl fun K hK => ?_
            go_simp
            refine ⟨_, fun _ => rfl, hK _ ?_⟩
            clear hK K
            refine wpTree_step rfl fun K hK => ?_
            go_wp2_with fail
            refine chainF (fun _ => HF0.out _ _ _ _ _ _ HP73.out) (hK _ _ ?_)
            clear hK K
            refine wpTree_step rfl fun K hK => ?_
            have hfz := (HP73.out.f11 _ rfl).2
            have y0 := cell_block hfz 0
            have y1 := cell_block hfz 1
            simp only [List.getElem?_toArray, List.getElem?_cons_zero, List.getElem?_cons_succ] at y0 y1
            have y2 := frozen_of_row _ x61.heap.size 0 _ _ hfz
            have y3 := frozen_of_row _ x61.heap.size 1 _ _ hfz
            have HZ := hide (fin13 HP73.out HV73.out fa fb)
            clear hfz
            go_wp2_with fail
            refine chainSkip (hK _ _ ?_)
            clear hK K
            refine wpTree_end ?_
            go_wp2_with fail
            go_meet
            exact ⟨A7, c7, x61.heap.size, rfl, rfl, HZ.out⟩
        · go_wp2_with fail
          have HP76 := hide (HP60.out.eleven)
          change chainPost _ _ _ _ _ (x60.alloc cellsZ)
          refine chainF (fun _ => HF0.out _ _ _ _ _ _ HP76.out) (hK _ _ ?_)
          clear hK K
          generalize x60.alloc cellsZ = x76 at *
          refine wpTree_step rfl fun K hK => ?_
          refine app_rowz rfl (.tmp 56) (.tmp 57) 22 22 rfl 35 it _ 3 32 Try.underlying22 hit hzt0 hzt1 hzt2 rfl (.slice (some ⟨x59.heap.size, 0, none⟩) 1 1) 1 (tokV tkO) rfl (Pk.row1 HP76.out) _ n (toksV l) rfl (Src.of_hasT (HL.out _ HP76.out.below)) (by unfold maxLen; omega) (by omega) ?_
          intro A3 c3 x77 hrow hgr hob
          have HP77 := hide (Pk.three HP76.out hrow hgr hob)
          clear hrow hgr hob
          go_wp2_with fail
          refine chainF (fun _ => HF0.out _ _ _ _ _ _ HP77.out) (hK _ _ ?_)
          clear hK K
          refine wpTree_step rfl fun K hK => ?_
          refine app_rowz rfl (.tmp 58) (.tmp 60) 22 22 rfl 35 it _ 3 32 Try.underlying22 hit hzt0 hzt1 hzt2 rfl (.slice A3 (1 + n) c3) (1 + n) (toksV (tkO :: l)) rfl (Pk.row58 HP77.out) _ 1 (tokV tkE) rfl (Pk.src5 HP77.out) (by unfold maxLen; omega) (by omega) ?_
          intro A6 c6 x78 hrow hgr hob
          have HP78 := hide (Pk.six HP77.out hrow hgr hob)
          clear hrow hgr hob
          go_wp2_with fail
          refine chainF (fun _ => HF0.out _ _ _ _ _ _ HP78.out) (hK _ _ ?_)
          clear hK K
          refine wpTree_step rfl fun K hK => ?_
          go_wp2_with fail
          refine (HR3.out x78 A6 c6 (Pk.has61 HP78.out HLN.out)).mono ?_
          rintro e x79 ⟨A7, c7, rfl, hv, hb⟩
          have HP79 := hide (Pk.step HP78.out hb)
          have HV79 := hide (hv7 HP78.out hv)
          clear hv hb
          go_wp2_with fail
          refine chainF (fun _ => HF0.out _ _ _ _ _ _ HP79.out) (hK _ _ ?_)
          clear hK K
          refine wpTree_take rfl fun K hK => ?_
          go_simp
          refine ⟨_, fun _ => rfl, hK _ ?_⟩
          clear hK K
          refine wpTree_take rfl fun K hK => ?_
          go_simp
          refine ⟨_, fun _ => rfl, hK _ ?_⟩
          clear hK K
          refine wpTree_take rfl fun K hK => ?_
          go_simp
          refine ⟨_, fun _ => rfl, hK _ ?_⟩
          clear hK K
          refine wpTree_step rfl fun K hK => ?_
          go_wp2_with fail
          refine chainF (fun _ => HF0.out _ _ _ _ _ _ HP79.out) (hK _ _ ?_)
          clear hK K
          refine wpTree_step rfl fun K hK => ?_
          have hfz := (HP79.out.f11 _ rfl).2
          have y0 := cell_block hfz 0
          have y1 := cell_block hfz 1
          simp only [List.getElem?_toArray, List.getElem?_cons_zero, List.getElem?_cons_succ] at y0 y1
          have y2 := frozen_of_row _ x60.heap.size 0 _ _ hfz
          have y3 := frozen_of_row _ x60.heap.size 1 _ _ hfz
          have HZ := hide (fin13 HP79.out HV79.out fa fb)
          clear hfz
          go_wp2_with fail
          refine chainSkip (hK _ _ ?_)
          clear hK K
          refine wpTree_end ?_
          go_wp2_with fail
          go_meet
          exact ⟨A7, c7, x60.heap.size, rfl, rfl, HZ.out⟩
      · go_wp2_with fail
        have HP82 := hide (HP59.out.eleven)
        change chainPost _ _ _ _ _ (x59.alloc cellsZ)
        refine chainF (fun _ => HF0.out _ _ _ _ _ _ HP82.out) (hK _ _ ?_)
        clear hK K
        generalize x59.alloc cellsZ = x82 at *
        refine wpTree_step rfl fun K hK => ?_
        go_wp2_with fail
        have HP83 := hide (HP82.out.one)
        change chainPost _ _ _ _ _ (x82.alloc cellsO)
        refine chainF (fun _ => HF0.out _ _ _ _ _ _ HP83.out) (hK _ _ ?_)
        clear hK K
        generalize x82.alloc cellsO = x83 at *
        refine wpTree_step rfl fun K hK => ?_
        refine app_rowz rfl (.tmp 56) (.tmp 57) 22 22 rfl 35 it _ 3 32 Try.underlying22 hit hzt0 hzt1 hzt2 rfl (.slice (some ⟨x82.heap.size, 0, none⟩) 1 1) 1 (tokV tkO) rfl (Pk.row1 HP83.out) _ n (toksV l) rfl (Src.of_hasT (HL.out _ HP83.out.below)) (by unfold maxLen; omega) (by omega) ?_
        intro A3 c3 x84 hrow hgr hob
        have HP84 := hide (Pk.three HP83.out hrow hgr hob)
        clear hrow hgr hob
        go_wp2_with fail
        refine chainF (fun _ => HF0.out _ _ _ _ _ _ HP84.out) (hK _ _ ?_)
        clear hK K
        refine wpTree_step rfl fun K hK => ?_
        refine app_rowz rfl (.tmp 58) (.tmp 60) 22 22 rfl 35 it _ 3 32 Try.underlying22 hit hzt0 hzt1 hzt2 rfl (.slice A3 (1 + n) c3) (1 + n) (toksV (tkO :: l)) rfl (Pk.row58 HP84.out) _ 1 (tokV tkE) rfl (Pk.src5 HP84.out) (by unfold maxLen; omega) (by omega) ?_
        intro A6 c6 x85 hrow hgr hob
        have HP85 := hide (Pk.six HP84.out hrow hgr hob)
        clear hrow hgr hob
        go_wp2_with fail
        refine chainF (fun _ => HF0.out _ _ _ _ _ _ HP85.out) (hK _ _ ?_)
        clear hK K
        refine wpTree_step rfl fun K hK => ?_
        go_wp2_with fail
        refine (HR3.out x85 A6 c6 (Pk.has61 HP85.out HLN.out)).mono ?_
        rintro e x86 ⟨A7, c7, rfl, hv, hb⟩
        have HP86 := hide (Pk.step HP85.out hb)
        have HV86 := hide (hv7 HP85.out hv)
        clear hv hb
        go_wp2_with fail
        refine chainF (fun _ => HF0.out _ _ _ _ _ _ HP86.out) (hK _ _ ?_)
        clear hK K
        refine wpTree_take rfl fun K hK => ?_
        go_simp
        refine ⟨_, fun _ => rfl, hK _ ?_⟩
        clear hK K
        refine wpTree_take rfl fun K hK => ?_
        go_simp
        refine ⟨_, fun _ => rfl, hK _ ?_⟩
        clear hK K
        refine wpTree_take rfl fun K hK => ?_
        go_simp
        refine ⟨_, fun _ => rfl, hK _ ?_⟩
        clear hK K
        refine wpTree_step rfl fun K hK => ?_
        go_wp2_with fail
        refine chainF (fun _ => HF0.out _ _ _ _ _ _ HP86.out) (hK _ _ ?_)
        clear hK K
        refine wpTree_step rfl fun K hK => ?_
        have hfz := (HP86.out.f11 _ rfl).2
        have y0 := cell_block hfz 0
        have y1 := cell_block hfz 1
        simp only [List.getElem?_toArray, List.getElem?_cons_zero, List.getElem?_cons_succ] at y0 y1
        have y2 := frozen_of_row _ x59.heap.size 0 _ _ hfz
        have y3 := frozen_of_row _ x59.heap.size 1 _ _ hfz
        have HZ := hide (fin13 HP86.out HV86.out fa fb)
        clear hfz
        go_wp2_with fail
        refine chainSkip (hK _ _ ?_)
        clear hK K
        refine wpTree_end ?_
        go_wp2_with fail
        go_meet
        exact ⟨A7, c7, x59.heap.size, rfl, rfl, HZ.out⟩
    · go_wp2_with fail
      have HP89 := hide (HP0.out.eleven)
      change chainPost _ _ _ _ _ (x0.alloc cellsZ)
      refine chainF (fun _ => HF0.out _ _ _ _ _ _ HP89.out) (hK _ _ ?_)
      clear hK K
      generalize x0.alloc cellsZ = x89 at *
      refine wpTree_both rfl (fun K hK => ?_) (wpTree_step rfl fun K hK => ?_)
      · go_wp2_with fail
        have HP90 := hide (HP89.out.one)
        change chainPost _ _ _ _ _ (x89.alloc cellsO)
        refine chainF (fun _ => HF0.out _ _ _ _ _ _ HP90.out) (hK _ _ ?_)
        clear hK K
        generalize x89.alloc cellsO = x90 at *
        refine wpTree_both rfl (fun K hK => ?_) (wpTree_step rfl fun K hK => ?_)
        · refine app_rowz rfl (.tmp 56) (.tmp 57) 22 22 rfl 35 it _ 3 32 Try.underlying22 hit hzt0 hzt1 hzt2 rfl (.slice (some ⟨x89.heap.size, 0, none⟩) 1 1) 1 (tokV tkO) rfl (Pk.row1 HP90.out) _ n (toksV l) rfl (Src.of_hasT (HL.out _ HP90.out.below)) (by unfold maxLen; omega) (by omega) ?_
          intro A3 c3 x91 hrow hgr hob
          have HP91 := hide (Pk.three HP90.out hrow hgr hob)
          clear hrow hgr hob
          go_wp2_with fail
          refine chainF (fun _ => HF0.out _ _ _ _ _ _ HP91.out) (hK _ _ ?_)
          clear hK K
          refine wpTree_step rfl fun K hK => ?_
          go_wp2_with fail
          have HP92 := hide (HP91.out.five)
          change chainPost _ _ _ _ _ (x91.alloc cellsE)
          refine chainF (fun _ => HF0.out _ _ _ _ _ _ HP92.out) (hK _ _ ?_)
          clear hK K
          generalize x91.alloc cellsE = x92 at *
          refine wpTree_step rfl fun K hK => ?_
          refine app_rowz rfl (.tmp 58) (.tmp 60) 22 22 rfl 35 it _ 3 32 Try.underlying22 hit hzt0 hzt1 hzt2 rfl (.slice A3 (1 + n) c3) (1 + n) (toksV (tkO :: l)) rfl (Pk.row58 HP92.out) _ 1 (tokV tkE) rfl (Pk.src5 HP92.out) (by unfold maxLen; omega) (by omega) ?_
          intro A6 c6 x93 hrow hgr hob
          have HP93 := hide (Pk.six HP92.out hrow hgr hob)
          clear hrow hgr hob
          go_wp2_with fail
          refine chainF (fun _ => HF0.out _ _ _ _ _ _ HP93.out) (hK _ _ ?_)
          clear hK K
          refine wpTree_step rfl fun K hK => ?_
          go_wp2_with fail
          refine (HR3.out x93 A6 c6 (Pk.has61 HP93.out HLN.out)).mono ?_
          rintro e x94 ⟨A7, c7, rfl, hv, hb⟩
          have HP94 := hide (Pk.step HP93.out hb)
          have HV94 := hide (hv7 HP93.out hv)
          clear hv hb
          go_wp2_with fail
          refine chainF (fun _ => HF0.out _ _ _ _ _ _ HP94.out) (hK _ _ ?_)
          clear hK K
          refine wpTree_take rfl fun K hK => ?_
          go_simp
          refine ⟨_, fun _ => rfl, hK _ ?_⟩
          clear hK K
          refine wpTree_take rfl fun K hK => ?_
          go_simp
          refine ⟨_, fun _ => rfl, hK _ ?_⟩
          clear hK K
          refine wpTree_take rfl fun K hK => ?_
          go_simp
          refine ⟨_, fun _ => rfl, hK _ ?_⟩
          clear hK K
          refine wpTree_step rfl fun K hK => ?_
          go_wp2_with fail
          refine chainF (fun _ => HF0.out _ _ _ _ _ _ HP94.out) (hK _ _ ?_)
          clear hK K
          refine wpTree_step rfl fun K hK => ?_
          have hfz := (HP94.out.f11 _ rfl).2
          have y0 := cell_block hfz 0
          have y1 := cell_block hfz 1
          simp only [List.getElem?_toArray, List.getElem?_cons_zero, List.getElem?_cons_succ] at y0 y1
          have y2 := frozen_of_row _ x0.heap.size 0 _ _ hfz
          have y3 := frozen_of_row _ x0.heap.size 1 _ _ hfz
          have HZ := hide (fin13 HP94.out HV94.out fa fb)
          clear hfz
          go_wp2_with fail
          refine chainSkip (hK _ _ ?_)
          clear hK K
          refine wpTree_end ?_
          go_wp2_with fail
          go_meet
          exact ⟨A7, c7, x0.heap.size, rfl, rfl, HZ.out⟩
        · go_wp2_with fail
          have HP97 := hide (HP90.out.five)
          change chainPost _ _ _ _ _ (x90.alloc cellsE)
          refine chainF (fun _ => HF0.out _ _ _ _ _ _ HP97.out) (hK _ _ ?_)
          clear hK K
          generalize x90.alloc cellsE = x97 at *
          refine wpTree_step rfl fun K hK => ?_
          refine app_rowz rfl (.tmp 56) (.tmp 57) 22 22 rfl 35 it _ 3 32 Try.underlying22 hit hzt0 hzt1 hzt2 rfl (.slice (some ⟨x89.heap.size, 0, none⟩) 1 1) 1 (tokV tkO) rfl (Pk.row1 HP97.out) _ n (toksV l) rfl (Src.of_hasT (HL.out _ HP97.out.below)) (by unfold maxLen; omega) (by omega) ?_
          intro A3 c3 x98 hrow hgr hob
          have HP98 := hide (Pk.three HP97.out hrow hgr hob)
          clear hrow hgr hob
          go_wp2_with fail
          refine chainF (fun _ => HF0.out _ _ _ _ _ _ HP98.out) (hK _ _ ?_)
          clear hK K
          refine wpTree_step rfl fun K hK => ?_
          refine app_rowz rfl (.tmp 58) (.tmp 60) 22 22 rfl 35 it _ 3 32 Try.underlying22 hit hzt0 hzt1 hzt2 rfl (.slice A3 (1 + n) c3) (1 + n) (toksV (tkO :: l)) rfl (Pk.row58 HP98.out) _ 1 (tokV tkE) rfl (Pk.src5 HP98.out) (by unfold maxLen; omega) (by omega) ?_
          intro A6 c6 x99 hrow hgr hob
          have HP99 := hide (Pk.six HP98.out hrow hgr hob)
          clear hrow hgr hob
          go_wp2_with fail
          refine chainF (fun _ => HF0.out _ _ _ _ _ _ HP99.out) (hK _ _ ?_)
          clear hK K
          refine wpTree_step rfl fun K hK => ?_
          go_wp2_with fail
          refine (HR3.out x99 A6 c6 (Pk.has61 HP99.out HLN.out)).mono ?_
          rintro e x100 ⟨A7, c7, rfl, hv, hb⟩
          have HP100 := hide (Pk.step HP99.out hb)
          have HV100 := hide (hv7 HP99.out hv)
          clear hv hb
          go_wp2_with fail
          refine chainF (fun _ => HF0.out _ _ _ _ _ _ HP100.out) (hK _ _ ?_)
          clear hK K
          refine wpTree_take rfl fun K hK => ?_
          go_simp
          refine ⟨_, fun _ => rfl, hK _ ?_⟩
          clear hK K
          refine wpTree_take rfl fun K hK => ?_
          go_simp
          refine ⟨_, fun _ => rfl, hK _ ?_⟩
          clear hK K
          refine wpTree_take rfl fun K hK => ?_
          go_simp
          refine ⟨_, fun _ => rfl, hK _ ?_⟩
          clear hK K
          refine wpTree_step rfl fun K hK => ?_
          go_wp2_with fail
          refine chainF (fun _ => HF0.out _ _ _ _ _ _ HP100.out) (hK _ _ ?_)
          clear hK K
          refine wpTree_step rfl fun K hK => ?_
          have hfz := (HP100.out.f11 _ rfl).2
          have y0 := cell_block hfz 0
          have y1 := cell_block hfz 1
          simp only [List.getElem?_toArray, List.getElem?_cons_zero, List.getElem?_cons_succ] at y0 y1
          have y2 := frozen_of_row _ x0.heap.size 0 _ _ hfz
          have y3 := frozen_of_row _ x0.heap.size 1 _ _ hfz
          have HZ := hide (fin13 HP100.out HV100.out fa fb)
          clear hfz
          go_wp2_with fail
          refine chainSkip (hK _ _ ?_)
          clear hK K
          refine wpTree_end ?_
          go_wp2_with fail
          go_meet
          exact ⟨A7, c7, x0.heap.size, rfl, rfl, HZ.out⟩
      · go_wp2_with fail
        have HP103 := hide (HP89.out.five)
        change chainPost _ _ _ _ _ (x89.alloc cellsE)
        refine chainF (fun _ => HF0.out _ _ _ _ _ _ HP103.out) (hK _ _ ?_)
        clear hK K
        generalize x89.alloc cellsE = x103 at *
        refine wpTree_step rfl fun K hK => ?_
        go_wp2_with fail
        have HP104 := hide (HP103.out.one)
        change chainPost _ _ _ _ _ (x103.alloc cellsO)
        refine chainF (fun _ => HF0.out _ _ _ _ _ _ HP104.out) (hK _ _ ?_)
        clear hK K
        generalize x103.alloc cellsO = x104 at *
        refine wpTree_step rfl fun K hK => ?_
        refine app_rowz rfl (.tmp 56) (.tmp 57) 22 22 rfl 35 it _ 3 32 Try.underlying22 hit hzt0 hzt1 hzt2 rfl (.slice (some ⟨x103.heap.size, 0, none⟩) 1 1) 1 (tokV tkO) rfl (Pk.row1 HP104.out) _ n (toksV l) rfl (Src.of_hasT (HL.out _ HP104.out.below)) (by unfold maxLen; omega) (by omega) ?_
        intro A3 c3 x105 hrow hgr hob
        have HP105 := hide (Pk.three HP104.out hrow hgr hob)
        clear hrow hgr hob
        go_wp2_with fail
        refine chainF (fun _ => HF0.out _ _ _ _ _ _ HP105.out) (hK _ _ ?_)
        clear hK K
        refine wpTree_step rfl fun K hK => ?_
        refine app_rowz rfl (.tmp 58) (.tmp 60) 22 22 rfl 35 it _ 3 32 Try.underlying22 hit hzt0 hzt1 hzt2 rfl (.slice A3 (1 + n) c3) (1 + n) (toksV (tkO :: l)) rfl (Pk.row58 HP105.out) _ 1 (tokV tkE) rfl (Pk.src5 HP105.out) (by unfold maxLen; omega) (by omega) ?_
        intro A6 c6 x106 hrow hgr hob
        have HP106 := hide (Pk.six HP105.out hrow hgr hob)
        clear hrow hgr hob
        go_wp2_with fail
        refine chainF (fun _ => HF0.out _ _ _ _ _ _ HP106.out) (hK _ _ ?_)
        clear hK K
        refine wpTree_step rfl fun K hK => ?_
        go_wp2_with fail
        refine (HR3.out x106 A6 c6 (Pk.has61 HP106.out HLN.out)).mono ?_
        rintro e x107 ⟨A7, c7, rfl, hv, hb⟩
        have HP107 := hide (Pk.step HP106.out hb)
        have HV107 := hide (hv7 HP106.out hv)
        clear hv hb
        go_wp2_with fail
        refine chainF (fun _ => HF0.out _ _ _ _ _ _ HP107.out) (hK _ _ ?_)
        clear hK K
        refine wpTree_take rfl fun K hK => ?_
        go_simp
        refine ⟨_, fun _ => rfl, hK _ ?_⟩
        clear hK K
        refine wpTree_take rfl fun K hK => ?_
        go_simp
        refine ⟨_, fun _ => rfl, hK _ ?_⟩
        clear hK K
        refine wpTree_take rfl fun K hK => ?_
        go_simp
        refine ⟨_, fun _ => rfl, hK _ ?_⟩
        clear hK K
        refine wpTree_step rfl fun K hK => ?_
        go_wp2_with fail
        refine chainF (fun _ => HF0.out _ _ _ _ _ _ HP107.out) (hK _ _ ?_)
        clear hK K
        refine wpTree_step rfl fun K hK => ?_
        have hfz := (HP107.out.f11 _ rfl).2
        have y0 := cell_block hfz 0
        have y1 := cell_block hfz 1
        simp only [List.getElem?_toArray, List.getElem?_cons_zero, List.getElem?_cons_succ] at y0 y1
        have y2 := frozen_of_row _ x0.heap.size 0 _ _ hfz
        have y3 := frozen_of_row _ x0.heap.size 1 _ _ hfz
        have HZ := hide (fin13 HP107.out HV107.out fa fb)
        clear hfz
        go_wp2_with fail
        refine chainSkip (hK _ _ ?_)
        clear hK K
        refine wpTree_end ?_
        go_wp2_with fail
        go_meet
        exact ⟨A7, c7, x0.heap.size, rfl, rfl, HZ.out⟩
  case rest =>
    obtain ⟨A7, c7, b11, rfl, rfl, hb11, hf11, hh7, hbwc⟩ := hcut
    have hsV := HV.out.2.2.size
    have HX := hide (And.intro hb11 (And.intro hf11 (And.intro hh7 hbwc)))
    have HO := hide (show wc.heap[W2.heap.size]? = some cellsO from (hbwc.block _ (blk_lt HV.out.1)).trans HV.out.1)
    have hbW := HV.out.2.2.trans (hbwc.mono hsV)
    have HA := hide (And.intro (H2.out.1.below hbW) (And.intro (H2.out.2.1.below hbW) (And.intro (H2.out.2.2.trans (hbW.mono H2.out.2.2.size)) (Nat.le_trans hsV hbwc.size))))
    clear hb11 hf11 hh7 hbwc hbW hs1 hs2 hsV g1 g2
    go_wp2_with fail
    refine (tdepth_any (a.size + 1) a a.len ca W2.heap.size Aa wc (by omega) (by omega) HA.out.1 HA.out.2.2.2).mono ?_
    rintro e w7 ⟨rfl, hb7⟩
    have hfz7 := (hb7.block b11 (blk_lt HX.out.2.1)).trans HX.out.2.1
    have y0 := cell_block hfz7 0
    have y1 := cell_block hfz7 1
    simp only [List.getElem?_toArray, List.getElem?_cons_zero, List.getElem?_cons_succ] at y0 y1
    have H7 := hide (And.intro hb7 (And.intro hfz7 (below_next HA.out.2.2.1 hb7)))
    clear hb7 hfz7
    rcases HC.out with ⟨hd, hfa, hF⟩ | ⟨hd, hfa, hfb, hF⟩
    · subst hfa
      subst hF
      have q1 : (24 : Int) ≤ (Tr.depth a : Nat) := by omega
      simp only [Tr.Fo.len]
      clear y1
      go_wp2_with fail
      refine (alive_any _).mono ?_
      rintro e w8 ⟨rfl, hb8⟩
      have H8 := hide (below_next H7.out.2.2 hb8)
      clear hb8
      go_wp2_with fail
      go_ret
      exact ⟨rfl, H8.out⟩
    · subst hfa
      subst hfb
      subst hF
      have q1 : ¬ (24 : Int) ≤ (Tr.depth a : Nat) := by omega
      have HH1 := hide (fun x (hx : Below w7.heap.size w7 x) => (HHL.out.below (H7.out.2.2.trans (hx.mono H7.out.2.2.size)) : HasT x w.heap.size A n l))
      have HH2 := hide (fun x (hx : Below w7.heap.size w7 x) => (HHM.out.below (H7.out.2.2.trans (hx.mono H7.out.2.2.size)) : HasT x w.heap.size A2 n2 m))
      have hr8 := RowZ.laid w7 35 3 0 [] rfl (Nat.zero_le _)
      have hbl8 := below_laid w7 (.cells #[] 35)
      have HR8 := hide (And.intro hr8 hbl8)
      clear hr8 hbl8 y0 y1
      simp only [Tr.Fo.len]
      go_wp2_with (at_builtin; refine app_rowz rfl (.tmp 80) (.tmp 81) 22 22 rfl 35 it _ 3 32 Try.underlying22 hit hzt0 hzt1 hzt2 rfl (.slice (some ⟨w7.heap.size, 0, none⟩) 0 0) 0 [] rfl HR8.out.1 _ n (toksV l) rfl (Src.of_hasT (HH1.out _ HR8.out.2)) (by unfold maxLen; omega) (by omega) ?_)
      intro A8 c8 w8 hrow8 hgr8 hob8
      have hb8 := grown_new HR8.out.2 hgr8 (fun g hg => by cases hg; exact Nat.le_refl _)
      have hob8' : ∀ g, (Value.slice A8 n c8).ownBlock = some g → w7.heap.size ≤ g := fun g hg => by
        rcases hob8 with h | h
        · rw [h] at hg; cases hg; exact Nat.le_refl _
        · rw [h] at hg; simp at hg; omega
      have HR9 := hide (And.intro hrow8 (And.intro hob8' hb8))
      clear hrow8 hgr8 hob8 hob8' hb8
      go_wp2_with (at_builtin; refine app_rowz rfl (.tmp 82) (.tmp 83) 22 22 rfl 35 it _ 3 32 Try.underlying22 hit hzt0 hzt1 hzt2 rfl (.slice A8 n c8) n (toksV l) rfl HR9.out.1 _ n2 (toksV m) rfl (Src.of_hasT (HH2.out _ HR9.out.2.2)) (by unfold maxLen; omega) (by omega) ?_)
      intro A9 c9 w9 hrow9 hgr9 hob9
      have hb9 := grown_new HR9.out.2.2 hgr9 HR9.out.2.1
      have hlm : (l ++ m).length = n + n2 := by rw [List.length_append, HLN.out, HLM.out]
      have hh9 : HasT w9 w9.heap.size A9 (n + n2) (l ++ m) := by
        have e1 : toksV (l ++ m) = toksV l ++ toksV m := by simp [toksV]
        rw [← hlm, ← e1] at hrow9
        rw [← hlm]
        exact HasT.of_row hrow9
      have hr10 := tread_any (n + n2) c9 w9.heap.size A9 (l ++ m) w9 hh9 (Nat.le_refl _) (by omega)
      rw [Tr.read_both HRA.out.1 HRA.out.2] at hr10
      have HR10 := hide (And.intro hr10 hb9)
      clear hrow9 hgr9 hob9 hb9 hlm hh9 hr10
      go_wp2_with fail
      refine HR10.out.1.mono ?_
      rintro e w10 ⟨v10, rfl, hrow10, hb10⟩
      obtain ⟨A10, c10, rfl, _, _⟩ := hrow10.form
      simp only [outV, outF] at hrow10 ⊢
      have hbl := below_laid w10 (.cells #[.int .i64 0, .int .i64 0] 27)
      have hbx := heap_alloc_new w10 (.cells #[.int .i64 0, .int .i64 0] 27)
      have hs10 : w10.heap.size < (w10.alloc (.cells #[.int .i64 0, .int .i64 0] 27)).heap.size := by simp
      have y0 := cell_block hbx 0
      have y1 := cell_block hbx 1
      simp only [List.getElem?_toArray, List.getElem?_cons_zero, List.getElem?_cons_succ] at y0 y1
      have hb711 := (HR10.out.2.trans (hb10.mono HR10.out.2.size)).trans (hbl.mono (Nat.le_trans HR10.out.2.size hb10.size))
      have H11 := hide (And.intro ((hrow10.holds.more (fun b hb => hb.2)).below hbl) hb711)
      clear hrow10 hb10 hbl hbx hb711
      go_upto_region 10 with (fail)
      generalize w10.alloc (.cells #[.int .i64 0, .int .i64 0] 27) = X at *
      have hW2X : W2.heap.size ≤ X.heap.size := by have := HA.out.2.2.2; have := H7.out.1.size; have := H11.out.2.size; omega
      have hXb := (H7.out.1.mono HA.out.2.2.2).trans (H11.out.2.mono (by have := HA.out.2.2.2; have := H7.out.1.size; omega))
      have HAX := hide (And.intro (HA.out.1.below hXb) (HA.out.2.1.below hXb))
      have hblT := below_laid X (.cells #[] 37)
      have hrT := RowZ.laid X 37 5 0 [] rfl (Nat.zero_le _)
      obtain ⟨xa, ea, sa⟩ := Src.of_holds (HAX.out.1.below (hblT.mono hW2X))
      have HT := hide (And.intro hrT (And.intro hblT (And.intro ea sa)))
      have HXS := hide (And.intro hW2X hXb)
      have hal := Tr.Fo.len_le a
      have hbl' := Tr.Fo.len_le b
      have hal1 : a.len ≤ 140 := by omega
      have hbl1 : b.len ≤ 140 := by omega
      clear hW2X hXb hblT hrT ea sa hal hbl'
      go_wp2_with (at_builtin; refine app_rowz_w rfl (.tmp 93) (.tmp 94) 25 25 rfl 37 ie _ 5 64 Try.underlying25 hie hze0 hze1 hze2 rfl (.slice (some ⟨X.heap.size, 0, none⟩) 0 0) 0 [] rfl HT.out.1 _ a.len xa rfl HT.out.2.2.2 (by unfold maxLen; omega) (by omega) ?_)
      intro A12 c12 X3 hrow12 hgr12 hob12
      have hb12 := grown_new HT.out.2.1 hgr12 (fun g hg => by cases hg; exact Nat.le_refl _)
      have hob12' : ∀ g, (Value.slice A12 a.len c12).ownBlock = some g → X.heap.size ≤ g := fun g hg => by
        rcases hob12 with h | h
        · rw [h] at hg; cases hg; exact Nat.le_refl _
        · rw [h] at hg; simp at hg; omega
      obtain ⟨xb, eb, sb⟩ := Src.of_holds (HAX.out.2.below (hb12.mono HXS.out.1))
      have H12 := hide (And.intro hrow12 (And.intro hob12' (And.intro hb12 (And.intro eb sb))))
      clear hrow12 hgr12 hob12 hob12' hb12 eb sb
      go_wp2_with (at_builtin; refine app_rowz_w rfl (.tmp 95) (.tmp 96) 25 25 rfl 37 ie _ 5 64 Try.underlying25 hie hze0 hze1 hze2 rfl (.slice A12 a.len c12) a.len xa rfl H12.out.1 _ b.len xb rfl H12.out.2.2.2.2 (by unfold maxLen; omega) (by omega) ?_)
      intro A13 c13 X4 hrow13 hgr13 hob13
      have hb13 := grown_new H12.out.2.2.1 hgr13 H12.out.2.1
      have hs4 := hb13.size
      have hXW := HXS.out.1
      have e1 : Elems X4 (· < W2.heap.size) a xa := HT.out.2.2.1.mono (fun b hb => ⟨hb, fun o => (hb13.cell (p := ⟨b, o, none⟩) (Nat.lt_of_lt_of_le hb hXW)).trans (HT.out.2.1.cell (p := ⟨b, o, none⟩) (Nat.lt_of_lt_of_le hb hXW)).symm⟩)
      have e2 : Elems X4 (· < W2.heap.size) b xb := H12.out.2.2.2.1.mono (fun b hb => ⟨hb, fun o => (hb13.cell (p := ⟨b, o, none⟩) (Nat.lt_of_lt_of_le hb hXW)).trans (H12.out.2.2.1.cell (p := ⟨b, o, none⟩) (Nat.lt_of_lt_of_le hb hXW)).symm⟩)
      have hh13 := Holds.of_rowz hrow13 (Elems.app _ _ _ _ e1 e2) (by rw [Tr.Fo.len_app]) (fun b hb => by omega)
      have hh10 := ((H11.out.1.more (fun b hb => Nat.lt_trans hb hs10)).below hb13).more (fun b hb => Nat.lt_of_lt_of_le hb hs4)
      have hsm := ttsame_any ((a.app b).size + 1) (a.app b) (a.app b) _ c10 _ c13 X4.heap.size A10 A13 X4 (by omega) hh10 hh13
      rw [Tr.sameF_self] at hsm
      have HSM := hide (And.intro hsm hb13)
      clear hrow13 hgr13 hob13 hb13 hs4 hXW e1 e2 hh13 hh10 hsm
      go_wp2_with fail
      refine HSM.out.1.mono ?_
      rintro e X5 ⟨rfl, hd5⟩
      have hb5 : Below X.heap.size X X5 := below_dr HSM.out.2 hd5
      have hb57 := H11.out.2.trans (hb5.mono H11.out.2.size)
      have hbc5 := H7.out.1.trans (hb57.mono H7.out.1.size)
      have hb0 := below_next H7.out.2.2 hb57
      have hfz := (hb57.block b11 (by have := blk_lt H7.out.2.1; exact this)).trans H7.out.2.1
      have hok := (hbc5.block _ (blk_lt HO.out)).trans HO.out
      obtain ⟨b7, off7, rfl, hb7lt, hcell7⟩ := (HX.out.2.2.1.below hbc5).get (by simp [Tr.Fo.len])
      obtain ⟨Ak, nk, ck, hkid, d0, d1, d2, d3, d4⟩ := hcell7 0 (tkO, a, 7) rfl
      have hkid5 : Holds X5 (· < X5.heap.size) a Ak nk ck := hkid.more (fun b hb => Nat.lt_of_lt_of_le hb hbc5.size)
      have ha5 : Holds X5 (· < X5.heap.size) a Aa a.len ca := (HA.out.1.below (hbc5.mono HA.out.2.2.2)).more (fun b hb => by have := HA.out.2.2.2; have := hbc5.size; omega)
      have hnk : nk = a.len := hkid.1
      subst hnk
      have hlt7 : b7 < X5.heap.size := Nat.lt_of_lt_of_le hb7lt hbc5.size
      have HK := hide (And.intro hkid5 (And.intro ha5 hb0))
      have HSS := hide (fun (u : Calm X5.heap.size X5) => (ttsame_any (a.size + 1) a a a.len ck a.len ca X5.heap.size Ak Aa u.w (by omega) (HK.out.1.below u.below) (HK.out.2.1.below u.below)))
      rw [Tr.sameF_self] at HSS
      simp only [Nat.zero_mul, Nat.add_zero, tkO] at d0 d1 d2 d3 d4
      have hu0 : ∀ u : Calm X5.heap.size X5, u.w.cell? ⟨b7, off7, none⟩ = some (.int .u8 123) := fun u => (u.below.cell (p := ⟨b7, off7, none⟩) hlt7).trans d0
      have hu1 : ∀ u : Calm X5.heap.size X5, u.w.cell? ⟨b7, off7 + 1, none⟩ = some (.string ⟨#[123]⟩) := fun u => (u.below.cell (p := ⟨b7, off7 + 1, none⟩) hlt7).trans d1
      have hu2 : ∀ u : Calm X5.heap.size X5, u.w.cell? ⟨b7, off7 + 2, none⟩ = some (.int .i64 (-5)) := fun u => (u.below.cell (p := ⟨b7, off7 + 2, none⟩) hlt7).trans d2
      have hu3 : ∀ u : Calm X5.heap.size X5, u.w.cell? ⟨b7, off7 + 3, none⟩ = some (.slice Ak a.len ck) := fun u => (u.below.cell (p := ⟨b7, off7 + 3, none⟩) hlt7).trans d3
      have hu4 : ∀ u : Calm X5.heap.size X5, u.w.cell? ⟨b7, off7 + 4, none⟩ = some (.int .i64 7) := fun u => (u.below.cell (p := ⟨b7, off7 + 4, none⟩) hlt7).trans d4
      have hu5 : ∀ u : Calm X5.heap.size X5, u.w.cell? ⟨b11, 0, none⟩ = some (.int .i64 0) := fun u => (u.below.cell (p := ⟨b11, 0, none⟩) (blk_lt hfz)).trans (by rw [cell_block hfz]; rfl)
      have hu6 : ∀ u : Calm X5.heap.size X5, u.w.cell? ⟨b11, 1, none⟩ = some (.int .i64 0) := fun u => (u.below.cell (p := ⟨b11, 1, none⟩) (blk_lt hfz)).trans (by rw [cell_block hfz]; rfl)
      have hu7 : ∀ u : Calm X5.heap.size X5, u.w.cell? ⟨W2.heap.size, 0, none⟩ = some (.int .u8 123) := fun u => (u.below.cell (p := ⟨W2.heap.size, 0, none⟩) (blk_lt hok)).trans (by rw [cell_block hok]; rfl)
      have hu8 : ∀ u : Calm X5.heap.size X5, u.w.cell? ⟨W2.heap.size, 1, none⟩ = some (.string ⟨#[123]⟩) := fun u => (u.below.cell (p := ⟨W2.heap.size, 1, none⟩) (blk_lt hok)).trans (by rw [cell_block hok]; rfl)
      have hu9 : ∀ u : Calm X5.heap.size X5, u.w.cell? ⟨W2.heap.size, 2, none⟩ = some (.int .i64 (-5)) := fun u => (u.below.cell (p := ⟨W2.heap.size, 2, none⟩) (blk_lt hok)).trans (by rw [cell_block hok]; rfl)
      have hgt := guardTok
      clear hd5 hb5 hb57 hbc5 hb0 hcell7 hkid hkid5 ha5 hb7lt
      go_wp2_with fail
      refine wp_region_calm X5.heap.size (by kernel_rfl) (by kernel_rfl) ?_
      repeat (go_big_quiet_step ((first | (go_at_call 16; exact calm_dr (HSS.out _)) | (go_at_call 8; exact calm_call (Nat.le_refl _) (alive_any _)))))
      refine wpQuiet_nil ?_
      rintro _ ⟨u, rfl⟩
      have HU := hide (below_next HK.out.2.2 u.below)
      go_wp2_with fail
      go_ret
      exact ⟨rfl, HU.out⟩
end Go.Proofs.Ytokfcnjmgnmncaa
