/- Texts put together: RfEq RfSame RfRel2 RfReach RfClos RfOrd2. -/
import Derived.Laws.StructEq
import Derived.BigQuiet
import Derived.Test.YthnbhcfpfbimgaaMw14
import Derived.Test.YthnbhcfpfbimgaaMw00
/- Two relations compared: some bool. -/
namespace Go.Proofs.Ythnbhcfpfbimgaa
open Go.RowKit
theorem loop_any {P : Program} {w : World} (body : Nat → Option Bool × Unit → Sem (ForInStep (Option Bool × Unit))) : ∀ (l : List Nat), (∀ i ∈ l, ∀ s, (body i s).run P w = .ok (.done (some false, ())) w ∨ (body i s).run P w = .ok (.yield (none, ())) w) → ∃ r, (forIn l (none, ()) body : Sem _).run P w = .ok r w
  | [], _ => ⟨(none, ()), by simp only [List.forIn_nil, Sem.run_pure]⟩
  | i :: l, h => by
    obtain ⟨r, e⟩ := loop_any body l (fun j hj => h j (by simp [hj]))
    rcases h i (by simp) (none, ()) with k | k
    · exact ⟨(some false, ()), by simp only [List.forIn_cons, Sem.run_bind, k, Result.andThen_ok, Sem.run_pure]⟩
    · exact ⟨r, by simp only [List.forIn_cons, Sem.run_bind, k, Result.andThen_ok, e]⟩
set_option maxRecDepth 100000 in
theorem eq_row (d : Nat) (xs ys : Array Value) (hx : ∀ k : Nat, k < 64 → ∃ z, xs[k]? = some (.int .u64 z)) (hy : ∀ k : Nat, k < 64 → ∃ z, ys[k]? = some (.int .u64 z)) (w : World) :
    ∃ b, (Op.equalIn (d + 1 + 1) 126 (.agg xs) (.agg ys)).run Try.prog w = .ok b w := by
  have hu := Try.underlying41
  have ha := Try.isAgg41
  have hz := Try.sizeOf41
  rw [Op.equalIn]
  simp only [Sem.run_bind, run_underlying Try.underlying126, Result.andThen_ok]
  simp only [Std.Legacy.Range.forIn_eq_forIn_range', Std.Legacy.Range.size, Nat.sub_zero, Nat.add_sub_cancel, Nat.div_one]
  have hl : ∀ i ∈ List.range' 0 64 1, i < 64 := by intro i hi; simp at hi; omega
  generalize List.range' 0 64 1 = l at *
  simp only [hz, Result.andThen_ok, Nat.mul_one]
  obtain ⟨⟨r, u⟩, e⟩ := loop_any (P := Try.prog) (w := w) _ l (fun i hi s => by
    obtain ⟨x, ex⟩ := hx i (hl i hi)
    obtain ⟨y, ey⟩ := hy i (hl i hi)
    show Sem.run Try.prog (do
                let a ← part 41 xs i
                let b ← part 41 ys i
                let r ← Op.equalIn (d + 1) 41 a b
                if (!r) = true then pure (ForInStep.done (some false, ()))
                  else pure (ForInStep.yield (none, ()))) w = _ ∨ Sem.run Try.prog (do
                let a ← part 41 xs i
                let b ← part 41 ys i
                let r ← Op.equalIn (d + 1) 41 a b
                if (!r) = true then pure (ForInStep.done (some false, ()))
                  else pure (ForInStep.yield (none, ()))) w = _
    simp only [Sem.run_bind, part, ha, ex, ey]
    go_simp
    by_cases h : x = y
    · simp [h]
    · simp [h])
  rw [e]
  cases r with
  | none => exact ⟨true, by simp⟩
  | some r => exact ⟨r, by simp⟩
theorem extract_row {cs : Array Value} (h : Relv cs) : ∀ k : Nat, k < 64 → ∃ z, (cs.extract 1 65)[k]? = some (.int .u64 z) := fun k hk => by
  obtain ⟨z, e⟩ := h.row k hk
  refine ⟨z, ?_⟩
  rw [Array.getElem?_extract]
  have := h.size
  simp [e]
  omega
set_option maxRecDepth 100000 in
theorem eq_rel (xs ys : Array Value) (hx : Relv xs) (hy : Relv ys) (w : World) : ∃ b, (Op.equalIn 10000 128 (.agg xs) (.agg ys)).run Try.prog w = .ok b w := by
  obtain ⟨n, hn⟩ := hx.num
  obtain ⟨m, hm⟩ := hy.num
  have HX := extract_row hx
  have HY := extract_row hy
  obtain ⟨b, hb⟩ := eq_row 9997 _ _ HX HY w
  have ha := Try.isAgg126
  have hz := Try.sizeOf126
  have ha3 := Try.isAgg3
  rw [show (10000 : Nat) = 9999 + 1 from rfl, run_equalIn_struct w 9999 _ _ _ Try.underlying128 (by kernel_rfl)]
  have hf : ∃ f g : Field, (Try.prog.fieldsOf 128).toList = [f, g] ∧ f.name ≠ "_" ∧ g.name ≠ "_" ∧ f.type = 3 ∧ g.type = 126 ∧ f.offset = 0 ∧ g.offset = 1 := ⟨_, _, rfl, by decide, by decide, rfl, rfl, rfl, rfl⟩
  obtain ⟨f, g, e, f1, g1, f2, g2, f3, g3⟩ := hf
  simp only [e, Op.eqFields, f1, g1, f2, g2, f3, g3, ne_eq, not_false_eq_true, if_true, Sem.run_bind, part, ha3, hn, hm, Result.andThen_ok, Bool.false_eq_true, if_false, Sem.run_pure]
  rw [run_equalIn_int (h := Try.underlying3)]
  by_cases h : n = m
  · subst h
    simp only [beq_self_eq_true, Result.andThen_ok, Bool.not_true, Bool.false_eq_true, if_false, Sem.run_bind, ha, hz, if_true, Sem.run_pure]
    simp only [show (1 : Nat) + 64 = 65 from rfl]
    have hb' : Sem.run Try.prog (Op.equalIn 9999 126 (Value.agg (xs.extract 1 65)) (Value.agg (ys.extract 1 65))) w = Result.ok b w := hb
    rw [hb']
    cases b
    · exact ⟨false, by simp⟩
    · exact ⟨true, by simp⟩
  · exact ⟨false, by simp [h]⟩
end Go.Proofs.Ythnbhcfpfbimgaa
/- The walk of Same, Reach, Closure, Closed, Order. -/
namespace Go.Proofs.Ythnbhcfpfbimgaa
open Go.RowKit
/-- Two relations read. -/
structure Two (W : World) (c d : Array Value) (wr : World) : Prop where
  below : Below W.heap.size W wr
  one : wr.heap[W.heap.size]? = some (.cells c 128 (0, 0))
  two : wr.heap[W.heap.size + 1]? = some (.cells d 128 (0, 0))
theorem Two.step {W : World} {c d : Array Value} {wr w' : World} (h : Two W c d wr) (hb : Below wr.heap.size wr w') : Two W c d w' := ⟨below_next h.below hb, heap_below h.one hb, heap_below h.two hb⟩
theorem Two.new (W : World) (c d : Array Value) : Two W c d ((W.alloc (.cells c 128)).alloc (.cells d 128)) :=
  ⟨below_next (below_laid _ _) (below_laid _ _), heap_below (heap_alloc_last W _) (below_laid _ _), by
    have := heap_alloc_last (W.alloc (Obj.cells c 128)) (Obj.cells d 128)
    rwa [World.size_alloc] at this⟩
theorem held_rel {S : World → Prop} {cs : Array Value} {b k : Nat} {o : Oper} {a : Act} {K : Act → Prop} (ho : o.op = .load 128 (.tmp k)) (hx : a.eval (.tmp k) = .pointer (some ⟨b, 0, none⟩)) (hS : ∀ w, S w → w.heap[b]? = some (.cells cs 128 (0, 0))) (hs : cs.size = 65) (h : K (a.put o.dst (.agg cs))) : held Try.prog o a S K := by
  refine ⟨_, fun w hw => ?_, h⟩
  unfold execOp
  simp only [ho, hx, Instr.loadAt, Instr.sureAddr, Sem.run_bind, Sem.run_pure, Result.andThen_ok, run_loadVar_row w b _ _ cs (0, 0) _ (hS w hw) Try.underlying128 rfl (by rw [hs]; exact rel_info)]
set_option maxRecDepth 100000 in
theorem same3_tot (c d : Array Value) (hc : Relv c) (hd : Relv d) (w : World) : Calls Try.prog 104 #[.agg c, .agg d] w fun e w' => RBo e ∧ Below w.heap.size w w' := by
  have HC := hide hc
  have HD := hide hd
  have HT := hide (Two.new w c d)
  clear hc hd
  go_enter Try.func104, Try.ntmps104
  go_upto_region 1 with fail
  generalize (w.alloc (Obj.cells c 128)).alloc (.cells d 128) = w0 at *
  have HF : Hid (Two w c d w0.drew) := hide (HT.out.step (below_drewN (Below.refl _ _) 1))
  refine wp_region_chain [0, 2] [(1, true), (3, true), (4, true), (5, true)] (Two w c d) (by kernel_rfl) (by kernel_rfl) (fun _ _ _ _ _ h => h) HF.out ?_
  intro hne
  simp only [picks, picksW, List.filterMap_cons, List.filterMap_nil, List.getElem?_cons_zero, List.getElem?_cons_succ, Option.map_some]
  refine wpHeld_step (fun K hK => ?_)
  rw [if_pos (by rfl)]
  refine held_rel rfl rfl (by rintro _ ⟨u, rfl⟩; exact u.ok.one) HC.out.size (hK _ ?_)
  clear hK K
  refine wpHeld_step (fun K hK => ?_)
  rw [if_pos (by rfl)]
  refine held_rel rfl rfl (by rintro _ ⟨u, rfl⟩; exact u.ok.two) HD.out.size (hK _ ?_)
  clear hK K
  refine wpHeld_nil ?_
  clear hne
  generalize w0.drew = w1 at *
  have HP1 := hide (plain_tot c HC.out)
  have HP2 := hide (plain_tot d HD.out)
  refine wpChain_cons fun K hK => ?_
  go_wp2_with (go_at_call 106; refine (HP1.out _).mono ?_; rintro e w2 ⟨n, ⟨⟨c1, rfl, hc1, _, hb⟩⟩⟩; have H2 := hide (And.intro hc1 (HF.out.step hb)); clear hc1 hb)
  refine chainF (fun _ => H2.out.2) (hK _ _ ?_)
  clear hK K
  refine wpChain_cons fun K hK => ?_
  go_wp2_with (go_at_call 106; refine (HP2.out _).mono ?_; rintro e w3 ⟨m, ⟨⟨c2, rfl, hc2, _, hb⟩⟩⟩; have H3 := hide (And.intro hc2 (H2.out.2.step hb)); clear hc2 hb)
  refine chainF (fun _ => H3.out.2) (hK _ _ ?_)
  clear hK K
  obtain ⟨r, hr⟩ := eq_row 9997 _ _ (extract_row H2.out.1) (extract_row H3.out.1) w3
  have hr : (Op.equalIn 9999 126 (.agg (c1.extract 1 65)) (.agg (c2.extract 1 65))).run Try.prog w3 = .ok r w3 := hr
  refine wpChain_cons fun K hK => ?_
  cases r <;> go_wp2_with fail
  all_goals
    refine chainF (fun _ => H3.out.2) (hK _ _ ?_)
    clear hK K hr
    refine wpChain_cons fun K hK => ?_
    go_wp2_with fail
    refine chainF (fun _ => H3.out.2) (hK _ _ ?_)
    clear hK K
    refine wpChain_nil ?_
    go_wp2_with fail
    go_ret
    exact ⟨⟨_, rfl⟩, H3.out.2.below⟩
end Go.Proofs.Ythnbhcfpfbimgaa
/- Points and Has: an answer that hangs on the relation alone (whatever the world). -/
namespace Go.Proofs.Ythnbhcfpfbimgaa
open Go.RowKit
set_option maxRecDepth 100000 in
theorem points_any (cs : Array Value) (hc : Relv cs) : ∃ n : Nat, n ≤ 64 ∧ ∀ w : World, Calls Try.prog 89 #[.agg cs] w fun e w' => e = .returned (.int .i64 (n : Nat)) ∧ Below w.heap.size w w' := by
  obtain ⟨N, h0⟩ := hc.num
  have K := hide (fun w : World => (show (w.alloc (.cells cs 128)).cell? ⟨w.heap.size, 0, none⟩ = some (.int .i64 N) by rw [cell_block (heap_alloc_new w _)]; exact h0))
  have HB := hide (fun w : World => below_laid w (.cells cs 128))
  clear hc h0
  by_cases h1 : N < 0
  · refine ⟨0, by omega, fun w => ?_⟩
    have k0 := K.out w
    go_enter Try.func89, Try.ntmps89
    go_wp2_with fail
    go_ret
    exact ⟨rfl, HB.out w⟩
  by_cases h2 : 64 < N
  · refine ⟨64, by omega, fun w => ?_⟩
    have k0 := K.out w
    go_enter Try.func89, Try.ntmps89
    go_wp2_with fail
    go_ret
    exact ⟨rfl, HB.out w⟩
  obtain ⟨n, rfl⟩ := Int.eq_ofNat_of_zero_le (by omega : 0 ≤ N)
  refine ⟨n, by omega, fun w => ?_⟩
  have k0 := K.out w
  go_enter Try.func89, Try.ntmps89
  go_wp2_with fail
  go_ret
  exact ⟨rfl, HB.out w⟩
set_option maxRecDepth 100000 in
theorem has3_any (cs : Array Value) (hc : Relv cs) (i j : Int) : ∃ r : Bool, ∀ w : World,
    Calls Try.prog 103 #[.agg cs, .int .i64 i, .int .i64 j] w fun e w' => e = .returned (.bool r) ∧ Below w.heap.size w w' := by
  obtain ⟨n, hn, hp⟩ := points_any cs hc
  have HLw := hide (fun w : World => ldRel 3 (heap_alloc_new w (.cells cs 128)) hc.size)
  have HPw := hide hp
  have HBw := hide (fun w : World => below_laid w (.cells cs 128))
  have HC := hide hc
  clear hc hp
  by_cases hi : i < 0
  · refine ⟨false, fun w => ?_⟩
    have HL := hide (HLw.out w)
    have HP := hide (HPw.out (w.alloc (.cells cs 128)))
    have HB := hide (HBw.out w)
    go_enter Try.func103, Try.ntmps103
    go_wp2_with (first | (with_reducible refine HL.out _ _ _ _ _ rfl rfl rfl ?_) | (go_at_call 89; refine HP.out.mono ?_; rintro e w1 ⟨rfl, hb1⟩; have HB1 := hide hb1; clear hb1))
    go_ret
    exact ⟨rfl, below_next HB.out HB1.out⟩
  by_cases hj : j < 0
  · refine ⟨false, fun w => ?_⟩
    have HL := hide (HLw.out w)
    have HP := hide (HPw.out (w.alloc (.cells cs 128)))
    have HB := hide (HBw.out w)
    go_enter Try.func103, Try.ntmps103
    go_wp2_with (first | (with_reducible refine HL.out _ _ _ _ _ rfl rfl rfl ?_) | (go_at_call 89; refine HP.out.mono ?_; rintro e w1 ⟨rfl, hb1⟩; have HB1 := hide hb1; clear hb1))
    go_ret
    exact ⟨rfl, below_next HB.out HB1.out⟩
  obtain ⟨i, rfl⟩ := Int.eq_ofNat_of_zero_le (by omega : 0 ≤ i)
  obtain ⟨j, rfl⟩ := Int.eq_ofNat_of_zero_le (by omega : 0 ≤ j)
  by_cases hin : i < n
  rotate_left
  · have i0 : (n : Int) ≤ i := by omega
    refine ⟨false, fun w => ?_⟩
    have HL := hide (HLw.out w)
    have HP := hide (HPw.out (w.alloc (.cells cs 128)))
    have HB := hide (HBw.out w)
    go_enter Try.func103, Try.ntmps103
    go_wp2_with (first | (with_reducible refine HL.out _ _ _ _ _ rfl rfl rfl ?_) | (go_at_call 89; refine HP.out.mono ?_; rintro e w1 ⟨rfl, hb1⟩; have HB1 := hide hb1; clear hb1))
    go_ret
    exact ⟨rfl, below_next HB.out HB1.out⟩
  by_cases hjn : j < n
  rotate_left
  · have i1 : (i : Int) < n := by omega
    have j0 : (n : Int) ≤ j := by omega
    refine ⟨false, fun w => ?_⟩
    have HL := hide (HLw.out w)
    have HP := hide (HPw.out (w.alloc (.cells cs 128)))
    have HB := hide (HBw.out w)
    go_enter Try.func103, Try.ntmps103
    go_wp2_with (first | (with_reducible refine HL.out _ _ _ _ _ rfl rfl rfl ?_) | (go_at_call 89; refine HP.out.mono ?_; rintro e w1 ⟨rfl, hb1⟩; have HB1 := hide hb1; clear hb1))
    go_ret
    exact ⟨rfl, below_next HB.out HB1.out⟩
  have i0 : (i : Int) < n := by omega
  have j0 : (j : Int) < n := by omega
  have j1 : (0 : Int) ≤ j := by omega
  have hn9 : (n : Int) ≤ 64 := by omega
  obtain ⟨z, hz⟩ := HC.out.row i (by omega)
  refine ⟨(z / 2 ^ j).tmod 2 == 1, fun w => ?_⟩
  have HL := hide (HLw.out w)
  have HP := hide (HPw.out (w.alloc (.cells cs 128)))
  have HB := hide (HBw.out w)
  go_enter Try.func103, Try.ntmps103
  go_upto_region 2 with (first | (with_reducible refine HL.out _ _ _ _ _ rfl rfl rfl ?_) | (go_at_call 89; refine HP.out.mono ?_; rintro e w1 ⟨rfl, hb1⟩; have HB1 := hide hb1; clear hb1))
  have k1 : w1.cell? ⟨w.heap.size, 1 + i, none⟩ = some (.int .u64 z) := by
    rw [cell_block (heap_below (heap_alloc_new w _) HB1.out)]; exact hz
  go_wp2_with fail
  go_ret
  exact ⟨rfl, below_next HB.out HB1.out⟩
end Go.Proofs.Ythnbhcfpfbimgaa
/- The walk of In and Reach. -/
namespace Go.Proofs.Ythnbhcfpfbimgaa
open Go.RowKit
set_option maxRecDepth 100000 in
theorem in3_any (B : Nat) (v : Value) (l : List Int) (j : Int) (w : World) (h : LI w B v l) : Calls Try.prog 108 #[v, .int .i64 j] w fun e w' => e = .returned (.bool (decide (j ∈ l))) ∧ w = w' := by
  obtain ⟨A, c, rfl, hl⟩ := h.form
  have hl9 : (l.length : Int) ≤ 9223372036854775807 := by unfold maxLen at hl; omega
  have H := hide h
  clear h
  go_enter Try.func108, Try.ntmps108
  go_wp2_with fail
  go_loop [5] (fun v => ∃ q : Nat, q ≤ l.length ∧ v = .int .i64 (q : Nat) ∧ ∀ (i : Nat) (h : i < l.length), i < q → l[i] ≠ j) (fun v => l.length - (intOf v).toNat)
  case atStart => exact ⟨0, by omega, rfl, fun i h hi => by omega⟩
  case round =>
    obtain ⟨q, hq, rfl, hno⟩ := hrel
    have HN := hide hno
    clear hno
    by_cases hl2 : q < l.length
    · obtain ⟨b, o, c', e, hcell⟩ := LI.cell H.out hl2
      cases e
      have q0 : (q : Int) < l.length := by omega
      have q1 : (0 : Int) ≤ q := by omega
      generalize hx : l[q] = x at *
      have HX := hide hx
      clear hx
      by_cases hxj : x = j
      · subst hxj
        go_wp2_with fail
        go_ret
        have hd : decide (x ∈ l) = true := decide_eq_true (by rw [← HX.out]; exact List.getElem_mem _)
        exact ⟨by rw [hd]; rfl, rfl⟩
      · go_wp2_with fail
        refine ⟨⟨q + 1, by omega, rfl, fun i h hi => ?_⟩, by simp [intOf]; omega⟩
        rcases Nat.lt_or_ge i q with h' | h'
        · exact HN.out i h h'
        · obtain rfl : i = q := by omega
          rw [HX.out]; exact hxj
    · obtain rfl : q = l.length := by omega
      go_wp2_with fail
      go_ret
      have hd : decide (j ∈ l) = false := decide_eq_false fun hm => by
        obtain ⟨i, hi, e⟩ := List.mem_iff_getElem.mp hm
        exact HN.out i hi hi e
      exact ⟨by rw [hd]; rfl, rfl⟩
theorem nodup_le : ∀ (n : Nat) (l : List Int), l.Nodup → (∀ x ∈ l, 0 ≤ x ∧ x < n) → l.length ≤ n
  | 0, l, _, h => by
    cases l with
    | nil => simp
    | cons x l => have := h x (by simp); omega
  | n + 1, l, hd, h => by
    have h1 := nodup_le n (l.filter (· ≠ (n : Int))) (hd.filter _) (fun x hx => by
      have hx := List.mem_filter.mp hx
      have := h x hx.1
      have hne : x ≠ (n : Int) := by simpa using hx.2
      omega)
    by_cases hm : (n : Int) ∈ l
    · have h2 : (l.filter (· ≠ (n : Int))) = l.erase (n : Int) := (hd.erase_eq_filter _).symm ▸ by
        congr 1
        funext x
        by_cases h : x = (n : Int) <;> simp [h]
      rw [h2, List.length_erase_of_mem hm] at h1
      omega
    · rw [List.filter_eq_self.mpr (fun x hx => by
        have : x ≠ (n : Int) := fun e => hm (e ▸ hx)
        simpa using this)] at h1
      omega
/-- The load of a whole relation under a guard that holds. -/
abbrev LdRelG (cs : Array Value) (b k : Nat) (w : World) : Prop :=
  ∀ (ops : Array Oper) (rest : List Oper) (o : Oper) (a : Act) (Q : Exit → Act → World → Prop), o.op = .load 128 (.tmp k) → a.eval (.tmp k) = .pointer (some ⟨b, 0, none⟩) → Region.wanted o (yielded ops a.tmps) = true → wpList Try.prog ops Q rest (a.put o.dst (.agg cs)) w → wpList Try.prog ops Q (o :: rest) a w
theorem ldRelG {cs : Array Value} {b : Nat} (k : Nat) {w : World} {o : Nat × Nat} (h : w.heap[b]? = some (.cells cs 128 o)) (hs : cs.size = 65) : LdRelG cs b k w := fun ops rest _ a Q h2 h3 h1 h4 =>
  BigFrame.wpList_want h1 fun _ hK => wp_load_row _ _ h2 b h3 _ cs o _ h Try.underlying128 rfl (by rw [hs]; exact rel_info) (hK _ _ h4)
theorem quiet_rel {ops : Array Oper} {C : World → Prop} {cs : Array Value} {b k : Nat} {o : Oper} {rest : List Oper} {Q : Act → Prop} {a : Act} (hw : Region.wanted o (yielded ops a.tmps) = true) (ho : o.op = .load 128 (.tmp k)) (hx : a.eval (.tmp k) = .pointer (some ⟨b, 0, none⟩)) (hS : ∀ w, C w → w.heap[b]? = some (.cells cs 128 (0, 0))) (hs : cs.size = 65) (hk : wpQuiet Try.prog ops C Q rest (a.put o.dst (.agg cs))) : wpQuiet Try.prog ops C Q (o :: rest) a :=
  BigFrame.wpQuiet_want hw fun K hK => ⟨_, fun w hw => by
    have e : (execOp a.eval o).run Try.prog w = .ok (.value (.agg cs)) w := by
      unfold execOp
      simp only [ho, hx, Instr.loadAt, Instr.sureAddr, Sem.run_bind, Sem.run_pure, Result.andThen_ok, run_loadVar_row w b _ _ cs (0, 0) _ (hS w hw) Try.underlying128 rfl (by rw [hs]; exact rel_info)]
    unfold Oper.quietAt
    rw [e]
    exact ⟨rfl, rfl⟩, hK _ hk⟩
/-- What is reached so far. -/
structure ReL (W : World) (cs : Array Value) (n : Nat) (v : Value) (l : List Int) (wr : World) : Prop where
  nodup : l.Nodup
  rng : ∀ x ∈ l, 0 ≤ x ∧ x < (n : Int)
  row : RowZ wr 3 1 v l.length (iV l)
  own : ∀ g, v.ownBlock = some g → W.heap.size < g
  arg : wr.heap[W.heap.size]? = some (.cells cs 128 (0, 0))
  below : Below W.heap.size W wr
theorem ReL.step {W : World} {cs : Array Value} {n : Nat} {v : Value} {l : List Int} {wr w' : World} (h : ReL W cs n v l wr) (hb : Below wr.heap.size wr w') : ReL W cs n v l w' :=
  ⟨h.nodup, h.rng, RowZ.below h.row hb, h.own, heap_below h.arg hb, below_next h.below hb⟩
structure ReO (W : World) (cs : Array Value) (n : Nat) (kv v : Value) (wr : World) : Prop where
  ex : ∃ (k : Nat) (l : List Int), k ≤ l.length ∧ kv = .int .i64 (k : Nat) ∧ ReL W cs n v l wr
structure ReI (W : World) (cs : Array Value) (n k : Nat) (jv v : Value) (wr : World) : Prop where
  ex : ∃ (j : Nat) (l : List Int), k < l.length ∧ j ≤ n ∧ jv = .int .i64 (j : Nat) ∧ ReL W cs n v l wr
set_option maxRecDepth 100000 in
theorem reach_tot (cs : Array Value) (hc : Relv cs) (i : Int) (w : World) : Calls Try.prog 107 #[.agg cs, .int .i64 i] w fun e w' => RetLi w e w' := by
  obtain ⟨i1', hj, hy0, hy1, hy2⟩ := info_parts info_int
  have HA := hide (heap_alloc_last w (.cells cs 128))
  have HB := hide (below_laid w (.cells cs 128))
  have HC := hide hc
  have HP := hide (points_tot cs hc)
  clear hc
  go_enter Try.func107, Try.ntmps107
  by_cases hi : i < 0
  · go_wp2_with fail
    go_ret
    exact ⟨_, [], rfl, RowZ.nil, HB.out⟩
  · go_upto_region 1 with fail
    generalize w.alloc (Obj.cells cs 128) = w0 at *
    have HL := hide (ldRelG 2 HA.out HC.out.size)
    go_upto_if 15 with (first | (with_reducible refine HL.out _ _ _ _ _ rfl rfl (by with_unfolding_all rfl) ?_) | (go_at_call 89; refine (HP.out w0).mono ?_; rintro e w1 ⟨⟨n, rfl, hn⟩, hb1⟩; have H1 := hide (And.intro (heap_below HA.out hb1) (below_next HB.out hb1)); clear hb1))
    clear HL
    by_cases hin : (n : Int) ≤ i
    · go_wp2_with fail
      go_ret
      exact ⟨_, [], rfl, RowZ.nil, H1.out.2⟩
    · go_wp2_with fail
      have H2 : Hid (ReL w cs 64 (.slice (some ⟨w1.heap.size, 0, none⟩) 1 1) [i] (w1.alloc (.cells #[.int .i64 i] 3))) := hide
        ⟨by simp, fun x hx => by simp at hx; subst hx; omega, .inr ⟨w1.heap.size, 1, #[.int .i64 i], rfl, heap_alloc_last _ _, by simp, by simp, by unfold maxLen; omega, by simp [iV], by simp [iV]⟩,
          fun g hg => by injection hg with hg; rw [← hg]; exact blk_lt H1.out.1, heap_below H1.out.1 (below_laid _ _), below_next H1.out.2 (below_laid _ _)⟩
      clear HA H1 hin
      generalize (w1.alloc (.cells #[.int .i64 i] 3)) = w2 at *
      generalize (Value.slice (some ⟨w1.heap.size, 0, none⟩) 1 1) = v2 at *
      go_loopw [6, 5] (fun kv v wr => ReO w cs 64 kv v wr) (fun kv _ _ => 64 - (intOf kv).toNat)
      case atStart => exact ⟨0, [i], by simp, rfl, H2.out⟩
      case round =>
        obtain ⟨k, l, hk, rfl, hr⟩ := hrel
        obtain ⟨A, c, rfl, _⟩ := RowZ.form hr.row
        have hl64 := nodup_le 64 l hr.nodup hr.rng
        have HR := hide hr
        clear hr
        by_cases hlt : k < l.length
        · have i0 : (k : Int) < l.length := by omega
          go_wp2_with fail
          generalize wr = wx at *
          go_loopw [7, 5] (fun jv v wr => ReI w cs 64 k jv v wr) (fun jv _ _ => 64 - (intOf jv).toNat)
          case atStart => exact ⟨0, l, hlt, by omega, rfl, HR.out⟩
          case round =>
            obtain ⟨j, l, hkl, hj64, rfl, hr⟩ := hrel
            obtain ⟨A, c, rfl, _⟩ := RowZ.form hr.row
            have HR := hide hr
            clear hr
            have HL := hide (ldRel 2 HR.out.arg HC.out.size)
            go_upto_if 27 with (first | (with_reducible refine HL.out _ _ _ _ _ rfl rfl rfl ?_) | (go_at_call 89; refine (HP.out wr).mono ?_; rintro e w3 ⟨⟨n3, rfl, hn3⟩, hb3⟩; have H3 := hide (HR.out.step hb3); clear hb3))
            clear HL
            by_cases hjn : j < n3
            · go_upto_region 10 with fail
              obtain ⟨b, o, c', e, hc0⟩ := LI.cell (SlAt.of_row (B := w3.heap.size) H3.out.row : LI w3 w3.heap.size _ l) hkl
              cases e
              obtain ⟨r, hr⟩ := has3_any cs HC.out l[k] j
              have HH := hide hr
              have HI := hide (fun (u : Calm w3.heap.size w3) => in3_any w3.heap.size _ l j u.w ((SlAt.of_row (B := w3.heap.size) H3.out.row : LI w3 w3.heap.size _ l).below u.below))
              have hc1 : ∀ u : Calm w3.heap.size w3, u.w.cell? ⟨b, o + k, none⟩ = some (.int .i64 l[k]) := fun u => by
                obtain ⟨b', o', c', e, h⟩ := LI.cell ((SlAt.of_row (B := w3.heap.size) H3.out.row : LI w3 w3.heap.size _ l).below u.below) hkl
                cases e
                exact h
              clear hr hc0
              have i1 : (k : Int) < l.length := by omega
              generalize hlk : l[k] = x at *
              refine wp_region_calm w3.heap.size (by kernel_rfl) (by kernel_rfl) ?_
              refine quiet_rel (by rfl) rfl rfl (by rintro _ ⟨u, rfl⟩; exact heap_below H3.out.arg u.below) HC.out.size ?_
              go_simp
              cases hd : decide ((j : Int) ∈ l) <;> rw [hd] at HI <;> cases r <;> repeat (go_big_quiet_step ((first | (go_at_call 103; exact calm_call (Nat.le_refl _) (HH.out _)) | (go_at_call 108; exact calm_same (HI.out _)))))
              all_goals
                refine wpQuiet_nil ?_
                intro u
                have H4 := hide (H3.out.step u.below)
                clear hc1 HI HH H3
                generalize u.w = w4 at *
              rotate_left
              · have hjl : (j : Int) ∉ l := fun h => by simp [h] at hd
                have hl63 := nodup_le 64 l H4.out.nodup H4.out.rng
                go_wp2_with (at_builtin; go_must (refine app_rowz rfl (.tmp 43) (.tmp 45) 78 78 rfl 3 i1' _ 1 8 Try.underlying78 hj hy0 hy1 hy2 rfl (.slice (some ⟨b, o, none⟩) l.length c) l.length (iV l) rfl (RowZ.below H4.out.row (below_laid w4 _)) _ 1 [.int .i64 (j : Nat)] rfl (int_news (heap_alloc_new w4 _)) (by unfold maxLen; omega) (by omega) ?_); intro A' c' w' hr hg hob; have HG := hide (And.intro hr (And.intro hg hob)); clear hr hg hob)
                have H5 := H4.out.step (below_laid w4 (.cells #[.int .i64 (j : Nat)] 3))
                refine ⟨⟨j + 1, l ++ [(j : Int)], by simp; omega, by omega, rfl, ?_⟩, by simp [intOf]; omega⟩
                have hlt5 : w.heap.size < (w4.alloc (.cells #[.int .i64 (j : Nat)] 3)).heap.size := blk_lt H5.arg
                have hb5 : Below (w.heap.size + 1) (w4.alloc (.cells #[.int .i64 (j : Nat)] 3)) w' := (Below.refl _ _).grown HG.out.2.1 hlt5 H5.own
                refine ⟨?_, fun x hx => ?_, ?_, fun g hg => ?_, ?_, H5.below.trans (hb5.mono (Nat.le_succ _))⟩
                · rw [List.nodup_append]
                  exact ⟨H4.out.nodup, by simp, fun a ha b hb e => by simp at hb; subst hb; exact hjl (e ▸ ha)⟩
                · rcases List.mem_append.mp hx with h | h
                  · exact H4.out.rng x h
                  · simp at h; subst h; omega
                · rw [iV_snoc, List.length_append]; exact HG.out.1
                · rcases HG.out.2.2 with e | e
                  · rw [e] at hg; exact H5.own g hg
                  · rw [e] at hg; injection hg with hg; rw [← hg]; exact hlt5
                · rw [hb5.block _ (Nat.lt_succ_self _)]; exact H5.arg
              all_goals
                go_wp2_with fail
                exact ⟨⟨j + 1, l, hkl, by omega, rfl, H4.out⟩, by simp [intOf]; omega⟩
            · go_wp2_with fail
              exact ⟨⟨k + 1, l, by omega, rfl, H3.out⟩, by simp [intOf]; have := nodup_le 64 l H3.out.nodup H3.out.rng; omega⟩
        · obtain rfl : k = l.length := by omega
          go_wp2_with fail
          go_ret
          exact ⟨_, l, rfl, HR.out.row, HR.out.below⟩
end Go.Proofs.Ythnbhcfpfbimgaa
/- The walk of Closure. -/
namespace Go.Proofs.Ythnbhcfpfbimgaa
open Go.RowKit
set_option maxRecDepth 100000 in
theorem closure_tot (cs : Array Value) (hc : Relv cs) (w : World) : Calls Try.prog 105 #[.agg cs] w fun e w' => ∃ n, RRel w n e w' := by
  obtain ⟨i1, hj, hy0, hy1, hy2⟩ := info_parts info_int
  have HS := hide hc.size
  have HC := hide hc
  clear hc
  go_enter Try.func105, Try.ntmps105
  go_upto_region 1 with fail
  generalize hz : ((_ : World).alloc (Obj.cells _ 128)) = w0
  have h1 : w0.heap[w.heap.size]? = some (.cells cs 128 (0, 0)) := by
    rw [← hz]
    exact heap_below (heap_alloc_last w _) (below_laid _ _)
  have HL := hide (ldRel 1 h1 HS.out)
  have HP := hide (points_tot cs HC.out w0)
  have HZ := hide (fun w1 (h : Below w0.heap.size w0 w1) n => Pl.zero (W := w) (cs := cs) w0 hz h n)
  clear hz h1
  go_wp2_with (first | (with_reducible refine HL.out _ _ _ _ _ rfl rfl rfl ?_) | (go_at_call 89; refine HP.out.mono ?_; rintro e w1 ⟨⟨n, rfl, hn⟩, hb1⟩; have HB1 := hide (HZ.out w1 hb1 n); clear hb1) | (with_reducible refine wpList_store_row rfl 128 (.tmp 3) (.tmp 7) rfl w1.heap.size _ rfl rfl 128 _ (heap_alloc_last w1 _) (by rw [Array.size_setIfInBounds, zrel_relv.size]; exact rel_info) (by rw [Array.size_setIfInBounds]) (zrel_relv.set0 n).ones ?_; rw [World.setRow_alloc_new]))
  clear HL HP HZ
  generalize w1.heap.size = b3 at *
  go_loopw [4] (fun kv wr => (∃ k : Nat, k ≤ n ∧ kv = .int .i64 (k : Nat)) ∧ Pl w cs n b3 wr) (fun kv _ => n - (intOf kv).toNat)
  case atStart => exact ⟨⟨0, by omega, rfl⟩, HB1.out⟩
  case round =>
    obtain ⟨⟨k, hk, rfl⟩, hp⟩ := hrel
    obtain ⟨c3, e3, hc3, h0⟩ := hp.mine
    have k0 : wr.cell? ⟨b3, 0, none⟩ = some (.int .i64 (n : Nat)) := by rw [cell_block e3]; exact h0
    have HN := hide hp
    clear hp e3 hc3 h0
    by_cases hlt : k < n
    · have i0 : (k : Int) < n := by omega
      have HL := hide (ldRel 1 HN.out.arg HS.out)
      have HR := hide (reach_tot cs HC.out k wr)
      have HO := hide (fun (w1 : World) (v : Value) (l : List Int) (h : RowZ w1 3 1 v l.length (iV l)) => of1_tot w1.heap.size v l w1 (SlAt.of_row h))
      go_upto_region 5 with fail
      have k4 : (k : Int) < 64 := by omega
      go_wp2_with (first | (with_reducible refine HL.out _ _ _ _ _ rfl rfl rfl ?_) | (go_at_call 107; refine HR.out.mono ?_; rintro e w2 ⟨v2, l2, rfl, hr2, hb2⟩; have H2 := hide (And.intro hr2 (HN.out.step hb2)); clear hr2 hb2; obtain ⟨c3, e3, hc3, h0⟩ := H2.out.2.mine; obtain ⟨z3, hz3⟩ := hc3.row k (by omega); have k2 : w2.cell? ⟨b3, 1 + k, none⟩ = some (.int .u64 z3) := (by rw [cell_block e3]; exact hz3); have k3 : w2.frozen? ⟨b3, 1 + k, none⟩ = false := frozen_of_row w2 b3 _ _ _ e3; clear hc3 h0 hz3 e3) | (go_at_call 93; refine (HO.out _ _ _ H2.out.1).mono ?_; rintro e w3 ⟨⟨z, rfl⟩, rfl⟩))
      exact ⟨⟨⟨k + 1, by omega, rfl⟩, H2.out.2.set k z⟩, by simp [intOf]; omega⟩
    · obtain rfl : k = n := by omega
      obtain ⟨c3, e3, hc3, h0⟩ := HN.out.mine
      obtain ⟨c2, e2, hc2⟩ := HN.out.out
      have HL := hide (ldRel 3 e3 hc3.size)
      have H3 := hide (And.intro hc3 h0)
      have H2 := hide (And.intro e2 hc2)
      clear e3 hc3 h0 e2 hc2
      go_wp2_with (first | (with_reducible refine HL.out _ _ _ _ _ rfl rfl rfl ?_) | (with_reducible refine wpList_store_row rfl 128 (.tmp 2) (.tmp 21) rfl (w.heap.size + 1) _ rfl rfl 128 _ H2.out.1 (by rw [H3.out.1.size]; exact rel_info) (by rw [H3.out.1.size]; exact H2.out.2) H3.out.1.ones ?_))
      have hq := run_loadVar_row (P := Try.prog) (wr.setRow (w.heap.size + 1) c3) (w.heap.size + 1) 128 128 c3 (0, 0) _ (setRow_heap wr _ c2 c3 _ _ H2.out.1) Try.underlying128 rfl (by rw [H3.out.1.size]; exact rel_info)
      refine bodyPost_ret (v := .agg c3) (results_cell (k := 2) Try.results105 rfl hq) rfl ⟨k, c3, rfl, H3.out.1, H3.out.2, below_setRow HN.out.below (by omega) _⟩
end Go.Proofs.Ythnbhcfpfbimgaa
/- The walk of Closed and Order. -/
namespace Go.Proofs.Ythnbhcfpfbimgaa
open Go.RowKit
/-- One relation read. -/
structure One (W : World) (c : Array Value) (wr : World) : Prop where
  below : Below W.heap.size W wr
  one : wr.heap[W.heap.size]? = some (.cells c 128 (0, 0))
theorem One.step {W : World} {c : Array Value} {wr w' : World} (h : One W c wr) (hb : Below wr.heap.size wr w') : One W c w' := ⟨below_next h.below hb, heap_below h.one hb⟩
theorem One.new (W : World) (c : Array Value) : One W c (W.alloc (.cells c 128)) := ⟨below_laid _ _, heap_alloc_last W _⟩
set_option maxRecDepth 100000 in
theorem closed_tot (c : Array Value) (hc : Relv c) (w : World) : Calls Try.prog 99 #[.agg c] w fun e w' => RBo e ∧ Below w.heap.size w w' := by
  have HC := hide hc
  have HT := hide (One.new w c)
  clear hc
  go_enter Try.func99, Try.ntmps99
  go_upto_region 1 with fail
  generalize w.alloc (Obj.cells c 128) = w0 at *
  have HF : Hid (One w c w0.drew) := hide (HT.out.step (below_drewN (Below.refl _ _) 1))
  refine wp_region_chain [0, 1] [(2, true), (3, true), (4, true)] (One w c) (by kernel_rfl) (by kernel_rfl) (fun _ _ _ _ _ h => h) HF.out ?_
  intro hne
  simp only [picks, picksW, List.filterMap_cons, List.filterMap_nil, List.getElem?_cons_zero, List.getElem?_cons_succ, Option.map_some]
  refine wpHeld_step (fun K hK => ?_)
  rw [if_pos (by rfl)]
  refine held_rel rfl rfl (by rintro _ ⟨u, rfl⟩; exact u.ok.one) HC.out.size (hK _ ?_)
  clear hK K
  refine wpHeld_step (fun K hK => ?_)
  rw [if_pos (by rfl)]
  refine held_rel rfl rfl (by rintro _ ⟨u, rfl⟩; exact u.ok.one) HC.out.size (hK _ ?_)
  clear hK K
  refine wpHeld_nil ?_
  clear hne
  generalize w0.drew = w1 at *
  have HP1 := hide (closure_tot c HC.out)
  refine wpChain_cons fun K hK => ?_
  go_wp2_with (go_at_call 105; refine (HP1.out _).mono ?_; rintro e w2 ⟨n, ⟨⟨c1, rfl, hc1, _, hb⟩⟩⟩; have H2 := hide (And.intro hc1 (HF.out.step hb)); clear hc1 hb)
  refine chainF (fun _ => H2.out.2) (hK _ _ ?_)
  clear hK K
  have HP2 := hide (same3_tot c c1 HC.out H2.out.1)
  refine wpChain_cons fun K hK => ?_
  go_wp2_with (go_at_call 104; refine (HP2.out _).mono ?_; rintro e w3 ⟨⟨⟨r, rfl⟩⟩, hb⟩; have H3 := hide (H2.out.2.step hb); clear hb)
  refine chainF (fun _ => H3.out) (hK _ _ ?_)
  clear hK K
  refine wpChain_cons fun K hK => ?_
  go_wp2_with fail
  refine chainF (fun _ => H3.out) (hK _ _ ?_)
  clear hK K
  refine wpChain_nil ?_
  go_wp2_with fail
  go_ret
  exact ⟨⟨_, rfl⟩, H3.out.below⟩
set_option maxRecDepth 100000 in
theorem order_tot (c : Array Value) (hc : Relv c) (w : World) : Calls Try.prog 100 #[.agg c] w fun e w' => RBo e ∧ Below w.heap.size w w' := by
  obtain ⟨n, hn, hp⟩ := points_any c hc
  have HC := hide hc
  have HP := hide hp
  have HT := hide (One.new w c)
  clear hc hp
  go_enter Try.func100, Try.ntmps100
  go_wp2_with fail
  generalize w.alloc (Obj.cells c 128) = w0 at *
  go_loopw [3] (fun kv wr => (∃ k : Nat, k ≤ n ∧ kv = .int .i64 (k : Nat)) ∧ One w c wr) (fun kv _ => n - (intOf kv).toNat)
  case atStart => exact ⟨⟨0, by omega, rfl⟩, HT.out⟩
  case round =>
    obtain ⟨⟨k, hk, rfl⟩, ho⟩ := hrel
    have HO := hide ho
    clear ho
    have HL := hide (ldRel 1 HO.out.one HC.out.size)
    go_upto_if 8 with (first | (with_reducible refine HL.out _ _ _ _ _ rfl rfl rfl ?_) | (go_at_call 89; refine (HP.out wr).mono ?_; rintro e w3 ⟨rfl, hb3⟩; have H3 := hide (HO.out.step hb3); clear hb3))
    clear HL
    by_cases hlt : k < n
    · have i0 : (k : Int) < n := by omega
      have hd : decide (k < n) = true := decide_eq_true hlt
      rw [hd]
      clear hd
      go_wp2_with fail
      go_loopw [4] (fun jv wr => (∃ j : Nat, j ≤ k ∧ jv = .int .i64 (j : Nat)) ∧ One w c wr) (fun jv _ => k - (intOf jv).toNat)
      case atStart => exact ⟨⟨0, by omega, rfl⟩, H3.out⟩
      case round =>
        obtain ⟨⟨j, hj, rfl⟩, ho⟩ := hrel
        have HO := hide ho
        clear ho
        by_cases hjk : j < k
        · have j0 : (j : Int) < k := by omega
          have HL := hide (ldRel 1 HO.out.one HC.out.size)
          obtain ⟨r1, h1⟩ := has3_any c HC.out k j
          obtain ⟨r2, h2⟩ := has3_any c HC.out j k
          have HH1 := hide h1
          have HH2 := hide h2
          clear h1 h2
          cases r1
          · go_wp2_with (first | (with_reducible refine HL.out _ _ _ _ _ rfl rfl rfl ?_) | (with_reducible refine HG.out _ _ _ _ _ rfl rfl (by with_unfolding_all rfl) ?_) | (go_at_call 103; with_reducible refine (HH1.out _).mono ?_; rintro e w4 ⟨rfl, hb4⟩; have H4 := hide (HO.out.step hb4); clear hb4; have HG := hide (ldRelG 1 H4.out.one HC.out.size)) | (go_at_call 103; with_reducible refine (HH2.out _).mono ?_; rintro e w5 ⟨rfl, hb5⟩; have H5 := hide (H4.out.step hb5); clear hb5))
            exact ⟨⟨⟨j + 1, by omega, rfl⟩, H4.out⟩, by simp [intOf]; omega⟩
          · cases r2
            · go_wp2_with (first | (with_reducible refine HL.out _ _ _ _ _ rfl rfl rfl ?_) | (with_reducible refine HG.out _ _ _ _ _ rfl rfl (by with_unfolding_all rfl) ?_) | (go_at_call 103; with_reducible refine (HH1.out _).mono ?_; rintro e w4 ⟨rfl, hb4⟩; have H4 := hide (HO.out.step hb4); clear hb4; have HG := hide (ldRelG 1 H4.out.one HC.out.size)) | (go_at_call 103; with_reducible refine (HH2.out _).mono ?_; rintro e w5 ⟨rfl, hb5⟩; have H5 := hide (H4.out.step hb5); clear hb5))
              exact ⟨⟨⟨j + 1, by omega, rfl⟩, H5.out⟩, by simp [intOf]; omega⟩
            · go_wp2_with (first | (with_reducible refine HL.out _ _ _ _ _ rfl rfl rfl ?_) | (with_reducible refine HG.out _ _ _ _ _ rfl rfl (by with_unfolding_all rfl) ?_) | (go_at_call 103; with_reducible refine (HH1.out _).mono ?_; rintro e w4 ⟨rfl, hb4⟩; have H4 := hide (HO.out.step hb4); clear hb4; have HG := hide (ldRelG 1 H4.out.one HC.out.size)) | (go_at_call 103; with_reducible refine (HH2.out _).mono ?_; rintro e w5 ⟨rfl, hb5⟩; have H5 := hide (H4.out.step hb5); clear hb5))
              go_ret
              exact ⟨⟨_, rfl⟩, H5.out.below⟩
        · obtain rfl : j = k := by omega
          go_wp2_with fail
          exact ⟨⟨⟨j + 1, by omega, rfl⟩, HO.out⟩, by simp [intOf]; omega⟩
    · have i0 : (n : Int) ≤ k := by omega
      have HL := hide (ldRel 1 H3.out.one HC.out.size)
      have HD := hide (closed_tot c HC.out w3)
      go_wp2_with (first | (with_reducible refine HL.out _ _ _ _ _ rfl rfl rfl ?_) | (go_at_call 99; refine HD.out.mono ?_; rintro e w4 ⟨⟨⟨r, rfl⟩⟩, hb4⟩; have H4 := hide (H3.out.step hb4); clear hb4))
      go_ret
      exact ⟨⟨_, rfl⟩, H4.out.below⟩
end Go.Proofs.Ythnbhcfpfbimgaa
