/- Texts put together: RfRel2 RfReach RfClos RfOrd2 RfWord RfGrid. -/
import Derived.BigQuiet
import Derived.Test.YthnbhcfpfbimgaaGreatMl13
/- Points and Has: an answer that hangs on the relation alone (whatever the world). -/
namespace Go.Proofs.YthnbhcfpfbimgaaGreat
open Go.RowKit
set_option maxRecDepth 100000 in
theorem points_any (cs : Array Value) (hc : Relv cs) : ∃ n : Nat, n ≤ 64 ∧ ∀ w : World, Calls Tryz.prog 78 #[.agg cs] w fun e w' => e = .returned (.int .i64 (n : Nat)) ∧ Below w.heap.size w w' := by
  obtain ⟨N, h0⟩ := hc.num
  have K := hide (fun w : World => (show (w.alloc (.cells cs 118)).cell? ⟨w.heap.size, 0, none⟩ = some (.int .i64 N) by rw [cell_block (heap_alloc_new w _)]; exact h0))
  have HB := hide (fun w : World => below_laid w (.cells cs 118))
  clear hc h0
  by_cases h1 : N < 0
  · refine ⟨0, by omega, fun w => ?_⟩
    have k0 := K.out w
    go_enter Tryz.func78, Tryz.ntmps78
    go_wp2_with fail
    go_ret
    exact ⟨rfl, HB.out w⟩
  by_cases h2 : 64 < N
  · refine ⟨64, by omega, fun w => ?_⟩
    have k0 := K.out w
    go_enter Tryz.func78, Tryz.ntmps78
    go_wp2_with fail
    go_ret
    exact ⟨rfl, HB.out w⟩
  obtain ⟨n, rfl⟩ := Int.eq_ofNat_of_zero_le (by omega : 0 ≤ N)
  refine ⟨n, by omega, fun w => ?_⟩
  have k0 := K.out w
  go_enter Tryz.func78, Tryz.ntmps78
  go_wp2_with fail
  go_ret
  exact ⟨rfl, HB.out w⟩
set_option maxRecDepth 100000 in
theorem has3_any (cs : Array Value) (hc : Relv cs) (i j : Int) : ∃ r : Bool, ∀ w : World,
    Calls Tryz.prog 97 #[.agg cs, .int .i64 i, .int .i64 j] w fun e w' => e = .returned (.bool r) ∧ Below w.heap.size w w' := by
  obtain ⟨n, hn, hp⟩ := points_any cs hc
  have HLw := hide (fun w : World => ldRel 3 (heap_alloc_new w (.cells cs 118)) hc.size)
  have HPw := hide hp
  have HBw := hide (fun w : World => below_laid w (.cells cs 118))
  have HC := hide hc
  clear hc hp
  by_cases hi : i < 0
  · refine ⟨false, fun w => ?_⟩
    have HL := hide (HLw.out w)
    have HP := hide (HPw.out (w.alloc (.cells cs 118)))
    have HB := hide (HBw.out w)
    go_enter Tryz.func97, Tryz.ntmps97
    go_wp2_with (first | (with_reducible refine HL.out _ _ _ _ _ rfl rfl rfl ?_) | (go_at_call 78; refine HP.out.mono ?_; rintro e w1 ⟨rfl, hb1⟩; have HB1 := hide hb1; clear hb1))
    go_ret
    exact ⟨rfl, below_next HB.out HB1.out⟩
  by_cases hj : j < 0
  · refine ⟨false, fun w => ?_⟩
    have HL := hide (HLw.out w)
    have HP := hide (HPw.out (w.alloc (.cells cs 118)))
    have HB := hide (HBw.out w)
    go_enter Tryz.func97, Tryz.ntmps97
    go_wp2_with (first | (with_reducible refine HL.out _ _ _ _ _ rfl rfl rfl ?_) | (go_at_call 78; refine HP.out.mono ?_; rintro e w1 ⟨rfl, hb1⟩; have HB1 := hide hb1; clear hb1))
    go_ret
    exact ⟨rfl, below_next HB.out HB1.out⟩
  obtain ⟨i, rfl⟩ := Int.eq_ofNat_of_zero_le (by omega : 0 ≤ i)
  obtain ⟨j, rfl⟩ := Int.eq_ofNat_of_zero_le (by omega : 0 ≤ j)
  by_cases hin : i < n
  rotate_left
  · have i0 : (n : Int) ≤ i := by omega
    refine ⟨false, fun w => ?_⟩
    have HL := hide (HLw.out w)
    have HP := hide (HPw.out (w.alloc (.cells cs 118)))
    have HB := hide (HBw.out w)
    go_enter Tryz.func97, Tryz.ntmps97
    go_wp2_with (first | (with_reducible refine HL.out _ _ _ _ _ rfl rfl rfl ?_) | (go_at_call 78; refine HP.out.mono ?_; rintro e w1 ⟨rfl, hb1⟩; have HB1 := hide hb1; clear hb1))
    go_ret
    exact ⟨rfl, below_next HB.out HB1.out⟩
  by_cases hjn : j < n
  rotate_left
  · have i1 : (i : Int) < n := by omega
    have j0 : (n : Int) ≤ j := by omega
    refine ⟨false, fun w => ?_⟩
    have HL := hide (HLw.out w)
    have HP := hide (HPw.out (w.alloc (.cells cs 118)))
    have HB := hide (HBw.out w)
    go_enter Tryz.func97, Tryz.ntmps97
    go_wp2_with (first | (with_reducible refine HL.out _ _ _ _ _ rfl rfl rfl ?_) | (go_at_call 78; refine HP.out.mono ?_; rintro e w1 ⟨rfl, hb1⟩; have HB1 := hide hb1; clear hb1))
    go_ret
    exact ⟨rfl, below_next HB.out HB1.out⟩
  have i0 : (i : Int) < n := by omega
  have j0 : (j : Int) < n := by omega
  have j1 : (0 : Int) ≤ j := by omega
  have hn9 : (n : Int) ≤ 64 := by omega
  obtain ⟨z, hz⟩ := HC.out.row i (by omega)
  refine ⟨(z / 2 ^ j).tmod 2 == 1, fun w => ?_⟩
  have HL := hide (HLw.out w)
  have HP := hide (HPw.out (w.alloc (.cells cs 118)))
  have HB := hide (HBw.out w)
  go_enter Tryz.func97, Tryz.ntmps97
  go_upto_region 2 with (first | (with_reducible refine HL.out _ _ _ _ _ rfl rfl rfl ?_) | (go_at_call 78; refine HP.out.mono ?_; rintro e w1 ⟨rfl, hb1⟩; have HB1 := hide hb1; clear hb1))
  have k1 : w1.cell? ⟨w.heap.size, 1 + i, none⟩ = some (.int .u64 z) := by
    rw [cell_block (heap_below (heap_alloc_new w _) HB1.out)]; exact hz
  go_wp2_with fail
  go_ret
  exact ⟨rfl, below_next HB.out HB1.out⟩
end Go.Proofs.YthnbhcfpfbimgaaGreat
/- The walk of In and Reach. -/
namespace Go.Proofs.YthnbhcfpfbimgaaGreat
open Go.RowKit
set_option maxRecDepth 100000 in
theorem in3_any (B : Nat) (v : Value) (l : List Int) (j : Int) (w : World) (h : LI w B v l) : Calls Tryz.prog 104 #[v, .int .i64 j] w fun e w' => e = .returned (.bool (decide (j ∈ l))) ∧ w = w' := by
  obtain ⟨A, c, rfl, hl⟩ := h.form
  have hl9 : (l.length : Int) ≤ 9223372036854775807 := by unfold maxLen at hl; omega
  have H := hide h
  clear h
  go_enter Tryz.func104, Tryz.ntmps104
  go_wp2_with fail
  go_loop [5] (fun v => ∃ q : Nat, q ≤ l.length ∧ v = .int .i64 (q : Nat) ∧ ∀ (i : Nat) (h : i < l.length), i < q → l[i] ≠ j) (fun v => l.length - (intOf v).toNat)
  case atStart => exact ⟨0, by omega, rfl, fun i h hi => by omega⟩
  case round =>
    obtain ⟨q, hq, rfl, hno⟩ := hrel
    have HN := hide hno
    clear hno
    by_cases hl2 : q < l.length
    · obtain ⟨b, o, c', e, hcell⟩ := LI.cell H.out hl2
      cases e
      have q0 : (q : Int) < l.length := by omega
      have q1 : (0 : Int) ≤ q := by omega
      generalize hx : l[q] = x at *
      have HX := hide hx
      clear hx
      by_cases hxj : x = j
      · subst hxj
        go_wp2_with fail
        go_ret
        have hd : decide (x ∈ l) = true := decide_eq_true (by rw [← HX.out]; exact List.getElem_mem _)
        exact ⟨by rw [hd]; rfl, rfl⟩
      · go_wp2_with fail
        refine ⟨⟨q + 1, by omega, rfl, fun i h hi => ?_⟩, by simp [intOf]; omega⟩
        rcases Nat.lt_or_ge i q with h' | h'
        · exact HN.out i h h'
        · obtain rfl : i = q := by omega
          rw [HX.out]; exact hxj
    · obtain rfl : q = l.length := by omega
      go_wp2_with fail
      go_ret
      have hd : decide (j ∈ l) = false := decide_eq_false fun hm => by
        obtain ⟨i, hi, e⟩ := List.mem_iff_getElem.mp hm
        exact HN.out i hi hi e
      exact ⟨by rw [hd]; rfl, rfl⟩
theorem nodup_le : ∀ (n : Nat) (l : List Int), l.Nodup → (∀ x ∈ l, 0 ≤ x ∧ x < n) → l.length ≤ n
  | 0, l, _, h => by
    cases l with
    | nil => simp
    | cons x l => have := h x (by simp); omega
  | n + 1, l, hd, h => by
    have h1 := nodup_le n (l.filter (· ≠ (n : Int))) (hd.filter _) (fun x hx => by
      have hx := List.mem_filter.mp hx
      have := h x hx.1
      have hne : x ≠ (n : Int) := by simpa using hx.2
      omega)
    by_cases hm : (n : Int) ∈ l
    · have h2 : (l.filter (· ≠ (n : Int))) = l.erase (n : Int) := (hd.erase_eq_filter _).symm ▸ by
        congr 1
        funext x
        by_cases h : x = (n : Int) <;> simp [h]
      rw [h2, List.length_erase_of_mem hm] at h1
      omega
    · rw [List.filter_eq_self.mpr (fun x hx => by
        have : x ≠ (n : Int) := fun e => hm (e ▸ hx)
        simpa using this)] at h1
      omega
/-- The load of a whole relation under a guard that holds. -/
abbrev LdRelG (cs : Array Value) (b k : Nat) (w : World) : Prop :=
  ∀ (ops : Array Oper) (rest : List Oper) (o : Oper) (a : Act) (Q : Exit → Act → World → Prop), o.op = .load 118 (.tmp k) → a.eval (.tmp k) = .pointer (some ⟨b, 0, none⟩) → Region.wanted o (yielded ops a.tmps) = true → wpList Tryz.prog ops Q rest (a.put o.dst (.agg cs)) w → wpList Tryz.prog ops Q (o :: rest) a w
theorem ldRelG {cs : Array Value} {b : Nat} (k : Nat) {w : World} {o : Nat × Nat} (h : w.heap[b]? = some (.cells cs 118 o)) (hs : cs.size = 65) : LdRelG cs b k w := fun ops rest _ a Q h2 h3 h1 h4 =>
  BigFrame.wpList_want h1 fun _ hK => wp_load_row _ _ h2 b h3 _ cs o _ h Tryz.underlying118 rfl (by rw [hs]; exact rel_info) (hK _ _ h4)
theorem quiet_rel {ops : Array Oper} {C : World → Prop} {cs : Array Value} {b k : Nat} {o : Oper} {rest : List Oper} {Q : Act → Prop} {a : Act} (hw : Region.wanted o (yielded ops a.tmps) = true) (ho : o.op = .load 118 (.tmp k)) (hx : a.eval (.tmp k) = .pointer (some ⟨b, 0, none⟩)) (hS : ∀ w, C w → w.heap[b]? = some (.cells cs 118 (0, 0))) (hs : cs.size = 65) (hk : wpQuiet Tryz.prog ops C Q rest (a.put o.dst (.agg cs))) : wpQuiet Tryz.prog ops C Q (o :: rest) a :=
  BigFrame.wpQuiet_want hw fun K hK => ⟨_, fun w hw => by
    have e : (execOp a.eval o).run Tryz.prog w = .ok (.value (.agg cs)) w := by
      unfold execOp
      simp only [ho, hx, Instr.loadAt, Instr.sureAddr, Sem.run_bind, Sem.run_pure, Result.andThen_ok, run_loadVar_row w b _ _ cs (0, 0) _ (hS w hw) Tryz.underlying118 rfl (by rw [hs]; exact rel_info)]
    unfold Oper.quietAt
    rw [e]
    exact ⟨rfl, rfl⟩, hK _ hk⟩
/-- What is reached so far. -/
structure ReL (W : World) (cs : Array Value) (n : Nat) (v : Value) (l : List Int) (wr : World) : Prop where
  nodup : l.Nodup
  rng : ∀ x ∈ l, 0 ≤ x ∧ x < (n : Int)
  row : RowZ wr 3 1 v l.length (iV l)
  own : ∀ g, v.ownBlock = some g → W.heap.size < g
  arg : wr.heap[W.heap.size]? = some (.cells cs 118 (0, 0))
  below : Below W.heap.size W wr
theorem ReL.step {W : World} {cs : Array Value} {n : Nat} {v : Value} {l : List Int} {wr w' : World} (h : ReL W cs n v l wr) (hb : Below wr.heap.size wr w') : ReL W cs n v l w' :=
  ⟨h.nodup, h.rng, RowZ.below h.row hb, h.own, heap_below h.arg hb, below_next h.below hb⟩
structure ReO (W : World) (cs : Array Value) (n : Nat) (kv v : Value) (wr : World) : Prop where
  ex : ∃ (k : Nat) (l : List Int), k ≤ l.length ∧ kv = .int .i64 (k : Nat) ∧ ReL W cs n v l wr
structure ReI (W : World) (cs : Array Value) (n k : Nat) (jv v : Value) (wr : World) : Prop where
  ex : ∃ (j : Nat) (l : List Int), k < l.length ∧ j ≤ n ∧ jv = .int .i64 (j : Nat) ∧ ReL W cs n v l wr
set_option maxRecDepth 100000 in
theorem reach_tot (cs : Array Value) (hc : Relv cs) (i : Int) (w : World) : Calls Tryz.prog 103 #[.agg cs, .int .i64 i] w fun e w' => RetLi w e w' := by
  obtain ⟨i1', hj, hy0, hy1, hy2⟩ := info_parts info_int
  have HA := hide (heap_alloc_last w (.cells cs 118))
  have HB := hide (below_laid w (.cells cs 118))
  have HC := hide hc
  have HP := hide (points_tot cs hc)
  clear hc
  go_enter Tryz.func103, Tryz.ntmps103
  by_cases hi : i < 0
  · go_wp2_with fail
    go_ret
    exact ⟨_, [], rfl, RowZ.nil, HB.out⟩
  · go_upto_region 1 with fail
    generalize w.alloc (Obj.cells cs 118) = w0 at *
    have HL := hide (ldRelG 2 HA.out HC.out.size)
    go_upto_if 15 with (first | (with_reducible refine HL.out _ _ _ _ _ rfl rfl (by with_unfolding_all rfl) ?_) | (go_at_call 78; refine (HP.out w0).mono ?_; rintro e w1 ⟨⟨n, rfl, hn⟩, hb1⟩; have H1 := hide (And.intro (heap_below HA.out hb1) (below_next HB.out hb1)); clear hb1))
    clear HL
    by_cases hin : (n : Int) ≤ i
    · go_wp2_with fail
      go_ret
      exact ⟨_, [], rfl, RowZ.nil, H1.out.2⟩
    · go_wp2_with fail
      have H2 : Hid (ReL w cs 64 (.slice (some ⟨w1.heap.size, 0, none⟩) 1 1) [i] (w1.alloc (.cells #[.int .i64 i] 3))) := hide
        ⟨by simp, fun x hx => by simp at hx; subst hx; omega, .inr ⟨w1.heap.size, 1, #[.int .i64 i], rfl, heap_alloc_last _ _, by simp, by simp, by unfold maxLen; omega, by simp [iV], by simp [iV]⟩,
          fun g hg => by injection hg with hg; rw [← hg]; exact blk_lt H1.out.1, heap_below H1.out.1 (below_laid _ _), below_next H1.out.2 (below_laid _ _)⟩
      clear HA H1 hin
      generalize (w1.alloc (.cells #[.int .i64 i] 3)) = w2 at *
      generalize (Value.slice (some ⟨w1.heap.size, 0, none⟩) 1 1) = v2 at *
      go_loopw [6, 5] (fun kv v wr => ReO w cs 64 kv v wr) (fun kv _ _ => 64 - (intOf kv).toNat)
      case atStart => exact ⟨0, [i], by simp, rfl, H2.out⟩
      case round =>
        obtain ⟨k, l, hk, rfl, hr⟩ := hrel
        obtain ⟨A, c, rfl, _⟩ := RowZ.form hr.row
        have hl64 := nodup_le 64 l hr.nodup hr.rng
        have HR := hide hr
        clear hr
        by_cases hlt : k < l.length
        · have i0 : (k : Int) < l.length := by omega
          go_wp2_with fail
          generalize wr = wx at *
          go_loopw [7, 5] (fun jv v wr => ReI w cs 64 k jv v wr) (fun jv _ _ => 64 - (intOf jv).toNat)
          case atStart => exact ⟨0, l, hlt, by omega, rfl, HR.out⟩
          case round =>
            obtain ⟨j, l, hkl, hj64, rfl, hr⟩ := hrel
            obtain ⟨A, c, rfl, _⟩ := RowZ.form hr.row
            have HR := hide hr
            clear hr
            have HL := hide (ldRel 2 HR.out.arg HC.out.size)
            go_upto_if 27 with (first | (with_reducible refine HL.out _ _ _ _ _ rfl rfl rfl ?_) | (go_at_call 78; refine (HP.out wr).mono ?_; rintro e w3 ⟨⟨n3, rfl, hn3⟩, hb3⟩; have H3 := hide (HR.out.step hb3); clear hb3))
            clear HL
            by_cases hjn : j < n3
            · go_upto_region 10 with fail
              obtain ⟨b, o, c', e, hc0⟩ := LI.cell (SlAt.of_row (B := w3.heap.size) H3.out.row : LI w3 w3.heap.size _ l) hkl
              cases e
              obtain ⟨r, hr⟩ := has3_any cs HC.out l[k] j
              have HH := hide hr
              have HI := hide (fun (u : Calm w3.heap.size w3) => in3_any w3.heap.size _ l j u.w ((SlAt.of_row (B := w3.heap.size) H3.out.row : LI w3 w3.heap.size _ l).below u.below))
              have hc1 : ∀ u : Calm w3.heap.size w3, u.w.cell? ⟨b, o + k, none⟩ = some (.int .i64 l[k]) := fun u => by
                obtain ⟨b', o', c', e, h⟩ := LI.cell ((SlAt.of_row (B := w3.heap.size) H3.out.row : LI w3 w3.heap.size _ l).below u.below) hkl
                cases e
                exact h
              clear hr hc0
              have i1 : (k : Int) < l.length := by omega
              generalize hlk : l[k] = x at *
              refine wp_region_calm w3.heap.size (by kernel_rfl) (by kernel_rfl) ?_
              refine quiet_rel (by rfl) rfl rfl (by rintro _ ⟨u, rfl⟩; exact heap_below H3.out.arg u.below) HC.out.size ?_
              go_simp
              cases hd : decide ((j : Int) ∈ l) <;> rw [hd] at HI <;> cases r <;> repeat (go_big_quiet_step ((first | (go_at_call 97; exact calm_call (Nat.le_refl _) (HH.out _)) | (go_at_call 104; exact calm_same (HI.out _)))))
              all_goals
                refine wpQuiet_nil ?_
                intro u
                have H4 := hide (H3.out.step u.below)
                clear hc1 HI HH H3
                generalize u.w = w4 at *
              rotate_left
              · have hjl : (j : Int) ∉ l := fun h => by simp [h] at hd
                have hl63 := nodup_le 64 l H4.out.nodup H4.out.rng
                go_wp2_with (at_builtin; go_must (refine app_rowz rfl (.tmp 43) (.tmp 45) 90 90 rfl 3 i1' _ 1 8 Tryz.underlying90 hj hy0 hy1 hy2 rfl (.slice (some ⟨b, o, none⟩) l.length c) l.length (iV l) rfl (RowZ.below H4.out.row (below_laid w4 _)) _ 1 [.int .i64 (j : Nat)] rfl (int_news (heap_alloc_new w4 _)) (by unfold maxLen; omega) (by omega) ?_); intro A' c' w' hr hg hob; have HG := hide (And.intro hr (And.intro hg hob)); clear hr hg hob)
                have H5 := H4.out.step (below_laid w4 (.cells #[.int .i64 (j : Nat)] 3))
                refine ⟨⟨j + 1, l ++ [(j : Int)], by simp; omega, by omega, rfl, ?_⟩, by simp [intOf]; omega⟩
                have hlt5 : w.heap.size < (w4.alloc (.cells #[.int .i64 (j : Nat)] 3)).heap.size := blk_lt H5.arg
                have hb5 : Below (w.heap.size + 1) (w4.alloc (.cells #[.int .i64 (j : Nat)] 3)) w' := (Below.refl _ _).grown HG.out.2.1 hlt5 H5.own
                refine ⟨?_, fun x hx => ?_, ?_, fun g hg => ?_, ?_, H5.below.trans (hb5.mono (Nat.le_succ _))⟩
                · rw [List.nodup_append]
                  exact ⟨H4.out.nodup, by simp, fun a ha b hb e => by simp at hb; subst hb; exact hjl (e ▸ ha)⟩
                · rcases List.mem_append.mp hx with h | h
                  · exact H4.out.rng x h
                  · simp at h; subst h; omega
                · rw [iV_snoc, List.length_append]; exact HG.out.1
                · rcases HG.out.2.2 with e | e
                  · rw [e] at hg; exact H5.own g hg
                  · rw [e] at hg; injection hg with hg; rw [← hg]; exact hlt5
                · rw [hb5.block _ (Nat.lt_succ_self _)]; exact H5.arg
              all_goals
                go_wp2_with fail
                exact ⟨⟨j + 1, l, hkl, by omega, rfl, H4.out⟩, by simp [intOf]; omega⟩
            · go_wp2_with fail
              exact ⟨⟨k + 1, l, by omega, rfl, H3.out⟩, by simp [intOf]; have := nodup_le 64 l H3.out.nodup H3.out.rng; omega⟩
        · obtain rfl : k = l.length := by omega
          go_wp2_with fail
          go_ret
          exact ⟨_, l, rfl, HR.out.row, HR.out.below⟩
end Go.Proofs.YthnbhcfpfbimgaaGreat
/- The walk of Closure. -/
namespace Go.Proofs.YthnbhcfpfbimgaaGreat
open Go.RowKit
set_option maxRecDepth 100000 in
theorem closure_tot (cs : Array Value) (hc : Relv cs) (w : World) : Calls Tryz.prog 101 #[.agg cs] w fun e w' => ∃ n, RRel w n e w' := by
  obtain ⟨i1, hj, hy0, hy1, hy2⟩ := info_parts info_int
  have HS := hide hc.size
  have HC := hide hc
  clear hc
  go_enter Tryz.func101, Tryz.ntmps101
  go_upto_region 1 with fail
  generalize hz : ((_ : World).alloc (Obj.cells _ 118)) = w0
  have h1 : w0.heap[w.heap.size]? = some (.cells cs 118 (0, 0)) := by
    rw [← hz]
    exact heap_below (heap_alloc_last w _) (below_laid _ _)
  have HL := hide (ldRel 1 h1 HS.out)
  have HP := hide (points_tot cs HC.out w0)
  have HZ := hide (fun w1 (h : Below w0.heap.size w0 w1) n => Pl.zero (W := w) (cs := cs) w0 hz h n)
  clear hz h1
  go_wp2_with (first | (with_reducible refine HL.out _ _ _ _ _ rfl rfl rfl ?_) | (go_at_call 78; refine HP.out.mono ?_; rintro e w1 ⟨⟨n, rfl, hn⟩, hb1⟩; have HB1 := hide (HZ.out w1 hb1 n); clear hb1) | (with_reducible refine wpList_store_row rfl 118 (.tmp 3) (.tmp 7) rfl w1.heap.size _ rfl rfl 118 _ (heap_alloc_last w1 _) (by rw [Array.size_setIfInBounds, zrel_relv.size]; exact rel_info) (by rw [Array.size_setIfInBounds]) (zrel_relv.set0 n).ones ?_; rw [World.setRow_alloc_new]))
  clear HL HP HZ
  generalize w1.heap.size = b3 at *
  go_loopw [4] (fun kv wr => (∃ k : Nat, k ≤ n ∧ kv = .int .i64 (k : Nat)) ∧ Pl w cs n b3 wr) (fun kv _ => n - (intOf kv).toNat)
  case atStart => exact ⟨⟨0, by omega, rfl⟩, HB1.out⟩
  case round =>
    obtain ⟨⟨k, hk, rfl⟩, hp⟩ := hrel
    obtain ⟨c3, e3, hc3, h0⟩ := hp.mine
    have k0 : wr.cell? ⟨b3, 0, none⟩ = some (.int .i64 (n : Nat)) := by rw [cell_block e3]; exact h0
    have HN := hide hp
    clear hp e3 hc3 h0
    by_cases hlt : k < n
    · have i0 : (k : Int) < n := by omega
      have HL := hide (ldRel 1 HN.out.arg HS.out)
      have HR := hide (reach_tot cs HC.out k wr)
      have HO := hide (fun (w1 : World) (v : Value) (l : List Int) (h : RowZ w1 3 1 v l.length (iV l)) => of1_tot w1.heap.size v l w1 (SlAt.of_row h))
      go_upto_region 5 with fail
      have k4 : (k : Int) < 64 := by omega
      go_wp2_with (first | (with_reducible refine HL.out _ _ _ _ _ rfl rfl rfl ?_) | (go_at_call 103; refine HR.out.mono ?_; rintro e w2 ⟨v2, l2, rfl, hr2, hb2⟩; have H2 := hide (And.intro hr2 (HN.out.step hb2)); clear hr2 hb2; obtain ⟨c3, e3, hc3, h0⟩ := H2.out.2.mine; obtain ⟨z3, hz3⟩ := hc3.row k (by omega); have k2 : w2.cell? ⟨b3, 1 + k, none⟩ = some (.int .u64 z3) := (by rw [cell_block e3]; exact hz3); have k3 : w2.frozen? ⟨b3, 1 + k, none⟩ = false := frozen_of_row w2 b3 _ _ _ e3; clear hc3 h0 hz3 e3) | (go_at_call 84; refine (HO.out _ _ _ H2.out.1).mono ?_; rintro e w3 ⟨⟨z, rfl⟩, rfl⟩))
      exact ⟨⟨⟨k + 1, by omega, rfl⟩, H2.out.2.set k z⟩, by simp [intOf]; omega⟩
    · obtain rfl : k = n := by omega
      obtain ⟨c3, e3, hc3, h0⟩ := HN.out.mine
      obtain ⟨c2, e2, hc2⟩ := HN.out.out
      have HL := hide (ldRel 3 e3 hc3.size)
      have H3 := hide (And.intro hc3 h0)
      have H2 := hide (And.intro e2 hc2)
      clear e3 hc3 h0 e2 hc2
      go_wp2_with (first | (with_reducible refine HL.out _ _ _ _ _ rfl rfl rfl ?_) | (with_reducible refine wpList_store_row rfl 118 (.tmp 2) (.tmp 21) rfl (w.heap.size + 1) _ rfl rfl 118 _ H2.out.1 (by rw [H3.out.1.size]; exact rel_info) (by rw [H3.out.1.size]; exact H2.out.2) H3.out.1.ones ?_))
      have hq := run_loadVar_row (P := Tryz.prog) (wr.setRow (w.heap.size + 1) c3) (w.heap.size + 1) 118 118 c3 (0, 0) _ (setRow_heap wr _ c2 c3 _ _ H2.out.1) Tryz.underlying118 rfl (by rw [H3.out.1.size]; exact rel_info)
      refine bodyPost_ret (v := .agg c3) (results_cell (k := 2) Tryz.results101 rfl hq) rfl ⟨k, c3, rfl, H3.out.1, H3.out.2, below_setRow HN.out.below (by omega) _⟩
end Go.Proofs.YthnbhcfpfbimgaaGreat
/- The walk of Closed and Order. -/
namespace Go.Proofs.YthnbhcfpfbimgaaGreat
open Go.RowKit
/-- One relation read. -/
structure One (W : World) (c : Array Value) (wr : World) : Prop where
  below : Below W.heap.size W wr
  one : wr.heap[W.heap.size]? = some (.cells c 118 (0, 0))
theorem One.step {W : World} {c : Array Value} {wr w' : World} (h : One W c wr) (hb : Below wr.heap.size wr w') : One W c w' := ⟨below_next h.below hb, heap_below h.one hb⟩
theorem One.new (W : World) (c : Array Value) : One W c (W.alloc (.cells c 118)) := ⟨below_laid _ _, heap_alloc_last W _⟩
set_option maxRecDepth 100000 in
theorem closed_tot (c : Array Value) (hc : Relv c) (w : World) : Calls Tryz.prog 92 #[.agg c] w fun e w' => RBo e ∧ Below w.heap.size w w' := by
  have HC := hide hc
  have HT := hide (One.new w c)
  clear hc
  go_enter Tryz.func92, Tryz.ntmps92
  go_upto_region 1 with fail
  generalize w.alloc (Obj.cells c 118) = w0 at *
  have HF : Hid (One w c w0.drew) := hide (HT.out.step (below_drewN (Below.refl _ _) 1))
  refine wp_region_chain [0, 1] [(2, true), (3, true), (4, true)] (One w c) (by kernel_rfl) (by kernel_rfl) (fun _ _ _ _ _ h => h) HF.out ?_
  intro hne
  simp only [picks, picksW, List.filterMap_cons, List.filterMap_nil, List.getElem?_cons_zero, List.getElem?_cons_succ, Option.map_some]
  refine wpHeld_step (fun K hK => ?_)
  rw [if_pos (by rfl)]
  refine held_rel rfl rfl (by rintro _ ⟨u, rfl⟩; exact u.ok.one) HC.out.size (hK _ ?_)
  clear hK K
  refine wpHeld_step (fun K hK => ?_)
  rw [if_pos (by rfl)]
  refine held_rel rfl rfl (by rintro _ ⟨u, rfl⟩; exact u.ok.one) HC.out.size (hK _ ?_)
  clear hK K
  refine wpHeld_nil ?_
  clear hne
  generalize w0.drew = w1 at *
  have HP1 := hide (closure_tot c HC.out)
  refine wpChain_cons fun K hK => ?_
  go_wp2_with (go_at_call 101; refine (HP1.out _).mono ?_; rintro e w2 ⟨n, ⟨⟨c1, rfl, hc1, _, hb⟩⟩⟩; have H2 := hide (And.intro hc1 (HF.out.step hb)); clear hc1 hb)
  refine chainF (fun _ => H2.out.2) (hK _ _ ?_)
  clear hK K
  have HP2 := hide (same3_tot c c1 HC.out H2.out.1)
  refine wpChain_cons fun K hK => ?_
  go_wp2_with (go_at_call 100; refine (HP2.out _).mono ?_; rintro e w3 ⟨⟨⟨r, rfl⟩⟩, hb⟩; have H3 := hide (H2.out.2.step hb); clear hb)
  refine chainF (fun _ => H3.out) (hK _ _ ?_)
  clear hK K
  refine wpChain_cons fun K hK => ?_
  go_wp2_with fail
  refine chainF (fun _ => H3.out) (hK _ _ ?_)
  clear hK K
  refine wpChain_nil ?_
  go_wp2_with fail
  go_ret
  exact ⟨⟨_, rfl⟩, H3.out.below⟩
set_option maxRecDepth 100000 in
theorem order_tot (c : Array Value) (hc : Relv c) (w : World) : Calls Tryz.prog 93 #[.agg c] w fun e w' => RBo e ∧ Below w.heap.size w w' := by
  obtain ⟨n, hn, hp⟩ := points_any c hc
  have HC := hide hc
  have HP := hide hp
  have HT := hide (One.new w c)
  clear hc hp
  go_enter Tryz.func93, Tryz.ntmps93
  go_wp2_with fail
  generalize w.alloc (Obj.cells c 118) = w0 at *
  go_loopw [3] (fun kv wr => (∃ k : Nat, k ≤ n ∧ kv = .int .i64 (k : Nat)) ∧ One w c wr) (fun kv _ => n - (intOf kv).toNat)
  case atStart => exact ⟨⟨0, by omega, rfl⟩, HT.out⟩
  case round =>
    obtain ⟨⟨k, hk, rfl⟩, ho⟩ := hrel
    have HO := hide ho
    clear ho
    have HL := hide (ldRel 1 HO.out.one HC.out.size)
    go_upto_if 8 with (first | (with_reducible refine HL.out _ _ _ _ _ rfl rfl rfl ?_) | (go_at_call 78; refine (HP.out wr).mono ?_; rintro e w3 ⟨rfl, hb3⟩; have H3 := hide (HO.out.step hb3); clear hb3))
    clear HL
    by_cases hlt : k < n
    · have i0 : (k : Int) < n := by omega
      have hd : decide (k < n) = true := decide_eq_true hlt
      rw [hd]
      clear hd
      go_wp2_with fail
      go_loopw [4] (fun jv wr => (∃ j : Nat, j ≤ k ∧ jv = .int .i64 (j : Nat)) ∧ One w c wr) (fun jv _ => k - (intOf jv).toNat)
      case atStart => exact ⟨⟨0, by omega, rfl⟩, H3.out⟩
      case round =>
        obtain ⟨⟨j, hj, rfl⟩, ho⟩ := hrel
        have HO := hide ho
        clear ho
        by_cases hjk : j < k
        · have j0 : (j : Int) < k := by omega
          have HL := hide (ldRel 1 HO.out.one HC.out.size)
          obtain ⟨r1, h1⟩ := has3_any c HC.out k j
          obtain ⟨r2, h2⟩ := has3_any c HC.out j k
          have HH1 := hide h1
          have HH2 := hide h2
          clear h1 h2
          cases r1
          · go_wp2_with (first | (with_reducible refine HL.out _ _ _ _ _ rfl rfl rfl ?_) | (with_reducible refine HG.out _ _ _ _ _ rfl rfl (by with_unfolding_all rfl) ?_) | (go_at_call 97; with_reducible refine (HH1.out _).mono ?_; rintro e w4 ⟨rfl, hb4⟩; have H4 := hide (HO.out.step hb4); clear hb4; have HG := hide (ldRelG 1 H4.out.one HC.out.size)) | (go_at_call 97; with_reducible refine (HH2.out _).mono ?_; rintro e w5 ⟨rfl, hb5⟩; have H5 := hide (H4.out.step hb5); clear hb5))
            exact ⟨⟨⟨j + 1, by omega, rfl⟩, H4.out⟩, by simp [intOf]; omega⟩
          · cases r2
            · go_wp2_with (first | (with_reducible refine HL.out _ _ _ _ _ rfl rfl rfl ?_) | (with_reducible refine HG.out _ _ _ _ _ rfl rfl (by with_unfolding_all rfl) ?_) | (go_at_call 97; with_reducible refine (HH1.out _).mono ?_; rintro e w4 ⟨rfl, hb4⟩; have H4 := hide (HO.out.step hb4); clear hb4; have HG := hide (ldRelG 1 H4.out.one HC.out.size)) | (go_at_call 97; with_reducible refine (HH2.out _).mono ?_; rintro e w5 ⟨rfl, hb5⟩; have H5 := hide (H4.out.step hb5); clear hb5))
              exact ⟨⟨⟨j + 1, by omega, rfl⟩, H5.out⟩, by simp [intOf]; omega⟩
            · go_wp2_with (first | (with_reducible refine HL.out _ _ _ _ _ rfl rfl rfl ?_) | (with_reducible refine HG.out _ _ _ _ _ rfl rfl (by with_unfolding_all rfl) ?_) | (go_at_call 97; with_reducible refine (HH1.out _).mono ?_; rintro e w4 ⟨rfl, hb4⟩; have H4 := hide (HO.out.step hb4); clear hb4; have HG := hide (ldRelG 1 H4.out.one HC.out.size)) | (go_at_call 97; with_reducible refine (HH2.out _).mono ?_; rintro e w5 ⟨rfl, hb5⟩; have H5 := hide (H4.out.step hb5); clear hb5))
              go_ret
              exact ⟨⟨_, rfl⟩, H5.out.below⟩
        · obtain rfl : j = k := by omega
          go_wp2_with fail
          exact ⟨⟨⟨j + 1, by omega, rfl⟩, HO.out⟩, by simp [intOf]; omega⟩
    · have i0 : (n : Int) ≤ k := by omega
      have HL := hide (ldRel 1 H3.out.one HC.out.size)
      have HD := hide (closed_tot c HC.out w3)
      go_wp2_with (first | (with_reducible refine HL.out _ _ _ _ _ rfl rfl rfl ?_) | (go_at_call 92; refine HD.out.mono ?_; rintro e w4 ⟨⟨⟨r, rfl⟩⟩, hb4⟩; have H4 := hide (H3.out.step hb4); clear hb4))
      go_ret
      exact ⟨⟨_, rfl⟩, H4.out.below⟩
end Go.Proofs.YthnbhcfpfbimgaaGreat
/- The walks of chapter 4: Word, Level. -/
namespace Go.Proofs.YthnbhcfpfbimgaaGreat
open Go.RowKit
/-- A word and whether; a number and whether. -/
structure RUB (e : Ending) : Prop where
  ex : ∃ z b, e = .returned (.tuple #[.int .u64 z, .bool b])
structure RIB (e : Ending) : Prop where
  ex : ∃ z b, e = .returned (.tuple #[.int .i64 z, .bool b])
theorem results_tmp2 {fn : Func} {tmps : Array Value} {i j : Nat} {w : World} (hres : fn.results = #[.tmp i, .tmp j]) : (results fn tmps).run Tryz.prog w = .ok (.tuple #[tmps.getD i undef, tmps.getD j undef]) w := by
  simp only [results, hres, List.mapM_toArray, List.mapM_cons, List.mapM_nil]
  simp
set_option maxRecDepth 100000 in
theorem word4_tot (n k : Int) (w : World) : Calls Tryz.prog 81 #[.int .i64 n, .int .i64 k] w fun e w' => RUB e ∧ Below w.heap.size w w' := by
  have HB := hide (below1_tot k w)
  by_cases h1 : n < 1
  · go_enter Tryz.func81, Tryz.ntmps81
    go_wp2_with fail
    refine bodyPost_ret (results_tmp2 Tryz.results81) rfl ⟨⟨_, _, rfl⟩, Below.refl _ _⟩
  by_cases h2 : 64 < n
  · go_enter Tryz.func81, Tryz.ntmps81
    go_wp2_with fail
    refine bodyPost_ret (results_tmp2 Tryz.results81) rfl ⟨⟨_, _, rfl⟩, Below.refl _ _⟩
  by_cases h3 : k < 0
  · go_enter Tryz.func81, Tryz.ntmps81
    go_wp2_with fail
    refine bodyPost_ret (results_tmp2 Tryz.results81) rfl ⟨⟨_, _, rfl⟩, Below.refl _ _⟩
  by_cases h4 : n ≤ k
  · go_enter Tryz.func81, Tryz.ntmps81
    go_wp2_with fail
    refine bodyPost_ret (results_tmp2 Tryz.results81) rfl ⟨⟨_, _, rfl⟩, Below.refl _ _⟩
  go_enter Tryz.func81, Tryz.ntmps81
  go_wp2_with (go_at_call 67; refine HB.out.mono ?_; rintro e w1 ⟨⟨⟨z, rfl⟩⟩, hb⟩; have H1 := hide hb; clear hb)
  refine bodyPost_ret (results_tmp2 Tryz.results81) rfl ⟨⟨_, _, rfl⟩, H1.out⟩
set_option maxRecDepth 100000 in
theorem level_tot (n x : Int) (w : World) : Calls Tryz.prog 65 #[.int .i64 n, .int .u64 x] w fun e w' => RIB e ∧ Below w.heap.size w w' := by
  have HW := hide (word4_tot n)
  go_enter Tryz.func65, Tryz.ntmps65
  go_wp2_with fail
  go_loopw [6] (fun kv wr => (∃ k : Nat, k ≤ 64 ∧ kv = .int .i64 (k : Nat)) ∧ Below w.heap.size w wr) (fun kv _ => 64 - (intOf kv).toNat)
  case atStart => exact ⟨⟨0, by omega, rfl⟩, Below.refl _ _⟩
  case round =>
    obtain ⟨⟨k, hk, rfl⟩, hb⟩ := hrel
    have HB := hide hb
    clear hb
    by_cases hkn : (k : Int) < n
    · by_cases hk6 : k < 64
      · have k0 : (k : Int) < 64 := by omega
        go_upto_region 5 with (go_at_call 81; refine (HW.out _ _).mono ?_; rintro e w1 ⟨⟨⟨z, b, rfl⟩⟩, hb⟩; have H1 := hide (below_next HB.out hb); clear hb)
        cases b
        · go_wp2_with fail
          exact ⟨⟨⟨k + 1, by omega, rfl⟩, H1.out⟩, by simp [intOf]; omega⟩
        · by_cases hzx : z = x
          · subst hzx
            go_wp2_with fail
            refine bodyPost_ret (results_tmp2 Tryz.results65) rfl ⟨⟨_, _, rfl⟩, H1.out⟩
          · go_wp2_with fail
            exact ⟨⟨⟨k + 1, by omega, rfl⟩, H1.out⟩, by simp [intOf]; omega⟩
      · obtain rfl : k = 64 := by omega
        go_wp2_with fail
        refine bodyPost_ret (results_tmp2 Tryz.results65) rfl ⟨⟨_, _, rfl⟩, HB.out⟩
    · go_wp2_with fail
      refine bodyPost_ret (results_tmp2 Tryz.results65) rfl ⟨⟨_, _, rfl⟩, HB.out⟩
end Go.Proofs.YthnbhcfpfbimgaaGreat
/- The walks of chapter 5: Right, Out, follows, Close. -/
namespace Go.Proofs.YthnbhcfpfbimgaaGreat
open Go.RowKit
theorem One.num {W : World} {c : Array Value} {wr : World} (h : One W c wr) {N : Int} (h0 : c[0]? = some (.int .i64 N)) : wr.cell? ⟨W.heap.size, 0, none⟩ = some (.int .i64 N) := by rw [cell_block h.one]; exact h0
/-- Whether it is a grid's; if so it has 1 to 8 points. -/
structure RGi (N : Int) (e : Ending) : Prop where
  ex : ∃ r, e = .returned (.bool r) ∧ (r = true → 1 ≤ N ∧ N ≤ 8)
set_option maxRecDepth 100000 in
theorem right5_no (c : Array Value) (N : Int) (h0 : c[0]? = some (.int .i64 N)) (h : N < 1 ∨ 8 < N) (w : World) : Calls Tryz.prog 79 #[.agg c] w fun e w' => RGi N e ∧ Below w.heap.size w w' := by
  have HT := hide (One.new w c)
  have k0 := HT.out.num h0
  clear h0
  rcases h with h1 | h2
  · have d1 : decide (1 ≤ N) = false := decide_eq_false (by omega)
    go_enter Tryz.func79, Tryz.ntmps79
    go_wp2_with fail
    go_ret
    exact ⟨⟨false, rfl, fun h => by cases h⟩, HT.out.below⟩
  · have d1 : decide (1 ≤ N) = true := decide_eq_true (by omega)
    have d2 : decide (N ≤ 8) = false := decide_eq_false (by omega)
    go_enter Tryz.func79, Tryz.ntmps79
    go_wp2_with fail
    go_ret
    exact ⟨⟨false, rfl, fun h => by cases h⟩, HT.out.below⟩
set_option maxRecDepth 100000 in
theorem right5_yes (c : Array Value) (hc : Relv c) (N : Int) (h0 : c[0]? = some (.int .i64 N)) (n1 : 1 ≤ N) (n8 : N ≤ 8) (w : World) : Calls Tryz.prog 79 #[.agg c] w fun e w' => RGi N e ∧ Below w.heap.size w w' := by
  have HT := hide (One.new w c)
  have k0 := HT.out.num h0
  have HC := hide hc
  have hN : 1 ≤ N ∧ N ≤ 8 := ⟨n1, n8⟩
  have HN := hide hN
  have d1 : decide (1 ≤ N) = true := decide_eq_true n1
  have d2 : decide (N ≤ 8) = true := decide_eq_true n8
  clear hc h0 hN n1 n8
  go_enter Tryz.func79, Tryz.ntmps79
  go_upto_region 1 with fail
  generalize w.alloc (Obj.cells c 118) = w0 at *
  have HL := hide (ldRelG 1 HT.out.one HC.out.size)
  have HD := hide (closed_tot c HC.out w0)
  go_wp2_with (first | (with_reducible refine HL.out _ _ _ _ _ rfl rfl (by with_unfolding_all rfl) ?_) | (go_at_call 92; refine HD.out.mono ?_; rintro e w4 ⟨⟨⟨r, rfl⟩⟩, hb4⟩; have H4 := hide (HT.out.step hb4); clear hb4))
  go_ret
  exact ⟨⟨r, rfl, fun _ => HN.out⟩, H4.out.below⟩
theorem right5_tot (c : Array Value) (hc : Relv c) (N : Int) (h0 : c[0]? = some (.int .i64 N)) (w : World) : Calls Tryz.prog 79 #[.agg c] w fun e w' => RGi N e ∧ Below w.heap.size w w' := by
  by_cases h1 : N < 1
  · exact right5_no c N h0 (.inl h1) w
  by_cases h2 : 8 < N
  · exact right5_no c N h0 (.inr h2) w
  exact right5_yes c hc N h0 (by omega) (by omega) w
set_option maxRecDepth 100000 in
theorem out5_tot (c : Array Value) (N : Int) (h0 : c[0]? = some (.int .i64 N)) (x o p : Int) (ho : 0 ≤ o ∧ o < 9) (hp : 0 ≤ p ∧ p < 9) (w : World) : Calls Tryz.prog 96 #[.agg c, .int .u64 x, .int .i64 o, .int .i64 p] w fun e w' => RBo e ∧ Below w.heap.size w w' := by
  have HT := hide (One.new w c)
  have k0 := HT.out.num h0
  clear h0
  obtain ⟨ho1, ho2⟩ := ho
  obtain ⟨hp1, hp2⟩ := hp
  by_cases h1 : o < N
  rotate_left
  · have h1' : N ≤ o := by omega
    go_enter Tryz.func96, Tryz.ntmps96
    go_wp2_with fail
    go_ret
    exact ⟨⟨_, rfl⟩, HT.out.below⟩
  by_cases h2 : p < N
  rotate_left
  · have h2' : N ≤ p := by omega
    go_enter Tryz.func96, Tryz.ntmps96
    go_wp2_with fail
    go_ret
    exact ⟨⟨_, rfl⟩, HT.out.below⟩
  have HH := hide (has1_tot x (8 * o + p) (w.alloc (.cells c 118)))
  go_enter Tryz.func96, Tryz.ntmps96
  go_wp2_with (go_at_call 83; refine HH.out.mono ?_; rintro e w4 ⟨⟨⟨r, rfl⟩⟩, rfl⟩)
  go_ret
  exact ⟨⟨_, rfl⟩, HT.out.below⟩
end Go.Proofs.YthnbhcfpfbimgaaGreat
