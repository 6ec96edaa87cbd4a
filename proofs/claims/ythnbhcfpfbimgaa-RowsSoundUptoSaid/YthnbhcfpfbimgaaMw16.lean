/- Texts put together: RfWord RfGrid RfGrid2 RfHasse. -/
import Derived.Test.YthnbhcfpfbimgaaMw15
/- The walks of chapter 4: Word, Level. -/
namespace Go.Proofs.Ythnbhcfpfbimgaa
open Go.RowKit
/-- A word and whether; a number and whether. -/
structure RUB (e : Ending) : Prop where
  ex : ∃ z b, e = .returned (.tuple #[.int .u64 z, .bool b])
structure RIB (e : Ending) : Prop where
  ex : ∃ z b, e = .returned (.tuple #[.int .i64 z, .bool b])
theorem results_tmp2 {fn : Func} {tmps : Array Value} {i j : Nat} {w : World} (hres : fn.results = #[.tmp i, .tmp j]) : (results fn tmps).run Try.prog w = .ok (.tuple #[tmps.getD i undef, tmps.getD j undef]) w := by
  simp only [results, hres, List.mapM_toArray, List.mapM_cons, List.mapM_nil]
  simp
set_option maxRecDepth 100000 in
theorem word4_tot (n k : Int) (w : World) : Calls Try.prog 92 #[.int .i64 n, .int .i64 k] w fun e w' => RUB e ∧ Below w.heap.size w w' := by
  have HB := hide (below1_tot k w)
  by_cases h1 : n < 1
  · go_enter Try.func92, Try.ntmps92
    go_wp2_with fail
    refine bodyPost_ret (results_tmp2 Try.results92) rfl ⟨⟨_, _, rfl⟩, Below.refl _ _⟩
  by_cases h2 : 64 < n
  · go_enter Try.func92, Try.ntmps92
    go_wp2_with fail
    refine bodyPost_ret (results_tmp2 Try.results92) rfl ⟨⟨_, _, rfl⟩, Below.refl _ _⟩
  by_cases h3 : k < 0
  · go_enter Try.func92, Try.ntmps92
    go_wp2_with fail
    refine bodyPost_ret (results_tmp2 Try.results92) rfl ⟨⟨_, _, rfl⟩, Below.refl _ _⟩
  by_cases h4 : n ≤ k
  · go_enter Try.func92, Try.ntmps92
    go_wp2_with fail
    refine bodyPost_ret (results_tmp2 Try.results92) rfl ⟨⟨_, _, rfl⟩, Below.refl _ _⟩
  go_enter Try.func92, Try.ntmps92
  go_wp2_with (go_at_call 80; refine HB.out.mono ?_; rintro e w1 ⟨⟨⟨z, rfl⟩⟩, hb⟩; have H1 := hide hb; clear hb)
  refine bodyPost_ret (results_tmp2 Try.results92) rfl ⟨⟨_, _, rfl⟩, H1.out⟩
set_option maxRecDepth 100000 in
theorem level_tot (n x : Int) (w : World) : Calls Try.prog 79 #[.int .i64 n, .int .u64 x] w fun e w' => RIB e ∧ Below w.heap.size w w' := by
  have HW := hide (word4_tot n)
  go_enter Try.func79, Try.ntmps79
  go_wp2_with fail
  go_loopw [6] (fun kv wr => (∃ k : Nat, k ≤ 64 ∧ kv = .int .i64 (k : Nat)) ∧ Below w.heap.size w wr) (fun kv _ => 64 - (intOf kv).toNat)
  case atStart => exact ⟨⟨0, by omega, rfl⟩, Below.refl _ _⟩
  case round =>
    obtain ⟨⟨k, hk, rfl⟩, hb⟩ := hrel
    have HB := hide hb
    clear hb
    by_cases hkn : (k : Int) < n
    · by_cases hk6 : k < 64
      · have k0 : (k : Int) < 64 := by omega
        go_upto_region 5 with (go_at_call 92; refine (HW.out _ _).mono ?_; rintro e w1 ⟨⟨⟨z, b, rfl⟩⟩, hb⟩; have H1 := hide (below_next HB.out hb); clear hb)
        cases b
        · go_wp2_with fail
          exact ⟨⟨⟨k + 1, by omega, rfl⟩, H1.out⟩, by simp [intOf]; omega⟩
        · by_cases hzx : z = x
          · subst hzx
            go_wp2_with fail
            refine bodyPost_ret (results_tmp2 Try.results79) rfl ⟨⟨_, _, rfl⟩, H1.out⟩
          · go_wp2_with fail
            exact ⟨⟨⟨k + 1, by omega, rfl⟩, H1.out⟩, by simp [intOf]; omega⟩
      · obtain rfl : k = 64 := by omega
        go_wp2_with fail
        refine bodyPost_ret (results_tmp2 Try.results79) rfl ⟨⟨_, _, rfl⟩, HB.out⟩
    · go_wp2_with fail
      refine bodyPost_ret (results_tmp2 Try.results79) rfl ⟨⟨_, _, rfl⟩, HB.out⟩
end Go.Proofs.Ythnbhcfpfbimgaa
/- The walks of chapter 5: Right, Out, follows, Close. -/
namespace Go.Proofs.Ythnbhcfpfbimgaa
open Go.RowKit
theorem One.num {W : World} {c : Array Value} {wr : World} (h : One W c wr) {N : Int} (h0 : c[0]? = some (.int .i64 N)) : wr.cell? ⟨W.heap.size, 0, none⟩ = some (.int .i64 N) := by rw [cell_block h.one]; exact h0
/-- Whether it is a grid's; if so it has 1 to 8 points. -/
structure RGi (N : Int) (e : Ending) : Prop where
  ex : ∃ r, e = .returned (.bool r) ∧ (r = true → 1 ≤ N ∧ N ≤ 8)
set_option maxRecDepth 100000 in
theorem right5_no (c : Array Value) (N : Int) (h0 : c[0]? = some (.int .i64 N)) (h : N < 1 ∨ 8 < N) (w : World) : Calls Try.prog 90 #[.agg c] w fun e w' => RGi N e ∧ Below w.heap.size w w' := by
  have HT := hide (One.new w c)
  have k0 := HT.out.num h0
  clear h0
  rcases h with h1 | h2
  · have d1 : decide (1 ≤ N) = false := decide_eq_false (by omega)
    go_enter Try.func90, Try.ntmps90
    go_wp2_with fail
    go_ret
    exact ⟨⟨false, rfl, fun h => by cases h⟩, HT.out.below⟩
  · have d1 : decide (1 ≤ N) = true := decide_eq_true (by omega)
    have d2 : decide (N ≤ 8) = false := decide_eq_false (by omega)
    go_enter Try.func90, Try.ntmps90
    go_wp2_with fail
    go_ret
    exact ⟨⟨false, rfl, fun h => by cases h⟩, HT.out.below⟩
set_option maxRecDepth 100000 in
theorem right5_yes (c : Array Value) (hc : Relv c) (N : Int) (h0 : c[0]? = some (.int .i64 N)) (n1 : 1 ≤ N) (n8 : N ≤ 8) (w : World) : Calls Try.prog 90 #[.agg c] w fun e w' => RGi N e ∧ Below w.heap.size w w' := by
  have HT := hide (One.new w c)
  have k0 := HT.out.num h0
  have HC := hide hc
  have hN : 1 ≤ N ∧ N ≤ 8 := ⟨n1, n8⟩
  have HN := hide hN
  have d1 : decide (1 ≤ N) = true := decide_eq_true n1
  have d2 : decide (N ≤ 8) = true := decide_eq_true n8
  clear hc h0 hN n1 n8
  go_enter Try.func90, Try.ntmps90
  go_upto_region 1 with fail
  generalize w.alloc (Obj.cells c 128) = w0 at *
  have HL := hide (ldRelG 1 HT.out.one HC.out.size)
  have HD := hide (closed_tot c HC.out w0)
  go_wp2_with (first | (with_reducible refine HL.out _ _ _ _ _ rfl rfl (by with_unfolding_all rfl) ?_) | (go_at_call 99; refine HD.out.mono ?_; rintro e w4 ⟨⟨⟨r, rfl⟩⟩, hb4⟩; have H4 := hide (HT.out.step hb4); clear hb4))
  go_ret
  exact ⟨⟨r, rfl, fun _ => HN.out⟩, H4.out.below⟩
theorem right5_tot (c : Array Value) (hc : Relv c) (N : Int) (h0 : c[0]? = some (.int .i64 N)) (w : World) : Calls Try.prog 90 #[.agg c] w fun e w' => RGi N e ∧ Below w.heap.size w w' := by
  by_cases h1 : N < 1
  · exact right5_no c N h0 (.inl h1) w
  by_cases h2 : 8 < N
  · exact right5_no c N h0 (.inr h2) w
  exact right5_yes c hc N h0 (by omega) (by omega) w
set_option maxRecDepth 100000 in
theorem out5_tot (c : Array Value) (N : Int) (h0 : c[0]? = some (.int .i64 N)) (x o p : Int) (ho : 0 ≤ o ∧ o < 9) (hp : 0 ≤ p ∧ p < 9) (w : World) : Calls Try.prog 102 #[.agg c, .int .u64 x, .int .i64 o, .int .i64 p] w fun e w' => RBo e ∧ Below w.heap.size w w' := by
  have HT := hide (One.new w c)
  have k0 := HT.out.num h0
  clear h0
  obtain ⟨ho1, ho2⟩ := ho
  obtain ⟨hp1, hp2⟩ := hp
  by_cases h1 : o < N
  rotate_left
  · have h1' : N ≤ o := by omega
    go_enter Try.func102, Try.ntmps102
    go_wp2_with fail
    go_ret
    exact ⟨⟨_, rfl⟩, HT.out.below⟩
  by_cases h2 : p < N
  rotate_left
  · have h2' : N ≤ p := by omega
    go_enter Try.func102, Try.ntmps102
    go_wp2_with fail
    go_ret
    exact ⟨⟨_, rfl⟩, HT.out.below⟩
  have HH := hide (has1_tot x (8 * o + p) (w.alloc (.cells c 128)))
  go_enter Try.func102, Try.ntmps102
  go_wp2_with (go_at_call 85; refine HH.out.mono ?_; rintro e w4 ⟨⟨⟨r, rfl⟩⟩, rfl⟩)
  go_ret
  exact ⟨⟨_, rfl⟩, HT.out.below⟩
end Go.Proofs.Ythnbhcfpfbimgaa
/- The walks of chapter 5: follows, Close. (Printed by rfgrid2.py.) -/
namespace Go.Proofs.Ythnbhcfpfbimgaa
open Go.RowKit
set_option maxRecDepth 100000 in
theorem follows5_tot (c : Array Value) (hc : Relv c) (n : Nat) (h0 : c[0]? = some (.int .i64 (n : Nat))) (hn : n ≤ 8) (x o p : Int) (w : World) : Calls Try.prog 94 #[.agg c, .int .u64 x, .int .i64 o, .int .i64 p] w fun e w' => RBo e ∧ Below w.heap.size w w' := by
  have HT := hide (One.new w c)
  have HC := hide hc
  have H0 := hide h0
  clear hc h0
  go_enter Try.func94, Try.ntmps94
  go_wp2_with fail
  generalize w.alloc (Obj.cells c 128) = w0 at *
  go_loopw [9] (fun kv wr => (∃ k : Nat, k ≤ n ∧ kv = .int .i64 (k : Nat)) ∧ One w c wr) (fun kv _ => n - (intOf kv).toNat)
  case atStart => exact ⟨⟨0, by omega, rfl⟩, HT.out⟩
  case round =>
    obtain ⟨⟨k, hk, rfl⟩, ho⟩ := hrel
    have HO := hide ho
    clear ho
    have k0 := HO.out.num H0.out
    by_cases hlt : k < n
    · have i0 : (k : Int) < n := by omega
      go_wp2_with fail
      clear k0
      generalize wr = wo at *
      go_loopw [10] (fun jv wr => (∃ j : Nat, j ≤ n ∧ jv = .int .i64 (j : Nat)) ∧ One w c wr) (fun jv _ => n - (intOf jv).toNat)
      case atStart => exact ⟨⟨0, by omega, rfl⟩, HO.out⟩
      case round =>
        obtain ⟨⟨j, hj, rfl⟩, ho⟩ := hrel
        clear HO
        have HO := hide ho
        clear ho
        have k0 := HO.out.num H0.out
        by_cases hjn : j < n
        · have j0 : (j : Int) < n := by omega
          have HL := hide (ldRel 4 HO.out.one HC.out.size)
          have HU := hide (out5_tot c n H0.out x k j ⟨by omega, by omega⟩ ⟨by omega, by omega⟩ wr)
          obtain ⟨r1, h1⟩ := has3_any c HC.out o k
          obtain ⟨r2, h2⟩ := has3_any c HC.out p j
          have HH1 := hide h1
          have HH2 := hide h2
          clear h1 h2
          go_wp2_with (with_reducible refine HL.out _ _ _ _ _ rfl rfl rfl ?_)
          refine HU.out.mono ?_
          rintro e w3 ⟨⟨⟨r, rfl⟩⟩, hb3⟩
          have H3 := hide (HO.out.step hb3)
          clear hb3 k0 HL
          have HG := hide (ldRelG 4 H3.out.one HC.out.size)
          cases r
          · go_wp2_with fail
            exact ⟨⟨⟨j + 1, by omega, rfl⟩, H3.out⟩, by simp [intOf]; omega⟩
          · cases r1
            · go_wp2_with (first | (with_reducible refine HG.out _ _ _ _ _ rfl rfl (by with_unfolding_all rfl) ?_) | (go_at_call 103; with_reducible refine (HH1.out _).mono ?_; rintro e w4 ⟨rfl, hb4⟩; have H4 := hide (H3.out.step hb4); clear hb4))
              exact ⟨⟨⟨j + 1, by omega, rfl⟩, H4.out⟩, by simp [intOf]; omega⟩
            · cases r2
              · go_wp2_with (first | (with_reducible refine HG.out _ _ _ _ _ rfl rfl (by with_unfolding_all rfl) ?_) | (with_reducible refine HG4.out _ _ _ _ _ rfl rfl (by with_unfolding_all rfl) ?_) | (go_at_call 103; with_reducible refine (HH1.out _).mono ?_; rintro e w4 ⟨rfl, hb4⟩; have H4 := hide (H3.out.step hb4); clear hb4; have HG4 := hide (ldRelG 4 H4.out.one HC.out.size)) | (go_at_call 103; with_reducible refine (HH2.out _).mono ?_; rintro e w5 ⟨rfl, hb5⟩; have H5 := hide (H4.out.step hb5); clear hb5))
                exact ⟨⟨⟨j + 1, by omega, rfl⟩, H5.out⟩, by simp [intOf]; omega⟩
              · go_wp2_with (first | (with_reducible refine HG.out _ _ _ _ _ rfl rfl (by with_unfolding_all rfl) ?_) | (with_reducible refine HG4.out _ _ _ _ _ rfl rfl (by with_unfolding_all rfl) ?_) | (go_at_call 103; with_reducible refine (HH1.out _).mono ?_; rintro e w4 ⟨rfl, hb4⟩; have H4 := hide (H3.out.step hb4); clear hb4; have HG4 := hide (ldRelG 4 H4.out.one HC.out.size)) | (go_at_call 103; with_reducible refine (HH2.out _).mono ?_; rintro e w5 ⟨rfl, hb5⟩; have H5 := hide (H4.out.step hb5); clear hb5))
                go_ret
                exact ⟨⟨_, rfl⟩, H5.out.below⟩
        · obtain rfl : j = n := by omega
          go_wp2_with fail
          exact ⟨⟨⟨k + 1, by omega, rfl⟩, HO.out⟩, by simp [intOf]; omega⟩
    · obtain rfl : k = n := by omega
      go_wp2_with fail
      go_ret
      exact ⟨⟨_, rfl⟩, HO.out.below⟩
/-- A relation read, and a list of one's own. -/
structure Ls (W : World) (c : Array Value) (v : Value) (l : List Int) (wr : World) : Prop where
  row : RowZ wr 3 1 v l.length (iV l)
  own : ∀ g, v.ownBlock = some g → W.heap.size < g
  one : One W c wr
theorem Ls.step {W : World} {c : Array Value} {v : Value} {l : List Int} {wr w' : World} (h : Ls W c v l wr) (hb : Below wr.heap.size wr w') : Ls W c v l w' := ⟨RowZ.below h.row hb, h.own, h.one.step hb⟩
theorem Ls.nil {W : World} {c : Array Value} {wr : World} (h : One W c wr) : Ls W c (.slice none 0 0) [] wr := ⟨RowZ.nil, fun g hg => (by cases hg), h⟩
theorem Ls.push {W : World} {c : Array Value} {v v' : Value} {l : List Int} {x : Int} {wr w' : World} (h : Ls W c v l wr) (hr : RowZ w' 3 1 v' (l.length + 1) (iV l ++ [.int .i64 x])) (hg : (wr.alloc (.cells #[.int .i64 x] 3)).grownBy w' v.ownBlock)
    (ho : v'.ownBlock = v.ownBlock ∨ v'.ownBlock = some (wr.alloc (.cells #[.int .i64 x] 3)).heap.size) : Ls W c v' (l ++ [x]) w' := by
  have H5 := h.step (below_laid wr (.cells #[.int .i64 x] 3))
  have hlt5 : W.heap.size < (wr.alloc (.cells #[.int .i64 x] 3)).heap.size := blk_lt H5.one.one
  have hb5 : Below (W.heap.size + 1) (wr.alloc (.cells #[.int .i64 x] 3)) w' := (Below.refl _ _).grown hg hlt5 H5.own
  refine ⟨?_, fun g hg => ?_, ⟨H5.one.below.trans (hb5.mono (Nat.le_succ _)), ?_⟩⟩
  · rw [iV_snoc, List.length_append]; exact hr
  · rcases ho with e | e
    · rw [e] at hg; exact H5.own g hg
    · rw [e] at hg; injection hg with hg; rw [← hg]; exact hlt5
  · rw [hb5.block _ (Nat.lt_succ_self _)]; exact H5.one.one
structure LsE (W : World) (c : Array Value) (m : Nat) (kv v : Value) (n : Nat) (wr : World) : Prop where
  ex : ∃ (k : Nat) (l : List Int), k ≤ n ∧ kv = .int .i64 (k : Nat) ∧ l.length ≤ m + k ∧ Ls W c v l wr
structure LsO (W : World) (c : Array Value) (kv v : Value) (n : Nat) (wr : World) : Prop where
  ex : ∃ (k : Nat) (l : List Int), k ≤ n ∧ kv = .int .i64 (k : Nat) ∧ l.length ≤ 64 * k ∧ Ls W c v l wr
set_option maxRecDepth 100000 in
theorem close5_tot (c : Array Value) (hc : Relv c) (N : Int) (h0 : c[0]? = some (.int .i64 N)) (x : Int) (w : World) : Calls Try.prog 81 #[.agg c, .int .u64 x] w fun e w' => RUo e ∧ Below w.heap.size w w' := by
  obtain ⟨i1, hj, hy0, hy1, hy2⟩ := info_parts info_int
  have HT := hide (One.new w c)
  have HC := hide hc
  have H0 := hide h0
  clear hc h0
  go_enter Try.func81, Try.ntmps81
  go_upto_region 2 with fail
  generalize w.alloc (Obj.cells c 128) = w0 at *
  have HL := hide (ldRel 2 HT.out.one HC.out.size)
  have HR := hide (right5_tot c HC.out N H0.out w0)
  go_upto_if 10 with (first | (with_reducible refine HL.out _ _ _ _ _ rfl rfl rfl ?_) | (go_at_call 90; refine HR.out.mono ?_; rintro e w1 ⟨⟨⟨r, rfl, hr⟩⟩, hb1⟩; have H1 := hide (And.intro hr (HT.out.step hb1)); clear hr hb1))
  clear HL HR
  cases r
  · go_wp2_with fail
    go_ret
    exact ⟨⟨_, rfl⟩, H1.out.2.below⟩
  · obtain ⟨n1, n8⟩ := H1.out.1 rfl
    obtain ⟨n, rfl⟩ := Int.eq_ofNat_of_zero_le (by omega : 0 ≤ N)
    have hn : n ≤ 8 := by omega
    have HN := hide hn
    clear n1 n8 hn
    go_wp2_with fail
    have HQ := hide (Ls.nil H1.out.2)
    generalize w1 = w2 at *
    go_loopw [6, 5] (fun kv v wr => LsO w c kv v n wr) (fun kv _ _ => n - (intOf kv).toNat)
    case atStart => exact ⟨0, [], by omega, rfl, by simp, HQ.out⟩
    case round =>
      obtain ⟨k, l, hk, rfl, hl, ho⟩ := hrel
      obtain ⟨A, c', rfl, _⟩ := RowZ.form ho.row
      have HO := hide ho
      clear ho
      have k0 := HO.out.one.num H0.out
      by_cases hlt : k < n
      · have i0 : (k : Int) < n := by omega
        go_wp2_with fail
        clear k0
        generalize wr = wo at *
        generalize hv : Value.slice A l.length c' = vv at *
        have hn := HN.out
        go_loopw [7, 5] (fun jv v wr => LsE w c (64 * k) jv v n wr) (fun jv _ _ => n - (intOf jv).toNat)
        case atStart => exact ⟨0, l, by omega, rfl, by omega, HO.out⟩
        case round =>
          clear hv
          obtain ⟨j, m, hj', rfl, hm, ho⟩ := hrel
          obtain ⟨A, c', rfl, _⟩ := RowZ.form ho.row
          clear HO
          have HO := hide ho
          clear ho
          have k0 := HO.out.one.num H0.out
          by_cases hjn : j < n
          · have j0 : (j : Int) < n := by omega
            have HL := hide (ldRel 2 HO.out.one.one HC.out.size)
            have HF := hide (follows5_tot c HC.out n H0.out HN.out x k j wr)
            have hk8 : (k : Int) ≤ 8 := by omega
            have hj8 : (j : Int) ≤ 8 := by omega
            go_upto_if 27 with (first | (with_reducible refine HL.out _ _ _ _ _ rfl rfl rfl ?_) | (go_at_call 94; refine HF.out.mono ?_; rintro e w3 ⟨⟨⟨r, rfl⟩⟩, hb3⟩; have H3 := hide (HO.out.step hb3); clear hb3))
            clear k0 HL HF
            cases r
            · go_wp2_with fail
              exact ⟨⟨j + 1, m, by omega, rfl, by omega, H3.out⟩, by simp [intOf]; omega⟩
            · go_wp2_with (at_builtin; go_must (refine app_rowz rfl (.tmp 28) (.tmp 33) 78 78 rfl 3 i1 _ 1 8 Try.underlying78 hj hy0 hy1 hy2 rfl (.slice A m.length c') m.length (iV m) rfl (RowZ.below H3.out.row (below_laid w3 _)) _ 1 [.int .i64 (8 * (k : Int) + j)] rfl (int_news (heap_alloc_new w3 _)) (by unfold maxLen; omega) (by omega) ?_); intro A' c' w' hr hg hob; have HG := hide (And.intro hr (And.intro hg hob)); clear hr hg hob)
              exact ⟨⟨j + 1, m ++ [8 * (k : Int) + j], by omega, rfl, by simp; omega, H3.out.push HG.out.1 HG.out.2.1 HG.out.2.2⟩, by simp [intOf]; omega⟩
          · obtain rfl : j = n := by omega
            go_wp2_with fail
            exact ⟨⟨k + 1, m, by omega, rfl, by omega, HO.out⟩, by simp [intOf]; omega⟩
      · obtain rfl : k = n := by omega
        have HF := hide (of1_tot wr.heap.size _ l wr (SlAt.of_row HO.out.row))
        go_wp2_with (go_at_call 93; refine (HF.out).mono ?_; rintro e w1 ⟨⟨z, rfl⟩, rfl⟩)
        go_ret
        exact ⟨⟨_, rfl⟩, HO.out.one.below⟩
end Go.Proofs.Ythnbhcfpfbimgaa
/- The walks of chapter 6: Word, Point, Join, Meet. (Printed by rfhasse.py.) -/
namespace Go.Proofs.Ythnbhcfpfbimgaa
open Go.RowKit
set_option maxRecDepth 100000 in
theorem word6_tot (c : Array Value) (hc : Relv c) (i : Int) (w : World) : Calls Try.prog 95 #[.agg c, .int .i64 i] w fun e w' => RUo e ∧ Below w.heap.size w w' := by
  obtain ⟨i1, hj, hy0, hy1, hy2⟩ := info_parts info_int
  obtain ⟨n, hn, hp⟩ := points_any c hc
  have HT := hide (One.new w c)
  have HC := hide hc
  have HP := hide hp
  clear hc hp
  go_enter Try.func95, Try.ntmps95
  go_wp2_with fail
  have HQ := hide (Ls.nil HT.out)
  generalize w.alloc (Obj.cells c 128) = w0 at *
  go_loopw [6, 5] (fun kv v wr => LsE w c 0 kv v n wr) (fun kv _ _ => n - (intOf kv).toNat)
  case atStart => exact ⟨0, [], by omega, rfl, by simp, HQ.out⟩
  case round =>
    obtain ⟨k, m, hk, rfl, hm, ho⟩ := hrel
    obtain ⟨A, c', rfl, _⟩ := RowZ.form ho.row
    have HO := hide ho
    clear ho
    have HL := hide (ldRel 2 HO.out.one.one HC.out.size)
    go_upto_if 10 with (first | (with_reducible refine HL.out _ _ _ _ _ rfl rfl rfl ?_) | (go_at_call 89; refine (HP.out wr).mono ?_; rintro e w3 ⟨rfl, hb3⟩; have H3 := hide (HO.out.step hb3); clear hb3))
    clear HL
    by_cases hlt : k < n
    · have i0 : (k : Int) < n := by omega
      have hd : decide (k < n) = true := decide_eq_true hlt
      rw [hd]
      clear hd
      have HL := hide (ldRel 2 H3.out.one.one HC.out.size)
      obtain ⟨r, h1⟩ := has3_any c HC.out k i
      have HH := hide h1
      clear h1
      cases r
      · go_wp2_with (first | (with_reducible refine HL.out _ _ _ _ _ rfl rfl rfl ?_) | (go_at_call 103; with_reducible refine (HH.out _).mono ?_; rintro e w4 ⟨rfl, hb4⟩; have H4 := hide (H3.out.step hb4); clear hb4))
        exact ⟨⟨k + 1, m, by omega, rfl, by omega, H4.out⟩, by simp [intOf]; omega⟩
      · go_upto_region 6 with (first | (with_reducible refine HL.out _ _ _ _ _ rfl rfl rfl ?_) | (go_at_call 103; with_reducible refine (HH.out _).mono ?_; rintro e w4 ⟨rfl, hb4⟩; have H4 := hide (H3.out.step hb4); clear hb4))
        go_wp2_with (at_builtin; go_must (refine app_rowz rfl (.tmp 17) (.tmp 19) 78 78 rfl 3 i1 _ 1 8 Try.underlying78 hj hy0 hy1 hy2 rfl (.slice A m.length c') m.length (iV m) rfl (RowZ.below H4.out.row (below_laid w4 _)) _ 1 [.int .i64 (k : Nat)] rfl (int_news (heap_alloc_new w4 _)) (by unfold maxLen; omega) (by omega) ?_); intro A' c' w' hr hg hob; have HG := hide (And.intro hr (And.intro hg hob)); clear hr hg hob)
        exact ⟨⟨k + 1, m ++ [(k : Int)], by omega, rfl, by simp; omega, H4.out.push HG.out.1 HG.out.2.1 HG.out.2.2⟩, by simp [intOf]; omega⟩
    · obtain rfl : k = n := by omega
      have hd : decide (k < k) = false := by simp
      rw [hd]
      clear hd
      have HF := hide (of1_tot w3.heap.size _ m w3 (SlAt.of_row H3.out.row))
      go_wp2_with (go_at_call 93; refine (HF.out).mono ?_; rintro e w1 ⟨⟨z, rfl⟩, rfl⟩)
      go_ret
      exact ⟨⟨_, rfl⟩, H3.out.one.below⟩
set_option maxRecDepth 100000 in
theorem point6_tot (c : Array Value) (hc : Relv c) (x : Int) (w : World) : Calls Try.prog 82 #[.agg c, .int .u64 x] w fun e w' => RIB e ∧ Below w.heap.size w w' := by
  obtain ⟨n, hn, hp⟩ := points_any c hc
  have HT := hide (One.new w c)
  have HC := hide hc
  have HP := hide hp
  clear hc hp
  go_enter Try.func82, Try.ntmps82
  go_wp2_with fail
  generalize w.alloc (Obj.cells c 128) = w0 at *
  go_loopw [6] (fun kv wr => (∃ k : Nat, k ≤ n ∧ kv = .int .i64 (k : Nat)) ∧ One w c wr) (fun kv _ => n - (intOf kv).toNat)
  case atStart => exact ⟨⟨0, by omega, rfl⟩, HT.out⟩
  case round =>
    obtain ⟨⟨k, hk, rfl⟩, ho⟩ := hrel
    have HO := hide ho
    clear ho
    have HL := hide (ldRel 2 HO.out.one HC.out.size)
    go_upto_if 10 with (first | (with_reducible refine HL.out _ _ _ _ _ rfl rfl rfl ?_) | (go_at_call 89; refine (HP.out wr).mono ?_; rintro e w3 ⟨rfl, hb3⟩; have H3 := hide (HO.out.step hb3); clear hb3))
    clear HL
    by_cases hlt : k < n
    · have i0 : (k : Int) < n := by omega
      have hd : decide (k < n) = true := decide_eq_true hlt
      rw [hd]
      clear hd
      have HL := hide (ldRel 2 H3.out.one HC.out.size)
      have HW := hide (word6_tot c HC.out k w3)
      go_upto_if 17 with (first | (with_reducible refine HL.out _ _ _ _ _ rfl rfl rfl ?_) | (go_at_call 95; refine HW.out.mono ?_; rintro e w4 ⟨⟨⟨z, rfl⟩⟩, hb4⟩; have H4 := hide (H3.out.step hb4); clear hb4))
      clear HL HW
      by_cases hzx : z = x
      · subst hzx
        go_wp2_with fail
        refine bodyPost_ret (results_tmp2 Try.results82) rfl ⟨⟨_, _, rfl⟩, H4.out.below⟩
      · go_wp2_with fail
        exact ⟨⟨⟨k + 1, by omega, rfl⟩, H4.out⟩, by simp [intOf]; omega⟩
    · obtain rfl : k = n := by omega
      have hd : decide (k < k) = false := by simp
      rw [hd]
      clear hd
      go_wp2_with fail
      refine bodyPost_ret (results_tmp2 Try.results82) rfl ⟨⟨_, _, rfl⟩, H3.out.below⟩
end Go.Proofs.Ythnbhcfpfbimgaa
