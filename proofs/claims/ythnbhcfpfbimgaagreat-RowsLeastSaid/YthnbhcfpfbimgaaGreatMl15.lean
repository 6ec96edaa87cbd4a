/- Texts put together: RfGrid2 RfHasse RfJoin. -/
import Derived.Test.YthnbhcfpfbimgaaGreatMl14
/- The walks of chapter 5: follows, Close. (Printed by rfgrid2.py.) -/
namespace Go.Proofs.YthnbhcfpfbimgaaGreat
open Go.RowKit
set_option maxRecDepth 100000 in
theorem follows5_tot (c : Array Value) (hc : Relv c) (n : Nat) (h0 : c[0]? = some (.int .i64 (n : Nat))) (hn : n ≤ 8) (x o p : Int) (w : World) : Calls Tryz.prog 85 #[.agg c, .int .u64 x, .int .i64 o, .int .i64 p] w fun e w' => RBo e ∧ Below w.heap.size w w' := by
  have HT := hide (One.new w c)
  have HC := hide hc
  have H0 := hide h0
  clear hc h0
  go_enter Tryz.func85, Tryz.ntmps85
  go_wp2_with fail
  generalize w.alloc (Obj.cells c 118) = w0 at *
  go_loopw [9] (fun kv wr => (∃ k : Nat, k ≤ n ∧ kv = .int .i64 (k : Nat)) ∧ One w c wr) (fun kv _ => n - (intOf kv).toNat)
  case atStart => exact ⟨⟨0, by omega, rfl⟩, HT.out⟩
  case round =>
    obtain ⟨⟨k, hk, rfl⟩, ho⟩ := hrel
    have HO := hide ho
    clear ho
    have k0 := HO.out.num H0.out
    by_cases hlt : k < n
    · have i0 : (k : Int) < n := by omega
      go_wp2_with fail
      clear k0
      generalize wr = wo at *
      go_loopw [10] (fun jv wr => (∃ j : Nat, j ≤ n ∧ jv = .int .i64 (j : Nat)) ∧ One w c wr) (fun jv _ => n - (intOf jv).toNat)
      case atStart => exact ⟨⟨0, by omega, rfl⟩, HO.out⟩
      case round =>
        obtain ⟨⟨j, hj, rfl⟩, ho⟩ := hrel
        clear HO
        have HO := hide ho
        clear ho
        have k0 := HO.out.num H0.out
        by_cases hjn : j < n
        · have j0 : (j : Int) < n := by omega
          have HL := hide (ldRel 4 HO.out.one HC.out.size)
          have HU := hide (out5_tot c n H0.out x k j ⟨by omega, by omega⟩ ⟨by omega, by omega⟩ wr)
          obtain ⟨r1, h1⟩ := has3_any c HC.out o k
          obtain ⟨r2, h2⟩ := has3_any c HC.out p j
          have HH1 := hide h1
          have HH2 := hide h2
          clear h1 h2
          go_wp2_with (with_reducible refine HL.out _ _ _ _ _ rfl rfl rfl ?_)
          refine HU.out.mono ?_
          rintro e w3 ⟨⟨⟨r, rfl⟩⟩, hb3⟩
          have H3 := hide (HO.out.step hb3)
          clear hb3 k0 HL
          have HG := hide (ldRelG 4 H3.out.one HC.out.size)
          cases r
          · go_wp2_with fail
            exact ⟨⟨⟨j + 1, by omega, rfl⟩, H3.out⟩, by simp [intOf]; omega⟩
          · cases r1
            · go_wp2_with (first | (with_reducible refine HG.out _ _ _ _ _ rfl rfl (by with_unfolding_all rfl) ?_) | (go_at_call 97; with_reducible refine (HH1.out _).mono ?_; rintro e w4 ⟨rfl, hb4⟩; have H4 := hide (H3.out.step hb4); clear hb4))
              exact ⟨⟨⟨j + 1, by omega, rfl⟩, H4.out⟩, by simp [intOf]; omega⟩
            · cases r2
              · go_wp2_with (first | (with_reducible refine HG.out _ _ _ _ _ rfl rfl (by with_unfolding_all rfl) ?_) | (with_reducible refine HG4.out _ _ _ _ _ rfl rfl (by with_unfolding_all rfl) ?_) | (go_at_call 97; with_reducible refine (HH1.out _).mono ?_; rintro e w4 ⟨rfl, hb4⟩; have H4 := hide (H3.out.step hb4); clear hb4; have HG4 := hide (ldRelG 4 H4.out.one HC.out.size)) | (go_at_call 97; with_reducible refine (HH2.out _).mono ?_; rintro e w5 ⟨rfl, hb5⟩; have H5 := hide (H4.out.step hb5); clear hb5))
                exact ⟨⟨⟨j + 1, by omega, rfl⟩, H5.out⟩, by simp [intOf]; omega⟩
              · go_wp2_with (first | (with_reducible refine HG.out _ _ _ _ _ rfl rfl (by with_unfolding_all rfl) ?_) | (with_reducible refine HG4.out _ _ _ _ _ rfl rfl (by with_unfolding_all rfl) ?_) | (go_at_call 97; with_reducible refine (HH1.out _).mono ?_; rintro e w4 ⟨rfl, hb4⟩; have H4 := hide (H3.out.step hb4); clear hb4; have HG4 := hide (ldRelG 4 H4.out.one HC.out.size)) | (go_at_call 97; with_reducible refine (HH2.out _).mono ?_; rintro e w5 ⟨rfl, hb5⟩; have H5 := hide (H4.out.step hb5); clear hb5))
                go_ret
                exact ⟨⟨_, rfl⟩, H5.out.below⟩
        · obtain rfl : j = n := by omega
          go_wp2_with fail
          exact ⟨⟨⟨k + 1, by omega, rfl⟩, HO.out⟩, by simp [intOf]; omega⟩
    · obtain rfl : k = n := by omega
      go_wp2_with fail
      go_ret
      exact ⟨⟨_, rfl⟩, HO.out.below⟩
/-- A relation read, and a list of one's own. -/
structure Ls (W : World) (c : Array Value) (v : Value) (l : List Int) (wr : World) : Prop where
  row : RowZ wr 3 1 v l.length (iV l)
  own : ∀ g, v.ownBlock = some g → W.heap.size < g
  one : One W c wr
theorem Ls.step {W : World} {c : Array Value} {v : Value} {l : List Int} {wr w' : World} (h : Ls W c v l wr) (hb : Below wr.heap.size wr w') : Ls W c v l w' := ⟨RowZ.below h.row hb, h.own, h.one.step hb⟩
theorem Ls.nil {W : World} {c : Array Value} {wr : World} (h : One W c wr) : Ls W c (.slice none 0 0) [] wr := ⟨RowZ.nil, fun g hg => (by cases hg), h⟩
theorem Ls.push {W : World} {c : Array Value} {v v' : Value} {l : List Int} {x : Int} {wr w' : World} (h : Ls W c v l wr) (hr : RowZ w' 3 1 v' (l.length + 1) (iV l ++ [.int .i64 x])) (hg : (wr.alloc (.cells #[.int .i64 x] 3)).grownBy w' v.ownBlock)
    (ho : v'.ownBlock = v.ownBlock ∨ v'.ownBlock = some (wr.alloc (.cells #[.int .i64 x] 3)).heap.size) : Ls W c v' (l ++ [x]) w' := by
  have H5 := h.step (below_laid wr (.cells #[.int .i64 x] 3))
  have hlt5 : W.heap.size < (wr.alloc (.cells #[.int .i64 x] 3)).heap.size := blk_lt H5.one.one
  have hb5 : Below (W.heap.size + 1) (wr.alloc (.cells #[.int .i64 x] 3)) w' := (Below.refl _ _).grown hg hlt5 H5.own
  refine ⟨?_, fun g hg => ?_, ⟨H5.one.below.trans (hb5.mono (Nat.le_succ _)), ?_⟩⟩
  · rw [iV_snoc, List.length_append]; exact hr
  · rcases ho with e | e
    · rw [e] at hg; exact H5.own g hg
    · rw [e] at hg; injection hg with hg; rw [← hg]; exact hlt5
  · rw [hb5.block _ (Nat.lt_succ_self _)]; exact H5.one.one
structure LsE (W : World) (c : Array Value) (m : Nat) (kv v : Value) (n : Nat) (wr : World) : Prop where
  ex : ∃ (k : Nat) (l : List Int), k ≤ n ∧ kv = .int .i64 (k : Nat) ∧ l.length ≤ m + k ∧ Ls W c v l wr
structure LsO (W : World) (c : Array Value) (kv v : Value) (n : Nat) (wr : World) : Prop where
  ex : ∃ (k : Nat) (l : List Int), k ≤ n ∧ kv = .int .i64 (k : Nat) ∧ l.length ≤ 64 * k ∧ Ls W c v l wr
set_option maxRecDepth 100000 in
theorem close5_tot (c : Array Value) (hc : Relv c) (N : Int) (h0 : c[0]? = some (.int .i64 N)) (x : Int) (w : World) : Calls Tryz.prog 68 #[.agg c, .int .u64 x] w fun e w' => RUo e ∧ Below w.heap.size w w' := by
  obtain ⟨i1, hj, hy0, hy1, hy2⟩ := info_parts info_int
  have HT := hide (One.new w c)
  have HC := hide hc
  have H0 := hide h0
  clear hc h0
  go_enter Tryz.func68, Tryz.ntmps68
  go_upto_region 2 with fail
  generalize w.alloc (Obj.cells c 118) = w0 at *
  have HL := hide (ldRel 2 HT.out.one HC.out.size)
  have HR := hide (right5_tot c HC.out N H0.out w0)
  go_upto_if 10 with (first | (with_reducible refine HL.out _ _ _ _ _ rfl rfl rfl ?_) | (go_at_call 79; refine HR.out.mono ?_; rintro e w1 ⟨⟨⟨r, rfl, hr⟩⟩, hb1⟩; have H1 := hide (And.intro hr (HT.out.step hb1)); clear hr hb1))
  clear HL HR
  cases r
  · go_wp2_with fail
    go_ret
    exact ⟨⟨_, rfl⟩, H1.out.2.below⟩
  · obtain ⟨n1, n8⟩ := H1.out.1 rfl
    obtain ⟨n, rfl⟩ := Int.eq_ofNat_of_zero_le (by omega : 0 ≤ N)
    have hn : n ≤ 8 := by omega
    have HN := hide hn
    clear n1 n8 hn
    go_wp2_with fail
    have HQ := hide (Ls.nil H1.out.2)
    generalize w1 = w2 at *
    go_loopw [6, 5] (fun kv v wr => LsO w c kv v n wr) (fun kv _ _ => n - (intOf kv).toNat)
    case atStart => exact ⟨0, [], by omega, rfl, by simp, HQ.out⟩
    case round =>
      obtain ⟨k, l, hk, rfl, hl, ho⟩ := hrel
      obtain ⟨A, c', rfl, _⟩ := RowZ.form ho.row
      have HO := hide ho
      clear ho
      have k0 := HO.out.one.num H0.out
      by_cases hlt : k < n
      · have i0 : (k : Int) < n := by omega
        go_wp2_with fail
        clear k0
        generalize wr = wo at *
        generalize hv : Value.slice A l.length c' = vv at *
        have hn := HN.out
        go_loopw [7, 5] (fun jv v wr => LsE w c (64 * k) jv v n wr) (fun jv _ _ => n - (intOf jv).toNat)
        case atStart => exact ⟨0, l, by omega, rfl, by omega, HO.out⟩
        case round =>
          clear hv
          obtain ⟨j, m, hj', rfl, hm, ho⟩ := hrel
          obtain ⟨A, c', rfl, _⟩ := RowZ.form ho.row
          clear HO
          have HO := hide ho
          clear ho
          have k0 := HO.out.one.num H0.out
          by_cases hjn : j < n
          · have j0 : (j : Int) < n := by omega
            have HL := hide (ldRel 2 HO.out.one.one HC.out.size)
            have HF := hide (follows5_tot c HC.out n H0.out HN.out x k j wr)
            have hk8 : (k : Int) ≤ 8 := by omega
            have hj8 : (j : Int) ≤ 8 := by omega
            go_upto_if 27 with (first | (with_reducible refine HL.out _ _ _ _ _ rfl rfl rfl ?_) | (go_at_call 85; refine HF.out.mono ?_; rintro e w3 ⟨⟨⟨r, rfl⟩⟩, hb3⟩; have H3 := hide (HO.out.step hb3); clear hb3))
            clear k0 HL HF
            cases r
            · go_wp2_with fail
              exact ⟨⟨j + 1, m, by omega, rfl, by omega, H3.out⟩, by simp [intOf]; omega⟩
            · go_wp2_with (at_builtin; go_must (refine app_rowz rfl (.tmp 28) (.tmp 33) 90 90 rfl 3 i1 _ 1 8 Tryz.underlying90 hj hy0 hy1 hy2 rfl (.slice A m.length c') m.length (iV m) rfl (RowZ.below H3.out.row (below_laid w3 _)) _ 1 [.int .i64 (8 * (k : Int) + j)] rfl (int_news (heap_alloc_new w3 _)) (by unfold maxLen; omega) (by omega) ?_); intro A' c' w' hr hg hob; have HG := hide (And.intro hr (And.intro hg hob)); clear hr hg hob)
              exact ⟨⟨j + 1, m ++ [8 * (k : Int) + j], by omega, rfl, by simp; omega, H3.out.push HG.out.1 HG.out.2.1 HG.out.2.2⟩, by simp [intOf]; omega⟩
          · obtain rfl : j = n := by omega
            go_wp2_with fail
            exact ⟨⟨k + 1, m, by omega, rfl, by omega, HO.out⟩, by simp [intOf]; omega⟩
      · obtain rfl : k = n := by omega
        have HF := hide (of1_tot wr.heap.size _ l wr (SlAt.of_row HO.out.row))
        go_wp2_with (go_at_call 84; refine (HF.out).mono ?_; rintro e w1 ⟨⟨z, rfl⟩, rfl⟩)
        go_ret
        exact ⟨⟨_, rfl⟩, HO.out.one.below⟩
end Go.Proofs.YthnbhcfpfbimgaaGreat
/- The walks of chapter 6: Word, Point, Join, Meet. (Printed by rfhasse.py.) -/
namespace Go.Proofs.YthnbhcfpfbimgaaGreat
open Go.RowKit
set_option maxRecDepth 100000 in
theorem word6_tot (c : Array Value) (hc : Relv c) (i : Int) (w : World) : Calls Tryz.prog 86 #[.agg c, .int .i64 i] w fun e w' => RUo e ∧ Below w.heap.size w w' := by
  obtain ⟨i1, hj, hy0, hy1, hy2⟩ := info_parts info_int
  obtain ⟨n, hn, hp⟩ := points_any c hc
  have HT := hide (One.new w c)
  have HC := hide hc
  have HP := hide hp
  clear hc hp
  go_enter Tryz.func86, Tryz.ntmps86
  go_wp2_with fail
  have HQ := hide (Ls.nil HT.out)
  generalize w.alloc (Obj.cells c 118) = w0 at *
  go_loopw [6, 5] (fun kv v wr => LsE w c 0 kv v n wr) (fun kv _ _ => n - (intOf kv).toNat)
  case atStart => exact ⟨0, [], by omega, rfl, by simp, HQ.out⟩
  case round =>
    obtain ⟨k, m, hk, rfl, hm, ho⟩ := hrel
    obtain ⟨A, c', rfl, _⟩ := RowZ.form ho.row
    have HO := hide ho
    clear ho
    have HL := hide (ldRel 2 HO.out.one.one HC.out.size)
    go_upto_if 10 with (first | (with_reducible refine HL.out _ _ _ _ _ rfl rfl rfl ?_) | (go_at_call 78; refine (HP.out wr).mono ?_; rintro e w3 ⟨rfl, hb3⟩; have H3 := hide (HO.out.step hb3); clear hb3))
    clear HL
    by_cases hlt : k < n
    · have i0 : (k : Int) < n := by omega
      have hd : decide (k < n) = true := decide_eq_true hlt
      rw [hd]
      clear hd
      have HL := hide (ldRel 2 H3.out.one.one HC.out.size)
      obtain ⟨r, h1⟩ := has3_any c HC.out k i
      have HH := hide h1
      clear h1
      cases r
      · go_wp2_with (first | (with_reducible refine HL.out _ _ _ _ _ rfl rfl rfl ?_) | (go_at_call 97; with_reducible refine (HH.out _).mono ?_; rintro e w4 ⟨rfl, hb4⟩; have H4 := hide (H3.out.step hb4); clear hb4))
        exact ⟨⟨k + 1, m, by omega, rfl, by omega, H4.out⟩, by simp [intOf]; omega⟩
      · go_upto_region 6 with (first | (with_reducible refine HL.out _ _ _ _ _ rfl rfl rfl ?_) | (go_at_call 97; with_reducible refine (HH.out _).mono ?_; rintro e w4 ⟨rfl, hb4⟩; have H4 := hide (H3.out.step hb4); clear hb4))
        go_wp2_with (at_builtin; go_must (refine app_rowz rfl (.tmp 17) (.tmp 19) 90 90 rfl 3 i1 _ 1 8 Tryz.underlying90 hj hy0 hy1 hy2 rfl (.slice A m.length c') m.length (iV m) rfl (RowZ.below H4.out.row (below_laid w4 _)) _ 1 [.int .i64 (k : Nat)] rfl (int_news (heap_alloc_new w4 _)) (by unfold maxLen; omega) (by omega) ?_); intro A' c' w' hr hg hob; have HG := hide (And.intro hr (And.intro hg hob)); clear hr hg hob)
        exact ⟨⟨k + 1, m ++ [(k : Int)], by omega, rfl, by simp; omega, H4.out.push HG.out.1 HG.out.2.1 HG.out.2.2⟩, by simp [intOf]; omega⟩
    · obtain rfl : k = n := by omega
      have hd : decide (k < k) = false := by simp
      rw [hd]
      clear hd
      have HF := hide (of1_tot w3.heap.size _ m w3 (SlAt.of_row H3.out.row))
      go_wp2_with (go_at_call 84; refine (HF.out).mono ?_; rintro e w1 ⟨⟨z, rfl⟩, rfl⟩)
      go_ret
      exact ⟨⟨_, rfl⟩, H3.out.one.below⟩
set_option maxRecDepth 100000 in
theorem point6_tot (c : Array Value) (hc : Relv c) (x : Int) (w : World) : Calls Tryz.prog 69 #[.agg c, .int .u64 x] w fun e w' => RIB e ∧ Below w.heap.size w w' := by
  obtain ⟨n, hn, hp⟩ := points_any c hc
  have HT := hide (One.new w c)
  have HC := hide hc
  have HP := hide hp
  clear hc hp
  go_enter Tryz.func69, Tryz.ntmps69
  go_wp2_with fail
  generalize w.alloc (Obj.cells c 118) = w0 at *
  go_loopw [6] (fun kv wr => (∃ k : Nat, k ≤ n ∧ kv = .int .i64 (k : Nat)) ∧ One w c wr) (fun kv _ => n - (intOf kv).toNat)
  case atStart => exact ⟨⟨0, by omega, rfl⟩, HT.out⟩
  case round =>
    obtain ⟨⟨k, hk, rfl⟩, ho⟩ := hrel
    have HO := hide ho
    clear ho
    have HL := hide (ldRel 2 HO.out.one HC.out.size)
    go_upto_if 10 with (first | (with_reducible refine HL.out _ _ _ _ _ rfl rfl rfl ?_) | (go_at_call 78; refine (HP.out wr).mono ?_; rintro e w3 ⟨rfl, hb3⟩; have H3 := hide (HO.out.step hb3); clear hb3))
    clear HL
    by_cases hlt : k < n
    · have i0 : (k : Int) < n := by omega
      have hd : decide (k < n) = true := decide_eq_true hlt
      rw [hd]
      clear hd
      have HL := hide (ldRel 2 H3.out.one HC.out.size)
      have HW := hide (word6_tot c HC.out k w3)
      go_upto_if 17 with (first | (with_reducible refine HL.out _ _ _ _ _ rfl rfl rfl ?_) | (go_at_call 86; refine HW.out.mono ?_; rintro e w4 ⟨⟨⟨z, rfl⟩⟩, hb4⟩; have H4 := hide (H3.out.step hb4); clear hb4))
      clear HL HW
      by_cases hzx : z = x
      · subst hzx
        go_wp2_with fail
        refine bodyPost_ret (results_tmp2 Tryz.results69) rfl ⟨⟨_, _, rfl⟩, H4.out.below⟩
      · go_wp2_with fail
        exact ⟨⟨⟨k + 1, by omega, rfl⟩, H4.out⟩, by simp [intOf]; omega⟩
    · obtain rfl : k = n := by omega
      have hd : decide (k < k) = false := by simp
      rw [hd]
      clear hd
      go_wp2_with fail
      refine bodyPost_ret (results_tmp2 Tryz.results69) rfl ⟨⟨_, _, rfl⟩, H3.out.below⟩
end Go.Proofs.YthnbhcfpfbimgaaGreat
/- The walks of chapter 6: Join, Meet. (Printed by rfhasse.py.) -/
namespace Go.Proofs.YthnbhcfpfbimgaaGreat
open Go.RowKit
set_option maxRecDepth 100000 in
set_option maxHeartbeats 1000000 in
theorem join6_tot (c : Array Value) (hc : Relv c) (i j : Int) (w : World) : Calls Tryz.prog 94 #[.agg c, .int .i64 i, .int .i64 j] w fun e w' => RIB e ∧ Below w.heap.size w w' := by
  obtain ⟨n, hn, hp⟩ := points_any c hc
  have HT := hide (One.new w c)
  have HC := hide hc
  have HP := hide hp
  clear hc hp
  go_enter Tryz.func94, Tryz.ntmps94
  go_wp2_with fail
  generalize w.alloc (Obj.cells c 118) = w0 at *
  go_loopw [8] (fun kv wr => (∃ k : Nat, k ≤ n ∧ kv = .int .i64 (k : Nat)) ∧ One w c wr) (fun kv _ => n - (intOf kv).toNat)
  case atStart => exact ⟨⟨0, by omega, rfl⟩, HT.out⟩
  case round =>
    obtain ⟨⟨k, hk, rfl⟩, ho⟩ := hrel
    have HO := hide ho
    clear ho
    have HL := hide (ldRel 3 HO.out.one HC.out.size)
    go_upto_if 14 with (first | (with_reducible refine HL.out _ _ _ _ _ rfl rfl rfl ?_) | (go_at_call 78; refine (HP.out wr).mono ?_; rintro e w3 ⟨rfl, hb3⟩; have H3 := hide (HO.out.step hb3); clear hb3))
    clear HL
    by_cases hlt : k < n
    · have i0 : (k : Int) < n := by omega
      have hd : decide (k < n) = true := decide_eq_true hlt
      rw [hd]
      clear hd
      have HL := hide (ldRel 3 H3.out.one HC.out.size)
      obtain ⟨r1, h1⟩ := has3_any c HC.out i k
      obtain ⟨r2, h2⟩ := has3_any c HC.out j k
      have HH1 := hide h1
      have HH2 := hide h2
      clear h1 h2
      cases r1
      · go_wp2_with (first | (with_reducible refine HL.out _ _ _ _ _ rfl rfl rfl ?_) | (go_at_call 97; with_reducible refine (HH1.out _).mono ?_; rintro e w4 ⟨rfl, hb4⟩; have H4 := hide (H3.out.step hb4); clear hb4))
        clear HL HH1 HH2
        generalize w4 = wq at *
        generalize wr = wo at *
        clear HO H3
        go_loopw [9, 10] (fun gv jv wr => (∃ (g : Bool) (v : Nat), v ≤ n ∧ gv = .bool g ∧ jv = .int .i64 (v : Nat)) ∧ One w c wr) (fun _ jv _ => n - (intOf jv).toNat)
        case atStart => exact ⟨⟨_, 0, by omega, rfl, rfl⟩, H4.out⟩
        case round =>
          clear H4
          obtain ⟨⟨g, v, hv, rfl, rfl⟩, ho⟩ := hrel
          have HO := hide ho
          clear ho
          have HL := hide (ldRel 3 HO.out.one HC.out.size)
          go_upto_if 30 with (first | (with_reducible refine HL.out _ _ _ _ _ rfl rfl rfl ?_) | (go_at_call 78; refine (HP.out wr).mono ?_; rintro e w3 ⟨rfl, hb3⟩; have H3 := hide (HO.out.step hb3); clear hb3))
          clear HL
          by_cases hvn : v < n
          · have v0 : (v : Int) < n := by omega
            have hd : decide (v < n) = true := decide_eq_true hvn
            rw [hd]
            clear hd
            have HL := hide (ldRel 3 H3.out.one HC.out.size)
            obtain ⟨r1, h1⟩ := has3_any c HC.out i v
            obtain ⟨r2, h2⟩ := has3_any c HC.out j v
            obtain ⟨r3, h3⟩ := has3_any c HC.out k v
            have HH1 := hide h1
            have HH2 := hide h2
            have HH3 := hide h3
            clear h1 h2 h3
            cases r1
            · go_wp2_with (first | (with_reducible refine HL.out _ _ _ _ _ rfl rfl rfl ?_) | (go_at_call 97; with_reducible refine (HH1.out _).mono ?_; rintro e w4 ⟨rfl, hb4⟩; have H4 := hide (H3.out.step hb4); clear hb4))
              exact ⟨⟨⟨_, v + 1, by omega, rfl, rfl⟩, H4.out⟩, by simp [intOf]; omega⟩
            · cases r2
              · go_wp2_with (first | (with_reducible refine HL.out _ _ _ _ _ rfl rfl rfl ?_) | (with_reducible refine HG4.out _ _ _ _ _ rfl rfl (by with_unfolding_all rfl) ?_) | (go_at_call 97; with_reducible refine (HH1.out _).mono ?_; rintro e w4 ⟨rfl, hb4⟩; have H4 := hide (H3.out.step hb4); clear hb4; have HG4 := hide (ldRelG 3 H4.out.one HC.out.size)) | (go_at_call 97; with_reducible refine (HH2.out _).mono ?_; rintro e w5 ⟨rfl, hb4⟩; have H5 := hide (H4.out.step hb4); clear hb4))
                exact ⟨⟨⟨_, v + 1, by omega, rfl, rfl⟩, H5.out⟩, by simp [intOf]; omega⟩
              · cases r3 <;> go_wp2_with (first | (with_reducible refine HL.out _ _ _ _ _ rfl rfl rfl ?_) | (with_reducible refine HG4.out _ _ _ _ _ rfl rfl (by with_unfolding_all rfl) ?_) | (with_reducible refine HG5.out _ _ _ _ _ rfl rfl (by with_unfolding_all rfl) ?_) | (go_at_call 97; with_reducible refine (HH1.out _).mono ?_; rintro e w4 ⟨rfl, hb4⟩; have H4 := hide (H3.out.step hb4); clear hb4; have HG4 := hide (ldRelG 3 H4.out.one HC.out.size)) | (go_at_call 97; with_reducible refine (HH2.out _).mono ?_; rintro e w5 ⟨rfl, hb4⟩; have H5 := hide (H4.out.step hb4); clear hb4; have HG5 := hide (ldRelG 3 H5.out.one HC.out.size)) | (go_at_call 97; with_reducible refine (HH3.out _).mono ?_; rintro e w6 ⟨rfl, hb4⟩; have H6 := hide (H5.out.step hb4); clear hb4))
                all_goals exact ⟨⟨⟨_, v + 1, by omega, rfl, rfl⟩, H6.out⟩, by simp [intOf]; omega⟩
          · obtain rfl : v = n := by omega
            have hd : decide (v < v) = false := by simp
            rw [hd]
            clear hd
            cases g
            · go_wp2_with fail
              exact ⟨⟨⟨k + 1, by omega, rfl⟩, H3.out⟩, by simp [intOf]; omega⟩
            · go_wp2_with fail
              refine bodyPost_ret (results_tmp2 Tryz.results94) rfl ⟨⟨_, _, rfl⟩, H3.out.below⟩
      · go_wp2_with (first | (with_reducible refine HL.out _ _ _ _ _ rfl rfl rfl ?_) | (with_reducible refine HG4.out _ _ _ _ _ rfl rfl (by with_unfolding_all rfl) ?_) | (go_at_call 97; with_reducible refine (HH1.out _).mono ?_; rintro e w4 ⟨rfl, hb4⟩; have H4 := hide (H3.out.step hb4); clear hb4; have HG4 := hide (ldRelG 3 H4.out.one HC.out.size)) | (go_at_call 97; with_reducible refine (HH2.out _).mono ?_; rintro e w5 ⟨rfl, hb4⟩; have H5 := hide (H4.out.step hb4); clear hb4))
        clear HL HH1 HH2 HG4 H4
        generalize w5 = wq at *
        generalize wr = wo at *
        clear HO H3
        go_loopw [9, 10] (fun gv jv wr => (∃ (g : Bool) (v : Nat), v ≤ n ∧ gv = .bool g ∧ jv = .int .i64 (v : Nat)) ∧ One w c wr) (fun _ jv _ => n - (intOf jv).toNat)
        case atStart => exact ⟨⟨_, 0, by omega, rfl, rfl⟩, H5.out⟩
        case round =>
          clear H5
          obtain ⟨⟨g, v, hv, rfl, rfl⟩, ho⟩ := hrel
          have HO := hide ho
          clear ho
          have HL := hide (ldRel 3 HO.out.one HC.out.size)
          go_upto_if 30 with (first | (with_reducible refine HL.out _ _ _ _ _ rfl rfl rfl ?_) | (go_at_call 78; refine (HP.out wr).mono ?_; rintro e w3 ⟨rfl, hb3⟩; have H3 := hide (HO.out.step hb3); clear hb3))
          clear HL
          by_cases hvn : v < n
          · have v0 : (v : Int) < n := by omega
            have hd : decide (v < n) = true := decide_eq_true hvn
            rw [hd]
            clear hd
            have HL := hide (ldRel 3 H3.out.one HC.out.size)
            obtain ⟨r1, h1⟩ := has3_any c HC.out i v
            obtain ⟨r2, h2⟩ := has3_any c HC.out j v
            obtain ⟨r3, h3⟩ := has3_any c HC.out k v
            have HH1 := hide h1
            have HH2 := hide h2
            have HH3 := hide h3
            clear h1 h2 h3
            cases r1
            · go_wp2_with (first | (with_reducible refine HL.out _ _ _ _ _ rfl rfl rfl ?_) | (go_at_call 97; with_reducible refine (HH1.out _).mono ?_; rintro e w4 ⟨rfl, hb4⟩; have H4 := hide (H3.out.step hb4); clear hb4))
              exact ⟨⟨⟨_, v + 1, by omega, rfl, rfl⟩, H4.out⟩, by simp [intOf]; omega⟩
            · cases r2
              · go_wp2_with (first | (with_reducible refine HL.out _ _ _ _ _ rfl rfl rfl ?_) | (with_reducible refine HG4.out _ _ _ _ _ rfl rfl (by with_unfolding_all rfl) ?_) | (go_at_call 97; with_reducible refine (HH1.out _).mono ?_; rintro e w4 ⟨rfl, hb4⟩; have H4 := hide (H3.out.step hb4); clear hb4; have HG4 := hide (ldRelG 3 H4.out.one HC.out.size)) | (go_at_call 97; with_reducible refine (HH2.out _).mono ?_; rintro e w5 ⟨rfl, hb4⟩; have H5 := hide (H4.out.step hb4); clear hb4))
                exact ⟨⟨⟨_, v + 1, by omega, rfl, rfl⟩, H5.out⟩, by simp [intOf]; omega⟩
              · cases r3 <;> go_wp2_with (first | (with_reducible refine HL.out _ _ _ _ _ rfl rfl rfl ?_) | (with_reducible refine HG4.out _ _ _ _ _ rfl rfl (by with_unfolding_all rfl) ?_) | (with_reducible refine HG5.out _ _ _ _ _ rfl rfl (by with_unfolding_all rfl) ?_) | (go_at_call 97; with_reducible refine (HH1.out _).mono ?_; rintro e w4 ⟨rfl, hb4⟩; have H4 := hide (H3.out.step hb4); clear hb4; have HG4 := hide (ldRelG 3 H4.out.one HC.out.size)) | (go_at_call 97; with_reducible refine (HH2.out _).mono ?_; rintro e w5 ⟨rfl, hb4⟩; have H5 := hide (H4.out.step hb4); clear hb4; have HG5 := hide (ldRelG 3 H5.out.one HC.out.size)) | (go_at_call 97; with_reducible refine (HH3.out _).mono ?_; rintro e w6 ⟨rfl, hb4⟩; have H6 := hide (H5.out.step hb4); clear hb4))
                all_goals exact ⟨⟨⟨_, v + 1, by omega, rfl, rfl⟩, H6.out⟩, by simp [intOf]; omega⟩
          · obtain rfl : v = n := by omega
            have hd : decide (v < v) = false := by simp
            rw [hd]
            clear hd
            cases g
            · go_wp2_with fail
              exact ⟨⟨⟨k + 1, by omega, rfl⟩, H3.out⟩, by simp [intOf]; omega⟩
            · go_wp2_with fail
              refine bodyPost_ret (results_tmp2 Tryz.results94) rfl ⟨⟨_, _, rfl⟩, H3.out.below⟩
    · obtain rfl : k = n := by omega
      have hd : decide (k < k) = false := by simp
      rw [hd]
      clear hd
      go_wp2_with fail
      refine bodyPost_ret (results_tmp2 Tryz.results94) rfl ⟨⟨_, _, rfl⟩, H3.out.below⟩
set_option maxRecDepth 100000 in
set_option maxHeartbeats 1000000 in
theorem meet6_tot (c : Array Value) (hc : Relv c) (i j : Int) (w : World) : Calls Tryz.prog 95 #[.agg c, .int .i64 i, .int .i64 j] w fun e w' => RIB e ∧ Below w.heap.size w w' := by
  obtain ⟨n, hn, hp⟩ := points_any c hc
  have HT := hide (One.new w c)
  have HC := hide hc
  have HP := hide hp
  clear hc hp
  go_enter Tryz.func95, Tryz.ntmps95
  go_wp2_with fail
  generalize w.alloc (Obj.cells c 118) = w0 at *
  go_loopw [8] (fun kv wr => (∃ k : Nat, k ≤ n ∧ kv = .int .i64 (k : Nat)) ∧ One w c wr) (fun kv _ => n - (intOf kv).toNat)
  case atStart => exact ⟨⟨0, by omega, rfl⟩, HT.out⟩
  case round =>
    obtain ⟨⟨k, hk, rfl⟩, ho⟩ := hrel
    have HO := hide ho
    clear ho
    have HL := hide (ldRel 3 HO.out.one HC.out.size)
    go_upto_if 14 with (first | (with_reducible refine HL.out _ _ _ _ _ rfl rfl rfl ?_) | (go_at_call 78; refine (HP.out wr).mono ?_; rintro e w3 ⟨rfl, hb3⟩; have H3 := hide (HO.out.step hb3); clear hb3))
    clear HL
    by_cases hlt : k < n
    · have i0 : (k : Int) < n := by omega
      have hd : decide (k < n) = true := decide_eq_true hlt
      rw [hd]
      clear hd
      have HL := hide (ldRel 3 H3.out.one HC.out.size)
      obtain ⟨r1, h1⟩ := has3_any c HC.out k i
      obtain ⟨r2, h2⟩ := has3_any c HC.out k j
      have HH1 := hide h1
      have HH2 := hide h2
      clear h1 h2
      cases r1
      · go_wp2_with (first | (with_reducible refine HL.out _ _ _ _ _ rfl rfl rfl ?_) | (go_at_call 97; with_reducible refine (HH1.out _).mono ?_; rintro e w4 ⟨rfl, hb4⟩; have H4 := hide (H3.out.step hb4); clear hb4))
        clear HL HH1 HH2
        generalize w4 = wq at *
        generalize wr = wo at *
        clear HO H3
        go_loopw [9, 10] (fun gv jv wr => (∃ (g : Bool) (v : Nat), v ≤ n ∧ gv = .bool g ∧ jv = .int .i64 (v : Nat)) ∧ One w c wr) (fun _ jv _ => n - (intOf jv).toNat)
        case atStart => exact ⟨⟨_, 0, by omega, rfl, rfl⟩, H4.out⟩
        case round =>
          clear H4
          obtain ⟨⟨g, v, hv, rfl, rfl⟩, ho⟩ := hrel
          have HO := hide ho
          clear ho
          have HL := hide (ldRel 3 HO.out.one HC.out.size)
          go_upto_if 30 with (first | (with_reducible refine HL.out _ _ _ _ _ rfl rfl rfl ?_) | (go_at_call 78; refine (HP.out wr).mono ?_; rintro e w3 ⟨rfl, hb3⟩; have H3 := hide (HO.out.step hb3); clear hb3))
          clear HL
          by_cases hvn : v < n
          · have v0 : (v : Int) < n := by omega
            have hd : decide (v < n) = true := decide_eq_true hvn
            rw [hd]
            clear hd
            have HL := hide (ldRel 3 H3.out.one HC.out.size)
            obtain ⟨r1, h1⟩ := has3_any c HC.out v i
            obtain ⟨r2, h2⟩ := has3_any c HC.out v j
            obtain ⟨r3, h3⟩ := has3_any c HC.out v k
            have HH1 := hide h1
            have HH2 := hide h2
            have HH3 := hide h3
            clear h1 h2 h3
            cases r1
            · go_wp2_with (first | (with_reducible refine HL.out _ _ _ _ _ rfl rfl rfl ?_) | (go_at_call 97; with_reducible refine (HH1.out _).mono ?_; rintro e w4 ⟨rfl, hb4⟩; have H4 := hide (H3.out.step hb4); clear hb4))
              exact ⟨⟨⟨_, v + 1, by omega, rfl, rfl⟩, H4.out⟩, by simp [intOf]; omega⟩
            · cases r2
              · go_wp2_with (first | (with_reducible refine HL.out _ _ _ _ _ rfl rfl rfl ?_) | (with_reducible refine HG4.out _ _ _ _ _ rfl rfl (by with_unfolding_all rfl) ?_) | (go_at_call 97; with_reducible refine (HH1.out _).mono ?_; rintro e w4 ⟨rfl, hb4⟩; have H4 := hide (H3.out.step hb4); clear hb4; have HG4 := hide (ldRelG 3 H4.out.one HC.out.size)) | (go_at_call 97; with_reducible refine (HH2.out _).mono ?_; rintro e w5 ⟨rfl, hb4⟩; have H5 := hide (H4.out.step hb4); clear hb4))
                exact ⟨⟨⟨_, v + 1, by omega, rfl, rfl⟩, H5.out⟩, by simp [intOf]; omega⟩
              · cases r3 <;> go_wp2_with (first | (with_reducible refine HL.out _ _ _ _ _ rfl rfl rfl ?_) | (with_reducible refine HG4.out _ _ _ _ _ rfl rfl (by with_unfolding_all rfl) ?_) | (with_reducible refine HG5.out _ _ _ _ _ rfl rfl (by with_unfolding_all rfl) ?_) | (go_at_call 97; with_reducible refine (HH1.out _).mono ?_; rintro e w4 ⟨rfl, hb4⟩; have H4 := hide (H3.out.step hb4); clear hb4; have HG4 := hide (ldRelG 3 H4.out.one HC.out.size)) | (go_at_call 97; with_reducible refine (HH2.out _).mono ?_; rintro e w5 ⟨rfl, hb4⟩; have H5 := hide (H4.out.step hb4); clear hb4; have HG5 := hide (ldRelG 3 H5.out.one HC.out.size)) | (go_at_call 97; with_reducible refine (HH3.out _).mono ?_; rintro e w6 ⟨rfl, hb4⟩; have H6 := hide (H5.out.step hb4); clear hb4))
                all_goals exact ⟨⟨⟨_, v + 1, by omega, rfl, rfl⟩, H6.out⟩, by simp [intOf]; omega⟩
          · obtain rfl : v = n := by omega
            have hd : decide (v < v) = false := by simp
            rw [hd]
            clear hd
            cases g
            · go_wp2_with fail
              exact ⟨⟨⟨k + 1, by omega, rfl⟩, H3.out⟩, by simp [intOf]; omega⟩
            · go_wp2_with fail
              refine bodyPost_ret (results_tmp2 Tryz.results95) rfl ⟨⟨_, _, rfl⟩, H3.out.below⟩
      · go_wp2_with (first | (with_reducible refine HL.out _ _ _ _ _ rfl rfl rfl ?_) | (with_reducible refine HG4.out _ _ _ _ _ rfl rfl (by with_unfolding_all rfl) ?_) | (go_at_call 97; with_reducible refine (HH1.out _).mono ?_; rintro e w4 ⟨rfl, hb4⟩; have H4 := hide (H3.out.step hb4); clear hb4; have HG4 := hide (ldRelG 3 H4.out.one HC.out.size)) | (go_at_call 97; with_reducible refine (HH2.out _).mono ?_; rintro e w5 ⟨rfl, hb4⟩; have H5 := hide (H4.out.step hb4); clear hb4))
        clear HL HH1 HH2 HG4 H4
        generalize w5 = wq at *
        generalize wr = wo at *
        clear HO H3
        go_loopw [9, 10] (fun gv jv wr => (∃ (g : Bool) (v : Nat), v ≤ n ∧ gv = .bool g ∧ jv = .int .i64 (v : Nat)) ∧ One w c wr) (fun _ jv _ => n - (intOf jv).toNat)
        case atStart => exact ⟨⟨_, 0, by omega, rfl, rfl⟩, H5.out⟩
        case round =>
          clear H5
          obtain ⟨⟨g, v, hv, rfl, rfl⟩, ho⟩ := hrel
          have HO := hide ho
          clear ho
          have HL := hide (ldRel 3 HO.out.one HC.out.size)
          go_upto_if 30 with (first | (with_reducible refine HL.out _ _ _ _ _ rfl rfl rfl ?_) | (go_at_call 78; refine (HP.out wr).mono ?_; rintro e w3 ⟨rfl, hb3⟩; have H3 := hide (HO.out.step hb3); clear hb3))
          clear HL
          by_cases hvn : v < n
          · have v0 : (v : Int) < n := by omega
            have hd : decide (v < n) = true := decide_eq_true hvn
            rw [hd]
            clear hd
            have HL := hide (ldRel 3 H3.out.one HC.out.size)
            obtain ⟨r1, h1⟩ := has3_any c HC.out v i
            obtain ⟨r2, h2⟩ := has3_any c HC.out v j
            obtain ⟨r3, h3⟩ := has3_any c HC.out v k
            have HH1 := hide h1
            have HH2 := hide h2
            have HH3 := hide h3
            clear h1 h2 h3
            cases r1
            · go_wp2_with (first | (with_reducible refine HL.out _ _ _ _ _ rfl rfl rfl ?_) | (go_at_call 97; with_reducible refine (HH1.out _).mono ?_; rintro e w4 ⟨rfl, hb4⟩; have H4 := hide (H3.out.step hb4); clear hb4))
              exact ⟨⟨⟨_, v + 1, by omega, rfl, rfl⟩, H4.out⟩, by simp [intOf]; omega⟩
            · cases r2
              · go_wp2_with (first | (with_reducible refine HL.out _ _ _ _ _ rfl rfl rfl ?_) | (with_reducible refine HG4.out _ _ _ _ _ rfl rfl (by with_unfolding_all rfl) ?_) | (go_at_call 97; with_reducible refine (HH1.out _).mono ?_; rintro e w4 ⟨rfl, hb4⟩; have H4 := hide (H3.out.step hb4); clear hb4; have HG4 := hide (ldRelG 3 H4.out.one HC.out.size)) | (go_at_call 97; with_reducible refine (HH2.out _).mono ?_; rintro e w5 ⟨rfl, hb4⟩; have H5 := hide (H4.out.step hb4); clear hb4))
                exact ⟨⟨⟨_, v + 1, by omega, rfl, rfl⟩, H5.out⟩, by simp [intOf]; omega⟩
              · cases r3 <;> go_wp2_with (first | (with_reducible refine HL.out _ _ _ _ _ rfl rfl rfl ?_) | (with_reducible refine HG4.out _ _ _ _ _ rfl rfl (by with_unfolding_all rfl) ?_) | (with_reducible refine HG5.out _ _ _ _ _ rfl rfl (by with_unfolding_all rfl) ?_) | (go_at_call 97; with_reducible refine (HH1.out _).mono ?_; rintro e w4 ⟨rfl, hb4⟩; have H4 := hide (H3.out.step hb4); clear hb4; have HG4 := hide (ldRelG 3 H4.out.one HC.out.size)) | (go_at_call 97; with_reducible refine (HH2.out _).mono ?_; rintro e w5 ⟨rfl, hb4⟩; have H5 := hide (H4.out.step hb4); clear hb4; have HG5 := hide (ldRelG 3 H5.out.one HC.out.size)) | (go_at_call 97; with_reducible refine (HH3.out _).mono ?_; rintro e w6 ⟨rfl, hb4⟩; have H6 := hide (H5.out.step hb4); clear hb4))
                all_goals exact ⟨⟨⟨_, v + 1, by omega, rfl, rfl⟩, H6.out⟩, by simp [intOf]; omega⟩
          · obtain rfl : v = n := by omega
            have hd : decide (v < v) = false := by simp
            rw [hd]
            clear hd
            cases g
            · go_wp2_with fail
              exact ⟨⟨⟨k + 1, by omega, rfl⟩, H3.out⟩, by simp [intOf]; omega⟩
            · go_wp2_with fail
              refine bodyPost_ret (results_tmp2 Tryz.results95) rfl ⟨⟨_, _, rfl⟩, H3.out.below⟩
    · obtain rfl : k = n := by omega
      have hd : decide (k < k) = false := by simp
      rw [hd]
      clear hd
      go_wp2_with fail
      refine bodyPost_ret (results_tmp2 Tryz.results95) rfl ⟨⟨_, _, rfl⟩, H3.out.below⟩
end Go.Proofs.YthnbhcfpfbimgaaGreat
