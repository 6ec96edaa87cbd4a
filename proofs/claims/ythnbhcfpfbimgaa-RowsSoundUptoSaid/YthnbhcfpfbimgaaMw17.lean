/- Texts put together: RfJoin RfLatt NmPlain NmPlaceW NmFindW. -/
import Derived.Below
import Derived.Lib.Strings
import Derived.Test.YthnbhcfpfbimgaaMw16
import Derived.Test.YthnbhcfpfbimgaaMw00
/- The walks of chapter 6: Join, Meet. (Printed by rfhasse.py.) -/
namespace Go.Proofs.Ythnbhcfpfbimgaa
open Go.RowKit
set_option maxRecDepth 100000 in
set_option maxHeartbeats 1000000 in
theorem join6_tot (c : Array Value) (hc : Relv c) (i j : Int) (w : World) : Calls Try.prog 96 #[.agg c, .int .i64 i, .int .i64 j] w fun e w' => RIB e ∧ Below w.heap.size w w' := by
  obtain ⟨n, hn, hp⟩ := points_any c hc
  have HT := hide (One.new w c)
  have HC := hide hc
  have HP := hide hp
  clear hc hp
  go_enter Try.func96, Try.ntmps96
  go_wp2_with fail
  generalize w.alloc (Obj.cells c 128) = w0 at *
  go_loopw [8] (fun kv wr => (∃ k : Nat, k ≤ n ∧ kv = .int .i64 (k : Nat)) ∧ One w c wr) (fun kv _ => n - (intOf kv).toNat)
  case atStart => exact ⟨⟨0, by omega, rfl⟩, HT.out⟩
  case round =>
    obtain ⟨⟨k, hk, rfl⟩, ho⟩ := hrel
    have HO := hide ho
    clear ho
    have HL := hide (ldRel 3 HO.out.one HC.out.size)
    go_upto_if 14 with (first | (with_reducible refine HL.out _ _ _ _ _ rfl rfl rfl ?_) | (go_at_call 89; refine (HP.out wr).mono ?_; rintro e w3 ⟨rfl, hb3⟩; have H3 := hide (HO.out.step hb3); clear hb3))
    clear HL
    by_cases hlt : k < n
    · have i0 : (k : Int) < n := by omega
      have hd : decide (k < n) = true := decide_eq_true hlt
      rw [hd]
      clear hd
      have HL := hide (ldRel 3 H3.out.one HC.out.size)
      obtain ⟨r1, h1⟩ := has3_any c HC.out i k
      obtain ⟨r2, h2⟩ := has3_any c HC.out j k
      have HH1 := hide h1
      have HH2 := hide h2
      clear h1 h2
      cases r1
      · go_wp2_with (first | (with_reducible refine HL.out _ _ _ _ _ rfl rfl rfl ?_) | (go_at_call 103; with_reducible refine (HH1.out _).mono ?_; rintro e w4 ⟨rfl, hb4⟩; have H4 := hide (H3.out.step hb4); clear hb4))
        clear HL HH1 HH2
        generalize w4 = wq at *
        generalize wr = wo at *
        clear HO H3
        go_loopw [9, 10] (fun gv jv wr => (∃ (g : Bool) (v : Nat), v ≤ n ∧ gv = .bool g ∧ jv = .int .i64 (v : Nat)) ∧ One w c wr) (fun _ jv _ => n - (intOf jv).toNat)
        case atStart => exact ⟨⟨_, 0, by omega, rfl, rfl⟩, H4.out⟩
        case round =>
          clear H4
          obtain ⟨⟨g, v, hv, rfl, rfl⟩, ho⟩ := hrel
          have HO := hide ho
          clear ho
          have HL := hide (ldRel 3 HO.out.one HC.out.size)
          go_upto_if 30 with (first | (with_reducible refine HL.out _ _ _ _ _ rfl rfl rfl ?_) | (go_at_call 89; refine (HP.out wr).mono ?_; rintro e w3 ⟨rfl, hb3⟩; have H3 := hide (HO.out.step hb3); clear hb3))
          clear HL
          by_cases hvn : v < n
          · have v0 : (v : Int) < n := by omega
            have hd : decide (v < n) = true := decide_eq_true hvn
            rw [hd]
            clear hd
            have HL := hide (ldRel 3 H3.out.one HC.out.size)
            obtain ⟨r1, h1⟩ := has3_any c HC.out i v
            obtain ⟨r2, h2⟩ := has3_any c HC.out j v
            obtain ⟨r3, h3⟩ := has3_any c HC.out k v
            have HH1 := hide h1
            have HH2 := hide h2
            have HH3 := hide h3
            clear h1 h2 h3
            cases r1
            · go_wp2_with (first | (with_reducible refine HL.out _ _ _ _ _ rfl rfl rfl ?_) | (go_at_call 103; with_reducible refine (HH1.out _).mono ?_; rintro e w4 ⟨rfl, hb4⟩; have H4 := hide (H3.out.step hb4); clear hb4))
              exact ⟨⟨⟨_, v + 1, by omega, rfl, rfl⟩, H4.out⟩, by simp [intOf]; omega⟩
            · cases r2
              · go_wp2_with (first | (with_reducible refine HL.out _ _ _ _ _ rfl rfl rfl ?_) | (with_reducible refine HG4.out _ _ _ _ _ rfl rfl (by with_unfolding_all rfl) ?_) | (go_at_call 103; with_reducible refine (HH1.out _).mono ?_; rintro e w4 ⟨rfl, hb4⟩; have H4 := hide (H3.out.step hb4); clear hb4; have HG4 := hide (ldRelG 3 H4.out.one HC.out.size)) | (go_at_call 103; with_reducible refine (HH2.out _).mono ?_; rintro e w5 ⟨rfl, hb4⟩; have H5 := hide (H4.out.step hb4); clear hb4))
                exact ⟨⟨⟨_, v + 1, by omega, rfl, rfl⟩, H5.out⟩, by simp [intOf]; omega⟩
              · cases r3 <;> go_wp2_with (first | (with_reducible refine HL.out _ _ _ _ _ rfl rfl rfl ?_) | (with_reducible refine HG4.out _ _ _ _ _ rfl rfl (by with_unfolding_all rfl) ?_) | (with_reducible refine HG5.out _ _ _ _ _ rfl rfl (by with_unfolding_all rfl) ?_) | (go_at_call 103; with_reducible refine (HH1.out _).mono ?_; rintro e w4 ⟨rfl, hb4⟩; have H4 := hide (H3.out.step hb4); clear hb4; have HG4 := hide (ldRelG 3 H4.out.one HC.out.size)) | (go_at_call 103; with_reducible refine (HH2.out _).mono ?_; rintro e w5 ⟨rfl, hb4⟩; have H5 := hide (H4.out.step hb4); clear hb4; have HG5 := hide (ldRelG 3 H5.out.one HC.out.size)) | (go_at_call 103; with_reducible refine (HH3.out _).mono ?_; rintro e w6 ⟨rfl, hb4⟩; have H6 := hide (H5.out.step hb4); clear hb4))
                all_goals exact ⟨⟨⟨_, v + 1, by omega, rfl, rfl⟩, H6.out⟩, by simp [intOf]; omega⟩
          · obtain rfl : v = n := by omega
            have hd : decide (v < v) = false := by simp
            rw [hd]
            clear hd
            cases g
            · go_wp2_with fail
              exact ⟨⟨⟨k + 1, by omega, rfl⟩, H3.out⟩, by simp [intOf]; omega⟩
            · go_wp2_with fail
              refine bodyPost_ret (results_tmp2 Try.results96) rfl ⟨⟨_, _, rfl⟩, H3.out.below⟩
      · go_wp2_with (first | (with_reducible refine HL.out _ _ _ _ _ rfl rfl rfl ?_) | (with_reducible refine HG4.out _ _ _ _ _ rfl rfl (by with_unfolding_all rfl) ?_) | (go_at_call 103; with_reducible refine (HH1.out _).mono ?_; rintro e w4 ⟨rfl, hb4⟩; have H4 := hide (H3.out.step hb4); clear hb4; have HG4 := hide (ldRelG 3 H4.out.one HC.out.size)) | (go_at_call 103; with_reducible refine (HH2.out _).mono ?_; rintro e w5 ⟨rfl, hb4⟩; have H5 := hide (H4.out.step hb4); clear hb4))
        clear HL HH1 HH2 HG4 H4
        generalize w5 = wq at *
        generalize wr = wo at *
        clear HO H3
        go_loopw [9, 10] (fun gv jv wr => (∃ (g : Bool) (v : Nat), v ≤ n ∧ gv = .bool g ∧ jv = .int .i64 (v : Nat)) ∧ One w c wr) (fun _ jv _ => n - (intOf jv).toNat)
        case atStart => exact ⟨⟨_, 0, by omega, rfl, rfl⟩, H5.out⟩
        case round =>
          clear H5
          obtain ⟨⟨g, v, hv, rfl, rfl⟩, ho⟩ := hrel
          have HO := hide ho
          clear ho
          have HL := hide (ldRel 3 HO.out.one HC.out.size)
          go_upto_if 30 with (first | (with_reducible refine HL.out _ _ _ _ _ rfl rfl rfl ?_) | (go_at_call 89; refine (HP.out wr).mono ?_; rintro e w3 ⟨rfl, hb3⟩; have H3 := hide (HO.out.step hb3); clear hb3))
          clear HL
          by_cases hvn : v < n
          · have v0 : (v : Int) < n := by omega
            have hd : decide (v < n) = true := decide_eq_true hvn
            rw [hd]
            clear hd
            have HL := hide (ldRel 3 H3.out.one HC.out.size)
            obtain ⟨r1, h1⟩ := has3_any c HC.out i v
            obtain ⟨r2, h2⟩ := has3_any c HC.out j v
            obtain ⟨r3, h3⟩ := has3_any c HC.out k v
            have HH1 := hide h1
            have HH2 := hide h2
            have HH3 := hide h3
            clear h1 h2 h3
            cases r1
            · go_wp2_with (first | (with_reducible refine HL.out _ _ _ _ _ rfl rfl rfl ?_) | (go_at_call 103; with_reducible refine (HH1.out _).mono ?_; rintro e w4 ⟨rfl, hb4⟩; have H4 := hide (H3.out.step hb4); clear hb4))
              exact ⟨⟨⟨_, v + 1, by omega, rfl, rfl⟩, H4.out⟩, by simp [intOf]; omega⟩
            · cases r2
              · go_wp2_with (first | (with_reducible refine HL.out _ _ _ _ _ rfl rfl rfl ?_) | (with_reducible refine HG4.out _ _ _ _ _ rfl rfl (by with_unfolding_all rfl) ?_) | (go_at_call 103; with_reducible refine (HH1.out _).mono ?_; rintro e w4 ⟨rfl, hb4⟩; have H4 := hide (H3.out.step hb4); clear hb4; have HG4 := hide (ldRelG 3 H4.out.one HC.out.size)) | (go_at_call 103; with_reducible refine (HH2.out _).mono ?_; rintro e w5 ⟨rfl, hb4⟩; have H5 := hide (H4.out.step hb4); clear hb4))
                exact ⟨⟨⟨_, v + 1, by omega, rfl, rfl⟩, H5.out⟩, by simp [intOf]; omega⟩
              · cases r3 <;> go_wp2_with (first | (with_reducible refine HL.out _ _ _ _ _ rfl rfl rfl ?_) | (with_reducible refine HG4.out _ _ _ _ _ rfl rfl (by with_unfolding_all rfl) ?_) | (with_reducible refine HG5.out _ _ _ _ _ rfl rfl (by with_unfolding_all rfl) ?_) | (go_at_call 103; with_reducible refine (HH1.out _).mono ?_; rintro e w4 ⟨rfl, hb4⟩; have H4 := hide (H3.out.step hb4); clear hb4; have HG4 := hide (ldRelG 3 H4.out.one HC.out.size)) | (go_at_call 103; with_reducible refine (HH2.out _).mono ?_; rintro e w5 ⟨rfl, hb4⟩; have H5 := hide (H4.out.step hb4); clear hb4; have HG5 := hide (ldRelG 3 H5.out.one HC.out.size)) | (go_at_call 103; with_reducible refine (HH3.out _).mono ?_; rintro e w6 ⟨rfl, hb4⟩; have H6 := hide (H5.out.step hb4); clear hb4))
                all_goals exact ⟨⟨⟨_, v + 1, by omega, rfl, rfl⟩, H6.out⟩, by simp [intOf]; omega⟩
          · obtain rfl : v = n := by omega
            have hd : decide (v < v) = false := by simp
            rw [hd]
            clear hd
            cases g
            · go_wp2_with fail
              exact ⟨⟨⟨k + 1, by omega, rfl⟩, H3.out⟩, by simp [intOf]; omega⟩
            · go_wp2_with fail
              refine bodyPost_ret (results_tmp2 Try.results96) rfl ⟨⟨_, _, rfl⟩, H3.out.below⟩
    · obtain rfl : k = n := by omega
      have hd : decide (k < k) = false := by simp
      rw [hd]
      clear hd
      go_wp2_with fail
      refine bodyPost_ret (results_tmp2 Try.results96) rfl ⟨⟨_, _, rfl⟩, H3.out.below⟩
set_option maxRecDepth 100000 in
set_option maxHeartbeats 1000000 in
theorem meet6_tot (c : Array Value) (hc : Relv c) (i j : Int) (w : World) : Calls Try.prog 101 #[.agg c, .int .i64 i, .int .i64 j] w fun e w' => RIB e ∧ Below w.heap.size w w' := by
  obtain ⟨n, hn, hp⟩ := points_any c hc
  have HT := hide (One.new w c)
  have HC := hide hc
  have HP := hide hp
  clear hc hp
  go_enter Try.func101, Try.ntmps101
  go_wp2_with fail
  generalize w.alloc (Obj.cells c 128) = w0 at *
  go_loopw [8] (fun kv wr => (∃ k : Nat, k ≤ n ∧ kv = .int .i64 (k : Nat)) ∧ One w c wr) (fun kv _ => n - (intOf kv).toNat)
  case atStart => exact ⟨⟨0, by omega, rfl⟩, HT.out⟩
  case round =>
    obtain ⟨⟨k, hk, rfl⟩, ho⟩ := hrel
    have HO := hide ho
    clear ho
    have HL := hide (ldRel 3 HO.out.one HC.out.size)
    go_upto_if 14 with (first | (with_reducible refine HL.out _ _ _ _ _ rfl rfl rfl ?_) | (go_at_call 89; refine (HP.out wr).mono ?_; rintro e w3 ⟨rfl, hb3⟩; have H3 := hide (HO.out.step hb3); clear hb3))
    clear HL
    by_cases hlt : k < n
    · have i0 : (k : Int) < n := by omega
      have hd : decide (k < n) = true := decide_eq_true hlt
      rw [hd]
      clear hd
      have HL := hide (ldRel 3 H3.out.one HC.out.size)
      obtain ⟨r1, h1⟩ := has3_any c HC.out k i
      obtain ⟨r2, h2⟩ := has3_any c HC.out k j
      have HH1 := hide h1
      have HH2 := hide h2
      clear h1 h2
      cases r1
      · go_wp2_with (first | (with_reducible refine HL.out _ _ _ _ _ rfl rfl rfl ?_) | (go_at_call 103; with_reducible refine (HH1.out _).mono ?_; rintro e w4 ⟨rfl, hb4⟩; have H4 := hide (H3.out.step hb4); clear hb4))
        clear HL HH1 HH2
        generalize w4 = wq at *
        generalize wr = wo at *
        clear HO H3
        go_loopw [9, 10] (fun gv jv wr => (∃ (g : Bool) (v : Nat), v ≤ n ∧ gv = .bool g ∧ jv = .int .i64 (v : Nat)) ∧ One w c wr) (fun _ jv _ => n - (intOf jv).toNat)
        case atStart => exact ⟨⟨_, 0, by omega, rfl, rfl⟩, H4.out⟩
        case round =>
          clear H4
          obtain ⟨⟨g, v, hv, rfl, rfl⟩, ho⟩ := hrel
          have HO := hide ho
          clear ho
          have HL := hide (ldRel 3 HO.out.one HC.out.size)
          go_upto_if 30 with (first | (with_reducible refine HL.out _ _ _ _ _ rfl rfl rfl ?_) | (go_at_call 89; refine (HP.out wr).mono ?_; rintro e w3 ⟨rfl, hb3⟩; have H3 := hide (HO.out.step hb3); clear hb3))
          clear HL
          by_cases hvn : v < n
          · have v0 : (v : Int) < n := by omega
            have hd : decide (v < n) = true := decide_eq_true hvn
            rw [hd]
            clear hd
            have HL := hide (ldRel 3 H3.out.one HC.out.size)
            obtain ⟨r1, h1⟩ := has3_any c HC.out v i
            obtain ⟨r2, h2⟩ := has3_any c HC.out v j
            obtain ⟨r3, h3⟩ := has3_any c HC.out v k
            have HH1 := hide h1
            have HH2 := hide h2
            have HH3 := hide h3
            clear h1 h2 h3
            cases r1
            · go_wp2_with (first | (with_reducible refine HL.out _ _ _ _ _ rfl rfl rfl ?_) | (go_at_call 103; with_reducible refine (HH1.out _).mono ?_; rintro e w4 ⟨rfl, hb4⟩; have H4 := hide (H3.out.step hb4); clear hb4))
              exact ⟨⟨⟨_, v + 1, by omega, rfl, rfl⟩, H4.out⟩, by simp [intOf]; omega⟩
            · cases r2
              · go_wp2_with (first | (with_reducible refine HL.out _ _ _ _ _ rfl rfl rfl ?_) | (with_reducible refine HG4.out _ _ _ _ _ rfl rfl (by with_unfolding_all rfl) ?_) | (go_at_call 103; with_reducible refine (HH1.out _).mono ?_; rintro e w4 ⟨rfl, hb4⟩; have H4 := hide (H3.out.step hb4); clear hb4; have HG4 := hide (ldRelG 3 H4.out.one HC.out.size)) | (go_at_call 103; with_reducible refine (HH2.out _).mono ?_; rintro e w5 ⟨rfl, hb4⟩; have H5 := hide (H4.out.step hb4); clear hb4))
                exact ⟨⟨⟨_, v + 1, by omega, rfl, rfl⟩, H5.out⟩, by simp [intOf]; omega⟩
              · cases r3 <;> go_wp2_with (first | (with_reducible refine HL.out _ _ _ _ _ rfl rfl rfl ?_) | (with_reducible refine HG4.out _ _ _ _ _ rfl rfl (by with_unfolding_all rfl) ?_) | (with_reducible refine HG5.out _ _ _ _ _ rfl rfl (by with_unfolding_all rfl) ?_) | (go_at_call 103; with_reducible refine (HH1.out _).mono ?_; rintro e w4 ⟨rfl, hb4⟩; have H4 := hide (H3.out.step hb4); clear hb4; have HG4 := hide (ldRelG 3 H4.out.one HC.out.size)) | (go_at_call 103; with_reducible refine (HH2.out _).mono ?_; rintro e w5 ⟨rfl, hb4⟩; have H5 := hide (H4.out.step hb4); clear hb4; have HG5 := hide (ldRelG 3 H5.out.one HC.out.size)) | (go_at_call 103; with_reducible refine (HH3.out _).mono ?_; rintro e w6 ⟨rfl, hb4⟩; have H6 := hide (H5.out.step hb4); clear hb4))
                all_goals exact ⟨⟨⟨_, v + 1, by omega, rfl, rfl⟩, H6.out⟩, by simp [intOf]; omega⟩
          · obtain rfl : v = n := by omega
            have hd : decide (v < v) = false := by simp
            rw [hd]
            clear hd
            cases g
            · go_wp2_with fail
              exact ⟨⟨⟨k + 1, by omega, rfl⟩, H3.out⟩, by simp [intOf]; omega⟩
            · go_wp2_with fail
              refine bodyPost_ret (results_tmp2 Try.results101) rfl ⟨⟨_, _, rfl⟩, H3.out.below⟩
      · go_wp2_with (first | (with_reducible refine HL.out _ _ _ _ _ rfl rfl rfl ?_) | (with_reducible refine HG4.out _ _ _ _ _ rfl rfl (by with_unfolding_all rfl) ?_) | (go_at_call 103; with_reducible refine (HH1.out _).mono ?_; rintro e w4 ⟨rfl, hb4⟩; have H4 := hide (H3.out.step hb4); clear hb4; have HG4 := hide (ldRelG 3 H4.out.one HC.out.size)) | (go_at_call 103; with_reducible refine (HH2.out _).mono ?_; rintro e w5 ⟨rfl, hb4⟩; have H5 := hide (H4.out.step hb4); clear hb4))
        clear HL HH1 HH2 HG4 H4
        generalize w5 = wq at *
        generalize wr = wo at *
        clear HO H3
        go_loopw [9, 10] (fun gv jv wr => (∃ (g : Bool) (v : Nat), v ≤ n ∧ gv = .bool g ∧ jv = .int .i64 (v : Nat)) ∧ One w c wr) (fun _ jv _ => n - (intOf jv).toNat)
        case atStart => exact ⟨⟨_, 0, by omega, rfl, rfl⟩, H5.out⟩
        case round =>
          clear H5
          obtain ⟨⟨g, v, hv, rfl, rfl⟩, ho⟩ := hrel
          have HO := hide ho
          clear ho
          have HL := hide (ldRel 3 HO.out.one HC.out.size)
          go_upto_if 30 with (first | (with_reducible refine HL.out _ _ _ _ _ rfl rfl rfl ?_) | (go_at_call 89; refine (HP.out wr).mono ?_; rintro e w3 ⟨rfl, hb3⟩; have H3 := hide (HO.out.step hb3); clear hb3))
          clear HL
          by_cases hvn : v < n
          · have v0 : (v : Int) < n := by omega
            have hd : decide (v < n) = true := decide_eq_true hvn
            rw [hd]
            clear hd
            have HL := hide (ldRel 3 H3.out.one HC.out.size)
            obtain ⟨r1, h1⟩ := has3_any c HC.out v i
            obtain ⟨r2, h2⟩ := has3_any c HC.out v j
            obtain ⟨r3, h3⟩ := has3_any c HC.out v k
            have HH1 := hide h1
            have HH2 := hide h2
            have HH3 := hide h3
            clear h1 h2 h3
            cases r1
            · go_wp2_with (first | (with_reducible refine HL.out _ _ _ _ _ rfl rfl rfl ?_) | (go_at_call 103; with_reducible refine (HH1.out _).mono ?_; rintro e w4 ⟨rfl, hb4⟩; have H4 := hide (H3.out.step hb4); clear hb4))
              exact ⟨⟨⟨_, v + 1, by omega, rfl, rfl⟩, H4.out⟩, by simp [intOf]; omega⟩
            · cases r2
              · go_wp2_with (first | (with_reducible refine HL.out _ _ _ _ _ rfl rfl rfl ?_) | (with_reducible refine HG4.out _ _ _ _ _ rfl rfl (by with_unfolding_all rfl) ?_) | (go_at_call 103; with_reducible refine (HH1.out _).mono ?_; rintro e w4 ⟨rfl, hb4⟩; have H4 := hide (H3.out.step hb4); clear hb4; have HG4 := hide (ldRelG 3 H4.out.one HC.out.size)) | (go_at_call 103; with_reducible refine (HH2.out _).mono ?_; rintro e w5 ⟨rfl, hb4⟩; have H5 := hide (H4.out.step hb4); clear hb4))
                exact ⟨⟨⟨_, v + 1, by omega, rfl, rfl⟩, H5.out⟩, by simp [intOf]; omega⟩
              · cases r3 <;> go_wp2_with (first | (with_reducible refine HL.out _ _ _ _ _ rfl rfl rfl ?_) | (with_reducible refine HG4.out _ _ _ _ _ rfl rfl (by with_unfolding_all rfl) ?_) | (with_reducible refine HG5.out _ _ _ _ _ rfl rfl (by with_unfolding_all rfl) ?_) | (go_at_call 103; with_reducible refine (HH1.out _).mono ?_; rintro e w4 ⟨rfl, hb4⟩; have H4 := hide (H3.out.step hb4); clear hb4; have HG4 := hide (ldRelG 3 H4.out.one HC.out.size)) | (go_at_call 103; with_reducible refine (HH2.out _).mono ?_; rintro e w5 ⟨rfl, hb4⟩; have H5 := hide (H4.out.step hb4); clear hb4; have HG5 := hide (ldRelG 3 H5.out.one HC.out.size)) | (go_at_call 103; with_reducible refine (HH3.out _).mono ?_; rintro e w6 ⟨rfl, hb4⟩; have H6 := hide (H5.out.step hb4); clear hb4))
                all_goals exact ⟨⟨⟨_, v + 1, by omega, rfl, rfl⟩, H6.out⟩, by simp [intOf]; omega⟩
          · obtain rfl : v = n := by omega
            have hd : decide (v < v) = false := by simp
            rw [hd]
            clear hd
            cases g
            · go_wp2_with fail
              exact ⟨⟨⟨k + 1, by omega, rfl⟩, H3.out⟩, by simp [intOf]; omega⟩
            · go_wp2_with fail
              refine bodyPost_ret (results_tmp2 Try.results101) rfl ⟨⟨_, _, rfl⟩, H3.out.below⟩
    · obtain rfl : k = n := by omega
      have hd : decide (k < k) = false := by simp
      rw [hd]
      clear hd
      go_wp2_with fail
      refine bodyPost_ret (results_tmp2 Try.results101) rfl ⟨⟨_, _, rfl⟩, H3.out.below⟩
end Go.Proofs.Ythnbhcfpfbimgaa
/- The walk of chapter 6: Lattice. -/
namespace Go.Proofs.Ythnbhcfpfbimgaa
open Go.RowKit
set_option maxRecDepth 100000 in
theorem latt6_no (c : Array Value) (N : Int) (h0 : c[0]? = some (.int .i64 N)) (h : N < 1 ∨ 64 < N) (w : World) : Calls Try.prog 91 #[.agg c] w fun e w' => RBo e ∧ Below w.heap.size w w' := by
  have HT := hide (One.new w c)
  have k0 := HT.out.num h0
  clear h0
  rcases h with h1 | h2
  · have d1 : decide (N < 1) = true := decide_eq_true (by omega)
    go_enter Try.func91, Try.ntmps91
    go_wp2_with fail
    go_ret
    exact ⟨⟨_, rfl⟩, HT.out.below⟩
  · have d1 : decide (N < 1) = false := decide_eq_false (by omega)
    have d2 : decide (64 < N) = true := decide_eq_true (by omega)
    go_enter Try.func91, Try.ntmps91
    go_wp2_with fail
    go_ret
    exact ⟨⟨_, rfl⟩, HT.out.below⟩
set_option maxRecDepth 100000 in
theorem latt6_yes (c : Array Value) (hc : Relv c) (n : Nat) (h0 : c[0]? = some (.int .i64 (n : Nat))) (n1 : 1 ≤ n) (n8 : n ≤ 64) (w : World) : Calls Try.prog 91 #[.agg c] w fun e w' => RBo e ∧ Below w.heap.size w w' := by
  have HT := hide (One.new w c)
  have k0 := HT.out.num h0
  have HC := hide hc
  have H0 := hide h0
  have d1 : decide ((n : Int) < 1) = false := decide_eq_false (by omega)
  have d2 : decide (64 < (n : Int)) = false := decide_eq_false (by omega)
  have HN := hide (And.intro n1 n8)
  clear hc h0 n1
  go_enter Try.func91, Try.ntmps91
  go_upto_region 1 with fail
  generalize w.alloc (Obj.cells c 128) = w0 at *
  have HG := hide (ldRelG 1 HT.out.one HC.out.size)
  have HD := hide (order_tot c HC.out w0)
  go_upto_if 21 with (first | (with_reducible refine HG.out _ _ _ _ _ rfl rfl (by with_unfolding_all rfl) ?_) | (go_at_call 100; refine HD.out.mono ?_; rintro e w1 ⟨⟨⟨r, rfl⟩⟩, hb4⟩; have H1 := hide (HT.out.step hb4); clear hb4))
  clear HG HD k0 d1 d2 HT
  cases r
  · go_wp2_with fail
    go_ret
    exact ⟨⟨_, rfl⟩, H1.out.below⟩
  simp only [Bool.not_true]
  go_wp2_with fail
  go_loopw [3] (fun kv wr => (∃ k : Nat, k ≤ n ∧ kv = .int .i64 (k : Nat)) ∧ One w c wr) (fun kv _ => n - (intOf kv).toNat)
  case atStart => exact ⟨⟨0, by omega, rfl⟩, H1.out⟩
  case round =>
    obtain ⟨⟨k, hk, rfl⟩, ho⟩ := hrel
    have HO := hide ho
    clear ho
    have k0 := HO.out.num H0.out
    by_cases hlt : k < n
    · have i0 : (k : Int) < n := by omega
      go_wp2_with fail
      clear k0
      generalize wr = wo at *
      go_loopw [4] (fun jv wr => (∃ j : Nat, j ≤ k ∧ jv = .int .i64 (j : Nat)) ∧ One w c wr) (fun jv _ => k - (intOf jv).toNat)
      case atStart => exact ⟨⟨0, by omega, rfl⟩, HO.out⟩
      case round =>
        clear HO
        obtain ⟨⟨j, hj, rfl⟩, ho⟩ := hrel
        have HO := hide ho
        clear ho
        by_cases hjk : j < k
        · have j0 : (j : Int) < k := by omega
          go_upto_region 9 with fail
          have HL := hide (ldRel 1 HO.out.one HC.out.size)
          have HJ := hide (join6_tot c HC.out k j wr)
          have HM := hide (meet6_tot c HC.out k j)
          go_upto_region 11 with (first | (with_reducible refine HL.out _ _ _ _ _ rfl rfl rfl ?_) | (with_reducible refine HL2.out _ _ _ _ _ rfl rfl rfl ?_) | (go_at_call 96; refine HJ.out.mono ?_; rintro e w4 ⟨⟨⟨z1, b1, rfl⟩⟩, hb4⟩; have H4 := hide (HO.out.step hb4); clear hb4; have HL2 := hide (ldRel 1 H4.out.one HC.out.size)) | (go_at_call 101; refine (HM.out w4).mono ?_; rintro e w5 ⟨⟨⟨z2, b2, rfl⟩⟩, hb5⟩; have H5 := hide (H4.out.step hb5); clear hb5))
          clear HL HL2 HJ HM
          cases b1
          · go_wp2_with fail
            go_ret
            exact ⟨⟨_, rfl⟩, H5.out.below⟩
          · cases b2
            · go_wp2_with fail
              go_ret
              exact ⟨⟨_, rfl⟩, H5.out.below⟩
            · go_wp2_with fail
              exact ⟨⟨⟨j + 1, by omega, rfl⟩, H5.out⟩, by simp [intOf]; omega⟩
        · obtain rfl : j = k := by omega
          go_wp2_with fail
          exact ⟨⟨⟨j + 1, by omega, rfl⟩, HO.out⟩, by simp [intOf]; omega⟩
    · obtain rfl : k = n := by omega
      go_wp2_with fail
      go_ret
      exact ⟨⟨_, rfl⟩, HO.out.below⟩
theorem latt6_tot (c : Array Value) (hc : Relv c) (w : World) : Calls Try.prog 91 #[.agg c] w fun e w' => RBo e ∧ Below w.heap.size w w' := by
  obtain ⟨N, h0⟩ := hc.num
  by_cases h1 : N < 1
  · exact latt6_no c N h0 (.inl h1) w
  by_cases h2 : 64 < N
  · exact latt6_no c N h0 (.inr h2) w
  obtain ⟨n, rfl⟩ := Int.eq_ofNat_of_zero_le (by omega : 0 ≤ N)
  exact latt6_yes c hc n h0 (by omega) (by omega) w
end Go.Proofs.Ythnbhcfpfbimgaa
/- The plain law of names: what Find, Twice, Same, Less, Right, Sort and Join of the program and of the reference compute, as functions on lists; no program in sight. -/
namespace Go.Proofs.Ythnbhcfpfbimgaa.Nm

/-- The first index below n at which p holds; -1: none. -/
def first (p : Nat → Bool) : Nat → Nat → Int
  | _, 0 => -1
  | i, n + 1 => if p i then (i : Int) else first p (i + 1) n

theorem first_none {p : Nat → Bool} : ∀ (n i : Nat), (∀ j, i ≤ j → j < i + n → p j = false) → first p i n = -1
  | 0, _, _ => rfl
  | n + 1, i, h => by
    rw [first, h i (by omega) (by omega), if_neg (by simp)]
    exact first_none n (i + 1) fun j h1 h2 => h j (by omega) (by omega)

theorem first_at {p : Nat → Bool} (k : Nat) (hp : p k = true) : ∀ (n i : Nat), (∀ j, i ≤ j → j < k → p j = false) → i ≤ k → k < i + n → first p i n = k
  | 0, i, _, h1, h2 => by omega
  | n + 1, i, h, h1, h2 => by
    rw [first]
    by_cases e : i = k
    · subst e; rw [hp, if_pos rfl]
    · rw [h i (by omega) (by omega), if_neg (by simp)]
      exact first_at k hp n (i + 1) (fun j a b => h j (by omega) (by omega)) (by omega) (by omega)

theorem first_cases (p : Nat → Bool) (n i : Nat) :
    (first p i n = -1 ∧ ∀ j, i ≤ j → j < i + n → p j = false) ∨ (∃ k : Nat, first p i n = k ∧ p k = true ∧ i ≤ k ∧ k < i + n ∧ ∀ j, i ≤ j → j < k → p j = false) := by
  induction n generalizing i with
  | zero => exact .inl ⟨rfl, fun j h1 h2 => by omega⟩
  | succ n ih =>
    rw [first]
    cases hp : p i with
    | true => exact .inr ⟨i, by simp, hp, by omega, by omega, fun j h1 h2 => by omega⟩
    | false =>
      rw [if_neg (by simp)]
      rcases ih (i + 1) with ⟨h1, h2⟩ | ⟨k, h1, h2, h3, h4, h5⟩
      · exact .inl ⟨h1, fun j a b => by by_cases e : j = i; (· subst e; exact hp); (· exact h2 j (by omega) (by omega))⟩
      · exact .inr ⟨k, h1, h2, by omega, by omega, fun j a b => by by_cases e : j = i; (· subst e; exact hp); (· exact h5 j (by omega) (by omega))⟩

theorem first_congr {p q : Nat → Bool} : ∀ (n i : Nat), (∀ j, i ≤ j → j < i + n → p j = q j) → first p i n = first q i n
  | 0, _, _ => rfl
  | n + 1, i, h => by
    rw [first, first, h i (by omega) (by omega), first_congr n (i + 1) fun j a b => h j (by omega) (by omega)]

theorem first_range (p : Nat → Bool) (n i : Nat) (h : (i : Int) + n ≤ 9223372036854775807) : -1 ≤ first p i n ∧ first p i n ≤ 9223372036854775807 := by
  rcases first_cases p n i with ⟨h1, _⟩ | ⟨k, h1, _, h3, h4, _⟩ <;> rw [h1] <;> omega

theorem bytesLess_eq : ∀ (x y : List UInt8), Op.bytesLess x y = decide (x < y)
  | [], [] => by simp [Op.bytesLess]
  | _ :: _, [] => by simp [Op.bytesLess]
  | [], _ :: _ => by simp [Op.bytesLess]
  | a :: x, b :: y => by
    rw [Op.bytesLess, bytesLess_eq x y]
    simp only [List.cons_lt_cons_iff]
    by_cases h1 : a < b <;> by_cases h2 : a = b <;> by_cases h3 : x < y <;> simp [h1, h2, h3]

/-- The string at an index. -/
def at_ (l : List ByteArray) (i : Nat) : ByteArray := l.getD i ByteArray.empty

/-- Are two strings one? As the model asks it. -/
def eqs (a b : ByteArray) : Bool := a.toList == b.toList
theorem eqs_iff {a b : ByteArray} : eqs a b = true ↔ a = b := by
  unfold eqs
  rw [beq_iff_eq, Lib.toList_data, Lib.toList_data]
  constructor
  · intro h; exact ByteArray.ext (Array.ext' h)
  · rintro rfl; rfl
theorem eqs_false {a b : ByteArray} : eqs a b = false ↔ a ≠ b := by
  rw [← Bool.not_eq_true, eqs_iff]
theorem eqs_self (a : ByteArray) : eqs a a = true := eqs_iff.2 rfl

/-- name.Find. -/
def find (l : List ByteArray) (s : ByteArray) : Int := first (fun i => eqs (at_ l i) s) 0 l.length
/-- name.Twice. -/
def twice (l : List ByteArray) : Int := first (fun i => decide (0 ≤ find (l.take i) (at_ l i))) 0 l.length
/-- the reference's Twice. -/
def twiceR (l : List ByteArray) : Int := first (fun i => decide (find l (at_ l i) < i)) 0 l.length
/-- name.Same. -/
def same (a b : List ByteArray) : Bool := decide (a.length = b.length) && decide (first (fun i => !eqs (at_ a i) (at_ b i)) 0 a.length < 0)

theorem find_range (l : List ByteArray) (s : ByteArray) : -1 ≤ find l s ∧ find l s < l.length ∧ (0 ≤ find l s ↔ s ∈ l) := by
  unfold find
  rcases first_cases (fun i => eqs (at_ l i) s) l.length 0 with ⟨h1, h2⟩ | ⟨k, h1, h2, _, h4, _⟩
  · refine ⟨by omega, by omega, ⟨fun h => by omega, fun hm => ?_⟩⟩
    obtain ⟨i, hi, rfl⟩ := List.getElem_of_mem hm
    have := h2 i (by omega) (by omega)
    rw [eqs_false] at this
    exact absurd (by simp [at_, hi]) this
  · refine ⟨by omega, by omega, ⟨fun _ => ?_, fun _ => by omega⟩⟩
    rw [eqs_iff] at h2
    have hk : k < l.length := by omega
    rw [← h2]
    simp [at_, hk]

theorem twice_eq (l : List ByteArray) : twice l = twiceR l := by
  refine first_congr _ _ fun i _ hi => ?_
  have hi' : i < l.length := by omega
  rw [Bool.eq_iff_iff, decide_eq_true_eq, decide_eq_true_eq, (find_range _ _).2.2]
  have hat : at_ l i = l[i] := by simp [at_, hi']
  constructor
  · intro h
    obtain ⟨j, hj, e⟩ := List.getElem_of_mem h
    rw [List.length_take] at hj
    unfold find
    rcases first_cases (fun k => eqs (at_ l k) (at_ l i)) l.length 0 with ⟨h1, _⟩ | ⟨k, h1, _, _, _, h5⟩
    · omega
    · rw [h1]
      rcases Nat.lt_or_ge k i with hlt | hge
      · omega
      · have := h5 j (by omega) (by omega)
        rw [eqs_false] at this
        refine absurd ?_ this
        rw [← e, List.getElem_take]
        simp [at_, show j < l.length by omega]
  · intro h
    unfold find at h
    rcases first_cases (fun k => eqs (at_ l k) (at_ l i)) l.length 0 with ⟨_, h2⟩ | ⟨k, h1, h2, _, h4, _⟩
    · have := h2 i (by omega) (by omega)
      rw [eqs_self] at this
      cases this
    · rw [h1] at h
      rw [eqs_iff] at h2
      rw [← h2, List.mem_take_iff_getElem]
      exact ⟨k, by omega, by simp [at_, show k < l.length by omega]⟩

theorem same_self (l : List ByteArray) : same l l = true := by
  unfold same
  rw [first_none _ _ fun j _ _ => by simp [eqs_self]]
  simp

end Go.Proofs.Ythnbhcfpfbimgaa.Nm
/- The walk of place: the first index at which a closure that changes nothing says yes. -/
namespace Go.Proofs.Ythnbhcfpfbimgaa
open Go.RowKit

set_option maxHeartbeats 400000 in
theorem place_any (f : Nat) (caps : Array Value) (p : Nat → Bool) (n : Nat) (w : World) (hn : n ≤ 9223372036854775807)
    (hcf : ∀ (a : Array Value) (w : World), (callFunc f a).run Try.prog w = .ok (.enter f a) w)
    (hf : ∀ (i : Nat) (w' : World), i < n → Below w.heap.size w w' → Calls Try.prog f (#[.int .i64 i] ++ caps) w' fun e w'' => e = .returned (.bool (p i)) ∧ Below w.heap.size w w'') :
    Calls Try.prog 65 #[.int .i64 0, .int .i64 n, .func (.func f) #[] caps] w fun e w' => e = .returned (.int .i64 (Nm.first p 0 n)) ∧ Below w.heap.size w w' := by
  have HF := hide hf
  clear hf
  go_enter Try.func65, Try.ntmps65
  go_wp2_with fail
  go_loopw [7] (fun i wr => ∃ k : Nat, k ≤ n ∧ i = .int .i64 k ∧ (∀ j, j < k → p j = false) ∧ Below w.heap.size w wr) (fun i _ => n - (intOf i).toNat)
  case atStart => exact ⟨0, Nat.zero_le _, rfl, fun j h => by omega, Below.refl _ w⟩
  case round =>
    obtain ⟨k, hk, rfl, hg, hw⟩ := hrel
    have HG := hide hg
    clear hg
    by_cases hlt : k < n
    · have hc := HF.out k wr hlt hw
      have HC := hide hc
      clear hc
      cases hp : p k
      · go_wp2_with fail
        refine HC.out.mono ?_
        rintro e w' ⟨rfl, hw'⟩
        rw [hp]
        go_wp2_with fail
        go_roundw
        case rel =>
          refine ⟨k + 1, by omega, by go_num, fun j hj => ?_, hw'⟩
          by_cases e : j = k
          · subst e; exact hp
          · exact HG.out j (by omega)
        case measure => simp [intOf]; omega
      · have hr := Nm.first_at (p := p) k hp n 0 (fun j _ hj => HG.out j hj) (by omega) (by omega)
        have HR := hide hr
        clear hr
        go_wp2_with fail
        refine HC.out.mono ?_
        rintro e w' ⟨rfl, hw'⟩
        rw [hp]
        go_wp2_with fail
        go_ret
        exact ⟨ret_int HR.out.symm, hw'⟩
    · have hr := Nm.first_none (p := p) n 0 (fun j _ hj => HG.out j (by omega))
      have HR := hide hr
      clear hr
      go_wp2_with fail
      go_ret
      exact ⟨ret_int HR.out.symm, hw⟩

end Go.Proofs.Ythnbhcfpfbimgaa
/- The walks of Find, Twice and Same, of the program and of the reference, and of long. -/
namespace Go.Proofs.Ythnbhcfpfbimgaa
open Go.RowKit

/-- The slice value '.slice A n c' holds the strings ss. -/
def HasStr (w : World) (B : Nat) (A : Option Addr) (n : Nat) (ss : List ByteArray) : Prop := Has w B A n (ss.map Value.string)
section
variable {w w' : World} {B n : Nat} {A : Option Addr} {ss : List ByteArray}
theorem HasStr.len (h : HasStr w B A n ss) : ss.length = n := by simpa using h.1
theorem HasStr.str (h : HasStr w B A n ss) {i : Nat} (hi : i < n) : ∃ b off, A = some ⟨b, off, none⟩ ∧ b < B ∧ w.cell? ⟨b, off + i, none⟩ = some (.string (Nm.at_ ss i)) := by
  obtain ⟨b, off, u, e, hb, hu, hc⟩ := Has.at_ h hi
  have hl := h.len
  have : u = .string (Nm.at_ ss i) := by
    rw [List.getElem?_map] at hu
    simp only [Nm.at_, List.getD_eq_getElem?_getD]
    rw [List.getElem?_eq_getElem (by omega)] at hu ⊢
    simp at hu ⊢
    exact hu.symm
  subst this
  exact ⟨b, off, e, hb, hc⟩
theorem HasStr.take (h : HasStr w B A n ss) {k : Nat} (hk : k ≤ n) : HasStr w B A k (ss.take k) := by
  have hl := h.len
  refine ⟨by simp; omega, fun h0 => ?_⟩
  obtain ⟨b, off, e, hb, hc⟩ := h.2 (by omega)
  refine ⟨b, off, e, hb, fun j u hu => hc j u ?_⟩
  rw [List.map_take, List.getElem?_take] at hu
  split at hu
  · exact hu
  · cases hu
theorem HasStr.dr (h : HasStr w B A n ss) (hd : Dr w w') : HasStr w' B A n ss := h.keep fun p _ => hd.cell p
end
set_option maxHeartbeats 400000 in
theorem findR_any (n c B : Nat) (A : Option Addr) (ss : List ByteArray) (s : ByteArray) (w : World) (hn : n ≤ 9223372036854775807) (hs : HasStr w B A n ss) :
    Calls Try.prog 78 #[.slice A n c, .string s] w fun e w' => e = .returned (.int .i64 (Nm.find ss s)) ∧ w = w' := by
  have hl := hs.len
  subst hl
  go_enter Try.func78, Try.ntmps78
  go_wp2_with fail
  go_loop [5] (fun i => ∃ k : Nat, k ≤ ss.length ∧ i = .int .i64 k ∧ (∀ j, j < k → Nm.eqs (Nm.at_ ss j) s = false)) (fun i => ss.length - (intOf i).toNat)
  case atStart => exact ⟨0, Nat.zero_le _, rfl, fun j h => by omega⟩
  case round =>
    obtain ⟨k, hk, rfl, hg⟩ := hrel
    have HG := hide hg
    clear hg
    by_cases hlt : k < ss.length
    · obtain ⟨b, off, rfl, _, hc⟩ := hs.str hlt
      cases hp : Nm.eqs (Nm.at_ ss k) s
      · have hp' : ((Nm.at_ ss k).toList == s.toList) = false := hp
        have HP := hide hp
        clear hp
        go_wp2_with fail
        go_round
        case rel =>
          refine ⟨k + 1, by omega, by go_num, fun j hj => ?_⟩
          by_cases e : j = k
          · subst e; exact HP.out
          · exact HG.out j (by omega)
        case measure => simp [intOf]; omega
      · have hp' : ((Nm.at_ ss k).toList == s.toList) = true := hp
        have HP := hide hp
        clear hp
        go_wp2_with fail
        go_ret
        exact ⟨ret_int (Nm.first_at (p := fun i => Nm.eqs (Nm.at_ ss i) s) k HP.out ss.length 0 (fun j _ hj => HG.out j hj) (by omega) (by omega)).symm, rfl⟩
    · go_wp2_with fail
      go_ret
      exact ⟨ret_int (Nm.first_none (p := fun i => Nm.eqs (Nm.at_ ss i) s) ss.length 0 (fun j _ hj => HG.out j (by omega))).symm, rfl⟩

end Go.Proofs.Ythnbhcfpfbimgaa
