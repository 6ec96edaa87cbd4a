/- The walks of the document's Depth, Many and of the law's bound. -/
import Derived.Test.YtokfcnjmgnmncaaTrDepth
namespace Go.Proofs.Ytokfcnjmgnmncaa
open Go.RowKit

set_option maxHeartbeats 3200000 in
theorem rdepth_any (d : Nat) : ∀ (f : Tr.Fo) (n c B : Nat) (A : Option Addr) (w : World), f.size < d → f.size ≤ 1000000000 → Holds w (· < B) f A n c →
    Calls Try.prog 19 #[.slice A n c] w fun e w' => e = .returned (.int .i64 (Tr.depth f : Nat)) ∧ w = w' := by
  induction d with
  | zero => intro f n c B A w h; omega
  | succ d ih =>
    intro f n c B A w hd hsz h
    have hlf := Tr.Fo.len_le f
    have hn : n ≤ 1000000000 := by have := h.1; omega
    have HLN := hide h.1
    have IH := hide ih
    have H1 := hide h
    clear ih h hlf
    go_enter Try.func19, Try.ntmps19
    go_wp2_with fail
    go_loop [3, 4] (fun v i => ∃ (k a : Nat), k ≤ n ∧ i = .int .i64 k ∧ v = .int .i64 a ∧ max a (Tr.depth (f.drop k)) = Tr.depth f) (fun _ i => n - (intOf i).toNat)
    case atStart => exact ⟨0, 0, Nat.zero_le _, rfl, rfl, by simp [Tr.Fo.drop]⟩
    case round =>
      obtain ⟨k, a, hk, rfl, rfl, hmax⟩ := hrel
      by_cases hlt : k < n
      · obtain ⟨⟨t, kf, ef⟩, hx⟩ := Tr.Fo.get_lt f k (by have := HLN.out; omega)
        obtain ⟨b, off, rfl, hbB, hcell⟩ := H1.out.get (by omega)
        obtain ⟨Ak, nk, ck, hkid, d0, d1, d2, d3, d4⟩ := hcell k _ hx
        have hk0 : (k : Int) < n := by omega
        have hk1 : (0 : Int) ≤ k := by omega
        have hszk := Tr.Fo.get_size f k _ hx
        simp only at hkid d0 d1 d2 d3 d4 hszk
        rw [Tr.Fo.drop_get f k t kf ef hx] at hmax
        simp only [Tr.depth] at hmax
        have hdk := Tr.depth_size kf
        have hda : a ≤ Tr.depth f := by omega
        have hdf := Tr.depth_size f
        have hrec := IH.out kf nk ck B Ak w (by omega) (by omega) hkid
        have HR := hide hrec
        have hcl := fun W => rclosing_any t.kind W
        have HMAX := hide hmax
        have hm0 : a ≤ 1000000000 := by omega
        have hm1 : Tr.depth kf ≤ 1000000000 := by omega
        clear hcell hx hmax hkid hrec hdk hda hdf hszk
        by_cases ho : Tr.closer t.kind = 0
        · rw [ho] at hcl
          have HCL := hide hcl
          have HM := hide (show max a (Tr.depth (f.drop (k + 1))) = Tr.depth f by have := HMAX.out; rw [if_neg (by omega)] at this; omega)
          have ha0 : ¬ (a : Int) < 0 := by omega
          clear hcl ho
          go_wp2_with fail
          refine (HCL.out _).mono ?_
          rintro e w' ⟨rfl, rfl⟩
          go_wp2_with fail
          exact ⟨⟨k + 1, a, by omega, rfl, rfl, HM.out⟩, by simp [intOf]; omega⟩
        · have hlc := Tr.closer_range t.kind
          have ho1 : ((Tr.closer t.kind : Nat) : Int) ≠ 0 := by omega
          have HCL := hide hcl
          have HM := hide (show max (max a (1 + Tr.depth kf)) (Tr.depth (f.drop (k + 1))) = Tr.depth f by have := HMAX.out; rw [if_pos ho] at this; omega)
          clear hcl hlc ho
          by_cases hga : (a : Int) < 1 + (Tr.depth kf : Int)
          all_goals
            go_wp2_with fail
            refine (HCL.out _).mono ?_
            rintro e w' ⟨rfl, rfl⟩
            go_wp2_with fail
            refine HR.out.mono ?_
            rintro e w' ⟨rfl, rfl⟩
            go_wp2_with fail
            refine ⟨⟨k + 1, max a (1 + Tr.depth kf), by omega, rfl, ?_, HM.out⟩, by simp [intOf]; omega⟩
            congr 1
            omega
      · obtain rfl : k = n := by omega
        have hfin : a = Tr.depth f := by
          rw [Tr.Fo.drop_end f k (by have := HLN.out; omega)] at hmax
          simp [Tr.depth] at hmax
          omega
        have HF := hide hfin
        clear hmax hfin
        go_wp2_with fail
        go_ret
        exact ⟨ret_int (by have := HF.out; omega), rfl⟩

set_option maxHeartbeats 3200000 in
theorem rmany_any (d : Nat) : ∀ (f : Tr.Fo) (n c B : Nat) (A : Option Addr) (w : World), f.size < d → f.size ≤ 1000000000 → Holds w (· < B) f A n c →
    Calls Try.prog 27 #[.slice A n c] w fun e w' => e = .returned (.int .i64 (f.size : Nat)) ∧ w = w' := by
  induction d with
  | zero => intro f n c B A w h; omega
  | succ d ih =>
    intro f n c B A w hd hsz h
    have hlf := Tr.Fo.len_le f
    have hn : n ≤ 1000000000 := by have := h.1; omega
    have HLN := hide h.1
    have IH := hide ih
    have H1 := hide h
    clear ih h hlf
    go_enter Try.func27, Try.ntmps27
    go_wp2_with fail
    go_loop [3, 4] (fun v i => ∃ (k a : Nat), k ≤ n ∧ i = .int .i64 k ∧ v = .int .i64 a ∧ a + (f.drop k).size = f.size + (f.drop k).len) (fun _ i => n - (intOf i).toNat)
    case atStart => exact ⟨0, n, Nat.zero_le _, rfl, rfl, by simp [Tr.Fo.drop, HLN.out]; omega⟩
    case round =>
      obtain ⟨k, a, hk, rfl, rfl, hsum⟩ := hrel
      by_cases hlt : k < n
      · obtain ⟨⟨t, kf, ef⟩, hx⟩ := Tr.Fo.get_lt f k (by have := HLN.out; omega)
        obtain ⟨b, off, rfl, hbB, hcell⟩ := H1.out.get (by omega)
        obtain ⟨Ak, nk, ck, hkid, d0, d1, d2, d3, d4⟩ := hcell k _ hx
        have hk0 : (k : Int) < n := by omega
        have hk1 : (0 : Int) ≤ k := by omega
        have hszk := Tr.Fo.get_size f k _ hx
        simp only at hkid d0 d1 d2 d3 d4 hszk
        rw [Tr.Fo.drop_get f k t kf ef hx] at hsum
        simp only [Tr.Fo.size, Tr.Fo.len] at hsum
        have hlr := Tr.Fo.len_le (f.drop (k + 1))
        have hrec := IH.out kf nk ck B Ak w (by omega) (by omega) hkid
        have HR := hide hrec
        have HS := hide (show a + kf.size + (f.drop (k + 1)).size = f.size + (f.drop (k + 1)).len by omega)
        have hm0 : a + kf.size ≤ 1000000000 := by omega
        clear hcell hx hsum hkid hrec hszk hlr
        go_wp2_with fail
        refine HR.out.mono ?_
        rintro e w' ⟨rfl, rfl⟩
        go_wp2_with fail
        exact ⟨⟨k + 1, a + kf.size, by omega, rfl, by go_num, HS.out⟩, by simp [intOf]; omega⟩
      · obtain rfl : k = n := by omega
        have hfin : a = f.size := by
          rw [Tr.Fo.drop_end f k (by have := HLN.out; omega)] at hsum
          simp [Tr.Fo.size, Tr.Fo.len] at hsum
          omega
        have HF := hide hfin
        clear hsum hfin
        go_wp2_with fail
        go_ret
        exact ⟨ret_int (by have := HF.out; omega), rfl⟩

theorem tbig_any (f : Tr.Fo) (n c B : Nat) (A : Option Addr) (w : World) (hsz : f.size ≤ 1000000000) (h : Holds w (· < B) f A n c) :
    Calls Try.prog 17 #[.slice A n c] w fun e w' => e = .returned (.bool (decide (300 < f.size))) ∧ w = w' := by
  have hr := rmany_any (f.size + 1) f n c B A w (by omega) hsz h
  have HR := hide hr
  clear hr h
  go_enter Try.func17, Try.ntmps17
  go_wp2_with fail
  refine HR.out.mono ?_
  rintro e w' ⟨rfl, rfl⟩
  go_wp2_with fail
  go_ret
  exact ⟨ret_bool (by simp <;> omega), rfl⟩
end Go.Proofs.Ytokfcnjmgnmncaa
