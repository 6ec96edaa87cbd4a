/- The walk of NameOrder: it returns true, and writes nothing that was there. -/
import Derived.Test.YtpcikoegokddfaaNmLaw
namespace Go.Proofs.Ytpcikoegokddfaa
open Go.RowKit

theorem Nm.twice_up {l : List ByteArray} (h : Nm.Up l) : Nm.twice l = -1 := by
  unfold Nm.twice
  refine Nm.first_none _ _ fun j _ hj => ?_
  rw [decide_eq_false_iff_not]
  intro h0
  have hm := (Nm.find_range (l.take j) (Nm.at_ l j)).2.2.1 h0
  obtain ⟨i, hi, he⟩ := List.mem_take_iff_getElem.1 hm
  have hjl : j < l.length := by omega
  rw [Nm.at_mem hjl] at he
  have := List.pairwise_iff_getElem.1 h i j (by omega) hjl (by omega)
  rw [he, Nm.ls_irrefl] at this
  cases this

theorem Nm.up_next {l : List ByteArray} (h : Nm.Up l) {k : Nat} (hk : k < l.length) (h0 : 0 < k) : Nm.ls (Nm.at_ l (k - 1)) (Nm.at_ l k) = true := by
  rw [Nm.at_mem hk, Nm.at_mem (by omega)]
  exact List.pairwise_iff_getElem.1 h (k - 1) k (by omega) hk (by omega)

/-- Of two strings one stands ahead, or they are one; the truth values, and that just one of them is true. -/
def One (x y z : Bool) : Prop := (x = true ∧ y = false ∧ z = false) ∨ (x = false ∧ y = true ∧ z = false) ∨ (x = false ∧ y = false ∧ z = true)
theorem tri (a b : ByteArray) : One (Nm.ls a b) (Nm.ls b a) (a.toList == b.toList) := by
  have he : (a.toList == b.toList) = Nm.eqs a b := rfl
  rw [he]
  cases h1 : Nm.ls a b
  · rcases Nm.ls_total h1 with h | h
    · exact .inr (.inl ⟨rfl, h, Nm.eqs_false.2 fun e => by subst e; rw [h] at h1; cases h1⟩)
    · subst h; exact .inr (.inr ⟨rfl, h1, Nm.eqs_self a⟩)
  · exact .inl ⟨rfl, Nm.ls_asymm h1, Nm.eqs_false.2 fun e => by subst e; rw [Nm.ls_irrefl] at h1; cases h1⟩

def cnt (x y z : Bool) : Nat → Nat
  | 0 => 0
  | 1 => x.toNat
  | 2 => x.toNat + y.toNat
  | _ => x.toNat + y.toNat + z.toNat

set_option maxHeartbeats 4000000 in
theorem nameOrder_main (A : Option Addr) (n c : Nat) (ss : List ByteArray) (a b : ByteArray) (w : World) (n60 : n ≤ 60) (hs : HasStr w w.heap.size A n ss)
    (hl1 : ∀ W, HasStr W w.heap.size A n ss → Calls Try.prog 7 #[.slice A n c] W fun e w' => e = .returned (.bool false) ∧ W = w')
    (hl2 : Calls Try.prog 7 #[.slice (some ⟨w.heap.size, 0, none⟩) 2 2] (w.alloc (.cells #[.string a, .string b] 9)) fun e w' => e = .returned (.bool false) ∧ (w.alloc (.cells #[.string a, .string b] 9)) = w') :
    Calls Try.prog 5 #[.slice A n c, .string a, .string b] w fun e w' => e = .returned (.bool true) ∧ Below w.heap.size w w' := by
  have hl := hs.len
  subst hl
  have HL1 := hide (hl1 w hs)
  have HL2 := hide hl2
  have HB := hide (below_laid w (.cells #[.string a, .string b] 9))
  have HSort := hide fun W (hW : Below w.heap.size w W) => sort_any ss.length c w.heap.size A ss W n60 hW.size (Has.below hs hW)
  have HS := hide hs
  clear hl1 hl2 hs
  go_enter Try.func5, Try.ntmps5
  go_wp2_with fail
  refine HL1.out.mono ?_
  rintro e w1 ⟨rfl, rfl⟩
  go_wp2_with fail
  refine HL2.out.mono ?_
  rintro e w1 ⟨rfl, rfl⟩
  go_wp2_with fail
  refine (HSort.out _ HB.out).mono ?_
  rintro e w1 ⟨out, v, rfl, hso, hown, hb1⟩
  obtain ⟨A1, c1, rfl, hlc1, hcm1, hs1⟩ := own_slice hown
  have HB1 := hide (HB.out.trans (hb1.mono HB.out.size))
  have HS1 := hide hs1
  have HO1 := hide hso
  have hlo : out.length ≤ ss.length := Nm.Sorts.length_le hso.1 (fun x hx => (hso.2 x).1 hx)
  have HC1 := hide (And.intro hlc1 hcm1)
  clear hb1 hs1 hown hso hlc1 hcm1 HL1 HL2
  go_wp2_with fail
  go_loopw [8] (fun i wr => ∃ k : Nat, k ≤ out.length ∧ i = .int .i64 k ∧ Below w1.heap.size w1 wr) (fun i _ => out.length - (intOf i).toNat)
  case atStart => exact ⟨0, Nat.zero_le _, rfl, Below.refl _ _⟩
  case round =>
    obtain ⟨k, hk, rfl, hb⟩ := hrel
    have HBr := hide hb
    clear hb
    by_cases hlt : k < out.length
    · have hsr : HasStr wr w1.heap.size A1 out.length out := Has.below HS1.out HBr.out
      obtain ⟨b1, off1, rfl, hbb, hcell⟩ := hsr.str hlt
      have hmem : Nm.at_ out k ∈ ss := (HO1.out.2 _).1 (by rw [Nm.at_mem hlt]; exact List.getElem_mem hlt)
      have hnf : decide (Nm.find ss (Nm.at_ out k) < 0) = false := by simp; exact (Nm.find_range _ _).2.2.2 hmem
      have hzr : w1.heap.size ≤ wr.heap.size := HBr.out.size
      have HF := hide fun W (hW : Below wr.heap.size wr W) => find_any ss.length c w.heap.size A ss (Nm.at_ out k) W (by omega) (by have := HB1.out.size; have := hW.size; omega) (Has.below (Has.below (Has.below HS.out HB1.out) (HBr.out.mono HB1.out.size)) (hW.mono (by have := HB1.out.size; omega)))
      have hk0 : (0 : Int) ≤ k := by omega
      have hk1 : (k : Int) < out.length := by omega
      have hu1 : ∀ u : Calm wr.heap.size wr, u.w.cell? ⟨b1, off1 + k, none⟩ = some (.string (Nm.at_ out k)) := fun u => (u.below.cell (by show b1 < _; omega)).trans hcell
      by_cases h0 : 0 < k
      · have hup := Nm.up_next HO1.out.1 hlt h0
        obtain ⟨b2, off2, hA2, _, hcell2⟩ := hsr.str (by omega : k - 1 < out.length)
        simp only [Option.some.injEq, Addr.mk.injEq, and_true] at hA2
        obtain ⟨rfl, rfl⟩ := hA2
        have hu2 : ∀ u : Calm wr.heap.size wr, u.w.cell? ⟨b1, off1 + (k - 1), none⟩ = some (.string (Nm.at_ out (k - 1))) := fun u => (u.below.cell (by show b1 < _; omega)).trans hcell2
        have hg : decide ((0 : Int) < k) = true := by simp; omega
        have hls := fun W => less_any (Nm.at_ out (k - 1)) (Nm.at_ out k) W
        rw [hup] at hls
        have HLs := hide hls
        clear hls
        clear hcell hcell2 hup hmem hsr
        have j1 : IntKind.i64.wrap ((k : Int) - 1) = (k : Int) - 1 := IntWalk.i64_in _ (by omega)
        have j2 : ((k : Int) - 1).toNat = k - 1 := by omega
        have j3 : (0 : Int) ≤ (k : Int) - 1 := by omega
        have j4 : (k : Int) - 1 < out.length := by omega
        go_wp2_with fail
        refine wp_region_calm wr.heap.size (by kernel_rfl) (by kernel_rfl) ?_
        repeat (go_big_quiet_step ((first | (go_at_call 13; exact calm_call (Nat.le_refl _) (HF.out _ (Calm.below _))) | (go_at_call 11; exact calm_same (HLs.out _)))))
        refine wpQuiet_nil ?_
        rintro _ ⟨u, rfl⟩
        clear j1 j2
        go_wp2_with fail
        go_roundw
        case rel => exact ⟨k + 1, by omega, by go_num, HBr.out.trans (u.below.mono HBr.out.size)⟩
        case measure => simp [intOf]; omega
      · have hg : decide ((0 : Int) < k) = false := by simp; omega
        clear hcell hmem hsr
        go_wp2_with fail
        refine wp_region_calm wr.heap.size (by kernel_rfl) (by kernel_rfl) ?_
        repeat (go_big_quiet_step ((first | (go_at_call 13; exact calm_call (Nat.le_refl _) (HF.out _ (Calm.below _))) | (go_at_call 11; exact calm_same (less_any _ _ _)))))
        refine wpQuiet_nil ?_
        rintro _ ⟨u, rfl⟩
        go_wp2_with fail
        go_roundw
        case rel => exact ⟨k + 1, by omega, by go_num, HBr.out.trans (u.below.mono HBr.out.size)⟩
        case measure => simp [intOf]; omega
    · obtain ⟨wo, rfl⟩ : ∃ wo : World, wo = wr := ⟨_, rfl⟩
      go_wp2_with fail
      go_loopw [9] (fun i wr => ∃ k : Nat, k ≤ ss.length ∧ i = .int .i64 k ∧ Below w1.heap.size w1 wr) (fun i _ => ss.length - (intOf i).toNat)
      case atStart => exact ⟨0, Nat.zero_le _, rfl, HBr.out⟩
      case round =>
        obtain ⟨k2, hk2, rfl, hb⟩ := hrel
        have HB2 := hide hb
        clear hb
        by_cases hlt2 : k2 < ss.length
        · have hsr : HasStr wr w1.heap.size A ss.length ss := Has.more (Has.below (Has.below HS.out HB1.out) (HB2.out.mono HB1.out.size)) HB1.out.size
          obtain ⟨b1, off1, rfl, hbb, hcell⟩ := hsr.str hlt2
          have hmem : Nm.at_ ss k2 ∈ out := (HO1.out.2 _).2 (by rw [Nm.at_mem hlt2]; exact List.getElem_mem hlt2)
          have hnf : decide (Nm.find out (Nm.at_ ss k2) < 0) = false := by simp; exact (Nm.find_range _ _).2.2.2 hmem
          have HF := hide (find_any out.length c1 w1.heap.size A1 out (Nm.at_ ss k2) wr (by omega) HB2.out.size (Has.below HS1.out HB2.out))
          clear hsr hmem
          go_wp2_with fail
          refine HF.out.mono ?_
          rintro e w2 ⟨rfl, hb2⟩
          have HB3 := hide (HB2.out.trans (hb2.mono HB2.out.size))
          clear hb2
          go_wp2_with fail
          go_roundw
          case rel => exact ⟨k2 + 1, by omega, by go_num, HB3.out⟩
          case measure => simp [intOf]; omega
        · have ht := tri a b
          generalize hx : Nm.ls a b = x at ht
          generalize hy : Nm.ls b a = y at ht
          generalize hz : (a.toList == b.toList) = z at ht
          have hl1 := less_any a b wr
          have hl2 := less_any b a wr
          rw [hx] at hl1
          rw [hy] at hl2
          have HL1 := hide hl1
          have HL2 := hide hl2
          clear hl1 hl2 hx hy
          go_wp2_with fail
          refine HL1.out.mono ?_
          rintro e w2 ⟨rfl, rfl⟩
          go_wp2_with fail
          refine HL2.out.mono ?_
          rintro e w2 ⟨rfl, rfl⟩
          have HBW := hide (below_laid wr (.cells #[.bool x, .bool y, .bool z] 4))
          have hc0 : (wr.alloc (.cells #[.bool x, .bool y, .bool z] 4)).cell? ⟨wr.heap.size, 0, none⟩ = some (.bool x) := by rw [World.cell?_alloc_at _ _ _ _ rfl]; rfl
          have hc1 : (wr.alloc (.cells #[.bool x, .bool y, .bool z] 4)).cell? ⟨wr.heap.size, 1, none⟩ = some (.bool y) := by rw [World.cell?_alloc_at _ _ _ _ rfl]; rfl
          have hc2 : (wr.alloc (.cells #[.bool x, .bool y, .bool z] 4)).cell? ⟨wr.heap.size, 2, none⟩ = some (.bool z) := by rw [World.cell?_alloc_at _ _ _ _ rfl]; rfl
          go_wp2_with fail
          generalize wr.alloc (.cells #[.bool x, .bool y, .bool z] 4) = W5 at HBW hc0 hc1 hc2 ⊢
          go_loop [10, 78] (fun one i => ∃ k : Nat, k ≤ 3 ∧ i = .int .i64 k ∧ one = .int .i64 (cnt x y z k)) (fun _ i => 3 - (intOf i).toNat)
          case atStart => exact ⟨0, by omega, rfl, rfl⟩
          case round =>
            obtain ⟨k3, hk3, rfl, rfl⟩ := hrel
            by_cases hlt3 : k3 < 3
            · obtain rfl | rfl | rfl : k3 = 0 ∨ k3 = 1 ∨ k3 = 2 := by omega
              · rcases ht with ⟨rfl, rfl, rfl⟩ | ⟨rfl, rfl, rfl⟩ | ⟨rfl, rfl, rfl⟩
                all_goals
                  go_wp2_with fail
                  go_round
                  case rel => exact ⟨1, by decide, rfl, by first | rfl | (simp [cnt]; exact IntWalk.wrap64_in 1 (by omega))⟩
                  case measure => simp [intOf]
              · rcases ht with ⟨rfl, rfl, rfl⟩ | ⟨rfl, rfl, rfl⟩ | ⟨rfl, rfl, rfl⟩
                all_goals
                  go_wp2_with fail
                  go_round
                  case rel => exact ⟨2, by decide, rfl, by first | rfl | (simp [cnt]; exact IntWalk.wrap64_in 1 (by omega))⟩
                  case measure => simp [intOf]
              · rcases ht with ⟨rfl, rfl, rfl⟩ | ⟨rfl, rfl, rfl⟩ | ⟨rfl, rfl, rfl⟩
                all_goals
                  go_wp2_with fail
                  go_round
                  case rel => exact ⟨3, by decide, rfl, by first | rfl | (simp [cnt]; exact IntWalk.wrap64_in 1 (by omega))⟩
                  case measure => simp [intOf]
            · obtain rfl : k3 = 3 := by omega
              have hone : cnt x y z 3 = 1 := by rcases ht with ⟨rfl, rfl, rfl⟩ | ⟨rfl, rfl, rfl⟩ | ⟨rfl, rfl, rfl⟩ <;> rfl
              rw [hone]
              have hb5 : Below w1.heap.size w1 W5 := HB2.out.trans (HBW.out.mono HB2.out.size)
              have htw := twice_any out.length c1 w1.heap.size A1 out W5 HC1.out.1 (by have := HC1.out.2; unfold maxLen at this; omega) hb5.size (Has.below HS1.out hb5)
              rw [Nm.twice_up HO1.out.1] at htw
              have HT := hide htw
              have HB5 := hide hb5
              clear htw hb5 hone
              go_wp2_with fail
              refine HT.out.mono ?_
              rintro e w6 ⟨rfl, hb6⟩
              have HB6 := hide (HB5.out.trans (hb6.mono HB5.out.size))
              clear hb6
              go_wp2_with fail
              refine (sort_any out.length c1 w1.heap.size A1 out w6 (by omega) HB6.out.size (Has.below HS1.out HB6.out)).mono ?_
              rintro e w7 ⟨out2, v, rfl, hso2, hown2, hb7⟩
              obtain ⟨A2, c2, rfl, hlc2, _, hs2⟩ := own_slice hown2
              obtain rfl := HO1.out.again hso2
              have hb7' := HB6.out.trans (hb7.mono HB6.out.size)
              have hsm := same_any out2.length c2 out2.length c1 w7.heap.size A2 A1 out2 out2 w7 (by omega) (Nat.le_refl _) hs2 (Has.more (Has.below HS1.out hb7') hb7'.size)
              rw [Nm.same_self] at hsm
              have HM := hide hsm
              have HB7 := hide hb7'
              clear hsm hb7' hb7 hs2 hown2 hso2 hlc2
              go_wp2_with fail
              refine HM.out.mono ?_
              rintro e w8 ⟨rfl, hb8⟩
              have HB8 := hide (HB7.out.trans (hb8.mono HB7.out.size))
              clear hb8
              go_wp2_with fail
              refine (alive_any _).mono ?_
              rintro e w9 ⟨rfl, hb9⟩
              have HB9 := hide (HB8.out.trans (hb9.mono HB8.out.size))
              clear hb9
              go_wp2_with fail
              go_ret
              exact ⟨rfl, HB1.out.trans (HB9.out.mono HB1.out.size)⟩

set_option maxHeartbeats 800000 in
theorem nameOrder_walk (A : Option Addr) (n c : Nat) (ss : List ByteArray) (a b : ByteArray) (w : World)
    (hs : HasStr w w.heap.size A n ss) (hn : n ≤ c) (hc : c ≤ maxLen) (_hz : ∀ s ∈ ss, s.size ≤ maxLen) (_ha : a.size ≤ maxLen) (_hb : b.size ≤ maxLen) :
    Calls Try.prog 5 #[.slice A n c, .string a, .string b] w fun e w' => e = .returned (.bool true) ∧ Below w.heap.size w w' := by
  have hn' : n ≤ 9223372036854775807 := by unfold maxLen at hc; omega
  have hl1 := fun W (h : HasStr W w.heap.size A n ss) => long_any n c _ A ss W hn' h
  have h2 := lit_row w [a, b] (cs := #[.string a, .string b]) rfl
  have hl2 := long_any 2 2 _ _ _ _ (by omega) h2
  have HB := hide (below_laid w (.cells #[.string a, .string b] 9))
  cases hb1 : Nm.long ss <;> rw [hb1] at hl1
  · cases hb2 : Nm.long [a, b] <;> rw [hb2] at hl2
    · have h60 := (Nm.long_false hb1).1
      exact nameOrder_main A n c ss a b w (by have := hs.len; omega) hs hl1 hl2
    · have HL1 := hide (hl1 w hs)
      have HL2 := hide hl2
      clear hl1 hl2 h2 hn hc
      go_enter Try.func5, Try.ntmps5
      go_wp2_with fail
      refine HL1.out.mono ?_
      rintro e w1 ⟨rfl, rfl⟩
      go_wp2_with fail
      refine HL2.out.mono ?_
      rintro e w1 ⟨rfl, rfl⟩
      go_wp2_with fail
      refine (alive_any _).mono ?_
      rintro e w6 ⟨rfl, hb6⟩
      have HB6 := hide (HB.out.trans (hb6.mono HB.out.size))
      clear hb6
      go_wp2_with fail
      go_ret
      exact ⟨rfl, HB6.out⟩
  · have HL1 := hide (hl1 w hs)
    clear hl1 hl2 h2 hn hc
    go_enter Try.func5, Try.ntmps5
    go_wp2_with fail
    refine HL1.out.mono ?_
    rintro e w1 ⟨rfl, rfl⟩
    go_wp2_with fail
    refine (alive_any _).mono ?_
    rintro e w6 ⟨rfl, hb6⟩
    have HB6 := hide hb6
    clear hb6
    go_wp2_with fail
    go_ret
    exact ⟨rfl, HB6.out⟩

end Go.Proofs.Ytpcikoegokddfaa
