/- The walk of tree.Depth, and of the chapter's example. -/
import Derived.Test.YtokfcnjmgnmncaaTrSame
import Derived.Test.YtokfcnjmgnmncaaLxBig
namespace Go.Proofs.Ytokfcnjmgnmncaa
open Go.RowKit

namespace Tr
def Fo.drop : Fo → Nat → Fo
  | f, 0 => f
  | .nil, _ + 1 => .nil
  | .cons _ _ _ r, k + 1 => r.drop k
theorem Fo.drop_nil : ∀ k, Fo.drop .nil k = .nil
  | 0 => rfl
  | _ + 1 => rfl
theorem Fo.drop_get : ∀ (f : Fo) (j : Nat) (t : Lx.T) (k : Fo) (e : Int), f.get j = some (t, k, e) → f.drop j = .cons t k e (f.drop (j + 1))
  | .nil, j, t, k, e, h => by simp [Fo.get] at h
  | .cons t' k' e' r, 0, t, k, e, h => by
    simp only [Fo.get, Option.some.injEq, Prod.mk.injEq] at h
    obtain ⟨rfl, rfl, rfl⟩ := h
    simp [Fo.drop]
  | .cons t' k' e' r, j + 1, t, k, e, h => Fo.drop_get r j t k e h
theorem Fo.drop_end : ∀ (f : Fo) (j : Nat), f.len ≤ j → f.drop j = .nil
  | .nil, j, _ => Fo.drop_nil j
  | .cons t k e r, 0, h => by simp [Fo.len] at h
  | .cons t k e r, j + 1, h => Fo.drop_end r j (by simp only [Fo.len] at h; omega)
end Tr

set_option maxHeartbeats 3200000 in
theorem tdepth_any (d : Nat) : ∀ (f : Tr.Fo) (n c B : Nat) (A : Option Addr) (w : World), f.size < d → f.size ≤ 1000000000 → Holds w (· < B) f A n c → B ≤ w.heap.size →
    Calls Try.prog 15 #[.slice A n c] w fun e w' => e = .returned (.int .i64 (Tr.depth f : Nat)) ∧ Below w.heap.size w w' := by
  induction d with
  | zero => intro f n c B A w h; omega
  | succ d ih =>
    intro f n c B A w hd hsz h hB
    have hlf := Tr.Fo.len_le f
    have hn : n ≤ 1000000000 := by have := h.1; omega
    have HLN := hide h.1
    have IH := hide ih
    have H1 := hide h
    clear ih h hlf
    go_enter Try.func15, Try.ntmps15
    go_wp2_with fail
    go_loopw [3, 8] (fun v i wr => ∃ (k a : Nat), k ≤ n ∧ i = .int .i64 k ∧ v = .int .i64 a ∧ max a (Tr.depth (f.drop k)) = Tr.depth f ∧ Below w.heap.size w wr) (fun _ i _ => n - (intOf i).toNat)
    case atStart => exact ⟨0, 0, Nat.zero_le _, rfl, rfl, by simp [Tr.Fo.drop], Below.refl _ _⟩
    case round =>
      obtain ⟨k, a, hk, rfl, rfl, hmax, hbw⟩ := hrel
      have HW := hide hbw
      by_cases hlt : k < n
      · obtain ⟨⟨t, kf, ef⟩, hx⟩ := Tr.Fo.get_lt f k (by have := HLN.out; omega)
        obtain ⟨b, off, rfl, hbB, hcell⟩ := (H1.out.below (hbw.mono hB)).get (by omega)
        obtain ⟨Ak, nk, ck, hkid, d0, d1, d2, d3, d4⟩ := hcell k _ hx
        have hk0 : (k : Int) < n := by omega
        have hk1 : (0 : Int) ≤ k := by omega
        have hszk := Tr.Fo.get_size f k _ hx
        simp only at hkid d0 d1 d2 d3 d4 hszk
        rw [Tr.Fo.drop_get f k t kf ef hx] at hmax
        simp only [Tr.depth] at hmax
        have hdk := Tr.depth_size kf
        have hda : a ≤ Tr.depth f := by omega
        have hdf := Tr.depth_size f
        have hbl := below_laid wr (.cells #[.int .u8 t.kind, .string t.text, .int .i64 t.pos, .slice Ak nk ck, .int .i64 ef] 37)
        have hbx := heap_alloc_new wr (.cells #[.int .u8 t.kind, .string t.text, .int .i64 t.pos, .slice Ak nk ck, .int .i64 ef] 37)
        have y0 := cell_block hbx 0
        have y3 := cell_block hbx 3
        simp only [List.getElem?_toArray, List.getElem?_cons_zero, List.getElem?_cons_succ] at y0 y3
        have HX := hide (HW.out.trans (hbl.mono HW.out.size))
        have hrec := IH.out kf nk ck B Ak (wr.alloc (.cells #[.int .u8 t.kind, .string t.text, .int .i64 t.pos, .slice Ak nk ck, .int .i64 ef] 37)) (by omega) (by omega) (hkid.below (hbl.mono (by have := hbw.size; omega))) (by have := HX.out.size; omega)
        have HR := hide hrec
        have hcl := fun W => tcloser_any t.kind W
        have HMAX := hide hmax
        have HB' := hide (And.intro hdk (And.intro hda hdf))
        have hm0 : a ≤ 1000000000 := by omega
        have hm1 : Tr.depth kf ≤ 1000000000 := by omega
        clear hcell hx hmax hbl hbx hbw hkid hrec hdk hda hdf hszk
        by_cases ho : Tr.closer t.kind = 0
        · rw [ho] at hcl
          have HCL := hide hcl
          have HM := hide (show max a (Tr.depth (f.drop (k + 1))) = Tr.depth f by have := HMAX.out; rw [if_neg (by omega)] at this; omega)
          clear hcl ho
          go_wp2_with fail
          refine (HCL.out _).mono ?_
          rintro e w' ⟨rfl, rfl⟩
          go_wp2_with fail
          exact ⟨⟨k + 1, a, by omega, rfl, rfl, HM.out, HX.out⟩, by simp [intOf]; omega⟩
        · have hlc := Tr.closer_range t.kind
          have ho1 : ((Tr.closer t.kind : Nat) : Int) ≠ 0 := by omega
          have HCL := hide hcl
          have HM := hide (show max (max a (1 + Tr.depth kf)) (Tr.depth (f.drop (k + 1))) = Tr.depth f by have := HMAX.out; rw [if_pos ho] at this; omega)
          have HO := hide ho
          clear hcl hlc ho
          go_wp2_with fail
          refine (HCL.out _).mono ?_
          rintro e w' ⟨rfl, rfl⟩
          go_wp2_with fail
          refine HR.out.mono ?_
          rintro e w2 ⟨rfl, hb2⟩
          have HY := hide (below_next HX.out hb2)
          clear hb2
          go_wp2_with fail
          all_goals
            refine ⟨⟨k + 1, max a (1 + Tr.depth kf), by omega, rfl, ?_, HM.out, HY.out⟩, by simp [intOf]; omega⟩
            congr 1
            omega
      · obtain rfl : k = n := by omega
        have hfin : a = Tr.depth f := by
          rw [Tr.Fo.drop_end f k (by have := HLN.out; omega)] at hmax
          simp [Tr.depth] at hmax
          omega
        have HF := hide hfin
        clear hmax hfin hbw
        go_wp2_with fail
        go_ret
        exact ⟨ret_int (by have := HF.out; omega), HW.out⟩

abbrev exT : ByteArray := ⟨#[97, 32, 123, 32, 98, 32, 40, 32, 41, 32, 125]⟩
abbrev exU : ByteArray := ⟨#[40, 32, 93]⟩
def okT (o : Tr.Out) : Bool := match o with
  | .bad _ => false
  | .good f => decide (f.len = 2 ∧ f.size = 4 ∧ Tr.depth f = 2) && (match f.get 1 with | some (_, k, e) => decide (k.len = 2 ∧ e = 10) | none => false)
theorem exT_read : okT (Tr.read (Lx.read exT).1) = true ∧ (Lx.read exT).1.length = 6 := by decide +kernel
def okU (o : Tr.Out) : Bool := match o with
  | .bad p => decide (p = 2)
  | .good _ => false
theorem exU_read : okU (Tr.read (Lx.read exU).1) = true ∧ (Lx.read exU).1.length = 2 := by decide +kernel
theorem exT_tree : ∃ f t k, Tr.read (Lx.read exT).1 = .good f ∧ f.len = 2 ∧ f.size = 4 ∧ Tr.depth f = 2 ∧ f.get 1 = some (t, k, 10) ∧ k.len = 2 := by
  have h := exT_read.1
  cases hr : Tr.read (Lx.read exT).1 with
  | bad p => rw [hr] at h; cases h
  | good f =>
    rw [hr] at h
    simp only [okT, Bool.and_eq_true, decide_eq_true_eq] at h
    cases hg : f.get 1 with
    | none => rw [hg] at h; simp at h
    | some x =>
      obtain ⟨t, k, e⟩ := x
      rw [hg] at h
      simp only [decide_eq_true_eq] at h
      obtain ⟨⟨h1, h2, h3⟩, h4, h5⟩ := h
      subst h5
      exact ⟨f, t, k, rfl, h1, h2, h3, hg, h4⟩
theorem exU_tree : Tr.read (Lx.read exU).1 = .bad 2 := by
  have h := exU_read.1
  cases hr : Tr.read (Lx.read exU).1 with
  | bad p => rw [hr] at h; simp only [okU, decide_eq_true_eq] at h; rw [h]
  | good f => rw [hr] at h; cases h

theorem pieces_any (s : ByteArray) (w : World) (hs : s.size ≤ 1000000) : Calls Try.prog 20 #[.string s] w fun e w' =>
    ∃ A c, e = .returned (.slice A (Lx.read s).1.length c) ∧ HasT w' w'.heap.size A (Lx.read s).1.length (Lx.read s).1 ∧ Below w.heap.size w w' := by
  have hr := rread_any s w hs
  obtain ⟨fa, fb, hfv⟩ : ∃ a b, faultV (Lx.read s).2 = .agg #[.int .i64 a, .int .i64 b] := by cases (Lx.read s).2 <;> exact ⟨_, _, rfl⟩
  rw [hfv] at hr
  have HR := hide hr
  clear hr hfv
  go_enter Try.func20, Try.ntmps20
  go_wp2_with fail
  refine HR.out.mono ?_
  rintro e w1 ⟨v, rfl, hrow, _, hb1⟩
  obtain ⟨A, c, rfl, _, _⟩ := RowZ.form hrow
  have hbl := below_laid w1 (.cells #[.int .i64 fa, .int .i64 fb] 27)
  have HX := hide (And.intro (below_next hb1 hbl) (HasT.of_row (RowZ.below hrow hbl)))
  clear hrow hb1 hbl
  go_wp2_with fail
  go_ret
  exact ⟨A, c, rfl, HX.out.2, HX.out.1⟩

set_option maxHeartbeats 3200000 in
theorem alive_any (w : World) : Calls Try.prog 8 #[] w fun e w' => e = .returned (.bool true) ∧ Below w.heap.size w w' := by
  obtain ⟨f, t, k, hrT, hfl, hfs, hfd, hfg, hkl⟩ := exT_tree
  have hT : ∀ W, Calls Try.prog 20 #[.string exT] W fun e w' => ∃ A c, e = .returned (.slice A 6 c) ∧ HasT w' w'.heap.size A 6 (Lx.read exT).1 ∧ Below W.heap.size W w' := fun W => by
    have := pieces_any exT W (by decide)
    rw [exT_read.2] at this
    exact this
  have hU : ∀ W, Calls Try.prog 20 #[.string exU] W fun e w' => ∃ A c, e = .returned (.slice A 2 c) ∧ HasT w' w'.heap.size A 2 (Lx.read exU).1 ∧ Below W.heap.size W w' := fun W => by
    have := pieces_any exU W (by decide)
    rw [exU_read.2] at this
    exact this
  have hRT : ∀ W A c, HasT W W.heap.size A 6 (Lx.read exT).1 → Calls Try.prog 9 #[.slice A 6 c] W fun e w' => ∃ A2 c2, e = .returned (.tuple #[.slice A2 2 c2, .agg #[.int .i64 0, .int .i64 0]]) ∧ Holds w' (· < w'.heap.size) f A2 2 c2 ∧ Below W.heap.size W w' := fun W A c h =>
    (tread_any 6 c W.heap.size A _ W h (Nat.le_refl _) (by omega)).mono fun e w' ⟨v, he, hrow, hb⟩ => by
      rw [hrT] at he hrow
      obtain ⟨A2, c2, rfl, _, _⟩ := hrow.form
      have hh := hrow.holds
      have he' : e = .returned (.tuple #[.slice A2 f.len c2, .agg #[.int .i64 0, .int .i64 0]]) := he
      have hh' : Holds w' _ f A2 f.len c2 := hh
      rw [hfl] at he' hh'
      exact ⟨A2, c2, he', hh'.more (fun b hb => hb.2), hb⟩
  have hRU : ∀ W A c, HasT W W.heap.size A 2 (Lx.read exU).1 → Calls Try.prog 9 #[.slice A 2 c] W fun e w' => ∃ v, e = .returned (.tuple #[v, .agg #[.int .i64 2, .int .i64 2]]) ∧ Below W.heap.size W w' := fun W A c h =>
    (tread_any 2 c W.heap.size A _ W h (Nat.le_refl _) (by omega)).mono fun e w' ⟨v, he, hrow, hb⟩ => by
      rw [exU_tree] at he
      exact ⟨v, he, hb⟩
  have hD : ∀ W A c, Holds W (· < W.heap.size) f A 2 c → Calls Try.prog 15 #[.slice A 2 c] W fun e w' => e = .returned (.int .i64 2) ∧ Below W.heap.size W w' := fun W A c h => by
    have := tdepth_any 5 f 2 c W.heap.size A W (by omega) (by omega) h (Nat.le_refl _)
    rw [hfd] at this
    exact this
  have HT := hide hT
  have HU := hide hU
  have HRT := hide hRT
  have HRU := hide hRU
  have HD := hide hD
  have HG := hide (And.intro hfg hkl)
  clear hT hU hRT hRU hD hrT hfl hfs hfd hfg hkl
  go_enter Try.func8, Try.ntmps8
  go_wp2_with fail
  refine (HT.out _).mono ?_
  rintro e w1 ⟨A1, c1, rfl, hh1, hb1⟩
  have H1 := hide (And.intro hh1 hb1)
  clear hh1 hb1
  go_wp2_with fail
  refine (HRT.out _ A1 c1 H1.out.1).mono ?_
  rintro e w2 ⟨A2, c2, rfl, hh2, hb2⟩
  have hbl := below_laid w2 (.cells #[.int .i64 0, .int .i64 0] 27)
  have H2 := hide (And.intro (hh2.below hbl) (And.intro (below_next (below_next H1.out.2 hb2) hbl) (heap_alloc_new w2 (.cells #[.int .i64 0, .int .i64 0] 27))))
  have hs2 : w2.heap.size < (w2.alloc (.cells #[.int .i64 0, .int .i64 0] 27)).heap.size := by simp
  clear hh2 hb2 hbl
  go_wp2_with fail
  generalize w2.alloc (.cells #[.int .i64 0, .int .i64 0] 27) = W at *
  refine (HU.out _).mono ?_
  rintro e w3 ⟨A3, c3, rfl, hh3, hb3⟩
  have H3 := hide (And.intro hh3 hb3)
  clear hh3 hb3
  go_wp2_with fail
  refine (HRU.out _ A3 c3 H3.out.1).mono ?_
  rintro e w4 ⟨v4, rfl, hb4⟩
  have hbl := below_laid w4 (.cells #[.int .i64 2, .int .i64 2] 27)
  have hbx := heap_alloc_new w4 (.cells #[.int .i64 2, .int .i64 2] 27)
  have hb34 := below_next (below_next H3.out.2 hb4) hbl
  have hf2 := (hb34.block w2.heap.size hs2).trans H2.out.2.2
  have hh5 := (H2.out.1.more (fun b hb => Nat.lt_of_lt_of_le hb (Nat.le_of_lt hs2))).below hb34
  obtain ⟨b, off, rfl, hbB, hcell⟩ := hh5.get (by omega)
  obtain ⟨Ak, nk, ck, hkid, d0, d1, d2, d3, d4⟩ := hcell 1 _ HG.out.1
  simp only at hkid d3 d4
  have hnk : nk = 2 := hkid.1.trans HG.out.2
  subst hnk
  have y0 := cell_block hf2 0
  have y1 := cell_block hf2 1
  simp only [List.getElem?_toArray, List.getElem?_cons_zero, List.getElem?_cons_succ] at y0 y1
  have H5 := hide (And.intro (below_next H2.out.2.1 hb34) (And.intro (hh5.more (fun x hx => Nat.lt_of_lt_of_le hx hb34.size)) hbx))
  clear hbl hb4 hb34 hf2 hh5 hcell hkid d0 d1 d2 hbx
  go_wp2_with fail
  generalize w4.alloc (.cells #[.int .i64 2, .int .i64 2] 27) = W5 at *
  refine (HD.out W5 _ _ H5.out.2.1).mono ?_
  rintro e w6 ⟨rfl, hb6⟩
  have hbz : w4.heap.size < W5.heap.size := blk_lt H5.out.2.2
  have hf6 := (hb6.block w4.heap.size hbz).trans H5.out.2.2
  have z0 := cell_block hf6 0
  have z1 := cell_block hf6 1
  simp only [List.getElem?_toArray, List.getElem?_cons_zero, List.getElem?_cons_succ] at z0 z1
  have H6 := hide (below_next H5.out.1 hb6)
  clear hb6 hf6
  go_wp2_with fail
  go_ret
  exact ⟨rfl, H6.out⟩
end Go.Proofs.Ytokfcnjmgnmncaa
