/- The walk of blockers: of each knot, how many arcs lead to it from others. -/
import Derived.Test.YtgmppddlgbkjmaaKnOf
import Derived.Test.YtgmppddlgbkjmaaKnOrd2
namespace Go.Proofs.Ytgmppddlgbkjmaa
open Go.RowKit

namespace Kn
def pc (g : G) (of out : List Nat) (i k : Nat) : Nat := ((List.range i).map (cntAt g of out k)).sum
theorem pc_succ (g : G) (of out : List Nat) (i k : Nat) : pc g of out (i + 1) k = pc g of out i k + cntAt g of out k i := by
  simp [pc, List.range_succ]
theorem cntRow_snoc (of : List Nat) (k : Nat) (l : List Nat) (x : Nat) : cntRow of k (l ++ [x]) = cntRow of k l + if of.getD x 0 = k then 1 else 0 := by
  unfold cntRow
  rw [List.countP_append]
  simp
theorem cntRow_le (of : List Nat) (k : Nat) (l : List Nat) : cntRow of k l ≤ l.length := List.countP_le_length
theorem pc_le {g : G} {of out : List Nat} {M : Nat} (hM : ∀ i, (outs g i).length ≤ M) (k : Nat) : ∀ i, pc g of out i k ≤ i * M
  | 0 => by simp [pc]
  | i + 1 => by
    rw [pc_succ, Nat.add_mul]
    have h1 := pc_le (of := of) (out := out) hM k i
    have h2 : cntAt g of out k i ≤ M := by
      unfold cntAt
      split
      · exact Nat.zero_le _
      · exact Nat.le_trans (cntRow_le _ _ _) (hM i)
    omega
end Kn
structure BlkO (w : World) (g : Kn.G) (of : List Nat) (L n : Nat) (kv : Value) (wr : World) : Prop where
  ex : ∃ (i : Nat) (left : List Nat), i ≤ n ∧ kv = .int .i64 (i : Nat) ∧ IR wr w.heap.size (some ⟨L, 0, none⟩) n n left ∧ ∀ k, k < n → left.getD k 0 = Kn.pc g of [] i k
  below : Below w.heap.size w wr
structure BlkI (w : World) (g : Kn.G) (of : List Nat) (L n i la : Nat) (jv : Value) (wr : World) : Prop where
  ex : ∃ (j : Nat) (left : List Nat), j ≤ la ∧ jv = .int .i64 (j : Nat) ∧ IR wr w.heap.size (some ⟨L, 0, none⟩) n n left ∧ ∀ k, k < n → left.getD k 0 = Kn.pc g of [] i k + if of.getD i 0 = k then 0 else Kn.cntRow of k (Kn.outsK g i j)
  below : Below w.heap.size w wr
structure BlkE (g : Kn.G) (of : List Nat) (n : Nat) (w : World) (e : Ending) (w' : World) : Prop where
  ex : ∃ L left, e = .returned (.slice (some ⟨L, 0, none⟩) n n) ∧ IR w' w.heap.size (some ⟨L, 0, none⟩) n n left ∧ ∀ k, k < n → left.getD k 0 = Kn.cnt g of [] k
  below : Below w.heap.size w w'
theorem cntAt_nil (g : Kn.G) (of : List Nat) (k i : Nat) : Kn.cntAt g of [] k i = if of.getD i 0 = k then 0 else Kn.cntRow of k (Kn.outs g i) := by
  unfold Kn.cntAt
  simp
set_option maxRecDepth 100000 in
set_option maxHeartbeats 4000000 in
theorem blk_any (n cg co B : Nat) (Ag Ao : Option Addr) (g : Kn.G) (of : List Nat) (w : World) (hG : HasG w B Ag n g) (hO : Has w B Ao n (intsV of)) (hof : Kn.Ofs g of) (hB : B ≤ w.heap.size) (hn : n ≤ 100000) (hA : ∀ i, (Kn.arcs g i).length ≤ 1000000) :
    Calls Try.prog 18 #[.slice Ag n cg, .slice Ao n co] w fun e w' => BlkE g of n w e w' := by
  have hgl := hG.1
  have hmi := run_make_row' (P := Try.prog) 26 3 (.int .i64 0) 8 Try.underlying26 info_int rfl .i64 .i64 n (by omega) (by omega)
  have h0 : IR (w.alloc (.cells (madeCells #[.int .i64 0] n) 3)) w.heap.size (some ⟨w.heap.size, 0, none⟩) n n (List.replicate n 0) := by
    rw [made_ints]
    exact ⟨RowZ.laid w 3 1 n _ (by rw [intsV_len]; simp) (by unfold maxLen; omega), fun b hb => by simp only [Value.ownBlock, Option.some.injEq] at hb; omega⟩
  have H0 := hide (And.intro h0 (below_laid w (.cells (madeCells #[.int .i64 0] n) 3)))
  have HG := hide (And.intro hG (And.intro hO (And.intro hof (And.intro hB (And.intro hA hgl)))))
  clear hG hO hof hB hA hgl h0
  go_enter Try.func18, Try.ntmps18
  go_wp2_with fail
  clear hmi
  go_loopw [14] (fun kv wr => BlkO w g of w.heap.size n kv wr) (fun kv _ => n - (intOf kv).toNat)
  case atStart => exact ⟨⟨0, _, Nat.zero_le _, rfl, H0.out.1, fun k hk => by rw [Kn.rep0]; rfl⟩, H0.out.2⟩
  case round =>
    obtain ⟨⟨i, left, hi, rfl, hrow, hl⟩, hb⟩ := hrel
    have HR := hide (And.intro hrow (And.intro hl hb))
    clear hrow hl
    have i0 : (0 : Int) ≤ i := by omega
    by_cases hlt : i < n
    · have i1 : (i : Int) < n := by omega
      obtain ⟨bg, og, rfl, _, _⟩ := HG.out.1.2 (by omega)
      have hGw := HG.out.1.below (hb.mono HG.out.2.2.2.1)
      obtain ⟨hbg, Aa, ca, hrc, hrx⟩ := hGw.row hlt
      have hla := HG.out.2.2.2.2.1 i
      generalize hlaa : (Kn.arcs g i).length = la at *
      have HX := hide (And.intro hrx (And.intro hlaa hbg))
      clear hb hGw hrx hlaa hbg
      go_wp2_with fail
      generalize wr = wo at *
      go_loopw [22] (fun jv wr => BlkI w g of w.heap.size n i la jv wr) (fun jv _ => la - (intOf jv).toNat)
      case atStart => exact ⟨⟨0, left, Nat.zero_le _, rfl, HR.out.1, fun k hk => by rw [HR.out.2.1 k hk]; simp [Kn.outsK, Kn.cntRow]⟩, HR.out.2.2⟩
      case round =>
        obtain ⟨⟨j, left, hj, rfl, hrow, hl⟩, hb⟩ := hrel
        have HL := hide (And.intro hrow (And.intro hl hb))
        clear hrow hl hrc
        have j0 : (0 : Int) ≤ j := by omega
        by_cases hjl : j < la
        · have j1 : (j : Int) < la := by omega
          obtain ⟨x, hx⟩ : ∃ x, (Kn.arcs g i)[j]? = some x := ⟨_, List.getElem?_eq_getElem (by have := HX.out.2.1; omega)⟩
          obtain ⟨ba, oa, rfl, hba, hxs⟩ := HX.out.1 (by omega)
          have hxc : wr.cell? ⟨ba, oa + j, none⟩ = some (.int .i64 x) :=
            ((hb.mono HG.out.2.2.2.1).cell (p := ⟨ba, oa + j, none⟩) hba).trans (((HR.out.2.2.mono HG.out.2.2.2.1).cell (p := ⟨ba, oa + j, none⟩) hba).symm.trans (hxs j x hx))
          have hO1 := HG.out.2.1.below (hb.mono HG.out.2.2.2.1)
          obtain ⟨bo, oo, oi, rfl, _, hoi, hoc⟩ := hO1.int hlt
          have hofi : of.getD i 0 = oi := by rw [List.getD_eq_getElem?_getD, hoi]; rfl
          have HXX := hide (And.intro hx (And.intro hO1 hofi))
          clear hx hxs hO1 hoi hofi hb
          by_cases hx0 : 0 ≤ x
          · by_cases hxn : x < n
            · obtain ⟨y, rfl⟩ : ∃ y : Nat, x = y := ⟨x.toNat, by omega⟩
              have hyn : y < n := by omega
              obtain ⟨bo', oo', oy, hbo, _, hoy, hoyc⟩ := HXX.out.2.1.int hyn
              simp only [Option.some.injEq, Addr.mk.injEq, and_true] at hbo
              obtain ⟨rfl, rfl⟩ := hbo
              have hofy : of.getD y 0 = oy := by rw [List.getD_eq_getElem?_getD, hoy]; rfl
              have hoyn : oy < n := by have h1 := HG.out.2.2.1.lt (i := y) (by have := HG.out.2.2.2.2.2; omega); rw [hofy] at h1; omega
              have hsn := Kn.outsK_yes HXX.out.1 (by omega) (by have := HG.out.2.2.2.2.2; omega)
              rw [Int.toNat_natCast] at hsn
              have hlc := HL.out.1.cell (k := oy) (x := left.getD oy 0) (by rw [List.getD_eq_getElem?_getD, List.getElem?_eq_getElem (by have := HL.out.1.len; omega)]; rfl)
              obtain ⟨_, rfl', _, _, hlc⟩ := hlc
              cases rfl'
              have hfr := HL.out.1.free oy
              have hlv := HL.out.2.1 oy hoyn
              generalize hlx : left.getD oy 0 = lx at *
              have HY := hide (And.intro hofy (And.intro hsn (And.intro hlv hlx)))
              have hbd : lx ≤ 100001000000 := by
                have h1 := Kn.pc_le (g := g) (of := of) (out := []) (M := 1000000) (fun i => Nat.le_trans (outs_len g i) (HG.out.2.2.2.2.1 i)) oy i
                have h2 : Kn.cntRow of oy (Kn.outsK g i j) ≤ 1000000 := Nat.le_trans (Kn.cntRow_le _ _ _) (Nat.le_trans Kn.outsK_le (by omega))
                have h3 : i * 1000000 ≤ 100000 * 1000000 := Nat.mul_le_mul_right _ (by omega)
                rw [hlv]
                split <;> omega
              have oy0 : (0 : Int) ≤ oy := by omega
              have oy1 : (oy : Int) < n := by omega
              clear hofy hoy hsn hlv hlx
              by_cases hne : oy = oi
              · have hne2 : ((oy : Int) != oi) = false := by simp; omega
                have HNE := hide hne
                clear hne
                go_upto_region 8 with (fail)
                go_quiet (fail)
                have hdr : Below wr.heap.size wr (wr.drewN nq) := below_drewN (Below.refl _ _) nq
                have HD := hide hdr
                clear hdr
                generalize wr.drewN nq = W at *
                go_wp2_with fail
                refine ⟨⟨⟨j + 1, left, by omega, by congr 1, HL.out.1.below HD.out, fun k hk => ?_⟩, HL.out.2.2.trans (HD.out.mono HL.out.2.2.size)⟩, by simp only [intOf]; omega⟩
                rw [HL.out.2.1 k hk, HY.out.2.1]
                split
                · rfl
                · rename_i hok
                  rw [Kn.cntRow_snoc, if_neg (by rw [HY.out.1, HNE.out, ← HXX.out.2.2]; exact hok), Nat.add_zero]
              · have hne2 : ((oy : Int) != oi) = true := by simp; omega
                have HNE := hide hne
                clear hne
                go_upto_region 8 with (fail)
                go_quiet (fail)
                have hdr : Below wr.heap.size wr (wr.drewN nq) := below_drewN (Below.refl _ _) nq
                have hIR := (HL.out.1.below hdr).set oy (lx + 1)
                have hbs : Below w.heap.size w ((wr.drewN nq).setCell ⟨w.heap.size, oy, none⟩ (.int .i64 ((lx + 1 : Nat) : Int))) := (HL.out.2.2.trans (hdr.mono HL.out.2.2.size)).setCell (Nat.le_refl _) _
                have HS := hide (And.intro hIR hbs)
                clear hdr hIR hbs
                go_wp2_with fail
                refine ⟨⟨⟨j + 1, left.set oy (lx + 1), by omega, by congr 1, HS.out.1, fun k hk => ?_⟩, HS.out.2⟩, by simp only [intOf]; omega⟩
                rw [Kn.getD_len (by have := HL.out.1.len; omega), HL.out.2.1 k hk, HY.out.2.1]
                split
                · rename_i hk2
                  subst hk2
                  rw [if_neg (by rw [HXX.out.2.2]; exact fun e => HNE.out e.symm), Kn.cntRow_snoc, if_pos HY.out.1]
                  have := HY.out.2.2.1
                  rw [if_neg (by rw [HXX.out.2.2]; exact fun e => HNE.out e.symm)] at this
                  omega
                · rename_i hk2
                  split
                  · rfl
                  · rw [Kn.cntRow_snoc, if_neg (by rw [HY.out.1]; exact fun e => hk2 e), Nat.add_zero]
            · have hxn2 : decide (x < (n : Int)) = false := by simp; omega
              have HXN := hide hxn
              clear hxn
              go_upto_region 8 with (fail)
              go_quiet (fail)
              have hdr : Below wr.heap.size wr (wr.drewN nq) := below_drewN (Below.refl _ _) nq
              have HD := hide hdr
              clear hdr
              generalize wr.drewN nq = W at *
              go_wp2_with fail
              refine ⟨⟨⟨j + 1, left, by omega, by congr 1, HL.out.1.below HD.out, fun k hk => ?_⟩, HL.out.2.2.trans (HD.out.mono HL.out.2.2.size)⟩, by simp only [intOf]; omega⟩
              rw [HL.out.2.1 k hk, Kn.outsK_no HXX.out.1 (by have := HG.out.2.2.2.2.2; have := HXN.out; omega)]
          · have hx2 : decide (0 ≤ x) = false := by simp; omega
            have HX0 := hide hx0
            clear hx0
            go_upto_region 8 with (fail)
            go_quiet (fail)
            have hdr : Below wr.heap.size wr (wr.drewN nq) := below_drewN (Below.refl _ _) nq
            have HD := hide hdr
            clear hdr
            generalize wr.drewN nq = W at *
            go_wp2_with fail
            refine ⟨⟨⟨j + 1, left, by omega, by congr 1, HL.out.1.below HD.out, fun k hk => ?_⟩, HL.out.2.2.trans (HD.out.mono HL.out.2.2.size)⟩, by simp only [intOf]; omega⟩
            rw [HL.out.2.1 k hk, Kn.outsK_no HXX.out.1 (by have := HX0.out; omega)]
        · obtain rfl : j = la := by omega
          have j1 : ¬ (j : Int) < j := by omega
          clear hb
          go_wp2_with fail
          refine ⟨⟨⟨i + 1, left, by omega, by congr 1, HL.out.1, fun k hk => ?_⟩, HL.out.2.2⟩, by simp only [intOf]; omega⟩
          rw [HL.out.2.1 k hk, Kn.pc_succ, cntAt_nil, Kn.outsK_all (by have := HX.out.2.1; omega)]
    · obtain rfl : i = n := by omega
      have i1 : ¬ (i : Int) < i := by omega
      clear hb
      go_wp2_with fail
      go_ret
      refine ⟨⟨_, left, rfl, HR.out.1, fun k hk => ?_⟩, HR.out.2.2⟩
      rw [HR.out.2.1 k hk]
      unfold Kn.pc Kn.cnt
      rw [HG.out.2.2.2.2.2]
end Go.Proofs.Ytgmppddlgbkjmaa
