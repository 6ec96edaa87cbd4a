/- The law KnotOrder, walked. -/
import Derived.Test.YtgmppddlgbkjmaaKnLOf
import Derived.Test.YtgmppddlgbkjmaaKnOrd2
namespace Go.Proofs.Ytgmppddlgbkjmaa
open Go.RowKit

def zV (l : List Int) : List Value := l.map fun z => Value.int .i64 z
theorem zV_len (l : List Int) : (zV l).length = l.length := by simp [zV]
theorem zV_set (l : List Int) (i : Nat) (z : Int) : zV (l.set i z) = (zV l).set i (.int .i64 z) := by simp [zV, List.map_set]
structure ZR (w : World) (Pb : Nat) (l : List Int) : Prop where
  hp : w.heap[Pb]? = some (.cells (zV l).toArray 3 (0, 0))
theorem ZR.cell {w : World} {Pb k : Nat} {l : List Int} {z : Int} (h : ZR w Pb l) (hk : l[k]? = some z) : w.cell? ⟨Pb, k, none⟩ = some (.int .i64 z) := by
  rw [cell_block h.hp, List.getElem?_toArray]; simp [zV, hk]
theorem ZR.free {w : World} {Pb : Nat} {l : List Int} (h : ZR w Pb l) (k : Nat) : w.frozen? ⟨Pb, k, none⟩ = false := frozen_of_row _ Pb k _ _ h.hp
theorem ZR.set {w : World} {Pb : Nat} {l : List Int} (h : ZR w Pb l) (k : Nat) (z : Int) : ZR (w.setCell ⟨Pb, k, none⟩ (.int .i64 z)) Pb (l.set k z) := by
  refine ⟨?_⟩
  rw [heap_setCell_same w Pb k _ _ _ h.hp, zV_set]
  simp
theorem ZR.below {w w' : World} {Pb : Nat} {l : List Int} (h : ZR w Pb l) (hb : Below w.heap.size w w') : ZR w' Pb l := ⟨(hb.block _ (blk_lt h.hp)).trans h.hp⟩
namespace Kn
/-- Where a knot stands; -1 where it does not. -/
def pl (l : List Nat) (x : Nat) : Int := if x ∈ l then (l.idxOf x : Nat) else -1
def plL (n : Nat) (l : List Nat) : List Int := (List.range n).map (pl l)
theorem plL_get {n x : Nat} {l : List Nat} (h : x < n) : (plL n l)[x]? = some (pl l x) := by simp [plL, h]
theorem plL_nil (n : Nat) : plL n [] = List.replicate n (-1) := by
  refine List.ext_getElem (by simp [plL]) fun i h1 h2 => ?_
  simp [plL, pl]
theorem pl_snoc {l : List Nat} {k x : Nat} (hk : k ∉ l) : pl (l ++ [k]) x = if k = x then (l.length : Int) else pl l x := by
  unfold pl
  by_cases hx : k = x
  · subst hx
    simp [List.idxOf_append, hk]
  · have hx2 : ¬ x = k := fun e => hx e.symm
    by_cases hm : x ∈ l
    · simp [hx, hm, List.idxOf_append]
    · simp [hx, hx2, hm]
theorem plL_snoc {n : Nat} {l : List Nat} {k : Nat} (hk : k ∉ l) : plL n (l ++ [k]) = (plL n l).set k (l.length : Nat) := by
  refine List.ext_getElem (by simp [plL]) fun i h1 h2 => ?_
  rw [List.getElem_set]
  simp only [plL, List.getElem_map, List.getElem_range]
  rw [pl_snoc hk]
theorem pl_mem {l : List Nat} {x : Nat} (h : x ∈ l) : pl l x = (l.idxOf x : Nat) ∧ l[l.idxOf x]? = some x := by
  refine ⟨by unfold pl; rw [if_pos h], ?_⟩
  rw [List.getElem?_eq_getElem (List.idxOf_lt_length_of_mem h)]
  simp
theorem pl_no {l : List Nat} {x : Nat} (h : x ∉ l) : pl l x = -1 := by unfold pl; rw [if_neg h]
end Kn
structure LO1 (w w2 : World) (n : Nat) (kv : Value) (wr : World) : Prop where
  ex : ∃ k : Nat, k ≤ n ∧ kv = .int .i64 (k : Nat) ∧ ZR wr w2.heap.size (List.replicate k (-1) ++ List.replicate (n - k) 0)
  below : Below w2.heap.size w2 wr
structure LO2 (w w2 : World) (n m : Nat) (out : List Nat) (kv : Value) (wr : World) : Prop where
  ex : ∃ k : Nat, k ≤ m ∧ kv = .int .i64 (k : Nat) ∧ ZR wr w2.heap.size (Kn.plL n (out.take k))
  below : Below w2.heap.size w2 wr
structure LO3 (w w2 : World) (n : Nat) (out : List Nat) (kv : Value) (wr : World) : Prop where
  ex : ∃ k : Nat, k ≤ n ∧ kv = .int .i64 (k : Nat) ∧ ZR wr w2.heap.size (Kn.plL n out)
  below : Below w2.heap.size w2 wr
structure LO4 (w w2 : World) (n la : Nat) (out : List Nat) (kv : Value) (wr : World) : Prop where
  ex : ∃ k : Nat, k ≤ la ∧ kv = .int .i64 (k : Nat) ∧ ZR wr w2.heap.size (Kn.plL n out)
  below : Below w2.heap.size w2 wr
theorem fill_step (n k : Nat) (h : k < n) : (List.replicate k (-1 : Int) ++ List.replicate (n - k) 0).set k (-1) = List.replicate (k + 1) (-1) ++ List.replicate (n - (k + 1)) 0 := by
  rw [List.set_append_right _ _ (by simp), List.length_replicate, Nat.sub_self, show n - k = (n - (k + 1)) + 1 by omega, List.replicate_succ, List.set_cons_zero, List.replicate_succ']
  simp
set_option maxRecDepth 100000 in
set_option maxHeartbeats 4000000 in
theorem lawOrder (A : Option Addr) (n c : Nat) (g : Kn.G) (w : World) (hG : HasG w w.heap.size A n g) (hn : n ≤ maxLen) (hA : ∀ i, (Kn.arcs g i).length ≤ maxLen) :
    Calls Try.prog 4 #[.slice A n c] w fun e w' => AliveE w e w' := by
  have hgl := hG.1
  have HC := hide (big_any n c w.heap.size A g w hG hA hn)
  cases hb : Kn.bigB g with
  | true =>
    rw [hb] at HC
    clear hb hG hn hA hgl
    go_enter Try.func4, Try.ntmps4
    go_wp2_with (first | (go_at_call 7; refine (HC.out).mono ?_; rintro e w1 ⟨rfl, rfl⟩) | (go_at_call 8; refine (alive_any _).mono ?_; rintro e w2 ⟨rfl, hb2⟩; have H2 := hide hb2; clear hb2))
    go_ret
    exact ⟨rfl, H2.out⟩
  | false =>
    rw [hb] at HC
    obtain ⟨h1, h2⟩ := Kn.bigB_false hb
    have h3 : ∀ i, (Kn.arcs g i).length ≤ 1000000 := fun i => Nat.le_trans (h2 i) (by decide)
    have HG := hide (And.intro hG (And.intro h3 hgl))
    have hn8 : n ≤ 80 := by omega
    have hmi := run_make_row' (P := Try.prog) 26 3 (.int .i64 0) 8 Try.underlying26 info_int rfl .i64 .i64 n (by omega) (by omega)
    clear hb hG hn hA hgl h1 h2 h3
    go_enter Try.func4, Try.ntmps4
    go_upto_region 7 with (first | (go_at_call 7; refine (HC.out).mono ?_; rintro e w1 ⟨rfl, rfl⟩) | (go_at_call 10; refine (of_any n c w.heap.size A g w HG.out.1 (Nat.le_refl _) (by omega) HG.out.2.1).mono ?_; rintro e w1 ⟨⟨A1, c1, of, rfl, hI1, ho1⟩, hb1⟩; have H1 := hide (And.intro hI1 (And.intro ho1 hb1)); clear hI1 hb1 ho1) | (go_at_call 12; refine (order_any n c w.heap.size A g w1 (HG.out.1.below H1.out.2.2) H1.out.2.2.size (by omega) HG.out.2.1).mono ?_; intro e w2 he2; obtain ⟨⟨A2, m2, c2, rfl, hI2, hm2⟩, hb2⟩ := he2.to2 H1.out.2.1; have H2 := hide (And.intro hI2 (And.intro hm2 (And.intro (H1.out.1.below hb2) (H1.out.2.2.trans (hb2.mono H1.out.2.2.size))))); clear hI2 hb2 hm2 he2))
    clear hmi
    have hz0 : ZR (w2.alloc (.cells (madeCells #[.int .i64 0] n) 3)) w2.heap.size (List.replicate 0 (-1) ++ List.replicate (n - 0) 0) := by
      refine ⟨?_⟩
      rw [heap_alloc_new, made_ints]
      simp [zV, intsV]
    have hb3 := below_laid w2 (.cells (madeCells #[.int .i64 0] n) 3)
    generalize w2.alloc (.cells (madeCells #[.int .i64 0] n) 3) = W3 at *
    have H3 := hide (And.intro hz0 hb3)
    clear hz0 hb3
    have hgr := Kn.gr_ok g of g.length
    have hend := Kn.gr_end g of
    generalize hout : Kn.gr g of g.length = out at *
    have HOUT := hide (And.intro hgr (And.intro hend hout))
    have hm80 : m2 ≤ 80 := by have h1 := H2.out.2.1; have h2 := HG.out.2.2; omega
    clear hgr hend hout
    go_wp2_with fail
    go_loopw [29] (fun kv wr => LO1 w w2 n kv wr) (fun kv _ => n - (intOf kv).toNat)
    case atStart => exact ⟨⟨0, Nat.zero_le _, rfl, H3.out.1⟩, H3.out.2⟩
    case round =>
      obtain ⟨⟨k, hk, rfl, hz⟩, hb⟩ := hrel
      have HR := hide (And.intro hz hb)
      have k0 : (0 : Int) ≤ k := by omega
      by_cases hlt : k < n
      · have k1 : (k : Int) < n := by omega
        have hc := hz.cell (k := k) (z := 0) (by rw [List.getElem?_append_right (by simp), List.length_replicate, Nat.sub_self, List.getElem?_replicate, if_pos (by omega)])
        have hf := hz.free k
        clear hz hb
        go_wp2_with fail
        refine ⟨⟨⟨k + 1, by omega, by congr 1, ?_⟩, HR.out.2.setCell (Nat.le_refl _) _⟩, by simp only [intOf]; omega⟩
        have := HR.out.1.set k (-1)
        rw [fill_step n k hlt] at this
        exact this
      · obtain rfl : k = n := by omega
        have k1 : ¬ (k : Int) < k := by omega
        rw [Nat.sub_self, List.replicate_zero, List.append_nil, ← Kn.plL_nil] at hz
        have HZ := hide hz
        clear hz hb
        go_wp2_with fail
        generalize wr = W4 at *
        go_loopw [38] (fun kv wr => LO2 w w2 k m2 out kv wr) (fun kv _ => m2 - (intOf kv).toNat)
        case atStart => exact ⟨⟨0, Nat.zero_le _, rfl, HZ.out⟩, HR.out.2⟩
        case round =>
          clear HR HZ
          obtain ⟨⟨q, hq, rfl, hz⟩, hb⟩ := hrel
          have q0 : (0 : Int) ≤ q := by omega
          by_cases hqm : q < m2
          · have q1 : (q : Int) < m2 := by omega
            obtain ⟨x, hx⟩ : ∃ x, out[q]? = some x := ⟨_, List.getElem?_eq_getElem (by have := H2.out.1.len; omega)⟩
            have hxm := List.mem_of_getElem? hx
            obtain ⟨hxg, hxo⟩ := HOUT.out.1.lt x hxm
            have hxk : x < k := by have := HG.out.2.2; omega
            obtain ⟨b2, o2, x', rfl, _, hx', hxc⟩ := (H2.out.1.has.below hb).int hqm
            rw [hx] at hx'
            injection hx' with hx'
            subst hx'
            obtain ⟨b1, o1, y, rfl, _, hy, hyc⟩ := (H2.out.2.2.1.has.below hb).int hxk
            have hyx : y = x := by
              have : of.getD x 0 = y := by rw [List.getD_eq_getElem?_getD, hy]; rfl
              rw [← this, hxo]
            subst hyx
            have hni : y ∉ out.take q := fun hm => by
              obtain ⟨p, hp⟩ := List.mem_iff_getElem?.1 hm
              rw [List.getElem?_take] at hp
              split at hp
              · rename_i hpq
                have := (List.getElem?_inj (List.getElem?_eq_some_iff.1 hp).1 HOUT.out.1.nd).1 (hp.trans hx.symm)
                omega
              · cases hp
            have hpc := hz.cell (Kn.plL_get (l := out.take q) hxk)
            rw [Kn.pl_no hni] at hpc
            have hpf := hz.free y
            have y0 : (0 : Int) ≤ y := by omega
            have y1 : (y : Int) < k := by omega
            have d1 : decide ((y : Int) < 0) = false := by simp
            have d2 : decide (k ≤ y) = false := by simp; omega
            have hql : (out.take q).length = q := by rw [List.length_take]; have := H2.out.1.len; omega
            have hzs := hz.set y (q : Nat)
            have e : Kn.plL k (out.take (q + 1)) = (Kn.plL k (out.take q)).set y (q : Nat) := by
              rw [List.take_add_one, hx]
              show Kn.plL k (out.take q ++ [y]) = _
              rw [Kn.plL_snoc hni, hql]
            rw [← e] at hzs
            have HS := hide (And.intro hzs hb)
            clear hxm hxg hxo hx hy hni hzs e hz hb hql
            go_wp2_with fail
            exact ⟨⟨⟨q + 1, by omega, by congr 1, HS.out.1⟩, HS.out.2.setCell (Nat.le_refl _) _⟩, by simp only [intOf]; omega⟩
          · obtain rfl : q = m2 := by omega
            have q1 : ¬ (q : Int) < q := by omega
            rw [List.take_of_length_le (by have := H2.out.1.len; omega)] at hz
            have HZ := hide (And.intro hz hb)
            clear hz hb hqm hq
            go_wp2_with fail
            generalize wr = W5 at *
            go_loopw [73] (fun kv wr => LO3 w w2 k out kv wr) (fun kv _ => k - (intOf kv).toNat)
            case atStart => exact ⟨⟨0, Nat.zero_le _, rfl, HZ.out.1⟩, HZ.out.2⟩
            case round =>
              clear HZ
              obtain ⟨⟨i, hi, rfl, hz⟩, hb⟩ := hrel
              have i0 : (0 : Int) ≤ i := by omega
              by_cases hik : i < k
              · have i1 : (i : Int) < k := by omega
                have hB : Below w.heap.size w wr := H2.out.2.2.2.trans (hb.mono H2.out.2.2.2.size)
                obtain ⟨b1, o1, oi, rfl, _, hoi, hoic⟩ := (H2.out.2.2.1.has.below hb).int hik
                have hofi : of.getD i 0 = oi := by rw [List.getD_eq_getElem?_getD, hoi]; rfl
                have hoik : oi < k := by have h1 := H1.out.2.1.lt (i := i) (by have := HG.out.2.2; omega); omega
                have hmem : oi ∈ out := Kn.gr_all H1.out.2.1 HOUT.out.2.1 (by have := HG.out.2.2; omega) (by rw [← hofi]; exact H1.out.2.1.idem (by have := HG.out.2.2; omega))
                obtain ⟨hp1, hp2⟩ := Kn.pl_mem hmem
                have hpc := hz.cell (Kn.plL_get (l := out) hoik)
                rw [hp1] at hpc
                generalize hpi : out.idxOf oi = pi at *
                obtain ⟨bg, og, rfl, _, _⟩ := HG.out.1.2 (by omega)
                have hGw := HG.out.1.below hB
                obtain ⟨hbg, Ai, ci, hrc, hrx⟩ := hGw.row hik
                have hla := HG.out.2.1 i
                generalize hlaa : (Kn.arcs g i).length = la at *
                have HI := hide (And.intro hofi (And.intro hp2 (And.intro hrx (And.intro hlaa hB))))
                have d1 : decide ((oi : Int) < 0) = false := by simp
                have d2 : decide (k ≤ oi) = false := by simp; omega
                have d3 : decide ((pi : Int) < 0) = false := by simp
                have oi0 : (0 : Int) ≤ oi := by omega
                have oi1 : (oi : Int) < k := by omega
                have HZ2 := hide (And.intro hz hb)
                clear hmem hp1 hp2 hpi hGw hrx hlaa hbg hofi hB hz hb hoi
                go_wp2_with fail
                clear hoic hpc hrc d1 d2 d3
                generalize wr = W6 at *
                go_loopw [105] (fun kv wr => LO4 w w2 k la out kv wr) (fun kv _ => la - (intOf kv).toNat)
                case atStart => exact ⟨⟨0, Nat.zero_le _, rfl, HZ2.out.1⟩, HZ2.out.2⟩
                case round =>
                  obtain ⟨⟨j, hj, rfl, hz⟩, hb⟩ := hrel
                  have HR := hide (And.intro hz hb)
                  have j0 : (0 : Int) ≤ j := by omega
                  by_cases hjl : j < la
                  · have j1 : (j : Int) < la := by omega
                    obtain ⟨x, hx⟩ : ∃ x, (Kn.arcs g i)[j]? = some x := ⟨_, List.getElem?_eq_getElem (by have := HI.out.2.2.2.1; omega)⟩
                    obtain ⟨ba, oa, rfl, hba, hxs⟩ := HI.out.2.2.1 (by omega)
                    have hBB : Below w.heap.size w wr := H2.out.2.2.2.trans (hb.mono H2.out.2.2.2.size)
                    have hxc : wr.cell? ⟨ba, oa + j, none⟩ = some (.int .i64 x) := (hBB.cell (p := ⟨ba, oa + j, none⟩) hba).trans ((HI.out.2.2.2.2.cell (p := ⟨ba, oa + j, none⟩) hba).symm.trans (hxs j x hx))
                    have hofw := H2.out.2.2.1.has.below hb
                    have HXX := hide hx
                    clear hx hxs hBB
                    by_cases hx0 : 0 ≤ x
                    · by_cases hxn : x < k
                      · obtain ⟨y, rfl⟩ : ∃ y : Nat, x = y := ⟨x.toNat, by omega⟩
                        have hyk : y < k := by omega
                        obtain ⟨b1', o1', oy, hbo, _, hoy, hoyc⟩ := hofw.int hyk
                        simp only [Option.some.injEq, Addr.mk.injEq, and_true] at hbo
                        obtain ⟨rfl, rfl⟩ := hbo
                        obtain ⟨b1'', o1'', oi', hbo, _, hoi', hoic⟩ := hofw.int hik
                        simp only [Option.some.injEq, Addr.mk.injEq, and_true] at hbo
                        obtain ⟨rfl, rfl⟩ := hbo
                        have hoe : oi' = oi := by have := HI.out.1; rw [List.getD_eq_getElem?_getD, hoi'] at this; exact this
                        subst hoe
                        have hofy : of.getD y 0 = oy := by rw [List.getD_eq_getElem?_getD, hoy]; rfl
                        have hoyk : oy < k := by have h1 := H1.out.2.1.lt (i := y) (by have := HG.out.2.2; omega); omega
                        have hmem : oy ∈ out := Kn.gr_all H1.out.2.1 HOUT.out.2.1 (by have := HG.out.2.2; omega) (by rw [← hofy]; exact H1.out.2.1.idem (by have := HG.out.2.2; omega))
                        obtain ⟨hq1, hq2⟩ := Kn.pl_mem hmem
                        have hqc := hz.cell (Kn.plL_get (l := out) hoyk)
                        rw [hq1] at hqc
                        have hpm := Kn.pl_mem (List.mem_of_getElem? HI.out.2.1)
                        have hpc := hz.cell (Kn.plL_get (l := out) hoik)
                        have hpe : out.idxOf oi' = pi := (List.getElem?_inj (List.getElem?_eq_some_iff.1 hpm.2).1 HOUT.out.1.nd).1 (hpm.2.trans HI.out.2.1.symm)
                        rw [hpm.1, hpe] at hpc
                        generalize hqi : out.idxOf oy = qi at *
                        have hle : pi ≤ qi := Kn.gr_arc HOUT.out.1 (i := i) (j := y) (by have := HG.out.2.2; omega) (Kn.outs_iff.2 ⟨List.mem_of_getElem? HXX.out, by have := HG.out.2.2; omega⟩) (by rw [HI.out.1]; exact HI.out.2.1) (by rw [hofy]; exact hq2)
                        have d1 : decide (qi < pi) = false := by simp; omega
                        have oy0 : (0 : Int) ≤ oy := by omega
                        have oy1 : (oy : Int) < k := by omega
                        have y0 : (0 : Int) ≤ y := by omega
                        have y1 : (y : Int) < k := by omega
                        clear hofw hoy hoi' hofy hmem hq1 hq2 hpm hpe hqi hle hz hb
                        go_upto_region 27 with (fail)
                        go_quiet (fail)
                        have hdr : Below wr.heap.size wr (wr.drewN nq) := below_drewN (Below.refl _ _) nq
                        have HD := hide (And.intro (HR.out.1.below hdr) (HR.out.2.trans (hdr.mono HR.out.2.size)))
                        clear hdr
                        generalize wr.drewN nq = W at *
                        go_wp2_with fail
                        exact ⟨⟨⟨j + 1, by omega, by congr 1, HD.out.1⟩, HD.out.2⟩, by simp only [intOf]; omega⟩
                      · have hxn2 : decide (x < (k : Int)) = false := by simp; omega
                        clear hofw hxn hz hb
                        go_upto_region 27 with (fail)
                        go_quiet (fail)
                        have hdr : Below wr.heap.size wr (wr.drewN nq) := below_drewN (Below.refl _ _) nq
                        have HD := hide (And.intro (HR.out.1.below hdr) (HR.out.2.trans (hdr.mono HR.out.2.size)))
                        clear hdr
                        generalize wr.drewN nq = W at *
                        go_wp2_with fail
                        exact ⟨⟨⟨j + 1, by omega, by congr 1, HD.out.1⟩, HD.out.2⟩, by simp only [intOf]; omega⟩
                    · have hx2 : decide (0 ≤ x) = false := by simp; omega
                      clear hofw hx0 hz hb
                      go_upto_region 27 with (fail)
                      go_quiet (fail)
                      have hdr : Below wr.heap.size wr (wr.drewN nq) := below_drewN (Below.refl _ _) nq
                      have HD := hide (And.intro (HR.out.1.below hdr) (HR.out.2.trans (hdr.mono HR.out.2.size)))
                      clear hdr
                      generalize wr.drewN nq = W at *
                      go_wp2_with fail
                      exact ⟨⟨⟨j + 1, by omega, by congr 1, HD.out.1⟩, HD.out.2⟩, by simp only [intOf]; omega⟩
                  · obtain rfl : j = la := by omega
                    have j1 : ¬ (j : Int) < j := by omega
                    clear hz hb
                    go_wp2_with fail
                    exact ⟨⟨⟨i + 1, by omega, by congr 1, HR.out.1⟩, HR.out.2⟩, by simp only [intOf]; omega⟩
              · obtain rfl : i = k := by omega
                have i1 : ¬ (i : Int) < i := by omega
                have HZ2 := hide (And.intro hz (H2.out.2.2.2.trans (hb.mono H2.out.2.2.2.size)))
                clear hz hb
                go_wp2_with (go_at_call 8; refine (alive_any _).mono ?_; rintro e w7 ⟨rfl, hb7⟩; have H7 := hide (HZ2.out.2.trans (hb7.mono HZ2.out.2.size)); clear hb7)
                go_ret
                exact ⟨rfl, H7.out⟩
end Go.Proofs.Ytgmppddlgbkjmaa
