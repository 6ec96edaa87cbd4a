/- The walk of TreeTells. -/
import Derived.Test.YtokfcnjmgnmncaaTrFlatR
import Derived.Test.YtokfcnjmgnmncaaTrDepthR
import Derived.Test.YtokfcnjmgnmncaaTrBack
import Derived.Test.YtokfcnjmgnmncaaTrOpen
namespace Go.Proofs.Ytokfcnjmgnmncaa
open Go.RowKit

set_option maxHeartbeats 6400000 in
theorem treeTells_any (A : Option Addr) (n c : Nat) (f : Tr.Fo) (A2 : Option Addr) (n2 c2 : Nat) (g : Tr.Fo) (w : World) (h : Holds w (· < w.heap.size) f A n c) (hz : f.size ≤ 1048576) (h2 : Holds w (· < w.heap.size) g A2 n2 c2) (hz2 : g.size ≤ 1048576) :
    Calls Try.prog 6 #[.slice A n c, .slice A2 n2 c2] w fun e w' => e = .returned (.bool true) ∧ Below w.heap.size w w' := by
  have hb1 := tbig_any f n c w.heap.size A w (by omega) h
  have hb2 := tbig_any g n2 c2 w.heap.size A2 w (by omega) h2
  by_cases hf : 300 < f.size
  · rw [decide_eq_true hf] at hb1
    have HB1 := hide hb1
    clear hb1 hb2 h h2 hf
    go_enter Try.func6, Try.ntmps6
    go_wp2_with fail
    refine HB1.out.mono ?_
    rintro e w' ⟨rfl, rfl⟩
    go_wp2_with fail
    refine (alive_any _).mono ?_
    rintro e w4 ⟨rfl, hb4⟩
    have HB4 := hide hb4
    clear hb4
    go_wp2_with fail
    go_ret
    exact ⟨rfl, HB4.out⟩
  · rw [decide_eq_false hf] at hb1
    have HB1 := hide hb1
    by_cases hg : 300 < g.size
    · rw [decide_eq_true hg] at hb2
      have HB2 := hide hb2
      clear hb1 hb2 h h2 hf hg
      go_enter Try.func6, Try.ntmps6
      go_wp2_with fail
      refine HB1.out.mono ?_
      rintro e w' ⟨rfl, rfl⟩
      go_wp2_with fail
      refine HB2.out.mono ?_
      rintro e w' ⟨rfl, rfl⟩
      go_wp2_with fail
      refine (alive_any _).mono ?_
      rintro e w4 ⟨rfl, hb4⟩
      have HB4 := hide hb4
      clear hb4
      go_wp2_with fail
      go_ret
      exact ⟨rfl, HB4.out⟩
    · rw [decide_eq_false hg] at hb2
      have HB2 := hide hb2
      have hlen := Tr.flat_len f
      have hl6 : (Tr.flat f).length ≤ 600 := by omega
      have hflat := fun W (hW : Below w.heap.size w W) => tflat_any (f.size + 1) f n c w.heap.size A W (by omega) (by omega) (h.below hW) hW.size
      have hrflat := fun W (hW : Below w.heap.size w W) => rflat_any (f.size + 1) f n c w.heap.size A W (by omega) (by omega) (h.below hW) hW.size
      have hdep := fun W (hW : Below w.heap.size w W) => tdepth_any (f.size + 1) f n c w.heap.size A W (by omega) (by omega) (h.below hW) hW.size
      have hrdep := fun W (hW : Below w.heap.size w W) => rdepth_any (f.size + 1) f n c w.heap.size A W (by omega) (by omega) (h.below hW)
      have hs1 := fun W (hW : Below w.heap.size w W) => ttsame_any (f.size + 1) f g n c n2 c2 w.heap.size A A2 W (by omega) (h.below hW) (h2.below hW)
      have hs2 := fun W (hW : Below w.heap.size w W) => rtsame_any (f.size + 1) f g n c n2 c2 w.heap.size A A2 W (by omega) (h.below hW) (h2.below hW)
      have hs3 := fun W (hW : Below w.heap.size w W) => ttsame_any (f.size + 1) f f n c n c w.heap.size A A W (by omega) (h.below hW) (h.below hW)
      have hsame := fun W A3 c3 A4 c4 (k2 : HasT W W.heap.size A3 (Tr.flat f).length (Tr.flat f)) (k3 : HasT W W.heap.size A4 (Tr.flat f).length (Tr.flat f)) => rsame_any _ c3 _ c4 W.heap.size A3 A4 (Tr.flat f) (Tr.flat f) W k2 k3 (by omega) (by omega)
      rw [Lx.same_self] at hsame
      rw [Tr.sameF_self] at hs3
      have HFL := hide hflat
      have HRF := hide hrflat
      have HDE := hide hdep
      have HRD := hide hrdep
      have HS1 := hide hs1
      have HS2 := hide hs2
      have HS3 := hide hs3
      have HSM := hide hsame
      clear hb1 hb2 h h2 hf hg hlen hflat hrflat hdep hrdep hs1 hs2 hs3 hsame
      go_enter Try.func6, Try.ntmps6
      go_wp2_with fail
      refine HB1.out.mono ?_
      rintro e w' ⟨rfl, rfl⟩
      go_wp2_with fail
      refine HB2.out.mono ?_
      rintro e w' ⟨rfl, rfl⟩
      go_wp2_with fail
      refine (HFL.out _ (Below.refl _ _)).mono ?_
      rintro e w1 ⟨v1, rfl, hrow1, _, hb1⟩
      obtain ⟨A1, c1, rfl, _, _⟩ := RowZ.form hrow1
      have H1 := hide (And.intro hrow1 hb1)
      clear hrow1 hb1
      go_wp2_with fail
      refine (HRF.out _ H1.out.2).mono ?_
      rintro e w2 ⟨v2, rfl, hrow2, _, hb2⟩
      obtain ⟨A3, c3, rfl, _, _⟩ := RowZ.form hrow2
      have H2 := hide (And.intro (HasT.of_row (RowZ.below H1.out.1 hb2)) (And.intro (HasT.of_row hrow2) (below_next H1.out.2 hb2)))
      clear hrow2 hb2
      go_wp2_with fail
      refine (HSM.out w2 A1 c1 A3 c3 H2.out.1 H2.out.2.1).mono ?_
      rintro e w3 ⟨rfl, hd3⟩
      have H3 := hide (below_dr H2.out.2.2 hd3)
      clear hd3
      go_wp2_with fail
      refine (HDE.out _ H3.out).mono ?_
      rintro e w4 ⟨rfl, hb4⟩
      have H4 := hide (below_next H3.out hb4)
      clear hb4
      go_wp2_with fail
      refine (HRD.out _ H4.out).mono ?_
      rintro e w' ⟨rfl, rfl⟩
      go_wp2_with fail
      refine (HS1.out _ H4.out).mono ?_
      rintro e w5 ⟨rfl, hd5⟩
      have H5 := hide (below_dr H4.out hd5)
      clear hd5
      go_wp2_with fail
      refine (HS2.out _ H5.out).mono ?_
      rintro e w6 ⟨rfl, hd6⟩
      have H6 := hide (below_dr H5.out hd6)
      clear hd6
      go_wp2_with fail
      refine (HS3.out _ H6.out).mono ?_
      rintro e w7 ⟨rfl, hd7⟩
      have H7 := hide (below_dr H6.out hd7)
      clear hd7
      go_wp2_with fail
      refine (alive_any _).mono ?_
      rintro e w8 ⟨rfl, hb8⟩
      have HB8 := hide (below_next H7.out hb8)
      clear hb8
      go_wp2_with fail
      go_ret
      exact ⟨rfl, HB8.out⟩
end Go.Proofs.Ytokfcnjmgnmncaa
