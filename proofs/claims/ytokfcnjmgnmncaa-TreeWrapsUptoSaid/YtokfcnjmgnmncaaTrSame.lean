/- The walks of the comparisons of trees, and of the document's Read. -/
import Derived.Test.YtokfcnjmgnmncaaTrTrees2
import Derived.Test.YtokfcnjmgnmncaaLxSame
namespace Go.Proofs.Ytokfcnjmgnmncaa
open Go.RowKit

namespace Tr
def sameF : Fo → Fo → Bool
  | .nil, .nil => true
  | .cons t k e r, .cons t' k' e' r' => Lx.eqT t t' && (decide (e = e') && (sameF k k' && sameF r r'))
  | _, _ => false
theorem sameF_iff : ∀ (f g : Fo), sameF f g = true ↔ f.len = g.len ∧ ∀ (j : Nat) x y, f.get j = some x → g.get j = some y → Lx.eqT x.1 y.1 = true ∧ x.2.2 = y.2.2 ∧ sameF x.2.1 y.2.1 = true
  | .nil, .nil => by simp [sameF, Fo.len, Fo.get]
  | .nil, .cons t k e r => by simp [sameF, Fo.len]
  | .cons t k e r, .nil => by simp [sameF, Fo.len]
  | .cons t k e r, .cons t' k' e' r' => by
    simp only [sameF, Bool.and_eq_true, decide_eq_true_eq, sameF_iff r r', Fo.len, Nat.add_right_cancel_iff]
    constructor
    · rintro ⟨h1, h2, h3, h4, h5⟩
      refine ⟨h4, fun j x y hx hy => ?_⟩
      match j with
      | 0 => simp [Fo.get] at hx hy; subst hx; subst hy; exact ⟨h1, h2, h3⟩
      | j + 1 => exact h5 j x y hx hy
    · rintro ⟨h4, h5⟩
      obtain ⟨h1, h2, h3⟩ := h5 0 _ _ rfl rfl
      exact ⟨h1, h2, h3, h4, fun j x y hx hy => h5 (j + 1) x y hx hy⟩
theorem sameF_self : ∀ f : Fo, sameF f f = true
  | .nil => rfl
  | .cons t k e r => by simp [sameF, Lx.eqT, sameF_self k, sameF_self r]
end Tr

theorem Tr.Fo.get_ge : ∀ (f : Tr.Fo) (j : Nat), f.len ≤ j → f.get j = none
  | .nil, j, _ => rfl
  | .cons t k e r, 0, h => by simp [Tr.Fo.len] at h
  | .cons t k e r, j + 1, h => Tr.Fo.get_ge r j (by simp only [Tr.Fo.len] at h; omega)

theorem rtRead_any (n c B : Nat) (A : Option Addr) (l : List Lx.T) (w : World) (h : HasT w B A n l) (hB : B ≤ w.heap.size) (hn : n ≤ 1100000) : Calls Try.prog 10 #[.slice A n c] w fun e w' =>
    ∃ v, e = .returned (.tuple #[v, outV (Tr.read l)]) ∧ TreeRow w' (fun b => w.heap.size ≤ b ∧ b < w'.heap.size) v (outF (Tr.read l)) ∧ Below w.heap.size w w' := by
  have hln := h.1
  have HB := hide (And.intro (below_laid w (.cells #[.int .i64 0, .int .i64 0] 27)) (heap_alloc_new w (.cells #[.int .i64 0, .int .i64 0] 27)))
  have hsz : w.heap.size < (w.alloc (.cells #[.int .i64 0, .int .i64 0] 27)).heap.size := by simp
  have HH := hide ((h.more hB).below HB.out.1)
  have HF := hide (Tr.read_fault l)
  clear h
  go_enter Try.func10, Try.ntmps10
  go_wp2_with fail
  generalize w.alloc (.cells #[.int .i64 0, .int .i64 0] 27) = W at *
  refine (rfault_any n c w.heap.size A l W HH.out (by omega) hn).mono ?_
  rintro e w1 ⟨rfl, hb1⟩
  have hf1 := (hb1.block w.heap.size hsz).trans HB.out.2
  have y0 := cell_block hf1 0
  have y1 := cell_block hf1 1
  have y2 := frozen_of_row _ w.heap.size 0 _ _ hf1
  have y3 := frozen_of_row _ w.heap.size 1 _ _ hf1
  simp only [List.getElem?_toArray, List.getElem?_cons_zero, List.getElem?_cons_succ] at y0 y1
  have hbw := HB.out.1.trans (hb1.mono HB.out.1.size)
  have HX := hide (And.intro hbw (And.intro hf1 (And.intro (HH.out.below (hb1.mono (by omega))) hb1.size)))
  rcases HF.out with ⟨p, hrd, j, t, hfl, ht, htp⟩ | ⟨f, hrd, hfl⟩
  · subst htp
    obtain ⟨b, off, rfl, hbB, hcell⟩ := HX.out.2.2.1.2 (by have := (List.getElem?_eq_some_iff.1 ht).1; omega)
    obtain ⟨d0, d1, d2⟩ := hcell j t ht
    have q0 : (0 : Int) ≤ j := by omega
    have q1 : (j : Int) < n := by have := (List.getElem?_eq_some_iff.1 ht).1; omega
    have HRD := hide hrd
    rw [hfl]
    clear hcell ht hfl hrd hb1 hf1 hbw d0 d1
    go_wp2_with fail
    go_still_tail 7, (by kernel_rfl)
    change wpList _ _ _ _ _ w1.drew
    go_wp2_with fail
    have hp := fault_put (w := w1) HX.out.2.1 (.int .i64 2) (.int .i64 t.pos)
    refine bodyPost_ret (v := .tuple #[.slice none 0 0, .agg #[.int .i64 2, .int .i64 t.pos]]) (by simp [results, Try.results10, go_sem, hp.1, hp.2]) rfl ⟨_, by rw [HRD.out]; rfl, by rw [HRD.out]; exact TreeRow.nil, below_drewN (fault_below HX.out.1 (Nat.le_refl _) _ _) 1⟩
  · have HRD := hide hrd
    have HBAL := hide (Tr.read_bal hrd)
    rw [hfl]
    have hnn : ((l.length : Nat) : Int) = n := by omega
    have htr := rtrees_any n c w.heap.size A l hn (l.length + 1) 0 l.length f w1 (by omega) HBAL.out (by omega) HX.out.2.2.1 hbw.size
    rw [hnn] at htr
    have HTR := hide htr
    clear hfl hrd hb1 hf1 hbw hnn htr y0 y1 y2 y3
    go_wp2_with fail
    refine HTR.out.mono ?_
    rintro e w2 ⟨v, rfl, hrow, hb2⟩
    obtain ⟨Ak, ck, rfl, hck, hckm⟩ := hrow.form
    have hf2 := (hb2.block w.heap.size (by have := HX.out.2.2.2; omega)).trans HX.out.2.1
    have y0 := cell_block hf2 0
    have y1 := cell_block hf2 1
    have y2 := frozen_of_row _ w.heap.size 0 _ _ hf2
    have y3 := frozen_of_row _ w.heap.size 1 _ _ hf2
    simp only [List.getElem?_toArray, List.getElem?_cons_zero, List.getElem?_cons_succ] at y0 y1
    have HY := hide (And.intro (HX.out.1.trans (hb2.mono HX.out.1.size)) (And.intro hrow hf2))
    clear hrow hb2 hf2
    go_wp2_with fail
    have hp := fault_put (w := w2) HY.out.2.2 (.int .i64 0) (.int .i64 0)
    refine bodyPost_ret (v := .tuple #[.slice Ak f.len ck, .agg #[.int .i64 0, .int .i64 0]]) (by simp [results, Try.results10, go_sem, hp.1, hp.2]) rfl ⟨_, by rw [HRD.out]; rfl, ?_, fault_below HY.out.1 (Nat.le_refl _) _ _⟩
    rw [HRD.out]
    have hz := HX.out.2.2.2
    refine HY.out.2.1.keep fun b hb => ⟨⟨by have := hb.1; omega, by have := hb.2; simp; exact this⟩, ?_⟩
    rw [Below.heap_setCell _ _ _ _ (fun e => by have := hb.1; simp at e; omega), Below.heap_setCell _ _ _ _ (fun e => by have := hb.1; simp at e; omega)]

set_option maxHeartbeats 3200000 in
theorem rtsame_any (d : Nat) : ∀ (f g : Tr.Fo) (n c n2 c2 B : Nat) (A A2 : Option Addr) (w : World), f.size < d → Holds w (· < B) f A n c → Holds w (· < B) g A2 n2 c2 →
    Calls Try.prog 11 #[.slice A n c, .slice A2 n2 c2] w fun e w' => e = .returned (.bool (Tr.sameF f g)) ∧ Dr w w' := by
  induction d with
  | zero => intro f g n c n2 c2 B A A2 w h; omega
  | succ d ih =>
    intro f g n c n2 c2 B A A2 w hd h h2
    have hgt := guardTok
    have hl := h.1
    have hl2 := h2.1
    have hc := h.2.1
    have hcm := h.2.2.1
    unfold maxLen at hcm
    have IH := hide ih
    clear ih
    by_cases hne : n = n2
    · subst hne
      have H1 := hide h
      have H2 := hide h2
      have HLN := hide (And.intro hl hl2)
      clear h h2 hl hl2
      go_enter Try.func11, Try.ntmps11
      go_wp2_with fail
      go_loopw [5] (fun i wr => ∃ k : Nat, k ≤ n ∧ i = .int .i64 k ∧ (∀ (j : Nat) x y, j < k → f.get j = some x → g.get j = some y → Lx.eqT x.1 y.1 = true ∧ x.2.2 = y.2.2 ∧ Tr.sameF x.2.1 y.2.1 = true) ∧ Dr w wr) (fun i _ => n - (intOf i).toNat)
      case atStart => exact ⟨0, Nat.zero_le _, rfl, fun j t u hj => by omega, Dr.refl _⟩
      case round =>
        obtain ⟨k, hk, rfl, heq, hdr⟩ := hrel
        by_cases hlt : k < n
        · obtain ⟨⟨t, kf, ef⟩, hx⟩ := Tr.Fo.get_lt f k (by have := HLN.out.1; omega)
          obtain ⟨⟨u, kg, eg⟩, hy⟩ := Tr.Fo.get_lt g k (by have := HLN.out.2; omega)
          obtain ⟨b, off, rfl, hbB, hcell⟩ := (H1.out.below (hdr.below B)).get (by omega)
          obtain ⟨b2, off2, rfl, hbB2, hcell2⟩ := (H2.out.below (hdr.below B)).get (by omega)
          obtain ⟨Ak, nk, ck, hkid, d0, d1, d2, d3, d4⟩ := hcell k _ hx
          obtain ⟨Ag, ng, cg, hkid2, e0, e1, e2, e3, e4⟩ := hcell2 k _ hy
          have hk0 : (k : Int) < n := by omega
          have hk1 : (0 : Int) ≤ k := by omega
          have hszk := Tr.Fo.get_size f k _ hx
          simp only at hkid hkid2 d0 d1 d2 d3 d4 e0 e1 e2 e3 e4 hszk
          have hrec := fun m => IH.out kf kg nk ck ng cg B Ak Ag (wr.drewN m) (by omega) (hkid.below (((Dr.refl wr).drewN m).below B)) (hkid2.below (((Dr.refl wr).drewN m).below B))
          have HT := hide (And.intro hx hy)
          have HE := hide heq
          have HD := hide hdr
          have hbad : ¬ (Lx.eqT t u = true ∧ ef = eg ∧ Tr.sameF kf kg = true) → Tr.sameF f g = false := fun hb => by
            cases hs : Tr.sameF f g
            · rfl
            · exact absurd (((Tr.sameF_iff f g).1 hs).2 k _ _ HT.out.1 HT.out.2) hb
          have HBad := hide hbad
          clear hcell hcell2 hx hy heq hdr hszk hkid hkid2 hbad
          have stop : (Lx.eqT t u = true → ef = eg → Tr.sameF kf kg = false) → ∀ m, (Ending.returned (Value.bool false) = Ending.returned (.bool (Tr.sameF f g)) ∧ Dr w (wr.drewN m)) := fun hh m => ⟨by rw [HBad.out (fun h => by have := hh h.1 h.2.1; rw [this] at h; cases h.2.2)], HD.out.drewN m⟩
          have HS := hide stop
          clear stop
          by_cases a1 : (t.kind : Int) = u.kind
          · by_cases a2 : t.text.toList = u.text.toList
            · by_cases a3 : t.pos = u.pos
              · by_cases a4 : ef = eg
                · cases a5 : Tr.sameF kf kg
                  · rw [a5] at hrec
                    have HR := hide hrec
                    have HS5 := hide (HS.out (fun _ _ => a5))
                    clear hrec a5
                    go_wp2_with fail
                    go_quiet ((go_at_call 11; exact quiet_dr (HR.out _)))
                    go_wp2_with fail
                    go_ret
                    exact HS5.out _
                  · rw [a5] at hrec
                    have HR := hide hrec
                    have HG := hide (show Lx.eqT t u = true ∧ ef = eg ∧ Tr.sameF kf kg = true from ⟨by simp only [Lx.eqT, decide_eq_true_eq]; exact ⟨by omega, a2, a3⟩, a4, a5⟩)
                    clear hrec a5
                    go_wp2_with fail
                    go_quiet ((go_at_call 11; exact quiet_dr (HR.out _)))
                    go_wp2_with fail
                    refine ⟨⟨k + 1, by omega, rfl, fun j x y hj hx hy => ?_, HD.out.drewN _⟩, by simp [intOf]; omega⟩
                    rcases Nat.lt_or_ge j k with h | h
                    · exact HE.out j x y h hx hy
                    · obtain rfl : j = k := by omega
                      rw [HT.out.1] at hx
                      rw [HT.out.2] at hy
                      simp only [Option.some.injEq] at hx hy
                      subst hx
                      subst hy
                      exact HG.out
                · have HS5 := hide (HS.out (fun _ h => absurd h a4))
                  clear hrec
                  go_wp2_with fail
                  go_quiet (fail)
                  go_wp2_with fail
                  go_ret
                  exact HS5.out _
              · have HS5 := hide (HS.out (fun h _ => by simp only [Lx.eqT, decide_eq_true_eq] at h; exact absurd h.2.2 a3))
                clear hrec
                go_wp2_with fail
                go_quiet (fail)
                go_wp2_with fail
                go_ret
                exact HS5.out _
            · have HS5 := hide (HS.out (fun h _ => by simp only [Lx.eqT, decide_eq_true_eq] at h; exact absurd h.2.1 a2))
              clear hrec
              go_wp2_with fail
              go_quiet (fail)
              go_wp2_with fail
              go_ret
              exact HS5.out _
          · have HS5 := hide (HS.out (fun h _ => by simp only [Lx.eqT, decide_eq_true_eq] at h; omega))
            clear hrec
            go_wp2_with fail
            go_quiet (fail)
            go_wp2_with fail
            go_ret
            exact HS5.out _
        · obtain rfl : k = n := by omega
          have hs : Tr.sameF f g = true := (Tr.sameF_iff f g).2 ⟨by have := HLN.out; omega, fun j t u h1 h2 => heq j t u (by
            rcases Nat.lt_or_ge j k with h | h
            · exact h
            · have := Tr.Fo.get_ge f j (by have := HLN.out.1; omega); rw [h1] at this; cases this) h1 h2⟩
          have HD := hide hdr
          have HS := hide hs
          clear heq hdr hs
          go_wp2_with fail
          go_ret
          exact ⟨ret_bool (by rw [HS.out]), HD.out⟩
    · have hs : Tr.sameF f g = false := by
        cases hs : Tr.sameF f g
        · rfl
        · have := ((Tr.sameF_iff f g).1 hs).1; omega
      have HS := hide hs
      have hne2 : (n : Int) ≠ n2 := by omega
      clear hs h h2 hl hl2
      go_enter Try.func11, Try.ntmps11
      go_wp2_with fail
      go_ret
      exact ⟨ret_bool (by rw [HS.out]), Dr.refl _⟩

set_option maxHeartbeats 3200000 in
theorem ttsame_any (d : Nat) : ∀ (f g : Tr.Fo) (n c n2 c2 B : Nat) (A A2 : Option Addr) (w : World), f.size < d → Holds w (· < B) f A n c → Holds w (· < B) g A2 n2 c2 →
    Calls Try.prog 16 #[.slice A n c, .slice A2 n2 c2] w fun e w' => e = .returned (.bool (Tr.sameF f g)) ∧ Dr w w' := by
  induction d with
  | zero => intro f g n c n2 c2 B A A2 w h; omega
  | succ d ih =>
    intro f g n c n2 c2 B A A2 w hd h h2
    have hgt := guardTok
    have hl := h.1
    have hl2 := h2.1
    have hc := h.2.1
    have hcm := h.2.2.1
    unfold maxLen at hcm
    have IH := hide ih
    clear ih
    by_cases hne : n = n2
    · subst hne
      have H1 := hide h
      have H2 := hide h2
      have HLN := hide (And.intro hl hl2)
      clear h h2 hl hl2
      go_enter Try.func16, Try.ntmps16
      go_wp2_with fail
      go_loopw [13] (fun i wr => ∃ k : Nat, k ≤ n ∧ i = .int .i64 k ∧ (∀ (j : Nat) x y, j < k → f.get j = some x → g.get j = some y → Lx.eqT x.1 y.1 = true ∧ x.2.2 = y.2.2 ∧ Tr.sameF x.2.1 y.2.1 = true) ∧ Dr w wr) (fun i _ => n - (intOf i).toNat)
      case atStart => exact ⟨0, Nat.zero_le _, rfl, fun j t u hj => by omega, Dr.refl _⟩
      case round =>
        obtain ⟨k, hk, rfl, heq, hdr⟩ := hrel
        by_cases hlt : k < n
        · obtain ⟨⟨t, kf, ef⟩, hx⟩ := Tr.Fo.get_lt f k (by have := HLN.out.1; omega)
          obtain ⟨⟨u, kg, eg⟩, hy⟩ := Tr.Fo.get_lt g k (by have := HLN.out.2; omega)
          obtain ⟨b, off, rfl, hbB, hcell⟩ := (H1.out.below (hdr.below B)).get (by omega)
          obtain ⟨b2, off2, rfl, hbB2, hcell2⟩ := (H2.out.below (hdr.below B)).get (by omega)
          obtain ⟨Ak, nk, ck, hkid, d0, d1, d2, d3, d4⟩ := hcell k _ hx
          obtain ⟨Ag, ng, cg, hkid2, e0, e1, e2, e3, e4⟩ := hcell2 k _ hy
          have hk0 : (k : Int) < n := by omega
          have hk1 : (0 : Int) ≤ k := by omega
          have hszk := Tr.Fo.get_size f k _ hx
          simp only at hkid hkid2 d0 d1 d2 d3 d4 e0 e1 e2 e3 e4 hszk
          have hrec := fun m => IH.out kf kg nk ck ng cg B Ak Ag (wr.drewN m) (by omega) (hkid.below (((Dr.refl wr).drewN m).below B)) (hkid2.below (((Dr.refl wr).drewN m).below B))
          have HT := hide (And.intro hx hy)
          have HE := hide heq
          have HD := hide hdr
          have hbad : ¬ (Lx.eqT t u = true ∧ ef = eg ∧ Tr.sameF kf kg = true) → Tr.sameF f g = false := fun hb => by
            cases hs : Tr.sameF f g
            · rfl
            · exact absurd (((Tr.sameF_iff f g).1 hs).2 k _ _ HT.out.1 HT.out.2) hb
          have HBad := hide hbad
          clear hcell hcell2 hx hy heq hdr hszk hkid hkid2 hbad
          have stop : (Lx.eqT t u = true → ef = eg → Tr.sameF kf kg = false) → ∀ m, (Ending.returned (Value.bool false) = Ending.returned (.bool (Tr.sameF f g)) ∧ Dr w (wr.drewN m)) := fun hh m => ⟨by rw [HBad.out (fun h => by have := hh h.1 h.2.1; rw [this] at h; cases h.2.2)], HD.out.drewN m⟩
          have HS := hide stop
          clear stop
          by_cases a1 : (t.kind : Int) = u.kind
          · by_cases a2 : t.text.toList = u.text.toList
            · by_cases a3 : t.pos = u.pos
              · by_cases a4 : ef = eg
                · cases a5 : Tr.sameF kf kg
                  · rw [a5] at hrec
                    have HR := hide hrec
                    have HS5 := hide (HS.out (fun _ _ => a5))
                    clear hrec a5
                    go_wp2_with fail
                    go_quiet ((go_at_call 16; exact quiet_dr (HR.out _)))
                    go_wp2_with fail
                    go_ret
                    exact HS5.out _
                  · rw [a5] at hrec
                    have HR := hide hrec
                    have HG := hide (show Lx.eqT t u = true ∧ ef = eg ∧ Tr.sameF kf kg = true from ⟨by simp only [Lx.eqT, decide_eq_true_eq]; exact ⟨by omega, a2, a3⟩, a4, a5⟩)
                    clear hrec a5
                    go_wp2_with fail
                    go_quiet ((go_at_call 16; exact quiet_dr (HR.out _)))
                    go_wp2_with fail
                    refine ⟨⟨k + 1, by omega, rfl, fun j x y hj hx hy => ?_, HD.out.drewN _⟩, by simp [intOf]; omega⟩
                    rcases Nat.lt_or_ge j k with h | h
                    · exact HE.out j x y h hx hy
                    · obtain rfl : j = k := by omega
                      rw [HT.out.1] at hx
                      rw [HT.out.2] at hy
                      simp only [Option.some.injEq] at hx hy
                      subst hx
                      subst hy
                      exact HG.out
                · have HS5 := hide (HS.out (fun _ h => absurd h a4))
                  clear hrec
                  go_wp2_with fail
                  go_quiet (fail)
                  go_wp2_with fail
                  go_ret
                  exact HS5.out _
              · have HS5 := hide (HS.out (fun h _ => by simp only [Lx.eqT, decide_eq_true_eq] at h; exact absurd h.2.2 a3))
                clear hrec
                go_wp2_with fail
                go_quiet (fail)
                go_wp2_with fail
                go_ret
                exact HS5.out _
            · have HS5 := hide (HS.out (fun h _ => by simp only [Lx.eqT, decide_eq_true_eq] at h; exact absurd h.2.1 a2))
              clear hrec
              go_wp2_with fail
              go_quiet (fail)
              go_wp2_with fail
              go_ret
              exact HS5.out _
          · have HS5 := hide (HS.out (fun h _ => by simp only [Lx.eqT, decide_eq_true_eq] at h; omega))
            clear hrec
            go_wp2_with fail
            go_quiet (fail)
            go_wp2_with fail
            go_ret
            exact HS5.out _
        · obtain rfl : k = n := by omega
          have hs : Tr.sameF f g = true := (Tr.sameF_iff f g).2 ⟨by have := HLN.out; omega, fun j t u h1 h2 => heq j t u (by
            rcases Nat.lt_or_ge j k with h | h
            · exact h
            · have := Tr.Fo.get_ge f j (by have := HLN.out.1; omega); rw [h1] at this; cases this) h1 h2⟩
          have HD := hide hdr
          have HS := hide hs
          clear heq hdr hs
          go_wp2_with fail
          go_ret
          exact ⟨ret_bool (by rw [HS.out]), HD.out⟩
    · have hs : Tr.sameF f g = false := by
        cases hs : Tr.sameF f g
        · rfl
        · have := ((Tr.sameF_iff f g).1 hs).1; omega
      have HS := hide hs
      have hne2 : (n : Int) ≠ n2 := by omega
      clear hs h h2 hl hl2
      go_enter Try.func16, Try.ntmps16
      go_wp2_with fail
      go_ret
      exact ⟨ret_bool (by rw [HS.out]), Dr.refl _⟩
end Go.Proofs.Ytokfcnjmgnmncaa
