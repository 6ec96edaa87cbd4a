/- The walk of TreeBack, and its plain law: the pieces come back from the trees. -/
import Derived.Test.YtokfcnjmgnmncaaTrFlat
import Derived.Test.YtokfcnjmgnmncaaTrReads
namespace Go.Proofs.Ytokfcnjmgnmncaa
open Go.RowKit

theorem Lx.same_self : ∀ l : List Lx.T, Lx.same l l = true
  | [] => rfl
  | t :: l => by simp [Lx.same, Lx.eqT, Lx.same_self l]
namespace Tr
theorem seg {α : Type} (l : List α) {a b c : Nat} (h1 : a ≤ b) (h2 : b ≤ c) : (l.drop a).take (b - a) ++ (l.drop b).take (c - b) = (l.drop a).take (c - a) := by
  have e : l.drop b = (l.drop a).drop (b - a) := by rw [List.drop_drop]; congr 1; omega
  rw [e, ← List.take_append_drop (b - a) ((l.drop a).take (c - a)), List.take_take, List.drop_take, show min (b - a) (c - a) = b - a by omega, show c - a - (b - a) = c - b by omega]
theorem ok_text {u : Lx.T} {c : Nat} (h : Lx.ok u = true) (hc : c = u.kind) (hcl : closes c = true) : u = ⟨c, ⟨#[UInt8.ofNat c]⟩, u.pos⟩ := by
  subst hc
  have hk : u.kind ≠ 97 := by simp only [closes, decide_eq_true_eq] at hcl; omega
  unfold Lx.ok at h
  rw [if_neg hk] at h
  simp only [Bool.and_eq_true, decide_eq_true_eq] at h
  obtain ⟨h1, h2, _⟩ := h
  obtain ⟨k, x, p⟩ := u
  simp only at h1 h2 hk ⊢
  congr 1
  apply ByteArray.ext
  apply Array.ext'
  have hl : x.data.toList.length = 1 := by simpa using h1
  match hx : x.data.toList, hl with
  | [y], _ =>
    have : y = UInt8.ofNat k := by
      rw [← h2]
      simp [Nm.byte, hx]
    simp [this]
theorem flat_bal {l : List Lx.T} (hok : ∀ t ∈ l, Lx.ok t = true) {i k : Nat} {f : Fo} (h : Bal l i k f) : k ≤ l.length → flat f = (l.drop i).take (k - i) := by
  induction h with
  | nil i => intro _; simp [flat]
  | @plain i k t f ht ho hc h ih =>
    intro hk
    have := h.le
    rw [flat, if_neg (by omega), ih hk, drop_at ht, show k - i = (k - (i + 1)) + 1 by omega, List.take_succ_cons]
    simp
  | @brack i m k t u g f ht ho hg hu hkk h ih1 ih2 =>
    intro hk
    have h1 := h.le
    have h2 := hg.le
    have hum := List.mem_of_getElem? hu
    have hu' := ok_text (hok u hum) hkk (closes_of (c := t.kind) rfl ho)
    rw [flat, if_pos ho, ih1 (by omega), ih2 hk, drop_at ht, show k - i = (k - (i + 1)) + 1 by omega, List.take_succ_cons, ← seg l (a := i + 1) (b := m) (c := k) h2 (by omega), ← hu', drop_at hu, show k - m = (k - (m + 1)) + 1 by omega, List.take_succ_cons]
    simp
theorem read_flat {l : List Lx.T} (hok : ∀ t ∈ l, Lx.ok t = true) {f : Fo} (h : read l = .good f) : flat f = l := by
  rw [flat_bal hok (read_bal h) (Nat.le_refl _)]; simp
end Tr

set_option maxHeartbeats 4000000 in
theorem treeBack_any (A : Option Addr) (n c : Nat) (l : List Lx.T) (w : World) (h : HasT w w.heap.size A n l) (hn : n ≤ c) (hc : c ≤ maxLen) (hz : ∀ t ∈ l, Lx.Fit t) :
    Calls Try.prog 4 #[.slice A n c] w fun e w' => e = .returned (.bool true) ∧ Below w.heap.size w w' := by
  have hb1 := big_any n c w.heap.size A l w h (by omega) (fun t ht => (hz t ht).2.1)
  cases hl : Lx.big l
  · rw [hl] at hb1
    obtain ⟨l300, l200⟩ := Lx.big_false hl
    have hln := h.1
    have hn3 : n ≤ 300 := by omega
    have hal := rall_any n c w.heap.size A l w h (Nat.le_refl _) (by omega) (fun t ht => by have := l200 t ht; omega)
    have HB1 := hide hb1
    cases hall : Lx.all l
    · rw [hall] at hal
      have HAL := hide hal
      clear hb1 hal h hl hz hall l200 l300 hln
      go_enter Try.func4, Try.ntmps4
      go_wp2_with fail
      refine HB1.out.mono ?_
      rintro e w' ⟨rfl, rfl⟩
      go_wp2_with fail
      refine HAL.out.mono ?_
      rintro e w1 ⟨rfl, hb1⟩
      have HB := hide hb1
      clear hb1
      go_wp2_with fail
      refine (alive_any _).mono ?_
      rintro e w4 ⟨rfl, hb4⟩
      have HB4 := hide (below_next HB.out hb4)
      clear hb4
      go_wp2_with fail
      go_ret
      exact ⟨rfl, HB4.out⟩
    · rw [hall] at hal
      have HAL := hide hal
      have hok : ∀ t ∈ l, Lx.ok t = true := by simpa [Lx.all] using hall
      have hr1 := fun W (hW : Below w.heap.size w W) => tread_any n c w.heap.size A l W (h.below hW) hW.size (by omega)
      cases hrd : Tr.read l with
      | bad p =>
        rw [hrd] at hr1
        have HR1 := hide hr1
        clear hb1 hal h hl hz hall l200 l300 hln hr1 hrd hok
        go_enter Try.func4, Try.ntmps4
        go_wp2_with fail
        refine HB1.out.mono ?_
        rintro e w' ⟨rfl, rfl⟩
        go_wp2_with fail
        refine HAL.out.mono ?_
        rintro e w1 ⟨rfl, hb1⟩
        have HB := hide hb1
        clear hb1
        go_wp2_with fail
        refine (HR1.out _ HB.out).mono ?_
        rintro e w2 ⟨v, rfl, hrow, hb2⟩
        obtain ⟨A2, c2, rfl, _, _⟩ := hrow.form
        have hbl := below_laid w2 (.cells #[.int .i64 2, .int .i64 p] 27)
        have hbx := heap_alloc_new w2 (.cells #[.int .i64 2, .int .i64 p] 27)
        have y0 := cell_block hbx 0
        have y1 := cell_block hbx 1
        simp only [List.getElem?_toArray, List.getElem?_cons_zero, List.getElem?_cons_succ] at y0 y1
        have H2 := hide (below_next (below_next HB.out hb2) hbl)
        clear hrow hb2 hbl hbx
        simp only [outV, outF, Tr.Fo.len]
        go_wp2_with fail
        refine (alive_any _).mono ?_
        rintro e w4 ⟨rfl, hb4⟩
        have HB4 := hide (below_next H2.out hb4)
        clear hb4
        go_wp2_with fail
        go_ret
        exact ⟨rfl, HB4.out⟩
      | good f =>
        rw [hrd] at hr1
        have HR1 := hide hr1
        have hfl := Tr.read_flat hok hrd
        have hdp := Tr.read_depth hrd
        have hsz : f.size ≤ 300 := by have := (Tr.read_bal hrd).size; omega
        have hflat := fun W B A2 n2 c2 (h2 : Holds W (· < B) f A2 n2 c2) (hB : B ≤ W.heap.size) => tflat_any (f.size + 1) f n2 c2 B A2 W (by omega) (by omega) h2 hB
        have hdep := fun W B A2 n2 c2 (h2 : Holds W (· < B) f A2 n2 c2) (hB : B ≤ W.heap.size) => tdepth_any (f.size + 1) f n2 c2 B A2 W (by omega) (by omega) h2 hB
        have hsame := fun W A2 c2 (h2 : HasT W W.heap.size A2 n l) (h3 : HasT W W.heap.size A n l) => rsame_any n c2 n c W.heap.size A2 A l l W h2 h3 (by omega) (by omega)
        rw [hfl] at hflat
        rw [Lx.same_self] at hsame
        have HFLAT := hide hflat
        have HDEP := hide hdep
        have HSAME := hide hsame
        have HL := hide (And.intro hln h)
        have hdi : ((Tr.depth f : Nat) : Int) ≤ 24 := by omega
        clear hb1 hal h hl hz hall l200 l300 hln hr1 hrd hok hfl hflat hdep hsame hdp
        go_enter Try.func4, Try.ntmps4
        go_wp2_with fail
        refine HB1.out.mono ?_
        rintro e w' ⟨rfl, rfl⟩
        go_wp2_with fail
        refine HAL.out.mono ?_
        rintro e w1 ⟨rfl, hb1⟩
        have HB := hide hb1
        clear hb1
        go_wp2_with fail
        refine (HR1.out _ HB.out).mono ?_
        rintro e w2 ⟨v, rfl, hrow, hb2⟩
        obtain ⟨A2, c2, rfl, _, _⟩ := hrow.form
        have hbl := below_laid w2 (.cells #[.int .i64 0, .int .i64 0] 27)
        have hbx := heap_alloc_new w2 (.cells #[.int .i64 0, .int .i64 0] 27)
        have y0 := cell_block hbx 0
        have y1 := cell_block hbx 1
        simp only [List.getElem?_toArray, List.getElem?_cons_zero, List.getElem?_cons_succ] at y0 y1
        have hlt : w2.heap.size < (w2.alloc (.cells #[.int .i64 0, .int .i64 0] 27)).heap.size := by simp
        have H2 := hide (And.intro (below_next (below_next HB.out hb2) hbl) (((hrow.holds.more (fun b hb => hb.2)).below hbl).more (fun b hb => Nat.lt_trans hb hlt)))
        clear hrow hb2 hbl hbx
        simp only [outV, outF] at H2 ⊢
        go_wp2_with fail
        generalize w2.alloc (.cells #[.int .i64 0, .int .i64 0] 27) = W at *
        refine (HFLAT.out W W.heap.size A2 _ c2 H2.out.2 (Nat.le_refl _)).mono ?_
        rintro e w3 ⟨v3, rfl, hrow3, _, hb3⟩
        obtain ⟨A3, c3, rfl, _, _⟩ := RowZ.form hrow3
        have ht3 := HasT.of_row hrow3
        rw [HL.out.1] at ht3 ⊢
        have H3 := hide (And.intro ht3 (And.intro (below_next H2.out.1 hb3) (H2.out.2.below hb3 |>.more (fun b hb => Nat.lt_of_lt_of_le hb hb3.size))))
        clear hrow3 hb3 ht3 y0 y1
        go_wp2_with fail
        refine (HSAME.out w3 A3 c3 H3.out.1 ((HL.out.2.below H3.out.2.1).more H3.out.2.1.size)).mono ?_
        rintro e w4 ⟨rfl, hd4⟩
        have hh4 := H3.out.2.2.below (hd4.below w3.heap.size)
        have H4 := hide (And.intro (below_dr H3.out.2.1 hd4) (And.intro hh4 hd4.size))
        clear hd4 hh4
        go_wp2_with fail
        refine (HDEP.out w4 w3.heap.size A2 _ c2 H4.out.2.1 (by have := H4.out.2.2; omega)).mono ?_
        rintro e w5 ⟨rfl, hb5⟩
        have H5 := hide (below_next H4.out.1 hb5)
        clear hb5
        go_wp2_with fail
        refine (alive_any _).mono ?_
        rintro e w6 ⟨rfl, hb6⟩
        have HB6 := hide (below_next H5.out hb6)
        clear hb6
        go_wp2_with fail
        go_ret
        exact ⟨rfl, HB6.out⟩
  · rw [hl] at hb1
    have HB1 := hide hb1
    clear hl hb1 h hz
    go_enter Try.func4, Try.ntmps4
    go_wp2_with fail
    refine HB1.out.mono ?_
    rintro e w' ⟨rfl, rfl⟩
    go_wp2_with fail
    refine (alive_any _).mono ?_
    rintro e w4 ⟨rfl, hb4⟩
    have HB4 := hide hb4
    clear hb4
    go_wp2_with fail
    go_ret
    exact ⟨rfl, HB4.out⟩
end Go.Proofs.Ytokfcnjmgnmncaa
