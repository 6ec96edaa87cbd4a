/- The walk of tree.Flat: the pieces of trees. -/
import Derived.Test.YtokfcnjmgnmncaaTrDepth
import Derived.Test.YtokfcnjmgnmncaaLxText2
namespace Go.Proofs.Ytokfcnjmgnmncaa
open Go.RowKit

theorem Src.of_hasT {w : World} {B : Nat} {A : Option Addr} {n c : Nat} {l : List Lx.T} (h : HasT w B A n l) : Src Try.prog 3 22 (.slice A n c) n (toksV l) w := by
  have hl := toksV_len l
  have h1 : ∀ u ∈ toksV l, u.oneCell' = true := fun u hu => by
    simp only [toksV, List.mem_flatMap] at hu
    obtain ⟨t, _, hu⟩ := hu
    simp [tokV] at hu
    rcases hu with rfl | rfl | rfl <;> rfl
  cases A with
  | some a =>
    refine Src.ofSlice w Try.underlying22 a n c _ (by rw [hl, h.1]) (fun j u hu => ?_) h1
    have hj := (List.getElem?_eq_some_iff.1 hu).1
    obtain ⟨b, off, ha, _, hc⟩ := h.2 (by have := h.1; omega)
    simp only [Option.some.injEq] at ha
    subst ha
    rw [add_plain]
    have hjl : j / 3 < l.length := by omega
    obtain ⟨c0, c1, c2⟩ := hc (j / 3) _ (List.getElem?_eq_getElem hjl)
    obtain ⟨g0, g1, g2⟩ := toksV_get l (j / 3) _ (List.getElem?_eq_getElem hjl)
    have hm : j % 3 = 0 ∨ j % 3 = 1 ∨ j % 3 = 2 := by omega
    rcases hm with hm | hm | hm
    · rw [show j / 3 * 3 = j by omega] at g0 c0
      rw [hu] at g0; rw [c0, ← g0]
    · rw [show j / 3 * 3 + 1 = j by omega] at g1
      rw [show off + j / 3 * 3 + 1 = off + j by omega] at c1
      rw [hu] at g1; rw [c1, ← g1]
    · rw [show j / 3 * 3 + 2 = j by omega] at g2
      rw [show off + j / 3 * 3 + 2 = off + j by omega] at c2
      rw [hu] at g2; rw [c2, ← g2]
  | none =>
    have hn : n = 0 := by
      rcases Nat.eq_zero_or_pos n with h0 | h0
      · exact h0
      · obtain ⟨_, _, he, _⟩ := h.2 h0; cases he
    subst hn
    have hx : l = [] := List.eq_nil_of_length_eq_zero h.1
    subst hx
    exact Src.ofNil w Try.underlying22 c

/-- One byte, as a string. -/
theorem conv_byte (cl : Nat) (hcl : cl ≤ 255) (W : World) : (convert 49 9 (.slice (some ⟨W.heap.size, 0, none⟩) 1 1)).run Try.prog (W.alloc (.cells #[.int .u8 (cl : Nat)] 5)) =
    .ok (.string ⟨#[UInt8.ofNat cl]⟩) (W.alloc (.cells #[.int .u8 (cl : Nat)] 5)) := by
  have hv : bytesV [UInt8.ofNat cl] = [.int .u8 (cl : Nat)] := by
    simp only [bytesV, List.map_cons, List.map_nil, UInt8.toNat_ofNat']
    rw [Nat.mod_eq_of_lt (by omega)]
  have hr := Row.laid W 5 (bytesV [UInt8.ofNat cl]) (by simp [bytesV]; decide)
  rw [bytesV_len] at hr
  have := conv_row (l := [UInt8.ofNat cl]) (n := 1) hr rfl
  rw [hv] at this
  exact this

namespace Tr
theorem flat_step {f : Fo} {o : List Lx.T} {k : Nat} {t : Lx.T} {kf : Fo} {e : Int} (h : o ++ flat (f.drop k) = flat f) (hx : f.get k = some (t, kf, e)) :
    (closer t.kind = 0 → (o ++ [t]) ++ flat (f.drop (k + 1)) = flat f) ∧ (closer t.kind ≠ 0 → ((o ++ [t]) ++ flat kf ++ [⟨closer t.kind, ⟨#[UInt8.ofNat (closer t.kind)]⟩, e⟩]) ++ flat (f.drop (k + 1)) = flat f) := by
  rw [Fo.drop_get f k t kf e hx] at h
  simp only [flat] at h
  constructor
  · intro ho
    rw [if_neg (by omega)] at h
    rw [← h]; simp
  · intro ho
    rw [if_pos ho] at h
    rw [← h]; simp
end Tr

set_option maxRecDepth 100000 in
set_option maxHeartbeats 6400000 in
theorem tflat_any (d : Nat) : ∀ (f : Tr.Fo) (n c B : Nat) (A : Option Addr) (w : World), f.size < d → f.size ≤ 1100000 → Holds w (· < B) f A n c → B ≤ w.heap.size →
    Calls Try.prog 14 #[.slice A n c] w fun e w' => ∃ v, e = .returned v ∧ TokRow w' v (Tr.flat f) ∧ (∀ g, v.ownBlock = some g → w.heap.size ≤ g) ∧ Below w.heap.size w w' := by
  induction d with
  | zero => intro f n c B A w h; omega
  | succ d ih =>
    intro f n c B A w hd hsz h hB
    obtain ⟨it, hit, hzt0, hzt1, hzt2⟩ := info_parts info_tok
    have hlf := Tr.Fo.len_le f
    have hn : n ≤ 1100000 := by have := h.1; omega
    have HLN := hide h.1
    have IH := hide ih
    have H1 := hide h
    have HFL := hide (Tr.flat_len f)
    clear ih h hlf
    go_enter Try.func14, Try.ntmps14
    go_wp2_with fail
    go_loopw [3, 9] (fun v i wr => ∃ (k : Nat) (o : List Lx.T), k ≤ n ∧ i = .int .i64 k ∧ TokRow wr v o ∧ (∀ g, v.ownBlock = some g → w.heap.size ≤ g) ∧ o ++ Tr.flat (f.drop k) = Tr.flat f ∧ Below w.heap.size w wr) (fun _ i _ => n - (intOf i).toNat)
    case atStart => exact ⟨0, [], Nat.zero_le _, rfl, RowZ.nil, (fun g h => by simp [Value.ownBlock] at h), by simp [Tr.Fo.drop], Below.refl _ _⟩
    case round =>
      obtain ⟨k, o, hk, rfl, hrow, hown, hfl, hbw⟩ := hrel
      obtain ⟨Ao, co, rfl, _, _⟩ := RowZ.form hrow
      have HW := hide hbw
      have hol : o.length ≤ 2200000 := by
        have h1 := congrArg List.length hfl
        have h2 := HFL.out
        simp at h1
        omega
      have HR := hide (And.intro hrow hown)
      by_cases hlt : k < n
      · obtain ⟨⟨t, kf, ef⟩, hx⟩ := Tr.Fo.get_lt f k (by have := HLN.out; omega)
        obtain ⟨b, off, rfl, hbB, hcell⟩ := (H1.out.below (hbw.mono hB)).get (by omega)
        obtain ⟨Ak, nk, ck, hkid, d0, d1, d2, d3, d4⟩ := hcell k _ hx
        have hk0 : (k : Int) < n := by omega
        have hk1 : (0 : Int) ≤ k := by omega
        have hszk := Tr.Fo.get_size f k _ hx
        simp only at hkid d0 d1 d2 d3 d4 hszk
        have HST := hide (Tr.flat_step hfl hx)
        have hbl := below_laid wr (.cells #[.int .u8 t.kind, .string t.text, .int .i64 t.pos, .slice Ak nk ck, .int .i64 ef] 37)
        have hbx := heap_alloc_new wr (.cells #[.int .u8 t.kind, .string t.text, .int .i64 t.pos, .slice Ak nk ck, .int .i64 ef] 37)
        have hzU : wr.heap.size < (wr.alloc (.cells #[.int .u8 t.kind, .string t.text, .int .i64 t.pos, .slice Ak nk ck, .int .i64 ef] 37)).heap.size := by simp
        have y0 := cell_block hbx 0
        have y1 := cell_block hbx 1
        have y2 := cell_block hbx 2
        simp only [List.getElem?_toArray, List.getElem?_cons_zero, List.getElem?_cons_succ] at y0 y1 y2
        have HU := hide (And.intro (RowZ.below hrow hbl) (And.intro (HW.out.trans (hbl.mono HW.out.size)) (And.intro hbx (hkid.below (hbl.mono (by have := hbw.size; omega))))))
        have hcl := fun W => tcloser_any t.kind W
        clear hcell hx hfl hbl hbw hkid hrow hown hbx
        go_wp2_with (at_builtin; refine app_rowz rfl (.tmp 13) (.tmp 16) 22 22 rfl 35 it _ 3 32 Try.underlying22 hit hzt0 hzt1 hzt2 rfl (.slice Ao o.length co) o.length (toksV o) rfl (RowZ.below HU.out.1 (below_laid (wr.alloc (.cells #[.int .u8 t.kind, .string t.text, .int .i64 t.pos, .slice Ak nk ck, .int .i64 ef] 37)) (.cells #[.int .u8 t.kind, .string t.text, .int .i64 t.pos] 35))) _ 1 (tokV t) rfl (tok_news (t := t) (by have := heap_alloc_new (wr.alloc (.cells #[.int .u8 t.kind, .string t.text, .int .i64 t.pos, .slice Ak nk ck, .int .i64 ef] 37)) (.cells #[.int .u8 t.kind, .string t.text, .int .i64 t.pos] 35); rwa [World.size_alloc] at this)) (by unfold maxLen; omega) (by omega) ?_)
        intro A4 c4 w4 hrow4 hgr4 hob4
        have hbl2 := below_laid (wr.alloc (.cells #[.int .u8 t.kind, .string t.text, .int .i64 t.pos, .slice Ak nk ck, .int .i64 ef] 37)) (.cells #[.int .u8 t.kind, .string t.text, .int .i64 t.pos] 35)
        generalize wr.alloc (.cells #[.int .u8 t.kind, .string t.text, .int .i64 t.pos, .slice Ak nk ck, .int .i64 ef] 37) = U at *
        have hb4 := grown_new (HU.out.2.1.trans (hbl2.mono HU.out.2.1.size)) hgr4 HR.out.2
        have hob4' : ∀ g, (Value.slice A4 (o.length + 1) c4).ownBlock = some g → w.heap.size ≤ g := fun g hg => by
          rcases hob4 with h | h
          · exact HR.out.2 g (h ▸ hg)
          · rw [h] at hg; have := HW.out.size; simp at hg; omega
        have hrow4' : TokRow w4 (.slice A4 (o.length + 1) c4) (o ++ [t]) := by
          show RowZ w4 _ 3 _ (o ++ [t]).length (toksV (o ++ [t]))
          rw [toksV_snoc, List.length_append]; exact hrow4
        have hsz4 : wr.heap.size < w4.heap.size := by have := hgr4.size; simp at this; omega
        have hf4 : w4.heap[wr.heap.size]? = some (.cells #[.int .u8 t.kind, .string t.text, .int .i64 t.pos, .slice Ak nk ck, .int .i64 ef] 37 (0, 0)) := by
          rw [hgr4.block wr.heap.size (by simp; omega) (fun he => RowZ.ne_type HU.out.1 HU.out.2.2.1 (by decide) he.symm), hbl2.block _ hzU]
          exact HU.out.2.2.1
        have hk4 : Holds w4 (· < B) kf Ak nk ck := HU.out.2.2.2.mono fun b hb => ⟨hb, fun x => by
          have hlb : b < w.heap.size := by omega
          have h1 := HU.out.2.1.size
          have h2 : w4.heap[b]? = U.heap[b]? := by
            rw [hgr4.block b (by rw [World.size_alloc]; omega) (fun he => by have := HR.out.2 b he.symm; omega), hbl2.block _ (by omega)]
          exact World.cell?_of_block h2⟩
        have z0 := cell_block hf4 0
        have z1 := cell_block hf4 1
        have z2 := cell_block hf4 2
        have z3 := cell_block hf4 3
        have z4 := cell_block hf4 4
        simp only [List.getElem?_toArray, List.getElem?_cons_zero, List.getElem?_cons_succ] at z0 z1 z2 z3 z4
        have H4 := hide (And.intro hrow4' (And.intro hob4' (And.intro hb4 (And.intro hf4 hk4))))
        clear hrow4 hgr4 hob4 hbl2 hb4 hob4' hrow4' hf4 hk4 y0 y1 y2
        by_cases ho : Tr.closer t.kind = 0
        · rw [ho] at hcl
          have HCL := hide hcl
          have HN := hide (HST.out.1 ho)
          clear hcl ho
          go_wp2_with fail
          refine (HCL.out _).mono ?_
          rintro e w' ⟨rfl, rfl⟩
          go_wp2_with fail
          exact ⟨⟨k + 1, o ++ [t], by omega, rfl, H4.out.1, H4.out.2.1, HN.out, H4.out.2.2.1⟩, by simp [intOf]; omega⟩
        · have hlc := Tr.closer_range t.kind
          have ho1 : ((Tr.closer t.kind : Nat) : Int) ≠ 0 := by omega
          have HCL := hide hcl
          have HN := hide (HST.out.2 ho)
          have hcv := conv_byte (Tr.closer t.kind) (by omega)
          have hrec := IH.out kf nk ck B Ak w4 (by omega) (by omega) H4.out.2.2.2.2 (by have := H4.out.2.2.1.size; omega)
          have HREC := hide hrec
          have hkl := Tr.flat_len kf
          have hklen : (Tr.flat kf).length ≤ 2200000 := by omega
          generalize Tr.closer t.kind = cl at *
          have HCV := hide hcv
          clear hcl hlc ho hrec hkl hcv
          go_wp2_with fail
          refine (HCL.out _).mono ?_
          rintro e w' ⟨rfl, rfl⟩
          go_wp2_with fail
          refine HREC.out.mono ?_
          rintro e w5 ⟨v5, rfl, hrow5, hown5, hb5⟩
          obtain ⟨A5, c5, rfl, _, _⟩ := RowZ.form hrow5
          have hrow45 : TokRow w5 (.slice A4 (o.length + 1) c4) (o ++ [t]) := RowZ.below H4.out.1 hb5
          have hsrc : Src Try.prog 3 22 (.slice A5 (Tr.flat kf).length c5) (Tr.flat kf).length (toksV (Tr.flat kf)) w5 := Src.of_hasT (HasT.of_row hrow5)
          have hf5 := (hb5.block wr.heap.size hsz4).trans H4.out.2.2.2.1
          have H5 := hide (And.intro hrow45 (And.intro hsrc (And.intro (H4.out.2.2.1.trans (hb5.mono H4.out.2.2.1.size)) (And.intro hf5 hb5.size))))
          clear hrow5 hown5 hb5 hrow45 hsrc hf5 z0 z1 z2 z3 z4
          have hol1 : (o ++ [t]).length = o.length + 1 := by simp
          have HOL := hide hol1
          clear hol1
          go_wp2_with (at_builtin; refine app_rowz rfl (.tmp 24) (.tmp 27) 22 22 rfl 35 it _ 3 32 Try.underlying22 hit hzt0 hzt1 hzt2 rfl (.slice A4 (o.length + 1) c4) (o.length + 1) (toksV (o ++ [t])) rfl (by have := H5.out.1; unfold TokRow at this; rw [HOL.out] at this; exact this) _ (Tr.flat kf).length (toksV (Tr.flat kf)) rfl H5.out.2.1 (by unfold maxLen; omega) (by omega) ?_)
          intro A6 c6 w6 hrow6 hgr6 hob6
          have hb6 := grown_new H5.out.2.2.1 hgr6 H4.out.2.1
          have hob6' : ∀ g, (Value.slice A6 (o.length + 1 + (Tr.flat kf).length) c6).ownBlock = some g → w.heap.size ≤ g := fun g hg => by
            rcases hob6 with h | h
            · exact H4.out.2.1 g (h ▸ hg)
            · rw [h] at hg; have := H5.out.2.2.1.size; simp at hg; omega
          have hlen6 : (o ++ [t] ++ Tr.flat kf).length = o.length + 1 + (Tr.flat kf).length := by simp; omega
          have hrow6' : RowZ w6 35 3 (.slice A6 (o.length + 1 + (Tr.flat kf).length) c6) (o.length + 1 + (Tr.flat kf).length) (toksV (o ++ [t] ++ Tr.flat kf)) := by
            have e1 : toksV (o ++ [t] ++ Tr.flat kf) = toksV (o ++ [t]) ++ toksV (Tr.flat kf) := by simp [toksV]
            rw [e1]; exact hrow6
          have hsz6 : wr.heap.size < w6.heap.size := by have := hgr6.size; have := H5.out.2.2.2.2; omega
          have hf6 : w6.heap[wr.heap.size]? = some (.cells #[.int .u8 t.kind, .string t.text, .int .i64 t.pos, .slice Ak nk ck, .int .i64 ef] 37 (0, 0)) := by
            rw [hgr6.block wr.heap.size (by have := H5.out.2.2.2.2; omega) (fun he => RowZ.ne_type H5.out.1 H5.out.2.2.2.1 (by decide) he.symm)]
            exact H5.out.2.2.2.1
          have z4 := cell_block hf6 4
          simp only [List.getElem?_toArray, List.getElem?_cons_zero, List.getElem?_cons_succ] at z4
          have hcv := HCV.out w6
          have hbA := below_laid w6 (.cells #[.int .u8 (cl : Nat)] 5)
          have hbB := below_laid (w6.alloc (.cells #[.int .u8 (cl : Nat)] 5)) (.cells #[.int .u8 (cl : Nat), .string ⟨#[UInt8.ofNat cl]⟩, .int .i64 ef] 35)
          have hxB := heap_alloc_new (w6.alloc (.cells #[.int .u8 (cl : Nat)] 5)) (.cells #[.int .u8 (cl : Nat), .string ⟨#[UInt8.ofNat cl]⟩, .int .i64 ef] 35)
          rw [World.size_alloc] at hxB
          have H6 := hide (And.intro (RowZ.below (RowZ.below hrow6' hbA) hbB) (And.intro hob6' (And.intro (below_next (hb6.trans (hbA.mono hb6.size)) (hbB.mono (Nat.le_refl _))) (And.intro hxB hlen6))))
          clear hrow6 hgr6 hob6 hb6 hob6' hlen6 hrow6' hf6 hbA hbB hxB
          go_wp2_with (at_builtin; refine app_rowz rfl (.tmp 29) (.tmp 37) 22 22 rfl 35 it _ 3 32 Try.underlying22 hit hzt0 hzt1 hzt2 rfl (.slice A6 (o.length + 1 + (Tr.flat kf).length) c6) (o.length + 1 + (Tr.flat kf).length) (toksV (o ++ [t] ++ Tr.flat kf)) rfl H6.out.1 _ 1 (tokV ⟨cl, ⟨#[UInt8.ofNat cl]⟩, ef⟩) rfl (tok_news (t := ⟨cl, ⟨#[UInt8.ofNat cl]⟩, ef⟩) H6.out.2.2.2.1) (by unfold maxLen; omega) (by omega) ?_)
          intro A7 c7 w7 hrow7 hgr7 hob7
          have hb7 := grown_new H6.out.2.2.1 hgr7 H6.out.2.1
          have hob7' : ∀ g, (Value.slice A7 (o.length + 1 + (Tr.flat kf).length + 1) c7).ownBlock = some g → w.heap.size ≤ g := fun g hg => by
            rcases hob7 with h | h
            · exact H6.out.2.1 g (h ▸ hg)
            · rw [h] at hg; have := H6.out.2.2.1.size; simp at hg this; omega
          have hrow7' : TokRow w7 (.slice A7 (o.length + 1 + (Tr.flat kf).length + 1) c7) (o ++ [t] ++ Tr.flat kf ++ [⟨cl, ⟨#[UInt8.ofNat cl]⟩, ef⟩]) := by
            show RowZ w7 _ 3 _ (o ++ [t] ++ Tr.flat kf ++ [(⟨cl, ⟨#[UInt8.ofNat cl]⟩, ef⟩ : Lx.T)]).length (toksV (o ++ [t] ++ Tr.flat kf ++ [⟨cl, ⟨#[UInt8.ofNat cl]⟩, ef⟩]))
            rw [show o ++ t :: Tr.flat kf = o ++ [t] ++ Tr.flat kf by simp] at hrow7
            rw [toksV_snoc, List.length_append, H6.out.2.2.2.2]; exact hrow7
          have H7 := hide (And.intro hrow7' (And.intro hob7' hb7))
          clear hrow7 hgr7 hob7 hb7 hob7' hrow7'
          go_wp2_with fail
          exact ⟨⟨k + 1, o ++ [t] ++ Tr.flat kf ++ [(⟨cl, ⟨#[UInt8.ofNat cl]⟩, ef⟩ : Lx.T)], by omega, rfl, H7.out.1, H7.out.2.1, HN.out, H7.out.2.2⟩, by simp [intOf]; omega⟩
      · obtain rfl : k = n := by omega
        rw [Tr.Fo.drop_end f k (by have := HLN.out; omega)] at hfl
        simp only [Tr.flat, List.append_nil] at hfl
        subst hfl
        clear hrow hown hbw
        go_wp2_with fail
        go_ret
        exact ⟨_, rfl, HR.out.1, HR.out.2, HW.out⟩
end Go.Proofs.Ytokfcnjmgnmncaa
