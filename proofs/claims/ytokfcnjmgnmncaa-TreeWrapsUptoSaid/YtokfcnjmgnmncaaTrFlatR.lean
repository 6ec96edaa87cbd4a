/- The walk of the document's Flat. -/
import Derived.Test.YtokfcnjmgnmncaaTrFlat
namespace Go.Proofs.Ytokfcnjmgnmncaa
open Go.RowKit

set_option maxRecDepth 100000 in
set_option maxHeartbeats 6400000 in
theorem rflat_any (d : Nat) : ∀ (f : Tr.Fo) (n c B : Nat) (A : Option Addr) (w : World), f.size < d → f.size ≤ 1100000 → Holds w (· < B) f A n c → B ≤ w.heap.size →
    Calls Try.prog 18 #[.slice A n c] w fun e w' => ∃ v, e = .returned v ∧ TokRow w' v (Tr.flat f) ∧ (∀ g, v.ownBlock = some g → w.heap.size ≤ g) ∧ Below w.heap.size w w' := by
  induction d with
  | zero => intro f n c B A w h; omega
  | succ d ih =>
    intro f n c B A w hd hsz h hB
    obtain ⟨it, hit, hzt0, hzt1, hzt2⟩ := info_parts info_tok
    have hlf := Tr.Fo.len_le f
    have hn : n ≤ 1100000 := by have := h.1; omega
    have HLN := hide h.1
    have IH := hide ih
    have H1 := hide h
    have HFL := hide (Tr.flat_len f)
    clear ih h hlf
    go_enter Try.func18, Try.ntmps18
    go_wp2_with fail
    go_loopw [3, 4] (fun v i wr => ∃ (k : Nat) (o : List Lx.T), k ≤ n ∧ i = .int .i64 k ∧ TokRow wr v o ∧ (∀ g, v.ownBlock = some g → w.heap.size ≤ g) ∧ o ++ Tr.flat (f.drop k) = Tr.flat f ∧ Below w.heap.size w wr) (fun _ i _ => n - (intOf i).toNat)
    case atStart => exact ⟨0, [], Nat.zero_le _, rfl, RowZ.nil, (fun g h => by simp [Value.ownBlock] at h), by simp [Tr.Fo.drop], Below.refl _ _⟩
    case round =>
      obtain ⟨k, o, hk, rfl, hrow, hown, hfl, hbw⟩ := hrel
      obtain ⟨Ao, co, rfl, _, _⟩ := RowZ.form hrow
      have HW := hide hbw
      have hol : o.length ≤ 2200000 := by
        have h1 := congrArg List.length hfl
        have h2 := HFL.out
        simp at h1
        omega
      have HR := hide (And.intro hrow hown)
      by_cases hlt : k < n
      · obtain ⟨⟨t, kf, ef⟩, hx⟩ := Tr.Fo.get_lt f k (by have := HLN.out; omega)
        obtain ⟨b, off, rfl, hbB, hcell⟩ := (H1.out.below (hbw.mono hB)).get (by omega)
        obtain ⟨Ak, nk, ck, hkid, d0, d1, d2, d3, d4⟩ := hcell k _ hx
        have hk0 : (k : Int) < n := by omega
        have hk1 : (0 : Int) ≤ k := by omega
        have hszk := Tr.Fo.get_size f k _ hx
        simp only at hkid d0 d1 d2 d3 d4 hszk
        have HST := hide (Tr.flat_step hfl hx)
        have hbw2 : b < w.heap.size := by omega
        have hcl := fun W => rclosing_any t.kind W
        have HD := hide (And.intro d0 (And.intro d1 (And.intro d2 (And.intro d3 (And.intro d4 hkid)))))
        have hbl := below_laid wr (.cells #[.int .u8 t.kind, .string t.text, .int .i64 t.pos] 35)
        have hbx := heap_alloc_new wr (.cells #[.int .u8 t.kind, .string t.text, .int .i64 t.pos] 35)
        have HRL := hide (RowZ.below hrow hbl)
        have HBX := hide hbx
        clear hcell hx hfl hbw hkid hrow hown hbx hbl d3 d4
        go_wp2_with (at_builtin; refine app_rowz rfl (.tmp 12) (.tmp 18) 22 22 rfl 35 it _ 3 32 Try.underlying22 hit hzt0 hzt1 hzt2 rfl (.slice Ao o.length co) o.length (toksV o) rfl HRL.out _ 1 (tokV t) rfl (tok_news (t := t) HBX.out) (by unfold maxLen; omega) (by omega) ?_)
        intro A4 c4 w4 hrow4 hgr4 hob4
        have hbl2 := below_laid wr (.cells #[.int .u8 t.kind, .string t.text, .int .i64 t.pos] 35)
        have hb4 := grown_new (HW.out.trans (hbl2.mono HW.out.size)) hgr4 HR.out.2
        have hob4' : ∀ g, (Value.slice A4 (o.length + 1) c4).ownBlock = some g → w.heap.size ≤ g := fun g hg => by
          rcases hob4 with h | h
          · exact HR.out.2 g (h ▸ hg)
          · rw [h] at hg; have := HW.out.size; simp at hg; omega
        have hrow4' : TokRow w4 (.slice A4 (o.length + 1) c4) (o ++ [t]) := by
          show RowZ w4 _ 3 _ (o ++ [t]).length (toksV (o ++ [t]))
          rw [toksV_snoc, List.length_append]; exact hrow4
        have hold : w4.heap[b]? = wr.heap[b]? := by
          have := HW.out.size
          rw [hgr4.block b (by rw [World.size_alloc]; omega) (fun he => by have := HR.out.2 b he.symm; omega), hbl2.block _ (by omega)]
        have hk4 : Holds w4 (· < B) kf Ak nk ck := HD.out.2.2.2.2.2.mono fun b hb => ⟨hb, fun x => by
          have hlb : b < w.heap.size := by omega
          have h1 := HW.out.size
          have h2 : w4.heap[b]? = wr.heap[b]? := by
            rw [hgr4.block b (by rw [World.size_alloc]; omega) (fun he => by have := HR.out.2 b he.symm; omega), hbl2.block _ (by omega)]
          exact World.cell?_of_block h2⟩
        have z0 : w4.cell? ⟨b, off + k * 5, none⟩ = some (.int .u8 t.kind) := (World.cell?_of_block (a := ⟨b, off + k * 5, none⟩) hold).trans HD.out.1
        have z3 : w4.cell? ⟨b, off + k * 5 + 3, none⟩ = some (.slice Ak nk ck) := (World.cell?_of_block (a := ⟨b, off + k * 5 + 3, none⟩) hold).trans HD.out.2.2.2.1
        have z4 : w4.cell? ⟨b, off + k * 5 + 4, none⟩ = some (.int .i64 ef) := (World.cell?_of_block (a := ⟨b, off + k * 5 + 4, none⟩) hold).trans HD.out.2.2.2.2.1
        have H4 := hide (And.intro hrow4' (And.intro hob4' (And.intro hb4 (And.intro z4 hk4))))
        clear hrow4 hgr4 hob4 hbl2 hb4 hob4' hrow4' hold hk4 d0 d1 d2 z4
        by_cases ho : Tr.closer t.kind = 0
        · rw [ho] at hcl
          have HCL := hide hcl
          have HN := hide (HST.out.1 ho)
          clear hcl ho
          go_wp2_with fail
          refine (HCL.out _).mono ?_
          rintro e w' ⟨rfl, rfl⟩
          go_wp2_with fail
          exact ⟨⟨k + 1, o ++ [t], by omega, rfl, H4.out.1, H4.out.2.1, HN.out, H4.out.2.2.1⟩, by simp [intOf]; omega⟩
        · have hlc := Tr.closer_range t.kind
          have ho1 : ((Tr.closer t.kind : Nat) : Int) ≠ 0 := by omega
          have HCL := hide hcl
          have HN := hide (HST.out.2 ho)
          have hcv := conv_byte (Tr.closer t.kind) (by omega)
          have hrec := IH.out kf nk ck B Ak w4 (by omega) (by omega) H4.out.2.2.2.2 (by have := H4.out.2.2.1.size; omega)
          have HREC := hide hrec
          have hkl := Tr.flat_len kf
          have hklen : (Tr.flat kf).length ≤ 2200000 := by omega
          generalize Tr.closer t.kind = cl at *
          have HCV := hide hcv
          clear hcl hlc ho hrec hkl hcv
          go_wp2_with fail
          refine (HCL.out _).mono ?_
          rintro e w' ⟨rfl, rfl⟩
          go_wp2_with fail
          refine HREC.out.mono ?_
          rintro e w5 ⟨v5, rfl, hrow5, hown5, hb5⟩
          obtain ⟨A5, c5, rfl, _, _⟩ := RowZ.form hrow5
          have hrow45 : TokRow w5 (.slice A4 (o.length + 1) c4) (o ++ [t]) := RowZ.below H4.out.1 hb5
          have hsrc : Src Try.prog 3 22 (.slice A5 (Tr.flat kf).length c5) (Tr.flat kf).length (toksV (Tr.flat kf)) w5 := Src.of_hasT (HasT.of_row hrow5)
          have e4 := (hb5.cell (p := ⟨b, off + k * 5 + 4, none⟩) (by have := H4.out.2.2.1.size; show b < _; omega)).trans H4.out.2.2.2.1
          have H5 := hide (And.intro hrow45 (And.intro hsrc (And.intro (H4.out.2.2.1.trans (hb5.mono H4.out.2.2.1.size)) (And.intro e4 hb5.size))))
          clear hrow5 hown5 hb5 hrow45 hsrc e4 z0 z3
          have hol1 : (o ++ [t]).length = o.length + 1 := by simp
          have HOL := hide hol1
          clear hol1
          go_wp2_with (at_builtin; refine app_rowz rfl (.tmp 29) (.tmp 35) 22 22 rfl 35 it _ 3 32 Try.underlying22 hit hzt0 hzt1 hzt2 rfl (.slice A4 (o.length + 1) c4) (o.length + 1) (toksV (o ++ [t])) rfl (by have := H5.out.1; unfold TokRow at this; rw [HOL.out] at this; exact this) _ (Tr.flat kf).length (toksV (Tr.flat kf)) rfl H5.out.2.1 (by unfold maxLen; omega) (by omega) ?_)
          intro A6 c6 w6 hrow6 hgr6 hob6
          have hb6 := grown_new H5.out.2.2.1 hgr6 H4.out.2.1
          have hob6' : ∀ g, (Value.slice A6 (o.length + 1 + (Tr.flat kf).length) c6).ownBlock = some g → w.heap.size ≤ g := fun g hg => by
            rcases hob6 with h | h
            · exact H4.out.2.1 g (h ▸ hg)
            · rw [h] at hg; have := H5.out.2.2.1.size; simp at hg; omega
          have hlen6 : (o ++ [t] ++ Tr.flat kf).length = o.length + 1 + (Tr.flat kf).length := by simp; omega
          have hrow6' : RowZ w6 35 3 (.slice A6 (o.length + 1 + (Tr.flat kf).length) c6) (o.length + 1 + (Tr.flat kf).length) (toksV (o ++ [t] ++ Tr.flat kf)) := by
            have e1 : toksV (o ++ [t] ++ Tr.flat kf) = toksV (o ++ [t]) ++ toksV (Tr.flat kf) := by simp [toksV]
            rw [e1]; exact hrow6
          have z4 : w6.cell? ⟨b, off + k * 5 + 4, none⟩ = some (.int .i64 ef) := (World.cell?_of_block (a := ⟨b, off + k * 5 + 4, none⟩) (hgr6.block b (by have := H5.out.2.2.1.size; show b < _; omega) (fun he => by have := H4.out.2.1 b he.symm; omega))).trans H5.out.2.2.2.1
          have hcv := HCV.out w6.drew
          have hb6s : b < w6.heap.size := by have := hb6.size; omega
          have H6 := hide (And.intro hrow6' (And.intro hob6' (And.intro hb6 hlen6)))
          clear hrow6 hgr6 hob6 hb6 hob6' hlen6 hrow6'
          go_wp2_with fail
          refine wp_region_chain [0, 1, 2, 5, 6, 7, 8, 9] [(3, true), (4, true), (10, true), (11, true), (12, true), (13, true)] (fun w' => w'.cell? ⟨b, off + k * 5 + 4, none⟩ = some (.int .i64 ef)) (by kernel_rfl) (by kernel_rfl) (fun _ _ _ _ _ h => h) z4 ?_
          intro hne
          simp only [picks, picksW, List.filterMap_cons, List.filterMap_nil, List.getElem?_cons_zero, List.getElem?_cons_succ, Option.map_some]
          have hu4 : ∀ u : HoldW (fun w' => w'.cell? ⟨b, off + k * 5 + 4, none⟩ = some (.int .i64 ef)), u.w.cell? ⟨b, off + k * 5 + 4, none⟩ = some (.int .i64 ef) := fun u => u.ok
          repeat (refine wpHeld_step (fun K hK => ?_); go_simp; refine hK _ ?_; clear hK K)
          refine wpHeld_nil ?_
          clear hu4 hne
          refine wpChain_cons fun K hK => ?_
          go_wp2_with fail
          have hcv7 : (convert 49 9 (.slice (some ⟨w6.heap.size, 0, none⟩) 1 1)).run Try.prog (w6.alloc (.cells #[.int .u8 (cl : Nat)] 5)).drew = .ok (.string ⟨#[UInt8.ofNat cl]⟩) (w6.alloc (.cells #[.int .u8 (cl : Nat)] 5)).drew := hcv
          have z47 : (w6.alloc (.cells #[.int .u8 (cl : Nat)] 5)).drew.cell? ⟨b, off + k * 5 + 4, none⟩ = some (.int .i64 ef) := (World.cell?_alloc_lt w6 _ ⟨b, off + k * 5 + 4, none⟩ hb6s).trans z4
          have hbA := below_laidD w6 (.cells #[.int .u8 (cl : Nat)] 5)
          have hb7s : b < (w6.alloc (.cells #[.int .u8 (cl : Nat)] 5)).drew.heap.size := Nat.lt_of_lt_of_le hb6s hbA.size
          have hsz7 : (w6.alloc (.cells #[.int .u8 (cl : Nat)] 5)).drew.heap.size = w6.heap.size + 1 := World.size_alloc _ _
          have HSZ7 := hide hsz7
          have H7 := hide (And.intro (RowZ.below H6.out.1 hbA) (H6.out.2.2.1.trans (hbA.mono H6.out.2.2.1.size)))
          clear hcv z4 hbA hsz7
          generalize (w6.alloc (.cells #[.int .u8 (cl : Nat)] 5)).drew = W7 at *
          refine chainF (fun _ => z47) (hK _ _ ?_)
          clear hK K
          refine wpChain_cons fun K hK => ?_
          go_wp2_with fail
          refine chainF (fun _ => z47) (hK _ _ ?_)
          clear hK K
          refine wpChain_cons fun K hK => ?_
          go_wp2_with fail
          refine chainF (fun _ => z47) (hK _ _ ?_)
          clear hK K hcv7
          refine wpChain_cons fun K hK => ?_
          go_wp2_with fail
          refine chainF (fun _ => (World.cell?_alloc_lt W7 _ ⟨b, off + k * 5 + 4, none⟩ hb7s).trans z47) (hK _ _ ?_)
          clear hK K
          refine wpChain_cons fun K hK => ?_
          have hbB := below_laid W7 (.cells #[.int .u8 (cl : Nat), .string ⟨#[UInt8.ofNat cl]⟩, .int .i64 ef] 35)
          have hxB := heap_alloc_new W7 (.cells #[.int .u8 (cl : Nat), .string ⟨#[UInt8.ofNat cl]⟩, .int .i64 ef] 35)
          have hrB := RowZ.below H7.out.1 hbB
          refine app_rowz rfl (.tmp 37) (.tmp 48) 22 22 rfl 35 it _ 3 32 Try.underlying22 hit hzt0 hzt1 hzt2 rfl (.slice A6 (o.length + 1 + (Tr.flat kf).length) c6) (o.length + 1 + (Tr.flat kf).length) (toksV (o ++ [t] ++ Tr.flat kf)) rfl hrB _ 1 (tokV ⟨cl, ⟨#[UInt8.ofNat cl]⟩, ef⟩) rfl (tok_news (t := ⟨cl, ⟨#[UInt8.ofNat cl]⟩, ef⟩) hxB) (by unfold maxLen; omega) (by omega) ?_
          intro A7 c7 w7 hrow7 hgr7 hob7
          have hb7 := grown_new (H7.out.2.trans (hbB.mono H7.out.2.size)) hgr7 H6.out.2.1
          have hob7' : ∀ g, (Value.slice A7 (o.length + 1 + (Tr.flat kf).length + 1) c7).ownBlock = some g → w.heap.size ≤ g := fun g hg => by
            rcases hob7 with h | h
            · exact H6.out.2.1 g (h ▸ hg)
            · rw [h] at hg; have := H7.out.2.size; simp at hg this; omega
          have hrow7' : TokRow w7 (.slice A7 (o.length + 1 + (Tr.flat kf).length + 1) c7) (o ++ [t] ++ Tr.flat kf ++ [⟨cl, ⟨#[UInt8.ofNat cl]⟩, ef⟩]) := by
            show RowZ w7 _ 3 _ (o ++ [t] ++ Tr.flat kf ++ [(⟨cl, ⟨#[UInt8.ofNat cl]⟩, ef⟩ : Lx.T)]).length (toksV (o ++ [t] ++ Tr.flat kf ++ [(⟨cl, ⟨#[UInt8.ofNat cl]⟩, ef⟩ : Lx.T)]))
            rw [toksV_snoc, List.length_append, H6.out.2.2.2]; exact hrow7
          have z77 : w7.cell? ⟨b, off + k * 5 + 4, none⟩ = some (.int .i64 ef) := (World.cell?_of_block (a := ⟨b, off + k * 5 + 4, none⟩) (hgr7.block b (by have := hbB.size; omega) (fun he => by have := H6.out.2.1 b he.symm; omega))).trans ((hbB.cell (p := ⟨b, off + k * 5 + 4, none⟩) hb7s).trans z47)
          have HN7 := hide (And.intro hrow7' (And.intro hob7' hb7))
          clear hrow7 hgr7 hob7 hb7 hob7' hrow7' hbB hxB hrB
          go_wp2_with fail
          refine chainF (fun _ => z77) (hK _ _ ?_)
          clear hK K
          refine wpChain_cons fun K hK => ?_
          go_wp2_with fail
          refine chainF (fun _ => z77) (hK _ _ ?_)
          clear hK K
          refine wpChain_nil ?_
          go_wp2_with fail
          exact ⟨⟨k + 1, o ++ [t] ++ Tr.flat kf ++ [(⟨cl, ⟨#[UInt8.ofNat cl]⟩, ef⟩ : Lx.T)], by omega, rfl, HN7.out.1, HN7.out.2.1, HN.out, HN7.out.2.2⟩, by simp [intOf]; omega⟩
      · obtain rfl : k = n := by omega
        rw [Tr.Fo.drop_end f k (by have := HLN.out; omega)] at hfl
        simp only [Tr.flat, List.append_nil] at hfl
        subst hfl
        clear hrow hown hbw
        go_wp2_with fail
        go_ret
        exact ⟨_, rfl, HR.out.1, HR.out.2, HW.out⟩
end Go.Proofs.Ytokfcnjmgnmncaa
