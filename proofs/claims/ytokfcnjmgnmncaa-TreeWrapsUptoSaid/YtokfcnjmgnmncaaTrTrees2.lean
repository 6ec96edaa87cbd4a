/- The walk of the document's trees, and of its Read. -/
import Derived.Test.YtokfcnjmgnmncaaTrTrees
namespace Go.Proofs.Ytokfcnjmgnmncaa
open Go.RowKit

/-- What the loop has, at its heads. -/
def TreesRel (l : List Lx.T) (w wr : World) (k : Nat) (f : Tr.Fo) (j : Nat) (vo : Value) (o : Tr.Fo) : Prop :=
  (∃ f', Tr.Bal l j k f' ∧ o.app f' = f) ∧ TreeRow wr (fun b => w.heap.size ≤ b ∧ b < wr.heap.size) vo o ∧ Below w.heap.size w wr ∧ o.len ≤ j

set_option maxRecDepth 100000 in
set_option maxHeartbeats 8000000 in
theorem rtrees_any (n c B : Nat) (A : Option Addr) (l : List Lx.T) (hn : n ≤ 1100000) (d : Nat) : ∀ (i k : Nat) (f : Tr.Fo) (w : World), k - i < d → Tr.Bal l i k f → k ≤ n → HasT w B A n l → B ≤ w.heap.size →
    Calls Try.prog 25 #[.slice A n c, .int .i64 i, .int .i64 k] w fun e w' =>
      ∃ v, e = .returned v ∧ TreeRow w' (fun b => w.heap.size ≤ b ∧ b < w'.heap.size) v f ∧ Below w.heap.size w w' := by
  induction d with
  | zero => intro i k f w hd; omega
  | succ d ih =>
    intro i k f w hd hbal hk h hB
    obtain ⟨it, hit, hzt0, hzt1, hzt2⟩ := info_parts info_tree
    have hik := hbal.le
    have HH := hide (h.more hB)
    have HH0 := hide h
    have HBAL := hide hbal
    have IH := hide ih
    clear h hbal ih
    go_enter Try.func25, Try.ntmps25
    go_wp2_with fail
    go_loopw [7, 8] (fun vo vi wr => ∃ (j : Nat) (o : Tr.Fo), i ≤ j ∧ j ≤ k ∧ vi = .int .i64 j ∧ TreesRel l w wr k f j vo o) (fun _ vi _ => k - (intOf vi).toNat)
    case atStart => exact ⟨i, .nil, Nat.le_refl _, hik, rfl, ⟨f, HBAL.out, rfl⟩, TreeRow.nil, Below.refl _ _, Nat.zero_le _⟩
    case round =>
      obtain ⟨j, o, hij, hjk, rfl, ⟨f', hbal, happ⟩, hrow, hbw, hol⟩ := hrel
      obtain ⟨Ao, co, rfl, hco, hcom⟩ := hrow.form
      unfold maxLen at hcom
      have HBW := hide hbw
      have HROW := hide hrow
      have hln := HH.out.1
      by_cases hlt : j < k
      · obtain ⟨t, ht⟩ : ∃ t, l[j]? = some t := ⟨l[j]'(by omega), List.getElem?_eq_getElem _⟩
        obtain ⟨b, off, rfl, hbB, hcell⟩ := (HH.out.below hbw).2 (by omega)
        obtain ⟨d0, d1, d2⟩ := hcell j t ht
        have hk0 : (j : Int) < k := by omega
        have hk1 : (0 : Int) ≤ j := by omega
        have hk2 : (j : Int) < n := by omega
        have HCELL := hide hcell
        have HAPP := hide happ
        have HBAL' := hide hbal
        have HLN := hide hln
        have hbr : b < wr.heap.size := by have := hbw.size; omega
        clear hcell happ hbal hrow hbw hln
        go_wp2_with fail
        refine wp_region_chain [0, 1, 2, 3, 4, 5, 6, 7, 8, 9] [(10, true), (11, false)] (fun w' => w'.cell? ⟨b, off + j * 3, none⟩ = some (.int .u8 t.kind) ∧ w'.cell? ⟨b, off + j * 3 + 1, none⟩ = some (.string t.text) ∧ w'.cell? ⟨b, off + j * 3 + 2, none⟩ = some (.int .i64 t.pos)) (by kernel_rfl) (by kernel_rfl) (fun _ _ _ _ _ h => h) ⟨d0, d1, d2⟩ ?_
        intro hne
        simp only [picks, picksW, List.filterMap_cons, List.filterMap_nil, List.getElem?_cons_zero, List.getElem?_cons_succ, Option.map_some]
        have hu0 : ∀ u : HoldW (fun w' => w'.cell? ⟨b, off + j * 3, none⟩ = some (.int .u8 t.kind) ∧ w'.cell? ⟨b, off + j * 3 + 1, none⟩ = some (.string t.text) ∧ w'.cell? ⟨b, off + j * 3 + 2, none⟩ = some (.int .i64 t.pos)), u.w.cell? ⟨b, off + j * 3, none⟩ = some (.int .u8 t.kind) := fun u => u.ok.1
        have hu1 : ∀ u : HoldW (fun w' => w'.cell? ⟨b, off + j * 3, none⟩ = some (.int .u8 t.kind) ∧ w'.cell? ⟨b, off + j * 3 + 1, none⟩ = some (.string t.text) ∧ w'.cell? ⟨b, off + j * 3 + 2, none⟩ = some (.int .i64 t.pos)), u.w.cell? ⟨b, off + j * 3 + 1, none⟩ = some (.string t.text) := fun u => u.ok.2.1
        have hu2 : ∀ u : HoldW (fun w' => w'.cell? ⟨b, off + j * 3, none⟩ = some (.int .u8 t.kind) ∧ w'.cell? ⟨b, off + j * 3 + 1, none⟩ = some (.string t.text) ∧ w'.cell? ⟨b, off + j * 3 + 2, none⟩ = some (.int .i64 t.pos)), u.w.cell? ⟨b, off + j * 3 + 2, none⟩ = some (.int .i64 t.pos) := fun u => u.ok.2.2
        repeat (refine wpHeld_step (fun K hK => ?_); go_simp; refine hK _ ?_; clear hK K)
        refine wpHeld_nil ?_
        clear hu0 hu1 hu2 hne
        refine wpChain_cons fun K hK => ?_
        go_wp2_with fail
        refine chainF (fun _ => ⟨(World.cell?_alloc_lt _ _ ⟨b, off + j * 3, none⟩ hbr).trans d0, (World.cell?_alloc_lt _ _ ⟨b, off + j * 3 + 1, none⟩ hbr).trans d1, (World.cell?_alloc_lt _ _ ⟨b, off + j * 3 + 2, none⟩ hbr).trans d2⟩) (hK _ _ ?_)
        clear hK K
        refine wpChain_cons fun K hK => ?_
        go_wp2_with fail
        refine chainSkip (hK _ _ ?_)
        clear hK K
        refine wpChain_nil ?_
        have hbU : Below wr.heap.size wr (wr.alloc (.cells #[.int .u8 t.kind, .string t.text, .int .i64 t.pos, .slice none 0 0, .int .i64 t.pos] 37)).drew := below_laidD wr _
        have hblkU : (wr.alloc (.cells #[.int .u8 t.kind, .string t.text, .int .i64 t.pos, .slice none 0 0, .int .i64 t.pos] 37)).drew.heap[wr.heap.size]? = some (.cells #[.int .u8 t.kind, .string t.text, .int .i64 t.pos, .slice none 0 0, .int .i64 t.pos] 37 (0, 0)) := heap_alloc_new wr _
        have hszU : wr.heap.size < (wr.alloc (.cells #[.int .u8 t.kind, .string t.text, .int .i64 t.pos, .slice none 0 0, .int .i64 t.pos] 37)).drew.heap.size := by show _ < (wr.alloc _).heap.size; simp
        generalize (wr.alloc (.cells #[.int .u8 t.kind, .string t.text, .int .i64 t.pos, .slice none 0 0, .int .i64 t.pos] 37)).drew = U at *
        have y0 := cell_block hblkU 0
        have y1 := cell_block hblkU 1
        have y2 := cell_block hblkU 2
        have y3 := cell_block hblkU 3
        have y4 := cell_block hblkU 4
        simp only [List.getElem?_toArray, List.getElem?_cons_zero, List.getElem?_cons_succ] at y0 y1 y2 y3 y4
        have e0 : U.cell? ⟨b, off + j * 3, none⟩ = some (.int .u8 t.kind) := (hbU.cell (p := ⟨b, off + j * 3, none⟩) hbr).trans d0
        have HU := hide (And.intro hbU (And.intro hblkU hszU))
        clear d0 d1 d2 hbU hblkU hszU
        have hcl := fun W => rclosing_any t.kind W
        have hbal := HBAL'.out
        cases hbal with
        | nil => omega
        | @plain _ _ t' f'' ht' ho hc hb' =>
          have htt : t' = t := by rw [ht] at ht'; exact (Option.some.inj ht').symm
          subst htt
          rw [ho] at hcl
          have HCL := hide hcl
          have HB' := hide hb'
          clear hcl ho hc hb' ht ht'
          have hrU : TreeRow U (fun b => w.heap.size ≤ b ∧ b < wr.heap.size) (.slice Ao o.len co) o := HROW.out.keep fun b hb => ⟨hb, HU.out.1.block b hb.2⟩
          have hrV := hrU.keep (ok' := fun b => w.heap.size ≤ b ∧ b < wr.heap.size) (w' := U.alloc (.cells #[.int .u8 t'.kind, .string t'.text, .int .i64 t'.pos, .slice none 0 0, .int .i64 t'.pos] 37)) fun b hb => ⟨hb, (below_laid U _).block b (by have := HU.out.2.2; omega)⟩
          obtain ⟨xs, r1, r2, r3⟩ := hrV
          have HX := hide (And.intro r1 (And.intro r2 r3))
          clear r1 r2 r3 hrU
          go_wp2_with fail
          refine (HCL.out _).mono ?_
          rintro e w' ⟨rfl, rfl⟩
          go_wp2_with (at_builtin; refine app_rowz rfl (.tmp 50) (.tmp 52) 25 25 rfl 37 it _ 5 64 Try.underlying25 hit hzt0 hzt1 hzt2 rfl (.slice Ao o.len co) o.len xs rfl HX.out.1 _ 1 (treeV t' none 0 0 t'.pos) rfl (tree_news (heap_alloc_new U _)) (by unfold maxLen; omega) (by omega) ?_)
          intro A4 c4 w4 hrow4 hgr4 hob4
          have hob5 : (Value.slice A4 (o.len + 1) c4).ownBlock = (Value.slice Ao o.len co).ownBlock ∨ (Value.slice A4 (o.len + 1) c4).ownBlock = some (U.alloc (.cells #[.int .u8 t'.kind, .string t'.text, .int .i64 t'.pos, .slice none 0 0, .int .i64 t'.pos] 37)).heap.size := by rw [World.size_alloc]; exact hob4
          have hwsz := HBW.out.size
          have husz := HU.out.2.2
          have hg4 := hgr4.size
          have hr4 := RowZ.lt hrow4
          rw [World.size_alloc] at hg4
          have hnew := TreeRow.snoc (t := t') (k := .nil) (e := t'.pos) (okk := fun _ => False) (ok' := fun b => w.heap.size ≤ b ∧ b < w4.heap.size) HX.out.2.1 HX.out.2.2 ⟨rfl, Nat.le_refl _, Nat.zero_le _, fun h => absurd h (Nat.lt_irrefl 0)⟩ hgr4 hrow4 hob5 (fun b hb => ⟨⟨hb.1, by have := hb.2; omega⟩, by rw [World.size_alloc]; have := hb.2; omega⟩) (fun b hb => hb.elim) (fun hn => ⟨by rw [World.size_alloc]; omega, hr4 _ hn⟩)
          have hbn := grown_new (w := w) (HBW.out.trans ((HU.out.1.trans ((below_laid U (.cells #[.int .u8 t'.kind, .string t'.text, .int .i64 t'.pos, .slice none 0 0, .int .i64 t'.pos] 37)).mono HU.out.1.size)).mono HBW.out.size)) hgr4 (fun g hg => (HX.out.2.1 g hg).1)
          have HN := hide (And.intro hnew hbn)
          clear hrow4 hgr4 hob4 hob5 hnew hbn hg4 hr4 hwsz husz
          go_wp2_with fail
          exact ⟨⟨j + 1, _, by omega, by omega, rfl, ⟨f'', HB'.out, by rw [Tr.Fo.snoc_app]; exact HAPP.out⟩, HN.out.1, HN.out.2, by rw [Tr.Fo.len_snoc]; omega⟩, by simp [intOf]; omega⟩
        | @brack _ m _ t' u g f'' ht' ho hg hu hkk hb' =>
          have htt : t' = t := by rw [ht] at ht'; exact (Option.some.inj ht').symm
          subst htt
          have hlc := Tr.closer_range t'.kind
          have ho1 : ((Tr.closer t'.kind : Nat) : Int) ≠ 0 := by omega
          have hmk := hb'.le
          have hjm := hg.le
          have hmn : m < n := by have := (List.getElem?_eq_some_iff.1 hu).1; have := HLN.out; omega
          have hpart := Tr.part_at ht' ho hg hu hkk (n - j) (by have := HLN.out; omega)
          have hpa := fun W (hW : HasT W w.heap.size (some ⟨b, off, none⟩) n l) => rpartner_any n c w.heap.size j m (some ⟨b, off, none⟩) l W hW hn (by omega) hpart
          have HPA := hide hpa
          have htr := IH.out (j + 1) m g
          rw [show ((j + 1 : Nat) : Int) = (j : Int) + 1 by omega] at htr
          have HTR := hide htr
          have HCL := hide hcl
          have HB' := hide (And.intro hb' hg)
          obtain ⟨v0, v1, v2⟩ := HCELL.out m u hu
          have HV := hide (And.intro v0 (And.intro v1 v2))
          clear hcl hlc hpa hpart htr hb' hg ht ht' hu v0 v1 v2 hkk
          go_wp2_with fail
          refine (HCL.out _).mono ?_
          rintro e w' ⟨rfl, rfl⟩
          go_wp2_with fail
          refine (HPA.out _ (HH.out.below (HBW.out.trans (HU.out.1.mono HBW.out.size)))).mono ?_
          rintro e w' ⟨rfl, rfl⟩
          go_wp2_with fail
          refine (HTR.out U (by omega) HB'.out.2 (by omega) (HH0.out.below ((HBW.out.trans (HU.out.1.mono HBW.out.size)).mono hB)) (by have := HU.out.1.size; have := HBW.out.size; omega)).mono ?_
          rintro e w2 ⟨v, rfl, hrowk, hb2⟩
          obtain ⟨Ak, ck, rfl, hck, hckm⟩ := hrowk.form
          have hblk2 := (hb2.block wr.heap.size HU.out.2.2).trans HU.out.2.1
          have hwsz := HBW.out.size
          have husz := HU.out.2.2
          have hw2sz := hb2.size
          have z0 := cell_block hblk2 0
          have z1 := cell_block hblk2 1
          have z2 := cell_block hblk2 2
          have z3 := cell_block hblk2 3
          have z4 := cell_block hblk2 4
          simp only [List.getElem?_toArray, List.getElem?_cons_zero, List.getElem?_cons_succ] at z0 z1 z2 z3 z4
          have f3 := frozen_of_row _ wr.heap.size 3 _ _ hblk2
          have f4 := frozen_of_row _ wr.heap.size 4 _ _ hblk2
          have hb02 : Below wr.heap.size wr w2 := HU.out.1.trans (hb2.mono (by omega))
          have v2 := (hb02.cell (p := ⟨b, off + m * 3 + 2, none⟩) hbr).trans HV.out.2.2
          have hb3 : Below wr.heap.size wr ((w2.setCell ⟨wr.heap.size, 3, none⟩ (.slice Ak g.len ck)).setCell ⟨wr.heap.size, 4, none⟩ (.int .i64 u.pos)) := (hb02.setCell (by exact Nat.le_refl _) _).setCell (by exact Nat.le_refl _) _
          have hblk3 : ((w2.setCell ⟨wr.heap.size, 3, none⟩ (.slice Ak g.len ck)).setCell ⟨wr.heap.size, 4, none⟩ (.int .i64 u.pos)).heap[wr.heap.size]? = some (.cells #[.int .u8 t'.kind, .string t'.text, .int .i64 t'.pos, .slice Ak g.len ck, .int .i64 u.pos] 37 (0, 0)) := by
            have h1 := heap_setCell_same w2 wr.heap.size 3 _ _ (.slice Ak g.len ck) hblk2
            have h2 := heap_setCell_same _ wr.heap.size 4 _ _ (.int .i64 u.pos) h1
            rw [h2]; rfl
          have t0 := cell_block hblk3 0
          have t1 := cell_block hblk3 1
          have t2 := cell_block hblk3 2
          have t3 := cell_block hblk3 3
          have t4 := cell_block hblk3 4
          simp only [List.getElem?_toArray, List.getElem?_cons_zero, List.getElem?_cons_succ] at t0 t1 t2 t3 t4
          have hkid : TreeRow ((w2.setCell ⟨wr.heap.size, 3, none⟩ (.slice Ak g.len ck)).setCell ⟨wr.heap.size, 4, none⟩ (.int .i64 u.pos)) (fun b => U.heap.size ≤ b ∧ b < w2.heap.size) (.slice Ak g.len ck) g := hrowk.keep fun b hb => ⟨hb, (Below.heap_setCell _ ⟨wr.heap.size, 4, none⟩ _ b (by have := hb.1; show b ≠ wr.heap.size; omega)).trans (Below.heap_setCell w2 ⟨wr.heap.size, 3, none⟩ _ b (by have := hb.1; show b ≠ wr.heap.size; omega))⟩
          have hsz3 : ((w2.setCell ⟨wr.heap.size, 3, none⟩ (.slice Ak g.len ck)).setCell ⟨wr.heap.size, 4, none⟩ (.int .i64 u.pos)).heap.size = w2.heap.size := by simp
          have hbl4 := below_laid ((w2.setCell ⟨wr.heap.size, 3, none⟩ (.slice Ak g.len ck)).setCell ⟨wr.heap.size, 4, none⟩ (.int .i64 u.pos)) (.cells #[.int .u8 t'.kind, .string t'.text, .int .i64 t'.pos, .slice Ak g.len ck, .int .i64 u.pos] 37)
          have hblk4 : (((w2.setCell ⟨wr.heap.size, 3, none⟩ (.slice Ak g.len ck)).setCell ⟨wr.heap.size, 4, none⟩ (.int .i64 u.pos)).alloc (.cells #[.int .u8 t'.kind, .string t'.text, .int .i64 t'.pos, .slice Ak g.len ck, .int .i64 u.pos] 37)).heap[w2.heap.size]? = some (.cells #[.int .u8 t'.kind, .string t'.text, .int .i64 t'.pos, .slice Ak g.len ck, .int .i64 u.pos] 37 (0, 0)) := by
            have := heap_alloc_new ((w2.setCell ⟨wr.heap.size, 3, none⟩ (.slice Ak g.len ck)).setCell ⟨wr.heap.size, 4, none⟩ (.int .i64 u.pos)) (.cells #[.int .u8 t'.kind, .string t'.text, .int .i64 t'.pos, .slice Ak g.len ck, .int .i64 u.pos] 37)
            rwa [hsz3] at this
          have hkid4 := (hkid.keep (ok' := fun b => U.heap.size ≤ b ∧ b < w2.heap.size) (w' := ((w2.setCell ⟨wr.heap.size, 3, none⟩ (.slice Ak g.len ck)).setCell ⟨wr.heap.size, 4, none⟩ (.int .i64 u.pos)).alloc (.cells #[.int .u8 t'.kind, .string t'.text, .int .i64 t'.pos, .slice Ak g.len ck, .int .i64 u.pos] 37)) fun b hb => ⟨hb, hbl4.block b (by rw [hsz3]; exact hb.2)⟩).holds
          have hrV := HROW.out.keep (ok' := fun b => w.heap.size ≤ b ∧ b < wr.heap.size) (w' := ((w2.setCell ⟨wr.heap.size, 3, none⟩ (.slice Ak g.len ck)).setCell ⟨wr.heap.size, 4, none⟩ (.int .i64 u.pos)).alloc (.cells #[.int .u8 t'.kind, .string t'.text, .int .i64 t'.pos, .slice Ak g.len ck, .int .i64 u.pos] 37)) fun b hb => ⟨hb, (hbl4.block b (by rw [hsz3]; have := hb.2; omega)).trans (hb3.block b hb.2)⟩
          obtain ⟨xs, r1, r2, r3⟩ := hrV
          have HX := hide (And.intro r1 (And.intro r2 r3))
          have HB4 := hide (And.intro (hb3.trans (hbl4.mono (by rw [hsz3]; omega))) (And.intro hblk4 hkid4))
          have HSZ := hide (And.intro hwsz (And.intro husz (And.intro hw2sz hsz3)))
          clear r1 r2 r3 hblk2 hrowk hb2 hb02 hb3 hblk3 hkid hbl4 hblk4 hkid4 hwsz husz hw2sz hsz3 y0 y1 y2 y3 y4 e0
          go_wp2_with (at_builtin; refine app_rowz rfl (.tmp 50) (.tmp 52) 25 25 rfl 37 it _ 5 64 Try.underlying25 hit hzt0 hzt1 hzt2 rfl (.slice Ao o.len co) o.len xs rfl HX.out.1 _ 1 (treeV t' Ak g.len ck u.pos) rfl (tree_news HB4.out.2.1) (by unfold maxLen; omega) (by omega) ?_)
          intro A4 c4 w4 hrow4 hgr4 hob4
          obtain ⟨hwsz, husz, hw2sz, hsz3⟩ := HSZ.out
          have hsz4 : (((w2.setCell ⟨wr.heap.size, 3, none⟩ (.slice Ak g.len ck)).setCell ⟨wr.heap.size, 4, none⟩ (.int .i64 u.pos)).alloc (.cells #[.int .u8 t'.kind, .string t'.text, .int .i64 t'.pos, .slice Ak g.len ck, .int .i64 u.pos] 37)).heap.size = w2.heap.size + 1 := by rw [World.size_alloc, hsz3]
          have hob5 : (Value.slice A4 (o.len + 1) c4).ownBlock = (Value.slice Ao o.len co).ownBlock ∨ (Value.slice A4 (o.len + 1) c4).ownBlock = some (((w2.setCell ⟨wr.heap.size, 3, none⟩ (.slice Ak g.len ck)).setCell ⟨wr.heap.size, 4, none⟩ (.int .i64 u.pos)).alloc (.cells #[.int .u8 t'.kind, .string t'.text, .int .i64 t'.pos, .slice Ak g.len ck, .int .i64 u.pos] 37)).heap.size := by rw [hsz4]; exact hob4
          have hg4 := hgr4.size
          have hr4 := RowZ.lt hrow4
          rw [hsz4] at hg4
          have hnew := TreeRow.snoc (t := t') (k := g) (e := u.pos) (okk := fun b => U.heap.size ≤ b ∧ b < w2.heap.size) (ok' := fun b => w.heap.size ≤ b ∧ b < w4.heap.size) HX.out.2.1 HX.out.2.2 HB4.out.2.2 hgr4 hrow4 hob5 (fun b hb => ⟨⟨hb.1, by have := hb.2; omega⟩, by rw [hsz4]; have := hb.2; omega⟩) (fun b hb => ⟨⟨by have := hb.1; omega, by have := hb.2; omega⟩, by rw [hsz4]; have := hb.2; omega, fun he => by have h1 := (HX.out.2.1 b he).2; have := hb.1; omega⟩) (fun hn => ⟨by rw [hsz4]; omega, hr4 _ hn⟩)
          have hbn := grown_new (w := w) (HBW.out.trans (HB4.out.1.mono HBW.out.size)) hgr4 (fun g hg => (HX.out.2.1 g hg).1)
          have HN := hide (And.intro hnew hbn)
          clear hrow4 hgr4 hob4 hob5 hnew hbn hg4 hr4 hwsz husz hw2sz hsz3 hsz4
          go_wp2_with fail
          exact ⟨⟨m + 1, _, by omega, by omega, rfl, ⟨f'', HB'.out.1, by rw [Tr.Fo.snoc_app]; exact HAPP.out⟩, HN.out.1, HN.out.2, by rw [Tr.Fo.len_snoc]; omega⟩, by simp [intOf]; omega⟩
      · obtain rfl : j = k := by omega
        have hfin : f' = .nil := by
          cases hbal with
          | nil => rfl
          | plain ht ho hc h => have := h.le; omega
          | brack ht ho hg hu hk' h => have := h.le; have := hg.le; omega
        subst hfin
        rw [Tr.Fo.app_nil] at happ
        subst happ
        clear hrow hbw hbal hln HBAL IH
        have hnk : ¬ (j : Int) < j := by omega
        go_wp2_with fail
        go_ret
        exact ⟨_, rfl, HROW.out, HBW.out⟩
end Go.Proofs.Ytokfcnjmgnmncaa
