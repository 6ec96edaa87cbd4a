/- The walk of Read. -/
import Derived.Test.YtncaifdcmiblgaaLxSmall2
import Derived.WalkMore
namespace Go.Proofs.Ytncaifdcmiblgaa
open Go.RowKit

theorem grown_new {w W w2 : World} {own : Option Nat} (hb : Below w.heap.size w W) (hg : W.grownBy w2 own) (h : ∀ g, own = some g → w.heap.size ≤ g) : Below w.heap.size w w2 :=
  ⟨hg.os.trans hb.os, hg.tape.trans hb.tape, hg.output.trans hb.output, Nat.le_trans hb.size hg.size, fun k hk =>
    (hg.block k (Nat.lt_of_lt_of_le hk hb.size) (fun e => by have := h k e.symm; omega)).trans (hb.block k hk)⟩

theorem blk_lt {w : World} {g : Nat} {o : Obj} (h : w.heap[g]? = some o) : g < w.heap.size := (Array.getElem?_eq_some_iff.1 h).1

def tokV (t : Lx.T) : List Value := [.int .u8 t.kind, .string t.text, .int .i64 t.pos]
def toksV (l : List Lx.T) : List Value := l.flatMap tokV
theorem toksV_len (l : List Lx.T) : (toksV l).length = l.length * 3 := by
  induction l with
  | nil => rfl
  | cons t l ih => simp [toksV, tokV] at ih ⊢; omega
theorem toksV_snoc (l : List Lx.T) (t : Lx.T) : toksV (l ++ [t]) = toksV l ++ tokV t := by simp [toksV]
def TokRow (w : World) (v : Value) (l : List Lx.T) : Prop := RowZ w 31 3 v l.length (toksV l)
def faultV : Option Nat → Value
  | none => .agg #[.int .i64 0, .int .i64 0]
  | some i => .agg #[.int .i64 1, .int .i64 i]
theorem info_tok : (Try.prog.info? 31).map (fun i => (i.zero, i.size, i.bytes)) = some (some (.agg #[.int .u8 0, .string ByteArray.empty, .int .i64 0]), 3, 32) := by kernel_rfl

theorem tok_news {w : World} {b : Nat} {t : Lx.T} (h : w.heap[b]? = some (.cells #[.int .u8 t.kind, .string t.text, .int .i64 t.pos] 31 (0, 0))) : Src Try.prog 3 23 (.slice (some ⟨b, 0, none⟩) 1 1) 1 (tokV t) w :=
  Src.ofSlice _ Try.underlying23 ⟨b, 0, none⟩ 1 1 _ rfl (World.news_of_block (cs := #[.int .u8 t.kind, .string t.text, .int .i64 t.pos]) (t := 31) (fr := (0, 0)) h) (by simp [tokV, Value.oneCell'])

theorem fault_put {w : World} {b : Nat} {x0 x1 : Value} (h : w.heap[b]? = some (.cells #[x0, x1] 25 (0, 0))) (u0 u1 : Value) :
    ((w.setCell ⟨b, 0, none⟩ u0).setCell ⟨b, 1, none⟩ u1).cell? ⟨b, 0, none⟩ = some u0 ∧ ((w.setCell ⟨b, 0, none⟩ u0).setCell ⟨b, 1, none⟩ u1).cell? ⟨b, 1, none⟩ = some u1 := by
  have h1 := heap_setCell_same w b 0 _ _ u0 h
  have h2 := heap_setCell_same _ b 1 _ _ u1 h1
  constructor <;> rw [cell_block h2] <;> rfl
theorem fault_below {w wr : World} {b : Nat} (hb : Below w.heap.size w wr) (h : w.heap.size ≤ b) (u0 u1 : Value) : Below w.heap.size w ((wr.setCell ⟨b, 0, none⟩ u0).setCell ⟨b, 1, none⟩ u1) :=
  (hb.setCell (by exact h) u0).setCell (by exact h) u1
theorem fault_row {w : World} {b : Nat} {x0 x1 v : Value} {l : List Lx.T} (h : w.heap[b]? = some (.cells #[x0, x1] 25 (0, 0))) (hr : TokRow w v l) (u0 u1 : Value) : TokRow ((w.setCell ⟨b, 0, none⟩ u0).setCell ⟨b, 1, none⟩ u1) v l := by
  have hne := RowZ.ne_type hr h (by decide)
  exact (RowZ.far hr (p := ⟨b, 0, none⟩) hne u0).far (p := ⟨b, 1, none⟩) hne u1

set_option maxHeartbeats 3200000 in
theorem lread_any (s : ByteArray) (w : World) (hs : s.size ≤ 1000000) : Calls Try.prog 8 #[.string s] w fun e w' =>
    ∃ v, e = .returned (.tuple #[v, faultV (Lx.read s).2]) ∧ TokRow w' v (Lx.read s).1 ∧ (∀ g, v.ownBlock = some g → w.heap.size ≤ g) ∧ Below w.heap.size w w' := by
  obtain ⟨i0, hi, hz0, hz1, hz2⟩ := info_parts info_tok
  have hmf := @makes Try.prog
  have hbW : Below w.heap.size w ((w.alloc (.cells #[.string s] 9)).alloc (.cells #[.int .i64 0, .int .i64 0] 25)) := ((Below.refl _ _).alloc (Nat.le_refl _) _).alloc (by simp) _
  have hB0 : ((w.alloc (.cells #[.string s] 9)).alloc (.cells #[.int .i64 0, .int .i64 0] 25)).heap[w.heap.size]? = some (.cells #[.string s] 9 (0, 0)) := by
    rw [Below.heap_alloc _ _ _ (by simp)]; exact heap_alloc_new w _
  have hB1 : ((w.alloc (.cells #[.string s] 9)).alloc (.cells #[.int .i64 0, .int .i64 0] 25)).heap[w.heap.size + 1]? = some (.cells #[.int .i64 0, .int .i64 0] 25 (0, 0)) := by
    have := heap_alloc_new (w.alloc (.cells #[.string s] 9)) (.cells #[.int .i64 0, .int .i64 0] 25)
    simpa using this
  have HB := hide (And.intro hbW (And.intro hB0 hB1))
  clear hbW hB0 hB1
  go_enter Try.func8, Try.ntmps8
  go_wp2_with fail
  generalize (w.alloc (.cells #[.string s] 9)).alloc (.cells #[.int .i64 0, .int .i64 0] 25) = W0 at HB ⊢
  go_step3
  go_wp2_with fail
  go_step3
  go_wp2_with fail
  go_loopw [6, 5] (fun p v wr => ∃ (i : Nat) (out : List Lx.T), i ≤ s.size ∧ p = .int .i64 i ∧ out.length ≤ i ∧ Lx.Reach s i out ∧ TokRow wr v out ∧ (∀ g, v.ownBlock = some g → W0.heap.size ≤ g) ∧ Below W0.heap.size W0 wr) (fun p _ _ => s.size - (intOf p).toNat)
  case atStart => exact ⟨0, [], Nat.zero_le _, rfl, Nat.le_refl _, Lx.reach_start s, RowZ.nil, fun g h => (by cases h), Below.refl _ _⟩
  case round =>
    obtain ⟨i, out, hi1, rfl, hol, hre, hrow, hnew, hbw⟩ := hrel
    have hbox := (hbw.block _ (blk_lt HB.out.2.1)).trans HB.out.2.1
    have hres := (hbw.block _ (blk_lt HB.out.2.2)).trans HB.out.2.2
    have hc0 : wr.cell? ⟨w.heap.size, 0, none⟩ = some (.string s) := by rw [cell_block hbox]; rfl
    have hr0 : wr.cell? ⟨w.heap.size + 1, 0, none⟩ = some (.int .i64 0) := by rw [cell_block hres]; rfl
    have hr1 : wr.cell? ⟨w.heap.size + 1, 1, none⟩ = some (.int .i64 0) := by rw [cell_block hres]; rfl
    have hf0 : wr.frozen? ⟨w.heap.size + 1, 0, none⟩ = false := frozen_of_row wr _ 0 _ _ hres
    have hf1 : wr.frozen? ⟨w.heap.size + 1, 1, none⟩ = false := frozen_of_row wr _ 1 _ _ hres
    obtain ⟨Av, cv, rfl, _, _⟩ := RowZ.form hrow
    have HR := hide (And.intro hre (And.intro hrow (And.intro hnew (And.intro hbw hres))))
    clear hre hrow hnew hbw hbox hres
    by_cases hlt : i < s.size
    · have hi2 : (0 : Int) ≤ i := by omega
      have hi3 : (i : Int) < s.size := by omega
      by_cases hbl : (s[i]'hlt).toNat = 32 ∨ (s[i]'hlt).toNat = 9
      · have hlk : Lx.look s i = .skip (i + 1) := by unfold Lx.look; rw [Nm.byte_eq hlt, if_pos hbl]
        have HN := hide (Lx.reach_skip HR.out.1 hlt hlk)
        have hi4 : IntKind.i64.wrap ((i : Int) + 1) = (i : Int) + 1 := IntWalk.i64_in _ (by omega)
        clear hlk
        rcases hbl with h32 | h32
        · have h32' : ((s[i]'hlt).toNat : Int) = 32 := by omega
          go_wp2_with fail
          exact ⟨⟨i + 1, out, by omega, rfl, by omega, HN.out, HR.out.2.1, HR.out.2.2.1, HR.out.2.2.2.1⟩, by simp [intOf]; omega⟩
        · have h32' : ((s[i]'hlt).toNat : Int) = 9 := by omega
          go_wp2_with fail
          exact ⟨⟨i + 1, out, by omega, rfl, by omega, HN.out, HR.out.2.1, HR.out.2.2.1, HR.out.2.2.2.1⟩, by simp [intOf]; omega⟩
      · have h32' : ((s[i]'hlt).toNat : Int) ≠ 32 := by omega
        have h9' : ((s[i]'hlt).toNat : Int) ≠ 9 := by omega
        have hb32 : (((s[i]'hlt).toNat : Int) == 32) = false := by simpa using h32'
        have hb9 : (((s[i]'hlt).toNat : Int) == 9) = false := by simpa using h9'
        have hcm := comment_any s i wr hlt hs
        by_cases hco : Nm.byte s i = 45 ∧ i + 1 < s.size ∧ Nm.byte s (i + 1) = 45
        · have hlk : Lx.look s i = .stop := by unfold Lx.look; rw [if_neg (by rw [Nm.byte_eq hlt]; exact hbl), if_pos hco]
          have hrd := Lx.reach_stop HR.out.1 hlt hlk
          rw [show decide (Nm.byte s i = 45 ∧ i + 1 < s.size ∧ Nm.byte s (i + 1) = 45) = true from by simpa using hco] at hcm
          have HCM := hide hcm
          have HRD := hide hrd
          clear hcm hrd hlk hco
          go_wp2_with fail
          refine HCM.out.mono ?_
          rintro e w' ⟨rfl, rfl⟩
          go_wp2_with fail
          have HF := hide (fault_put HR.out.2.2.2.2 (.int .i64 0) (.int .i64 0))
          obtain ⟨hq0, hq1⟩ := HF.out
          rw [Exit.noGoto_ret]
          have hb0 := HB.out.1.trans (HR.out.2.2.2.1.mono HB.out.1.size)
          refine bodyPost_ret (v := .tuple #[.slice Av out.length cv, .agg #[.int .i64 0, .int .i64 0]]) (by simp [results, Try.results8, go_sem, hq0, hq1]) rfl ⟨_, by rw [HRD.out]; rfl, by rw [HRD.out]; exact fault_row HR.out.2.2.2.2 HR.out.2.1 _ _, fun g hg => by have := HR.out.2.2.1 g hg; have := HB.out.1.size; omega, fault_below hb0 (by omega) _ _⟩
        · have hcd : decide (Nm.byte s i = 45 ∧ i + 1 < s.size ∧ Nm.byte s (i + 1) = 45) = false := by simpa using hco
          rw [hcd] at hcm
          have HCM := hide hcm
          clear hcm hcd
          have hls := fun W => lsign_any (s[i]'hlt).toNat W
          cases hsg : Lx.sg (s[i]'hlt).toNat
          · rw [hsg] at hls
            have HLS := hide hls
            have HSG := hide hsg
            clear hls hsg
            go_wp2_with fail
            refine HCM.out.mono ?_
            rintro e w' ⟨rfl, rfl⟩
            go_wp2_with fail
            refine (HLS.out wr).mono ?_
            rintro e w' ⟨rfl, rfl⟩
            go_wp2_with fail
            refine (endc_any _ s i wr hc0 hi1 hs).mono ?_
            rintro e w' ⟨rfl, rfl⟩
            have hel := Lx.end_le s i
            have hes := Lx.end_size hi1
            have he1 : (i : Int) ≤ (Lx.end_ s i : Int) := by omega
            have he2 : (Lx.end_ s i : Int) ≤ s.size := by omega
            have he3 : (0 : Int) ≤ (Lx.end_ s i : Int) := by omega
            have hrt := right_any (s.extract i (Lx.end_ s i)) wr (by simp; unfold maxLen; omega)
            cases hrb : Nm.right (s.extract i (Lx.end_ s i))
            · rw [hrb] at hrt
              have HRT := hide hrt
              have hlk : Lx.look s i = .bad := by
                unfold Lx.look
                rw [if_neg (by rw [Nm.byte_eq hlt]; exact hbl), if_neg hco, Nm.byte_eq hlt, if_neg (by rw [HSG.out]; simp), if_neg (by rw [hrb]; simp)]
              have HRD := hide (Lx.reach_bad HR.out.1 hlt hlk)
              clear hrt hrb hlk
              generalize Lx.end_ s i = m at *
              go_wp2_with fail
              refine HRT.out.mono ?_
              rintro e w' ⟨rfl, rfl⟩
              go_wp2_with fail
              have HF := hide (fault_put HR.out.2.2.2.2 (.int .i64 1) (.int .i64 i))
              obtain ⟨hq0, hq1⟩ := HF.out
              rw [Exit.noGoto_ret]
              have hb0 := HB.out.1.trans (HR.out.2.2.2.1.mono HB.out.1.size)
              refine bodyPost_ret (v := .tuple #[.slice none 0 0, .agg #[.int .i64 1, .int .i64 i]]) (by simp [results, Try.results8, go_sem, hq0, hq1]) rfl ⟨_, by rw [HRD.out]; rfl, by rw [HRD.out]; exact RowZ.nil, fun g hg => (by cases hg), fault_below hb0 (by omega) _ _⟩
            · rw [hrb] at hrt
              have HRT := hide hrt
              have hlk : Lx.look s i = .tok ⟨97, s.extract i (Lx.end_ s i), i⟩ (Lx.end_ s i) := by
                unfold Lx.look
                rw [if_neg (by rw [Nm.byte_eq hlt]; exact hbl), if_neg hco, Nm.byte_eq hlt, if_neg (by rw [HSG.out]; simp), if_pos hrb]
              have hnx := Lx.readF_next (.inr ⟨_, hlk⟩)
              have HN := hide (Lx.reach_tok HR.out.1 hlt hlk)
              clear hrt hrb hlk
              generalize Lx.end_ s i = m at *
              go_wp2_with fail
              refine HRT.out.mono ?_
              rintro e w' ⟨rfl, rfl⟩
              go_wp2_with (at_builtin; refine app_rowz rfl (.tmp 57) (.tmp 64) 23 23 rfl 31 i0 _ 3 32 Try.underlying23 hi hz0 hz1 hz2 rfl (.slice Av out.length cv) out.length (toksV out) rfl (RowZ.below HR.out.2.1 (below_laid wr _)) _ 1 (tokV ⟨97, s.extract i m, i⟩) rfl (tok_news (t := ⟨97, s.extract i m, i⟩) (heap_alloc_new wr _)) (by unfold maxLen; omega) (by omega) ?_)
              intro A4 c4 w4 hrow4 hgr4 hob4
              have hb4 : Below W0.heap.size W0 w4 := grown_new (HR.out.2.2.2.1.trans ((below_laid wr (.cells #[.int .u8 97, .string (s.extract i m), .int .i64 i] 31)).mono HR.out.2.2.2.1.size)) hgr4 HR.out.2.2.1
              have hob4' : ∀ g, (Value.slice A4 (out.length + 1) c4).ownBlock = some g → W0.heap.size ≤ g := fun g hg => by
                rcases hob4 with h | h
                · exact HR.out.2.2.1 g (h ▸ hg)
                · rw [h] at hg; have := HR.out.2.2.2.1.size; simp at hg; omega
              have hrow4' : TokRow w4 (.slice A4 (out.length + 1) c4) (out ++ [⟨97, s.extract i m, i⟩]) := by
                unfold TokRow
                rw [toksV_snoc, List.length_append, List.length_singleton]
                exact hrow4
              have HR4 := hide (And.intro hb4 (And.intro hrow4' hob4'))
              clear hrow4 hgr4 hob4 hb4 hob4' hrow4'
              go_wp2_with fail
              exact ⟨⟨m, out ++ [⟨97, s.extract i m, i⟩], by omega, rfl, by simp; omega, HN.out, HR4.out.2.1, HR4.out.2.2, HR4.out.1⟩, by simp [intOf]; omega⟩
          · rw [hsg] at hls
            have HLS := hide hls
            have HSG := hide hsg
            clear hls hsg
            go_wp2_with fail
            refine HCM.out.mono ?_
            rintro e w' ⟨rfl, rfl⟩
            go_wp2_with fail
            refine (HLS.out wr).mono ?_
            rintro e w' ⟨rfl, rfl⟩
            have hlk : Lx.look s i = .tok ⟨(s[i]'hlt).toNat, s.extract i (i + 1), i⟩ (i + 1) := by
              unfold Lx.look
              rw [if_neg (by rw [Nm.byte_eq hlt]; exact hbl), if_neg hco, Nm.byte_eq hlt, if_pos HSG.out]
            have HN := hide (Lx.reach_tok HR.out.1 hlt hlk)
            clear hlk
            go_wp2_with (at_builtin; refine app_rowz rfl (.tmp 33) (.tmp 42) 23 23 rfl 31 i0 _ 3 32 Try.underlying23 hi hz0 hz1 hz2 rfl (.slice Av out.length cv) out.length (toksV out) rfl (RowZ.below HR.out.2.1 (below_laid wr _)) _ 1 (tokV ⟨(s[i]'hlt).toNat, s.extract i (i + 1), i⟩) rfl (tok_news (t := ⟨(s[i]'hlt).toNat, s.extract i (i + 1), i⟩) (heap_alloc_new wr _)) (by unfold maxLen; omega) (by omega) ?_)
            intro A4 c4 w4 hrow4 hgr4 hob4
            have hb4 : Below W0.heap.size W0 w4 := grown_new (HR.out.2.2.2.1.trans ((below_laid wr (.cells #[.int .u8 (s[i]'hlt).toNat, .string (s.extract i (i + 1)), .int .i64 i] 31)).mono HR.out.2.2.2.1.size)) hgr4 HR.out.2.2.1
            have hob4' : ∀ g, (Value.slice A4 (out.length + 1) c4).ownBlock = some g → W0.heap.size ≤ g := fun g hg => by
              rcases hob4 with h | h
              · exact HR.out.2.2.1 g (h ▸ hg)
              · rw [h] at hg; have := HR.out.2.2.2.1.size; simp at hg; omega
            have hrow4' : TokRow w4 (.slice A4 (out.length + 1) c4) (out ++ [⟨(s[i]'hlt).toNat, s.extract i (i + 1), i⟩]) := by
              unfold TokRow
              rw [toksV_snoc, List.length_append, List.length_singleton]
              exact hrow4
            have HR4 := hide (And.intro hb4 (And.intro hrow4' hob4'))
            clear hrow4 hgr4 hob4 hb4 hob4' hrow4'
            go_wp2_with fail
            exact ⟨⟨i + 1, out ++ [⟨(s[i]'hlt).toNat, s.extract i (i + 1), i⟩], by omega, rfl, by simp; omega, HN.out, HR4.out.2.1, HR4.out.2.2, HR4.out.1⟩, by simp [intOf]; omega⟩
    · obtain rfl : i = s.size := by omega
      have hrd := Lx.reach_end HR.out.1 hlt
      have HRD := hide hrd
      clear hrd
      go_wp2_with fail
      have HF := hide (fault_put HR.out.2.2.2.2 (.int .i64 0) (.int .i64 0))
      obtain ⟨hq0, hq1⟩ := HF.out
      rw [Exit.noGoto_ret]
      have hb0 := HB.out.1.trans (HR.out.2.2.2.1.mono HB.out.1.size)
      refine bodyPost_ret (v := .tuple #[.slice Av out.length cv, .agg #[.int .i64 0, .int .i64 0]]) (by simp [results, Try.results8, go_sem, hq0, hq1]) rfl ⟨_, by rw [HRD.out]; rfl, by rw [HRD.out]; exact fault_row HR.out.2.2.2.2 HR.out.2.1 _ _, fun g hg => by have := HR.out.2.2.1 g hg; have := HB.out.1.size; omega, fault_below hb0 (by omega) _ _⟩
end Go.Proofs.Ytncaifdcmiblgaa
