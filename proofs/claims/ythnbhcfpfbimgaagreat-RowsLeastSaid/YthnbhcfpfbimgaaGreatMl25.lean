/- Texts put together: RhWith RwAlive0 RwEqEl RhFields. -/
import Derived.Laws.StructEq
import Derived.Test.YthnbhcfpfbimgaaGreatMl24
import Derived.Test.YthnbhcfpfbimgaaGreatMl20
/- The walk of chapter 18's With. (Printed by rhwith.py.) -/
namespace Go.Proofs.YthnbhcfpfbimgaaGreat
open Go.RowKit
open Rw (El At Fld)
open Hd (elZ getV withV stepW endW)
/-- A list of values handed back. -/
structure RWith (W : World) (l : List Vl) (e : Ending) (w' : World) : Prop where
  ex : ∃ v, e = .returned v ∧ VaS W v l w'
structure WiL (W : World) (f : ByteArray) (e : El) (b : Bool) (l : List Vl) (v dv kv : Value) (wr : World) : Prop where
  ex : ∃ (k : Nat) (o : List Vl) (d : Bool), k ≤ l.length ∧ kv = .int .i64 (k : Nat) ∧ (l.take k).foldl (stepW f e b) ([], false) = (o, d) ∧ dv = .bool d ∧ VaS W v o wr ∧ o.length + (if d then 0 else 1) ≤ k + 1
theorem VaS.base {W W2 : World} {v : Value} {l : List Vl} {wr : World} (h : VaS W2 v l wr) (hb : Below W.heap.size W W2) : VaS W v l wr := ⟨h.row, fun g hg => Nat.le_trans hb.size (h.own g hg), below_next hb h.below, h.small⟩
set_option maxRecDepth 100000 in
set_option maxHeartbeats 4000000 in
theorem with_any (B : Nat) (v : Value) (l : List Vl) (f : ByteArray) (e : El) (w : World) (h : Vls w B v l) (hf : f.size ≤ maxLen) (hn : l.length ≤ 2000000) : Calls Tryz.prog 75 #[v, .string f, .agg #[.int .u64 e.e0, .int .u64 e.e1, .int .u64 e.e2, .int .u64 e.e3, .int .u64 e.e4, .int .u64 e.e5, .int .u64 e.e6, .int .u64 e.e7]] w fun e' w' => RWith w (withV l f e) e' w' := by
  obtain ⟨i1, hj, hy0, hy1, hy2⟩ := info_parts info_val
  obtain ⟨A, c, rfl, _, _⟩ := SlAt.form h.at_
  have HB := hide (below_laid w (.cells #[.int .u64 e.e0, .int .u64 e.e1, .int .u64 e.e2, .int .u64 e.e3, .int .u64 e.e4, .int .u64 e.e5, .int .u64 e.e6, .int .u64 e.e7] 48))
  have HE := hide (range_block (heap_alloc_last w (.cells #[.int .u64 e.e0, .int .u64 e.e1, .int .u64 e.e2, .int .u64 e.e3, .int .u64 e.e4, .int .u64 e.e5, .int .u64 e.e6, .int .u64 e.e7] 48)) 0 (elV e) fun j u hu => by rw [Nat.zero_add]; simpa [elV] using hu)
  have HLT := hide (blk_lt (heap_alloc_last w (.cells #[.int .u64 e.e0, .int .u64 e.e1, .int .u64 e.e2, .int .u64 e.e3, .int .u64 e.e4, .int .u64 e.e5, .int .u64 e.e6, .int .u64 e.e7] 48)))
  have HG := hide (get_any B _ l f _ (h.below HB.out))
  have HL := hide (h.below HB.out)
  have HF := hide hf
  have hnew : ∀ s : List Vl × Bool, SmV s.1 → (⟨f, e⟩ : Vl).name.size ≤ maxLen := fun _ _ => hf
  have HW := hide (Hd.endW_with f e l)
  clear h hf hnew
  go_enter Tryz.func75, Tryz.ntmps75
  go_upto_region 2 with fail
  generalize w.alloc (Obj.cells _ 48) = w1 at *
  have HST := hide (fun (w2 : World) (z : El) => stA (T := 48) (w := w2) (new := #[.int .u64 z.e0, .int .u64 z.e1, .int .u64 z.e2, .int .u64 z.e3, .int .u64 z.e4, .int .u64 z.e5, .int .u64 z.e6, .int .u64 z.e7]) 8 16 el_info (by simp [Value.oneCell']))
  go_upto_region 3 with (first | (with_reducible refine HST.out _ _ _ _ _ _ _ _ rfl rfl rfl rfl (by with_unfolding_all rfl) ?_) | (go_at_call 54; refine HG.out.mono ?_; rintro e2 w2 ⟨⟨z, b, rfl, hz, hb⟩, hb2⟩; have H2 := hide hb2; have HBB := hide hb; clear hz hb hb2))
  clear HST HG
  have H3 : Hid (Kpt w1 (w2.alloc (.cells #[.int .u64 z.e0, .int .u64 z.e1, .int .u64 z.e2, .int .u64 z.e3, .int .u64 z.e4, .int .u64 z.e5, .int .u64 z.e6, .int .u64 z.e7] 48))) := hide ⟨below_next H2.out (below_laid _ _)⟩
  rw [HBB.out] at HW
  clear H2 HBB
  generalize w2.alloc (Obj.cells _ 48) = w3 at *
  have HL3 := hide (HL.out.below H3.out.below)
  have HE3 := hide (H3.out.range HE.out HLT.out)
  have HLT3 := hide (Nat.lt_of_lt_of_le HLT.out H3.out.below.size)
  have HB3 := hide (below_next HB.out H3.out.below)
  clear HL HE HLT HB H3
  go_wp2_with fail
  go_loopw [7, 10, 11] (fun v dv kv wr => WiL w3 f e b l v dv kv wr) (fun _ _ kv _ => l.length - (intOf kv).toNat)
  case atStart => exact ⟨0, [], false, by omega, rfl, rfl, rfl, VaS.nil (Below.refl _ _), by simp⟩
  case round =>
    obtain ⟨k, o, d, hk, rfl, hfo, rfl, ho, hlen⟩ := hrel
    obtain ⟨Ao, co, rfl, _⟩ := RowZ.form ho.row
    have HO := hide ho
    have hol : o.length ≤ 2000001 := by split at hlen <;> omega
    have HFO := hide (And.intro hfo hlen)
    clear ho hfo hlen
    have hl9 : (l.length : Int) ≤ 9223372036854775807 := by omega
    have HLE := hide (ldA 5 (el_range (range_below HE3.out HLT3.out HO.out.below)) Tryz.underlying48 rfl el_info)
    have HLE2 := hide (ldA 5 (el_range (range_below HE3.out HLT3.out HO.out.below)) Tryz.underlying48 rfl el_info)
    by_cases hlt : k < l.length
    · have i0 : (k : Int) < l.length := by omega
      obtain ⟨bl, off, c', e', hbl, hr⟩ := SlAt.elem (HL3.out.at_.below HO.out.below) (fun _ => rfl) hlt
      cases e'
      have g0 : wr.cell? ⟨bl, off + k * 9, none⟩ = some (.string l[k].name) := hr 0 _ rfl
      have hsm := HL3.out.small _ (List.getElem_mem hlt)
      have HTK : Hid ((l.take (k + 1)).foldl (stepW f e b) ([], false) = stepW f e b (o, d) l[k]) := hide (by rw [List.take_succ_eq_append_getElem hlt, List.foldl_append, HFO.out.1]; rfl)
      have HLEN := hide (Hd.stepW_len f e b (o, d) l[k])
      have HK3 : Hid (Kpt w3 wr) := hide ⟨HO.out.below⟩
      have HEQ0 := hide (List.getElem?_eq_getElem hlt)
      generalize hgx : l[k] = x at *
      have HEQ := hide hgx
      clear hgx
      have HSM := hide hsm
      have HRG := hide (And.intro hr hbl)
      clear hr hbl hsm
      have HLX := hide (fun (wq : World) (hb : Below wr.heap.size wr wq) => ldA (cs := #[.string x.name, .int .u64 x.el.e0, .int .u64 x.el.e1, .int .u64 x.el.e2, .int .u64 x.el.e3, .int .u64 x.el.e4, .int .u64 x.el.e5, .int .u64 x.el.e6, .int .u64 x.el.e7]) 61 (range_below HRG.out.1 HRG.out.2 hb) Tryz.underlying62 rfl val_info)
      cases d
      rotate_left
      · have HLX0 := hide (HLX.out wr (Below.refl _ _))
        go_wp2_with (first | (with_reducible refine HLX0.out _ _ _ _ _ rfl rfl (by with_unfolding_all rfl) ?_) | (at_builtin; go_must (refine app_rowz rfl (.tmp 58) (.tmp 63) 57 57 rfl 62 i1 _ 9 80 Tryz.underlying57 hj hy0 hy1 hy2 rfl (.slice Ao o.length co) o.length (o.flatMap vlV) rfl (RowZ.below HO.out.row (below_laid wr _)) _ 1 [.string x.name, .int .u64 x.el.e0, .int .u64 x.el.e1, .int .u64 x.el.e2, .int .u64 x.el.e3, .int .u64 x.el.e4, .int .u64 x.el.e5, .int .u64 x.el.e6, .int .u64 x.el.e7] rfl (val_news (heap_alloc_new wr _)) (by unfold maxLen; omega) (by omega) ?_); intro A5 c5 w5 hr hg hob; have HG5 := hide (And.intro hr (And.intro hg hob)); clear hr hg hob))
        exact ⟨⟨k + 1, o ++ [x], true, by omega, rfl, by rw [HTK.out]; simp [stepW], rfl, HO.out.push HSM.out HG5.out.1 HG5.out.2.1 HG5.out.2.2, by have := HFO.out.2; simp at this ⊢; omega⟩, by simp [intOf]; omega⟩

      cases b
      · have HLS := hide (lessR_any f x.name wr HF.out)
        cases hls : Nm.ls f x.name
        · rw [hls] at HLS
          go_wp2_with (first | (go_at_call 16; refine HLS.out.mono ?_; rintro e6 w6 ⟨rfl, hd⟩; have HO6 := hide (HO.out.step (hd.below _)); have HLX6 := hide (HLX.out w6 (hd.below _)); have HLE6 := hide (ldA 5 (el_range (range_below HE3.out HLT3.out HO6.out.below)) Tryz.underlying48 rfl el_info); clear hd) | (with_reducible refine HLX6.out _ _ _ _ _ rfl rfl (by with_unfolding_all rfl) ?_) | (at_builtin; go_must (refine app_rowz rfl (.tmp 58) (.tmp 63) 57 57 rfl 62 i1 _ 9 80 Tryz.underlying57 hj hy0 hy1 hy2 rfl (.slice Ao o.length co) o.length (o.flatMap vlV) rfl (RowZ.below HO6.out.row (below_laid w6 _)) _ 1 [.string x.name, .int .u64 x.el.e0, .int .u64 x.el.e1, .int .u64 x.el.e2, .int .u64 x.el.e3, .int .u64 x.el.e4, .int .u64 x.el.e5, .int .u64 x.el.e6, .int .u64 x.el.e7] rfl (val_news (heap_alloc_new w6 _)) (by unfold maxLen; omega) (by omega) ?_); intro A5 c5 w5 hr hg hob; have HG5 := hide (And.intro hr (And.intro hg hob)); clear hr hg hob))
          exact ⟨⟨k + 1, o ++ [x], false, by omega, rfl, by rw [HTK.out]; simp [stepW, hls], rfl, HO6.out.push HSM.out HG5.out.1 HG5.out.2.1 HG5.out.2.2, by have := HFO.out.2; simp at this ⊢; omega⟩, by simp [intOf]; omega⟩

        · rw [hls] at HLS
          go_upto_region 11 with (first | (go_at_call 16; refine HLS.out.mono ?_; rintro e6 w6 ⟨rfl, hd⟩; have HO6 := hide (HO.out.step (hd.below _)); have HLX6 := hide (HLX.out w6 (hd.below _)); have HLE6 := hide (ldA 5 (el_range (range_below HE3.out HLT3.out HO6.out.below)) Tryz.underlying48 rfl el_info); clear hd) | (with_reducible refine HLE6.out _ _ _ _ _ rfl rfl (by with_unfolding_all rfl) ?_) | (at_builtin; go_must (refine app_rowz rfl (.tmp 51) (.tmp 55) 57 57 rfl 62 i1 _ 9 80 Tryz.underlying57 hj hy0 hy1 hy2 rfl (.slice Ao o.length co) o.length (o.flatMap vlV) rfl (RowZ.below HO6.out.row (below_laid w6 _)) _ 1 [.string f, .int .u64 e.e0, .int .u64 e.e1, .int .u64 e.e2, .int .u64 e.e3, .int .u64 e.e4, .int .u64 e.e5, .int .u64 e.e6, .int .u64 e.e7] rfl (val_news (x := ⟨f, e⟩) (heap_alloc_new w6 _)) (by unfold maxLen; omega) (by omega) ?_); intro A4 c4 w4 hr hg hob; have HG4 := hide (And.intro hr (And.intro hg hob)); clear hr hg hob))
          have H4 : Hid (VaS w3 (.slice A4 (o.length + 1) c4) (o ++ [⟨f, e⟩]) w4) := hide (HO6.out.push (x := ⟨f, e⟩) HF.out HG4.out.1 HG4.out.2.1 HG4.out.2.2)
          have hrow := H4.out.row
          rw [List.length_append, List.length_singleton] at hrow
          have HROW := hide hrow
          obtain ⟨b4, o4, c6, e4, hbl4, hr4⟩ := SlAt.elem (HL3.out.at_.below H4.out.below) (fun _ => rfl) hlt
          cases e4
          have HLX4 : Hid (LdA 62 #[.string x.name, .int .u64 x.el.e0, .int .u64 x.el.e1, .int .u64 x.el.e2, .int .u64 x.el.e3, .int .u64 x.el.e4, .int .u64 x.el.e5, .int .u64 x.el.e6, .int .u64 x.el.e7] bl (off + k * 9) 61 w4) := hide (ldA (cs := #[.string x.name, .int .u64 x.el.e0, .int .u64 x.el.e1, .int .u64 x.el.e2, .int .u64 x.el.e3, .int .u64 x.el.e4, .int .u64 x.el.e5, .int .u64 x.el.e6, .int .u64 x.el.e7]) 61 (by have := HK3.out; rw [HEQ.out] at hr4; exact hr4) Tryz.underlying62 rfl val_info)
          clear hrow hr4 HG4 hbl4
          go_wp2_with (first | (with_reducible refine HLX4.out _ _ _ _ _ rfl rfl (by with_unfolding_all rfl) ?_) | (at_builtin; go_must (refine app_rowz rfl (.tmp 58) (.tmp 63) 57 57 rfl 62 i1 _ 9 80 Tryz.underlying57 hj hy0 hy1 hy2 rfl (.slice A4 (o.length + 1) c4) (o.length + 1) ((o ++ [(⟨f, e⟩ : Vl)]).flatMap vlV) rfl (RowZ.below HROW.out (below_laid w4 _)) _ 1 [.string x.name, .int .u64 x.el.e0, .int .u64 x.el.e1, .int .u64 x.el.e2, .int .u64 x.el.e3, .int .u64 x.el.e4, .int .u64 x.el.e5, .int .u64 x.el.e6, .int .u64 x.el.e7] rfl (val_news (heap_alloc_new w4 _)) (by unfold maxLen; omega) (by omega) ?_); intro A5 c5 w5 hr hg hob; have HG5 := hide (And.intro hr (And.intro hg hob)); clear hr hg hob))
          exact ⟨⟨k + 1, o ++ [⟨f, e⟩] ++ [x], true, by omega, rfl, by rw [HTK.out]; simp [stepW, hls], rfl, H4.out.pushes (m := [x]) (n := o.length + 1 + 1) (below_laid _ _) (fun y hy => by simp at hy; subst hy; exact HSM.out) (by simp) (by simp only [List.flatMap_cons, List.flatMap_nil, List.append_nil]; exact HG5.out.1) HG5.out.2.1 HG5.out.2.2, by have := HFO.out.2; simp at this ⊢; omega⟩, by simp [intOf]; omega⟩
      · cases heq : (x.name.toList == f.toList)
        · have HLX0 := hide (HLX.out wr (Below.refl _ _))
          go_wp2_with (first | (with_reducible refine HLX0.out _ _ _ _ _ rfl rfl (by with_unfolding_all rfl) ?_) | (at_builtin; go_must (refine app_rowz rfl (.tmp 58) (.tmp 63) 57 57 rfl 62 i1 _ 9 80 Tryz.underlying57 hj hy0 hy1 hy2 rfl (.slice Ao o.length co) o.length (o.flatMap vlV) rfl (RowZ.below HO.out.row (below_laid wr _)) _ 1 [.string x.name, .int .u64 x.el.e0, .int .u64 x.el.e1, .int .u64 x.el.e2, .int .u64 x.el.e3, .int .u64 x.el.e4, .int .u64 x.el.e5, .int .u64 x.el.e6, .int .u64 x.el.e7] rfl (val_news (heap_alloc_new wr _)) (by unfold maxLen; omega) (by omega) ?_); intro A5 c5 w5 hr hg hob; have HG5 := hide (And.intro hr (And.intro hg hob)); clear hr hg hob))
          exact ⟨⟨k + 1, o ++ [x], false, by omega, rfl, by rw [HTK.out]; simp [stepW, heq], rfl, HO.out.push HSM.out HG5.out.1 HG5.out.2.1 HG5.out.2.2, by have := HFO.out.2; simp at this ⊢; omega⟩, by simp [intOf]; omega⟩

        · go_wp2_with (first | (with_reducible refine HLE.out _ _ _ _ _ rfl rfl (by with_unfolding_all rfl) ?_) | (at_builtin; go_must (refine app_rowz rfl (.tmp 51) (.tmp 55) 57 57 rfl 62 i1 _ 9 80 Tryz.underlying57 hj hy0 hy1 hy2 rfl (.slice Ao o.length co) o.length (o.flatMap vlV) rfl (RowZ.below HO.out.row (below_laid wr _)) _ 1 [.string f, .int .u64 e.e0, .int .u64 e.e1, .int .u64 e.e2, .int .u64 e.e3, .int .u64 e.e4, .int .u64 e.e5, .int .u64 e.e6, .int .u64 e.e7] rfl (val_news (x := ⟨f, e⟩) (heap_alloc_new wr _)) (by unfold maxLen; omega) (by omega) ?_); intro A4 c4 w4 hr hg hob; have HG4 := hide (And.intro hr (And.intro hg hob)); clear hr hg hob))
          exact ⟨⟨k + 1, o ++ [⟨f, e⟩], true, by omega, rfl, by rw [HTK.out]; simp [stepW, heq], rfl, HO.out.push (x := ⟨f, e⟩) HF.out HG4.out.1 HG4.out.2.1 HG4.out.2.2, by have := HFO.out.2; simp at this ⊢; omega⟩, by simp [intOf]; omega⟩
    · obtain rfl : k = l.length := by omega
      rw [List.take_length] at HFO
      have HWE := HW.out
      rw [HFO.out.1] at HWE
      have HWW := hide HWE
      clear HWE
      cases d
      · go_wp2_with (first | (with_reducible refine HLE2.out _ _ _ _ _ rfl rfl (by with_unfolding_all rfl) ?_) | (at_builtin; go_must (refine app_rowz rfl (.tmp 67) (.tmp 71) 57 57 rfl 62 i1 _ 9 80 Tryz.underlying57 hj hy0 hy1 hy2 rfl (.slice Ao o.length co) o.length (o.flatMap vlV) rfl (RowZ.below HO.out.row (below_laid wr _)) _ 1 [.string f, .int .u64 e.e0, .int .u64 e.e1, .int .u64 e.e2, .int .u64 e.e3, .int .u64 e.e4, .int .u64 e.e5, .int .u64 e.e6, .int .u64 e.e7] rfl (val_news (x := ⟨f, e⟩) (heap_alloc_new wr _)) (by unfold maxLen; omega) (by omega) ?_); intro A' c4 w' hr hg hob; have HG := hide (And.intro hr (And.intro hg hob)); clear hr hg hob))
        go_ret
        exact ⟨_, rfl, VaS.base (by rw [← HWW.out]; exact HO.out.push (x := ⟨f, e⟩) HF.out HG.out.1 HG.out.2.1 HG.out.2.2) HB3.out⟩
      · go_wp2_with fail
        go_ret
        exact ⟨_, rfl, VaS.base (by rw [← HWW.out]; exact HO.out) HB3.out⟩
end Go.Proofs.YthnbhcfpfbimgaaGreat
/- Plain: the chapter's example. -/
namespace Go.Proofs.YthnbhcfpfbimgaaGreat
namespace Rw
def rowB (n i : Nat) (r : Row) : Bool := (!r.bound || decide (r.tail < 0) || (decide ((i : Int) < r.tail) && decide (r.tail < n))) && decide (-1 ≤ r.tail)
def owB (s : T) : Bool := ((List.range s.rows.length).all fun i => match s.rows[i]? with | some r => rowB s.rows.length i r | none => true) && s.own.all fun o => decide (o < s.rows.length)
theorem ow_of {s : T} (h : owB s = true) : Ow s := by
  simp only [owB, Bool.and_eq_true, List.all_eq_true, List.mem_range] at h
  obtain ⟨h1, h2⟩ := h
  have key : ∀ (i : Nat) r, s.rows[i]? = some r → rowB s.rows.length i r = true := fun i r hr => by
    have := h1 i (List.getElem?_eq_some_iff.1 hr).1
    rw [hr] at this
    exact this
  refine ⟨⟨fun i r hr hb => ?_⟩, fun i r hr => ?_, fun o ho => by simpa using h2 o ho⟩
  · have := key i r hr
    simp [rowB, hb] at this
    omega
  · have := key i r hr
    simp [rowB] at this
    omega
def szB (s : T) (n : Nat) : Bool := decide (tot s.rows ≤ n) && s.rows.all (fun r => decide (r.lacks.length ≤ n)) && decide (s.undo.length ≤ n) && decide (s.rows.length ≤ n) && decide (s.own.length ≤ n) && decide (s.eqs.length ≤ n) && decide (s.times.length ≤ n)
theorem sz_of {s : T} {n : Nat} (h : szB s n = true) : Sz s n := by
  simp only [szB, Bool.and_eq_true, decide_eq_true_eq, List.all_eq_true] at h
  obtain ⟨⟨⟨⟨⟨⟨h1, h2⟩, h3⟩, h4⟩, h5⟩, h6⟩, h7⟩ := h
  exact ⟨h1, fun k r hr => h2 r (List.mem_iff_getElem?.2 ⟨k, hr⟩), h3, h4, h5, h6, h7⟩
def fF : Fld := ⟨⟨#[102]⟩, ⟨3, ⟨0, 0, 0, 0, 0, 0, 0, 0⟩⟩⟩
def gF : Fld := ⟨⟨#[103]⟩, ⟨4, ⟨0, 0, 0, 0, 0, 0, 0, 0⟩⟩⟩
def s2 : T := T.new.var.var
def s3 : T := (s2.tick.equal ⟨[fF], 0⟩ ⟨[gF], 1⟩ 1).2
theorem s2_ow : owB s2 = true := by decide +kernel
theorem s2_sz : szB s2 100 = true := by decide +kernel
theorem s3_is : (s2.tick.equal ⟨[fF], 0⟩ ⟨[gF], 1⟩ 1).1 = true := by decide +kernel
theorem s3_eqs : s3.eqs.length = 0 := by decide +kernel
theorem s3_own : s3.own = [0, 1] := by decide +kernel
theorem s3_ow : owB s3 = true := by decide +kernel
theorem s3_tot : tot s3.rows ≤ 100 := by decide +kernel
theorem s3_len : (s3.spreads [] 0).fields.length = 1 := by decide +kernel
theorem s3_fin : (s3.spreads [] 0).fin = 2 := by decide +kernel
theorem s3_fields : (s3.spreads [] 0).fields = [gF] := by kernel_rfl
end Rw
end Go.Proofs.YthnbhcfpfbimgaaGreat
/- Two elements compared: an array of eight numbers. -/
namespace Go.Proofs.YthnbhcfpfbimgaaGreat
open Go.RowKit
set_option maxRecDepth 100000 in
set_option maxHeartbeats 4000000 in
@[go_sem] theorem eq_el (d : Nat) (a0 a1 a2 a3 a4 a5 a6 a7 b0 b1 b2 b3 b4 b5 b6 b7 : Int) (w : World) : (Op.equalIn (d + 1 + 1) 48 (.agg #[.int .u64 a0, .int .u64 a1, .int .u64 a2, .int .u64 a3, .int .u64 a4, .int .u64 a5, .int .u64 a6, .int .u64 a7]) (.agg #[.int .u64 b0, .int .u64 b1, .int .u64 b2, .int .u64 b3, .int .u64 b4, .int .u64 b5, .int .u64 b6, .int .u64 b7])).run Tryz.prog w = .ok (a0 == b0 && a1 == b1 && a2 == b2 && a3 == b3 && a4 == b4 && a5 == b5 && a6 == b6 && a7 == b7) w := by
  have hu := Tryz.underlying40
  have ha := Tryz.isAgg40
  have hz := Tryz.sizeOf40
  rw [Op.equalIn]
  simp only [Sem.run_bind, run_underlying Tryz.underlying48, Result.andThen_ok]
  simp only [Std.Legacy.Range.forIn_eq_forIn_range', Std.Legacy.Range.size, Nat.sub_zero, Nat.add_sub_cancel, Nat.div_one, List.range'_succ, List.range'_zero, List.forIn_cons, List.forIn_nil]
  go_simp
  by_cases h0 : a0 = b0
  rotate_left
  · simp [h0]
  by_cases h1 : a1 = b1
  rotate_left
  · simp [h0, h1]
  by_cases h2 : a2 = b2
  rotate_left
  · simp [h0, h1, h2]
  by_cases h3 : a3 = b3
  rotate_left
  · simp [h0, h1, h2, h3]
  by_cases h4 : a4 = b4
  rotate_left
  · simp [h0, h1, h2, h3, h4]
  by_cases h5 : a5 = b5
  rotate_left
  · simp [h0, h1, h2, h3, h4, h5]
  by_cases h6 : a6 = b6
  rotate_left
  · simp [h0, h1, h2, h3, h4, h5, h6]
  by_cases h7 : a7 = b7
  rotate_left
  · simp [h0, h1, h2, h3, h4, h5, h6, h7]
  simp [h0, h1, h2, h3, h4, h5, h6, h7]
end Go.Proofs.YthnbhcfpfbimgaaGreat
/- The walk of chapter 18's Fields. (Printed by rhfields.py.) -/
namespace Go.Proofs.YthnbhcfpfbimgaaGreat
open Go.RowKit
open Rw (El At Fld)
open Hd (eqVl sameV)
theorem vl_cells {w : World} {b o : Nat} {x : Vl} (h : w.rangeAt b o (vlV x)) : w.cell? ⟨b, o, none⟩ = some (.string x.name) ∧ w.cell? ⟨b, o + 1, none⟩ = some (.int .u64 x.el.e0) ∧ w.cell? ⟨b, o + 2, none⟩ = some (.int .u64 x.el.e1) ∧ w.cell? ⟨b, o + 3, none⟩ = some (.int .u64 x.el.e2) ∧ w.cell? ⟨b, o + 4, none⟩ = some (.int .u64 x.el.e3) ∧ w.cell? ⟨b, o + 5, none⟩ = some (.int .u64 x.el.e4) ∧ w.cell? ⟨b, o + 6, none⟩ = some (.int .u64 x.el.e5) ∧ w.cell? ⟨b, o + 7, none⟩ = some (.int .u64 x.el.e6) ∧ w.cell? ⟨b, o + 8, none⟩ = some (.int .u64 x.el.e7) :=
  ⟨h 0 _ rfl, h 1 _ rfl, h 2 _ rfl, h 3 _ rfl, h 4 _ rfl, h 5 _ rfl, h 6 _ rfl, h 7 _ rfl, h 8 _ rfl⟩
set_option maxRecDepth 100000 in
set_option maxHeartbeats 4000000 in
theorem fields18_any (B B2 : Nat) (v v2 : Value) (l m : List Vl) (w : World) (h : Vls w B v l) (h2 : Vls w B2 v2 m) : Calls Tryz.prog 34 #[v, v2] w fun e w' => e = .returned (.bool (sameV l m)) ∧ Below w.heap.size w w' := by
  obtain ⟨A, c, rfl, _, hcm⟩ := SlAt.form h.at_
  obtain ⟨A2, c2, rfl, _, hcm2⟩ := SlAt.form h2.at_
  have hl9 : (l.length : Int) ≤ 9223372036854775807 := by unfold maxLen at hcm; omega
  have hm9 : (m.length : Int) ≤ 9223372036854775807 := by unfold maxLen at hcm2; omega
  have HL := hide h
  have HM := hide h2
  clear h h2 hcm hcm2
  by_cases hlen : l.length = m.length
  rotate_left
  · have hb : ((l.length : Int) != m.length) = true := by simp; omega
    have HE : Hid (sameV l m = false) := hide (by
      rw [← Bool.not_eq_true, Hd.sameV_iff]
      intro e; exact hlen (by rw [e]))
    clear hlen
    rw [HE.out]
    go_enter Tryz.func34, Tryz.ntmps34
    go_wp2_with fail
    go_ret
    exact ⟨rfl, Below.refl _ _⟩
  have HLEN := hide hlen
  clear hlen hm9
  rw [← HLEN.out]
  go_enter Tryz.func34, Tryz.ntmps34
  go_wp2_with fail
  go_loopw [5] (fun kv wr => (∃ k : Nat, (k ≤ l.length ∧ ∀ j : Nat, j < k → l[j]? = m[j]?) ∧ kv = .int .i64 (k : Nat)) ∧ Kpt w wr) (fun kv _ => l.length - (intOf kv).toNat)
  case atStart => exact ⟨⟨0, ⟨by omega, fun j hj => by omega⟩, rfl⟩, ⟨Below.refl _ _⟩⟩
  case round =>
    obtain ⟨⟨k, ⟨hk, hno⟩, rfl⟩, ho⟩ := hrel
    have HNO := hide hno
    have HO := hide ho
    clear hno ho
    by_cases hlt : k < l.length
    · have i0 : (k : Int) < l.length := by omega
      obtain ⟨bl, off, c', e, hbl, hr⟩ := SlAt.elem (HL.out.at_.below HO.out.below) (fun _ => rfl) hlt
      cases e
      have hlt2 : k < m.length := by have := HLEN.out; omega
      obtain ⟨bl2, off2, c3, e, hbl2, hr2⟩ := SlAt.elem (HM.out.at_.below HO.out.below) (fun _ => rfl) hlt2
      have e1 : A2 = some ⟨bl2, off2, none⟩ := by injection e
      subst e1
      have HG := hide (And.intro (List.getElem?_eq_getElem hlt) (List.getElem?_eq_getElem hlt2))
      clear e
      generalize l[k] = x at *
      generalize m[k] = y at *
      clear hlt2
      obtain ⟨g0, g1, g2, g3, g4, g5, g6, g7, g8⟩ := vl_cells hr
      obtain ⟨k0, k1, k2, k3, k4, k5, k6, k7, k8⟩ := vl_cells hr2
      clear hr hr2
      by_cases hxy : x = y
      · subst hxy
        go_wp2_with fail
        go_quiet (fail)
        go_wp2_with fail
        exact ⟨⟨⟨k + 1, ⟨by omega, fun j hj => by
          rcases Nat.lt_or_ge j k with h | h
          · exact HNO.out j h
          · obtain rfl : j = k := by omega
            rw [HG.out.1, HG.out.2]⟩, rfl⟩, HO.out.step (below_drewN (Below.refl _ _) nq)⟩, by simp [intOf]; omega⟩
      · have HE : Hid (sameV l m = false) := hide (by
          rw [← Bool.not_eq_true, Hd.sameV_iff]
          intro e
          have := HG.out.1
          rw [e, HG.out.2] at this
          injection this with this
          exact hxy this.symm)
        by_cases hn : x.name.toList = y.name.toList
        · have he : (x.el.e0 == y.el.e0 && x.el.e1 == y.el.e1 && x.el.e2 == y.el.e2 && x.el.e3 == y.el.e3 && x.el.e4 == y.el.e4 && x.el.e5 == y.el.e5 && x.el.e6 == y.el.e6 && x.el.e7 == y.el.e7) = false := by
            rw [← Bool.not_eq_true]
            intro h
            exact hxy (Hd.eqVl_iff.1 (by simp only [Hd.eqVl, Bool.and_eq_true]; exact ⟨by rw [hn]; simp, h⟩))
          clear hxy
          go_wp2_with fail
          go_quiet (fail)
          go_wp2_with fail
          go_ret
          exact ⟨congrArg (fun b => Ending.returned (.bool b)) HE.out.symm, below_drewN HO.out.below nq⟩
        · clear hxy
          go_wp2_with fail
          go_quiet (fail)
          go_wp2_with fail
          go_ret
          exact ⟨congrArg (fun b => Ending.returned (.bool b)) HE.out.symm, below_drewN HO.out.below nq⟩
    · obtain rfl : k = l.length := by omega
      have HE : Hid (sameV l m = true) := hide (by
        rw [Hd.sameV_iff]
        apply List.ext_getElem?
        intro j
        rcases Nat.lt_or_ge j l.length with h | h
        · exact HNO.out j h
        · rw [List.getElem?_eq_none h, List.getElem?_eq_none (by have := HLEN.out; omega)])
      go_wp2_with fail
      go_ret
      exact ⟨congrArg (fun b => Ending.returned (.bool b)) HE.out.symm, HO.out.below⟩
end Go.Proofs.YthnbhcfpfbimgaaGreat
