/- Texts put together: RiAbout RiSound0 RiBase RiSound. -/
import Derived.Test.YthnbhcfpfbimgaaGreatMl35
/- The walk of law 22's about. (Printed by riabout.py.) -/
namespace Go.Proofs.YthnbhcfpfbimgaaGreat
open Go.RowKit
open Rw (El At Fld)
theorem info_as : (Tryz.prog.info? 71).map (fun i => (i.zero, i.size, i.bytes)) = some (some (.agg #[.int .i64 0, .int .i64 0, .slice none 0 0, .int .i64 0, .int .u64 0, .int .u64 0, .int .u64 0, .int .u64 0, .int .u64 0, .int .u64 0, .int .u64 0, .int .u64 0, .slice none 0 0, .int .i64 0, .slice none 0 0, .int .i64 0, .int .i64 0, .string ByteArray.empty]), 18, 200) := by kernel_rfl
theorem as_news {w : World} {g : Nat} {x : As} {vc va vb : Value} (hc : vc.oneCell' = true) (ha : va.oneCell' = true) (hb : vb.oneCell' = true) (h : w.heap[g]? = some (.cells #[.int .i64 x.op, .int .i64 x.lat, vc, .int .i64 x.to_.var, .int .u64 x.to_.el.e0, .int .u64 x.to_.el.e1, .int .u64 x.to_.el.e2, .int .u64 x.to_.el.e3, .int .u64 x.to_.el.e4, .int .u64 x.to_.el.e5, .int .u64 x.to_.el.e6, .int .u64 x.to_.el.e7, va, .int .i64 x.a.tail, vb, .int .i64 x.b.tail, .int .i64 x.var, .string x.field] 71 (0, 0))) : Src Tryz.prog 18 26 (.slice (some ⟨g, 0, none⟩) 1 1) 1 (asV x vc va vb) w :=
  Src.ofSlice _ Tryz.underlying26 ⟨g, 0, none⟩ 1 1 _ rfl (World.news_of_block (cs := #[.int .i64 x.op, .int .i64 x.lat, vc, .int .i64 x.to_.var, .int .u64 x.to_.el.e0, .int .u64 x.to_.el.e1, .int .u64 x.to_.el.e2, .int .u64 x.to_.el.e3, .int .u64 x.to_.el.e4, .int .u64 x.to_.el.e5, .int .u64 x.to_.el.e6, .int .u64 x.to_.el.e7, va, .int .i64 x.a.tail, vb, .int .i64 x.b.tail, .int .i64 x.var, .string x.field]) (t := 71) (fr := (0, 0)) h) (by simp [asV, Value.oneCell'] at *; simp [hc, ha, hb])
theorem part_left {xs ys : List Value} {z n i : Nat} (h : xs.length = n * z) (hi : i < n) : part (xs ++ ys) z i = part xs z i := by
  have h1 : (i + 1) * z ≤ n * z := Nat.mul_le_mul_right z hi
  rw [Nat.succ_mul] at h1
  unfold part
  rw [List.drop_append_of_le_length (by omega), List.take_append_of_le_length (by rw [List.length_drop]; omega)]
theorem part_last {xs ys : List Value} {z n : Nat} (h : xs.length = n * z) (hy : ys.length = z) : part (xs ++ ys) z n = ys := by
  unfold part
  rw [List.drop_left' h, List.take_of_length_le (by omega)]
/-- A row of assertions of one's own. -/
structure AsS (W : World) (B : Nat) (v : Value) (l : List As) (wr : World) : Prop where
  ex : ∃ xs, RowZ wr 71 18 v l.length xs ∧ xs.length = l.length * 18 ∧ ∀ (i : Nat) x, l[i]? = some x → AsC W B x (part xs 18 i)
  own : ∀ g, v.ownBlock = some g → W.heap.size ≤ g
  below : Below W.heap.size W wr
theorem AsS.nil {W wr : World} {B : Nat} (h : Below W.heap.size W wr) : AsS W B (.slice none 0 0) [] wr := ⟨⟨[], RowZ.nil, rfl, fun i x hx => by simp at hx⟩, fun g hg => (by cases hg), h⟩
theorem AsS.step {W : World} {B : Nat} {v : Value} {l : List As} {wr w' : World} (h : AsS W B v l wr) (hb : Below wr.heap.size wr w') : AsS W B v l w' := by
  obtain ⟨xs, h1, h2, h3⟩ := h.ex
  exact ⟨⟨xs, RowZ.below h1 hb, h2, h3⟩, h.own, below_next h.below hb⟩
theorem AsS.asrs {W : World} {B : Nat} {v : Value} {l : List As} {wr : World} (h : AsS W B v l wr) : Asrs wr B v l := by
  obtain ⟨xs, h1, h2, h3⟩ := h.ex
  refine ⟨⟨xs, SlAt.of_row h1, fun i x hx => ?_⟩⟩
  obtain ⟨⟨vc, va, vb, h4, h5⟩⟩ := h3 i x hx
  exact ⟨⟨vc, va, vb, h4, h5.below h.below⟩⟩
theorem AsS.push {W : World} {B : Nat} {v v' : Value} {l : List As} {x : As} {vc va vb : Value} {xs : List Value} {wr w5 w' : World} (h : AsS W B v l wr) (hw : Below wr.heap.size wr w5) (hx : AsAt W B x vc va vb) (hxl : xs.length = l.length * 18) (hc : ∀ (i : Nat) y, l[i]? = some y → AsC W B y (part xs 18 i)) (hr : RowZ w' 71 18 v' (l.length + 1) (xs ++ asV x vc va vb)) (hg : w5.grownBy w' v.ownBlock)
    (ho : v'.ownBlock = v.ownBlock ∨ v'.ownBlock = some w5.heap.size) : AsS W B v' (l ++ [x]) w' := by
  have H5 := h.step hw
  have h18 : (asV x vc va vb).length = 18 := rfl
  refine ⟨⟨_, by rw [List.length_append]; exact hr, by simp [hxl, h18]; omega, fun i y hy => ?_⟩, fun g hg => ?_, H5.below.grown hg H5.below.size H5.own⟩
  · rcases Nat.lt_or_ge i l.length with hi | hi
    · rw [List.getElem?_append_left hi] at hy
      rw [part_left hxl hi]
      exact hc i y hy
    · rw [List.getElem?_append_right hi] at hy
      have hi1 := (List.getElem?_eq_some_iff.1 hy).1
      simp at hi1
      have hi0 : i = l.length := by omega
      subst hi0
      simp at hy
      subst hy
      rw [part_last hxl h18]
      exact ⟨⟨vc, va, vb, rfl, hx⟩⟩
  · rcases ho with e | e
    · rw [e] at hg; exact H5.own g hg
    · rw [e] at hg; injection hg with hg; rw [← hg]; exact H5.below.size
theorem SlAt.setRow' {w : World} {B g z n : Nat} {e T : TypeId} {v : Value} {xs : List Value} {old new : Array Value} (h : SlAt w B e z v n xs) (hg : w.heap[g]? = some (.cells old T (0, 0))) (hB : B ≤ g) (hT : e ≠ T) : SlAt (w.setRow g new) B e z v n xs :=
  h.keep (by simp [World.setRow]) fun b _ hc => setRow_other w g b new fun hbg => by
    subst hbg
    rcases hc with hc | ⟨cs, hc⟩
    · omega
    · rw [hg] at hc
      injection hc with hc
      injection hc with _ hc _
      exact hT hc.symm
theorem Asrs.setRow' {w : World} {B g : Nat} {T : TypeId} {v : Value} {l : List As} {old new : Array Value} (h : Asrs w B v l) (hg : w.heap[g]? = some (.cells old T (0, 0))) (hB : B ≤ g) (h1 : 71 ≠ T) (h2 : 114 ≠ T) (h3 : 59 ≠ T) : Asrs (w.setRow g new) B v l := by
  obtain ⟨⟨xs, k1, k2⟩⟩ := h
  refine ⟨⟨xs, k1.setRow' hg hB h1, fun i x hx => ?_⟩⟩
  obtain ⟨⟨vc, va, vb, k3, k4⟩⟩ := k2 i x hx
  exact ⟨⟨vc, va, vb, k3, ⟨k4.code.setRow' hg hB h2, k4.fa.setRow' hg hB h3, k4.fb.setRow' hg hB h3, k4.sa, k4.sb, k4.sf⟩⟩⟩
/-- The assertions about rows. -/
def rowsOf (l : List As) : List As := l.filter fun x => decide (x.op ≠ 8)
structure RAb (W : World) (B : Nat) (l : List As) (e : Ending) (w' : World) : Prop where
  ex : ∃ v, e = .returned v ∧ Asrs w' B v l ∧ Below W.heap.size W w'
structure AbL (W : World) (B : Nat) (l : List As) (v kv : Value) (wr : World) : Prop where
  ex : ∃ k : Nat, k ≤ l.length ∧ kv = .int .i64 (k : Nat) ∧ AsS W B v (rowsOf (l.take k)) wr
set_option maxRecDepth 100000 in
set_option maxHeartbeats 4000000 in
theorem about_any (B : Nat) (vl vv vs : Value) (as_ : List As) (w : World) (h : Asrs w B vs as_) (h64 : as_.length ≤ 64) :
    Calls Tryz.prog 9 #[.agg #[vl, vv, vs]] w fun e w' => RAb w B (rowsOf as_) e w' := by
  obtain ⟨i1, hj, hy0, hy1, hy2⟩ := info_parts info_as
  obtain ⟨A, c, rfl, _, _⟩ := h.form
  have hl9 : (as_.length : Int) ≤ 64 := by omega
  have HB := hide (below_laid w (.cells #[vl, vv, .slice A as_.length c] 28))
  have k2 : (w.alloc (.cells #[vl, vv, .slice A as_.length c] 28)).cell? ⟨w.heap.size, 2, none⟩ = some (.slice A as_.length c) := by rw [cell_block (heap_alloc_last w _)]; rfl
  have HAS := hide (h.below HB.out)
  clear h
  go_enter Tryz.func9, Tryz.ntmps9
  go_upto_region 1 with fail
  generalize w.alloc (Obj.cells _ 28) = w0 at *
  go_wp2_with fail
  clear k2
  go_loopw [3, 9] (fun v kv wr => AbL w0 B as_ v kv wr) (fun _ kv _ => as_.length - (intOf kv).toNat)
  case atStart => exact ⟨0, by omega, rfl, AsS.nil (Below.refl _ _)⟩
  case round =>
    obtain ⟨k, hk, rfl, ho⟩ := hrel
    have HO := hide ho
    obtain ⟨xs, hrow, hxl, hxc⟩ := ho.ex
    have HX := hide (And.intro hrow (And.intro hxl hxc))
    have hol : (rowsOf (as_.take k)).length ≤ 64 := Nat.le_trans (List.length_filter_le _ _) (by simp; omega)
    obtain ⟨Ao, co, rfl, _⟩ := RowZ.form hrow
    clear ho hrow hxl hxc
    by_cases hlt : k < as_.length
    · have i0 : (k : Int) < as_.length := by omega
      obtain ⟨bl, off, c', vc, va, vb, e, hbl, hr, ha⟩ := (HAS.out).at hlt
      cases e
      have HTK : Hid (rowsOf (as_.take (k + 1)) = rowsOf (as_.take k) ++ (if as_[k].op = 8 then [] else [as_[k]])) := hide (by
        unfold rowsOf
        rw [List.take_succ_eq_append_getElem hlt, List.filter_append]
        by_cases h8 : as_[k].op = 8 <;> simp [h8])
      generalize as_[k] = x at *
      obtain ⟨Ac, cc, rfl, _, _⟩ := SlAt.form ha.code
      obtain ⟨Aa, ca, rfl, _, _⟩ := SlAt.form ha.fa
      obtain ⟨Ab, cb, rfl, _, _⟩ := SlAt.form ha.fb
      have HA := hide ha
      have HL := hide (ldA (cs := #[.int .i64 x.op, .int .i64 x.lat, (.slice Ac x.code.length cc), .int .i64 x.to_.var, .int .u64 x.to_.el.e0, .int .u64 x.to_.el.e1, .int .u64 x.to_.el.e2, .int .u64 x.to_.el.e3, .int .u64 x.to_.el.e4, .int .u64 x.to_.el.e5, .int .u64 x.to_.el.e6, .int .u64 x.to_.el.e7, (.slice Aa x.a.fields.length ca), .int .i64 x.a.tail, (.slice Ab x.b.fields.length cb), .int .i64 x.b.tail, .int .i64 x.var, .string x.field]) 11 (range_below hr hbl HO.out.below) Tryz.underlying71 rfl as_info)
      have HST := hide (stA (w := wr) (new := #[.int .i64 x.op, .int .i64 x.lat, (.slice Ac x.code.length cc), .int .i64 x.to_.var, .int .u64 x.to_.el.e0, .int .u64 x.to_.el.e1, .int .u64 x.to_.el.e2, .int .u64 x.to_.el.e3, .int .u64 x.to_.el.e4, .int .u64 x.to_.el.e5, .int .u64 x.to_.el.e6, .int .u64 x.to_.el.e7, (.slice Aa x.a.fields.length ca), .int .i64 x.a.tail, (.slice Ab x.b.fields.length cb), .int .i64 x.b.tail, .int .i64 x.var, .string x.field]) 5 12 as_info (by simp [Value.oneCell']))
      clear hr ha hbl
      go_upto_region 5 with (first | (with_reducible refine HL.out _ _ _ _ _ rfl rfl (by with_unfolding_all rfl) ?_) | (with_reducible refine HST.out _ _ _ _ _ _ rfl rfl rfl rfl (by with_unfolding_all rfl) ?_))
      have HB7 := hide (below_laid wr (.cells #[.int .i64 x.op, .int .i64 x.lat, (.slice Ac x.code.length cc), .int .i64 x.to_.var, .int .u64 x.to_.el.e0, .int .u64 x.to_.el.e1, .int .u64 x.to_.el.e2, .int .u64 x.to_.el.e3, .int .u64 x.to_.el.e4, .int .u64 x.to_.el.e5, .int .u64 x.to_.el.e6, .int .u64 x.to_.el.e7, (.slice Aa x.a.fields.length ca), .int .i64 x.a.tail, (.slice Ab x.b.fields.length cb), .int .i64 x.b.tail, .int .i64 x.var, .string x.field] 71))
      have HL2 := hide (ldA (k := 5) (cs := #[.int .i64 x.op, .int .i64 x.lat, (.slice Ac x.code.length cc), .int .i64 x.to_.var, .int .u64 x.to_.el.e0, .int .u64 x.to_.el.e1, .int .u64 x.to_.el.e2, .int .u64 x.to_.el.e3, .int .u64 x.to_.el.e4, .int .u64 x.to_.el.e5, .int .u64 x.to_.el.e6, .int .u64 x.to_.el.e7, (.slice Aa x.a.fields.length ca), .int .i64 x.a.tail, (.slice Ab x.b.fields.length cb), .int .i64 x.b.tail, .int .i64 x.var, .string x.field]) (b := wr.heap.size) (o := 0) (w := wr.alloc (.cells #[.int .i64 x.op, .int .i64 x.lat, (.slice Ac x.code.length cc), .int .i64 x.to_.var, .int .u64 x.to_.el.e0, .int .u64 x.to_.el.e1, .int .u64 x.to_.el.e2, .int .u64 x.to_.el.e3, .int .u64 x.to_.el.e4, .int .u64 x.to_.el.e5, .int .u64 x.to_.el.e6, .int .u64 x.to_.el.e7, (.slice Aa x.a.fields.length ca), .int .i64 x.a.tail, (.slice Ab x.b.fields.length cb), .int .i64 x.b.tail, .int .i64 x.var, .string x.field] 71)) (range_block (heap_alloc_last wr _) 0 _ fun j u hu => by rw [Nat.zero_add]; simpa using hu) Tryz.underlying71 rfl as_info)
      have k0 : (wr.alloc (.cells #[.int .i64 x.op, .int .i64 x.lat, (.slice Ac x.code.length cc), .int .i64 x.to_.var, .int .u64 x.to_.el.e0, .int .u64 x.to_.el.e1, .int .u64 x.to_.el.e2, .int .u64 x.to_.el.e3, .int .u64 x.to_.el.e4, .int .u64 x.to_.el.e5, .int .u64 x.to_.el.e6, .int .u64 x.to_.el.e7, (.slice Aa x.a.fields.length ca), .int .i64 x.a.tail, (.slice Ab x.b.fields.length cb), .int .i64 x.b.tail, .int .i64 x.var, .string x.field] 71)).cell? ⟨wr.heap.size, 0, none⟩ = some (.int .i64 x.op) := by rw [cell_block (heap_alloc_last wr _)]; rfl
      have HO7 := hide (HO.out.step HB7.out)
      have HR7 := hide (RowZ.below HX.out.1 HB7.out)
      clear HL HST
      generalize hw7 : wr.alloc (Obj.cells _ 71) = w7 at *
      clear hw7
      by_cases h8 : x.op = 8
      · have hop : (x.op != 8) = false := by simp [h8]
        have H8 := hide h8
        clear h8
        go_wp2_with fail
        exact ⟨⟨k + 1, by omega, rfl, by rw [HTK.out, if_pos H8.out, List.append_nil]; exact HO7.out⟩, by simp [intOf]; omega⟩
      · have hop : (x.op != 8) = true := by simp [h8]
        have H8 := hide h8
        clear h8
        go_wp2_with (first | (with_reducible refine HL2.out _ _ _ _ _ rfl rfl (by with_unfolding_all rfl) ?_) | (at_builtin; go_must (refine app_rowz rfl (.tmp 16) (.tmp 18) 26 26 rfl 71 i1 _ 18 200 Tryz.underlying26 hj hy0 hy1 hy2 rfl (.slice Ao (rowsOf (as_.take k)).length co) (rowsOf (as_.take k)).length xs rfl (RowZ.below HR7.out (below_laid w7 _)) _ 1 (asV x (.slice Ac x.code.length cc) (.slice Aa x.a.fields.length ca) (.slice Ab x.b.fields.length cb)) rfl (as_news rfl rfl rfl (heap_alloc_new w7 _)) (by unfold maxLen; omega) (by omega) ?_); intro A5 c5 w9 hr hg hob; have HG5 := hide (And.intro hr (And.intro hg hob)); clear hr hg hob))
        have HP := hide (HO.out.push (below_next HB7.out (below_laid w7 (.cells #[.int .i64 x.op, .int .i64 x.lat, (.slice Ac x.code.length cc), .int .i64 x.to_.var, .int .u64 x.to_.el.e0, .int .u64 x.to_.el.e1, .int .u64 x.to_.el.e2, .int .u64 x.to_.el.e3, .int .u64 x.to_.el.e4, .int .u64 x.to_.el.e5, .int .u64 x.to_.el.e6, .int .u64 x.to_.el.e7, (.slice Aa x.a.fields.length ca), .int .i64 x.a.tail, (.slice Ab x.b.fields.length cb), .int .i64 x.b.tail, .int .i64 x.var, .string x.field] 71))) HA.out HX.out.2.1 HX.out.2.2 HG5.out.1 HG5.out.2.1 HG5.out.2.2)
        exact ⟨⟨k + 1, by omega, rfl, by rw [HTK.out, if_neg H8.out]; exact HP.out⟩, by simp [intOf]; omega⟩
    · obtain rfl : k = as_.length := by omega
      go_wp2_with fail
      go_ret
      have ho := HO.out
      rw [List.take_length] at ho
      refine ⟨_, rfl, ?_, below_next HB.out ho.below⟩
      show Asrs wr B (.slice Ao (rowsOf (as_.take as_.length)).length co) (rowsOf as_)
      rw [List.take_length]
      exact ho.asrs
end Go.Proofs.YthnbhcfpfbimgaaGreat
/- Plain: what a table knows holds of each solution. No walk. -/
namespace Go.Proofs.YthnbhcfpfbimgaaGreat
namespace Hd
open Rw (El At Fld T Asr W64 Val tv sem Off NoDup findN Mod Cl Holds Acc Sp)
theorem sub_all (x : W64) : Sub allW x := fun i h => by
  rw [allW_bit]
  exact decide_eq_true (Nat.lt_of_not_le fun hle => by rw [BitVec.getLsbD_of_ge _ _ hle] at h; cases h)
theorem nodup_of {fs : List Fld} (h : NoDup fs) : (fs.map (·.name)).Nodup := List.pairwise_map.2 h
theorem nodup_len {a b : List ByteArray} (ha : a.Nodup) (hb : b.Nodup) (h : ∀ x, x ∈ a ↔ x ∈ b) : a.length = b.length :=
  ((List.perm_ext_iff_of_nodup ha hb).2 h).length_eq
theorem pick_mem {fs : List Fld} {ns : List ByteArray} {f : Fld} (h : f ∈ Rw.pick fs ns) : f ∈ fs := by
  unfold Rw.pick at h
  obtain ⟨n, _, h2⟩ := List.mem_filterMap.1 h
  exact List.mem_of_find?_eq_some h2
theorem pick_full {fs : List Fld} : ∀ {ns : List ByteArray}, (∀ n ∈ ns, n ∈ fs.map (·.name)) → (Rw.pick fs ns).length = ns.length
  | [], _ => rfl
  | n :: ns, h => by
    have ih := pick_full (fs := fs) (ns := ns) fun m hm => h m (by simp [hm])
    obtain ⟨f, hf, hn⟩ := List.mem_map.1 (h n (by simp))
    cases hfd : fs.find? (fun x => x.name.toList == n.toList) with
    | none =>
      rw [List.find?_eq_none] at hfd
      exact absurd (name_eq.2 hn) (hfd f hf)
    | some g =>
      unfold Rw.pick at *
      rw [List.filterMap_cons, hfd]
      simp [ih]
/-- What Fields tells of a variable holds of a row of values. -/
structure Known (L : List El) (row : List Vl) (sp : Sp) : Prop where
  dup : NoDup sp.fields
  has : ∀ f ∈ sp.fields, getV row f.name = some (etaL L f.at_)
  closed : sp.fin < 0 → ∀ x ∈ row, x.name ∈ sp.fields.map (·.name)
theorem sound {L : List El} {R : List (List Vl)} {as_ : List As} (h64 : as_.length ≤ 64) (h : ∀ x ∈ as_, oneV L R x = true) :
    (fedT R.length as_ allW).stuck = false ∧ (∀ e ∈ (fedT R.length as_ allW).eqs, etaL L e.a = etaL L e.b) ∧ ∀ v, v < R.length → Known L (R.getD v []) ((fedT R.length as_ allW).spreads [] (v : Nat)) := by
  obtain ⟨val', hval, hm⟩ := fed_mod (L := L) (R := R) allW h64 (fun j x hx _ _ => h x (List.mem_of_getElem? hx)) allW
  have hg := (Rw.feed_gd (feedL allW 0 as_) (Rw.begunT_beg R.length).gd).1
  have ho := (Rw.feed_gd (feedL allW 0 as_) (Rw.begunT_beg R.length).gd).2
  rw [(Rw.begunT_beg R.length).own] at ho
  change Rw.Gd (fedT R.length as_ allW) at hg
  change (fedT R.length as_ allW).own = _ at ho
  generalize fedT R.length as_ allW = s at *
  refine ⟨?_, fun e he => hm.eqs e he (sub_all _), fun v hv => ?_⟩
  · cases hs : s.stuck
    · rfl
    · exact absurd (sub_all _) (hm.stuck hs)
  · obtain ⟨ext, h1, _, h3, h4, h5⟩ := Rw.spread_sem (sub_cl allW) hg.ow.wf (fun i r hr hb hw => hm.row i r hr hb hw) (s.rows.length + 1) ⟨[], (v : Nat), 0⟩ (s.spreads [] (v : Nat)) rfl (sub_all _)
    rw [List.nil_append] at h1
    rw [Rw.tv_nat, hval v hv] at h3
    rw [← h1] at h3 h4 h5
    refine ⟨h5, fun f hf => ?_, fun hfin x hx => ?_⟩
    · show valR R v f.name = _
      rw [h3, Rw.sem_has (η := etaL L) (Rw.findN_mem h5 hf)]
    · have hn : getV (R.getD v []) x.name ≠ none := fun hn => getV_none.1 hn x hx rfl
      have e : getV (R.getD v []) x.name = _ := congrFun h3 x.name
      cases hf : findN (s.spreads [] (v : Nat)).fields x.name with
      | some g =>
        obtain ⟨k1, k2⟩ := Rw.findN_some hf
        exact List.mem_map.2 ⟨g, k1, k2⟩
      | none =>
        exfalso
        rw [Rw.sem_not (η := etaL L) (Rw.findN_none.1 hf), Rw.tv_neg hfin] at e
        exact hn e
/-- A closed row has just as many values as fields are known. -/
theorem Known.len {L : List El} {row : List Vl} {sp : Sp} (h : Known L row sp) (hu : (row.map (·.name)).Nodup) (hfin : sp.fin < 0) {ns : List ByteArray} (hs : Nm.Sorts (sp.fields.map (·.name)) ns) (hns : ns.Nodup) : row.length = (Rw.pick sp.fields ns).length := by
  rw [pick_full fun n hn => (hs.2 n).1 hn, nodup_len hns (nodup_of h.dup) hs.2, show row.length = (row.map (·.name)).length from (List.length_map _).symm]
  refine nodup_len hu (nodup_of h.dup) fun x => ⟨fun hx => ?_, fun hx => ?_⟩
  · obtain ⟨y, hy, rfl⟩ := List.mem_map.1 hx
    exact h.closed hfin y hy
  · obtain ⟨f, hf, rfl⟩ := List.mem_map.1 hx
    have hg := h.has f hf
    unfold getV at hg
    obtain ⟨y, hy, _⟩ := Option.map_eq_some_iff.1 hg
    exact List.mem_map.2 ⟨y, List.mem_of_find?_eq_some hy, name_eq.1 (by simpa using List.find?_some hy)⟩
end Hd
end Go.Proofs.YthnbhcfpfbimgaaGreat
/- What a law of chapter 22 is given. (Printed by riwhy.py.) -/
namespace Go.Proofs.YthnbhcfpfbimgaaGreat
open Go.RowKit
open Rw (El At Fld T W64 Gd Sz Ow Nm tot)
open Hd (elZ atomV oneV etaL)
/-- All that a problem and an assignment are, and that they stay. -/
structure ArW (W0 : World) (B p : Nat) (vl vv vs wl wrs : Value) (n : Nat) (l : List Vr) (as_ : List As) (L : List El) (R : List (List Vl)) (wr : World) : Prop where
  kp : Kpt W0 wr
  lats : Lats wr B vl n
  vars : Vars wr B vv l
  asr : Asrs wr B vs as_
  labs : Lbs wr B wl L
  rows : Rws wr B wrs R
  base : B ≤ wr.heap.size
  lt : p + 1 < wr.heap.size
  p0 : wr.cell? ⟨p, 0, none⟩ = some vl
  p1 : wr.cell? ⟨p, 1, none⟩ = some vv
  p2 : wr.cell? ⟨p, 2, none⟩ = some vs
  q0 : wr.cell? ⟨p + 1, 0, none⟩ = some wl
  q1 : wr.cell? ⟨p + 1, 1, none⟩ = some wrs
theorem ArW.step {W0 : World} {B p : Nat} {vl vv vs wl wrs : Value} {n : Nat} {l : List Vr} {as_ : List As} {L : List El} {R : List (List Vl)} {wr w' : World} (h : ArW W0 B p vl vv vs wl wrs n l as_ L R wr) (hb : Below wr.heap.size wr w') : ArW W0 B p vl vv vs wl wrs n l as_ L R w' := by
  have hl0 : p < wr.heap.size := by have := h.lt; omega
  have hl1 := h.lt
  exact ⟨h.kp.step hb, h.lats.below hb, h.vars.below hb, h.asr.below hb, h.labs.below hb, h.rows.below hb, Nat.le_trans h.base hb.size, Nat.lt_of_lt_of_le h.lt hb.size, (World.cell?_of_block (hb.block _ hl0)).trans h.p0, (World.cell?_of_block (hb.block _ hl0)).trans h.p1, (World.cell?_of_block (hb.block _ hl0)).trans h.p2, (World.cell?_of_block (hb.block _ hl1)).trans h.q0, (World.cell?_of_block (hb.block _ hl1)).trans h.q1⟩
/-- Behind the guard of a law: whether all is right. -/
structure GdW (W0 : World) (B p : Nat) (vl vv vs wl wrs : Value) (n : Nat) (l : List Vr) (as_ : List As) (L : List El) (R : List (List Vl)) (v : Value) (wr : World) : Prop where
  ex : ∃ b, v = .bool b ∧ (b = false → POk l as_ ∧ AsnOk l.length L R)
  ar : ArW W0 B p vl vv vs wl wrs n l as_ L R wr
theorem ArW.new {B : Nat} {vl vv vs wl wrs : Value} {n : Nat} {l : List Vr} {as_ : List As} {L : List El} {R : List (List Vl)} {w : World} (h1 : Lats w B vl n) (h2 : Vars w B vv l) (h3 : Asrs w B vs as_) (h4 : Lbs w B wl L) (h5 : Rws w B wrs R) (hB : B ≤ w.heap.size) : ArW w B w.heap.size vl vv vs wl wrs n l as_ L R ((w.alloc (.cells #[vl, vv, vs] 28)).alloc (.cells #[wl, wrs] 32)) := by
  have hb : Below w.heap.size w ((w.alloc (.cells #[vl, vv, vs] 28)).alloc (.cells #[wl, wrs] 32)) := below_next (below_laid w _) (below_laid _ _)
  have hA := heap_below (heap_alloc_last w (.cells #[vl, vv, vs] 28)) (below_laid _ (.cells #[wl, wrs] 32))
  have hA2 := heap_two w (.cells #[vl, vv, vs] 28) (.cells #[wl, wrs] 32)
  exact ⟨⟨hb⟩, h1.below hb, h2.below hb, h3.below hb, h4.below hb, h5.below hb, Nat.le_trans hB hb.size, by rw [World.size_alloc, World.size_alloc]; omega, by rw [cell_block hA]; rfl, by rw [cell_block hA]; rfl, by rw [cell_block hA]; rfl, by rw [cell_block hA2]; rfl, by rw [cell_block hA2]; rfl⟩
theorem eqn_info : (Tryz.prog.info? 52).map (·.size) = some 19 := by kernel_rfl
theorem eqn_ranges {w : World} {b : Nat} {e : Rw.Eqn} {zy : Int} (h : w.heap[b]? = some (.cells #[.int .i64 e.a.var, .int .u64 e.a.el.e0, .int .u64 e.a.el.e1, .int .u64 e.a.el.e2, .int .u64 e.a.el.e3, .int .u64 e.a.el.e4, .int .u64 e.a.el.e5, .int .u64 e.a.el.e6, .int .u64 e.a.el.e7, .int .i64 e.b.var, .int .u64 e.b.el.e0, .int .u64 e.b.el.e1, .int .u64 e.b.el.e2, .int .u64 e.b.el.e3, .int .u64 e.b.el.e4, .int .u64 e.b.el.e5, .int .u64 e.b.el.e6, .int .u64 e.b.el.e7, .int .u64 zy] 52 (0, 0))) : w.rangeAt b 0 [.int .i64 e.a.var, .int .u64 e.a.el.e0, .int .u64 e.a.el.e1, .int .u64 e.a.el.e2, .int .u64 e.a.el.e3, .int .u64 e.a.el.e4, .int .u64 e.a.el.e5, .int .u64 e.a.el.e6, .int .u64 e.a.el.e7] ∧ w.rangeAt b 9 [.int .i64 e.b.var, .int .u64 e.b.el.e0, .int .u64 e.b.el.e1, .int .u64 e.b.el.e2, .int .u64 e.b.el.e3, .int .u64 e.b.el.e4, .int .u64 e.b.el.e5, .int .u64 e.b.el.e6, .int .u64 e.b.el.e7] := by
  refine ⟨range_block h 0 _ fun j u hu => ?_, range_block h 9 _ fun j u hu => ?_⟩ <;>
  · have hj := (List.getElem?_eq_some_iff.1 hu).1
    simp only [List.length_cons, List.length_nil] at hj
    match j, hu, hj with
    | 0, hu, _ => exact hu
    | 1, hu, _ => exact hu
    | 2, hu, _ => exact hu
    | 3, hu, _ => exact hu
    | 4, hu, _ => exact hu
    | 5, hu, _ => exact hu
    | 6, hu, _ => exact hu
    | 7, hu, _ => exact hu
    | 8, hu, _ => exact hu
/-- A table beside all that. -/
structure TaW (W0 : World) (B p : Nat) (vl vv vs wl wrs : Value) (n : Nat) (l : List Vr) (as_ : List As) (L : List El) (R : List (List Vl)) (W3 : World) (B3 P3 : Nat) (s : T) (wr : World) : Prop where
  ar : ArW W0 B p vl vv vs wl wrs n l as_ L R wr
  tb : TbS W3 B3 P3 s wr
theorem POk.nine {l : List Vr} {as_ : List As} (h : POk l as_) : ∀ x ∈ as_, x.op = 9 → x.a.fields.length ≤ 100 ∧ x.b.fields.length ≤ 100 := fun x hx h9 => by
  obtain ⟨a, b⟩ := (h.ok x hx).rows h9
  have := a.few
  have := b.few
  omega
end Go.Proofs.YthnbhcfpfbimgaaGreat
/- The walk of RowsSound. (Printed by risound.py.) -/
namespace Go.Proofs.YthnbhcfpfbimgaaGreat
open Go.RowKit
open Rw (El At Fld T W64 Gd Sz Ow Nm tot)
open Hd (elZ atomV oneV etaL getV)
theorem pr_info : (Tryz.prog.info? 28).map (·.size) = some 3 := by kernel_rfl
theorem pr_one {vl vv va : Value} (h1 : vl.oneCell' = true) (h2 : vv.oneCell' = true) (h3 : va.oneCell' = true) : (#[vl, vv, va] : Array Value).all (·.oneCell') = true := by simp [h1, h2, h3]
theorem fd_mid {w : World} {b : Nat} {f : Fld} (h : w.heap[b]? = some (.cells #[.string f.name, .int .i64 f.at_.var, .int .u64 f.at_.el.e0, .int .u64 f.at_.el.e1, .int .u64 f.at_.el.e2, .int .u64 f.at_.el.e3, .int .u64 f.at_.el.e4, .int .u64 f.at_.el.e5, .int .u64 f.at_.el.e6, .int .u64 f.at_.el.e7] 59 (0, 0))) : w.rangeAt b 1 [.int .i64 f.at_.var, .int .u64 f.at_.el.e0, .int .u64 f.at_.el.e1, .int .u64 f.at_.el.e2, .int .u64 f.at_.el.e3, .int .u64 f.at_.el.e4, .int .u64 f.at_.el.e5, .int .u64 f.at_.el.e6, .int .u64 f.at_.el.e7] :=
  range_block h 1 _ fun j u hu => by
    have hj := (List.getElem?_eq_some_iff.1 hu).1
    simp only [List.length_cons, List.length_nil] at hj
    match j, hu, hj with
    | 0, hu, _ => exact hu
    | 1, hu, _ => exact hu
    | 2, hu, _ => exact hu
    | 3, hu, _ => exact hu
    | 4, hu, _ => exact hu
    | 5, hu, _ => exact hu
    | 6, hu, _ => exact hu
    | 7, hu, _ => exact hu
    | 8, hu, _ => exact hu
/-- The problem whose assertions are about rows, beside all that. -/
structure QuW (W0 : World) (B p : Nat) (vl vv vs wl wrs : Value) (n : Nat) (l : List Vr) (as_ : List As) (L : List El) (R : List (List Vl)) (qv : Value) (wr : World) : Prop where
  ar : ArW W0 B p vl vv vs wl wrs n l as_ L R wr
  ex : ∃ g v, qv = .pointer (some ⟨g, 0, none⟩) ∧ g < wr.heap.size ∧ wr.cell? ⟨g, 0, none⟩ = some vl ∧ wr.cell? ⟨g, 1, none⟩ = some vv ∧ wr.cell? ⟨g, 2, none⟩ = some v ∧ Asrs wr B v (rowsOf as_)
theorem rowsOf_ok {l : List Vr} {as_ : List As} (h : POk l as_) : POk l (rowsOf as_) :=
  ⟨h.vars, Nat.le_trans (List.length_filter_le _ _) h.few, fun x hx => h.ok x ((List.mem_filter.1 hx).1)⟩
theorem rowsOf_aor {l : List Vr} {as_ : List As} {n : Nat} (h : POk l as_) (hn : n = l.length) : ∀ x ∈ rowsOf as_, AoR n x := fun x hx => by
  subst hn
  have hk := h.ok x ((List.mem_filter.1 hx).1)
  refine ⟨hk, ?_⟩
  have h8 : x.op ≠ 8 := by simpa [rowsOf] using (List.mem_filter.1 hx).2
  rcases hk.op with e | e | e
  · exact absurd e h8
  · exact .inl e
  · exact .inr e
end Go.Proofs.YthnbhcfpfbimgaaGreat
