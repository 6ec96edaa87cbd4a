/- Texts put together: RiFed RiMeans RiFields RiAhead0 RiAhead RiHolds RiWhy0. -/
import Derived.Test.YthnbhcfpfbimgaaGreatMl34
import Derived.Test.YthnbhcfpfbimgaaGreatMl13
/- The walk of law 22's fed. (Printed by rifed.py.) -/
namespace Go.Proofs.YthnbhcfpfbimgaaGreat
open Go.RowKit
open Rw (El At Fld T W64 Gd Sz Ow Nm)
theorem bits_and (x y : W64) : bits BinOp.and IntKind.u64 ((x.toNat : Nat) : Int) ((y.toNat : Nat) : Int) = (((x &&& y).toNat : Nat) : Int) := by
  show IntKind.u64.wrap (((BitVec.ofInt 64 ((x.toNat : Nat) : Int)) &&& (BitVec.ofInt 64 ((y.toNat : Nat) : Int))).toNat : Int) = _
  have h : ∀ z : W64, BitVec.ofInt 64 ((z.toNat : Nat) : Int) = z := fun z => by
    rw [BitVec.ofInt_natCast]
    exact BitVec.ofNat_toNat 64 z |>.trans (by simp)
  rw [h, h]
  have : (x &&& y).toNat < 2 ^ 64 := (x &&& y).isLt
  generalize (x &&& y).toNat = n at *
  simp [IntKind.wrap, IntKind.bits, IntKind.signed]
  omega
theorem bit_at (inn : W64) (k : Nat) : (bits BinOp.and IntKind.u64 (((inn.toNat : Nat) : Int) / 2 ^ k) 1 == 1) = inn.getLsbD k := by
  have h1 : ((inn.toNat : Nat) : Int) / 2 ^ k = (((inn >>> k).toNat : Nat) : Int) := by
    rw [BitVec.toNat_ushiftRight, Nat.shiftRight_eq_div_pow]
    simp
  rw [h1, show (bits BinOp.and IntKind.u64 (((inn >>> k).toNat : Nat) : Int) 1) = _ from bits_and (inn >>> k) 1#64, BitVec.toNat_and, BitVec.toNat_ushiftRight]
  show (((inn.toNat >>> k &&& 1 : Nat) : Int) == 1) = inn.toNat.testBit k
  rw [Nat.and_one_is_mod, Nat.shiftRight_eq_div_pow, Nat.testBit_eq_decide_div_mod_eq]
  by_cases h : inn.toNat / 2 ^ k % 2 = 1
  · simp [h]
  · have : inn.toNat / 2 ^ k % 2 = 0 := by omega
    simp [this]
theorem one_shl {k : Nat} (hk : k < 64) : (((1#64 <<< k).toNat : Nat) : Int) = IntKind.u64.wrap (2 ^ k) := by
  have h : 2 ^ k < 2 ^ 64 := Nat.pow_lt_pow_right (by decide) hk
  rw [BitVec.toNat_shiftLeft, Nat.shiftLeft_eq, show (1#64).toNat = 1 from rfl, Nat.one_mul, Nat.mod_eq_of_lt h]
  have h2 : ((2 : Int) ^ k) = ((2 ^ k : Nat) : Int) := by simp
  rw [h2]
  generalize 2 ^ k = n at *
  simp [IntKind.wrap, IntKind.bits, IntKind.signed]
  omega
set_option maxRecDepth 100000 in
set_option maxHeartbeats 4000000 in
theorem fed_any (B : Nat) (vl vv vs : Value) (l : List Vr) (as_ : List As) (inn : W64) (w : World) (h2 : Vars w B vv l) (h3 : Asrs w B vs as_) (hB : B ≤ w.heap.size) (hok : POk l as_) (hf : ∀ x ∈ as_, x.op = 9 → x.a.fields.length ≤ 100 ∧ x.b.fields.length ≤ 100) :
    Calls Tryz.prog 10 #[.agg #[vl, vv, vs], whyV inn] w fun e w' => RTb w (fedT l.length as_ inn) e w' := by
  obtain ⟨A, c, rfl, _, hcm⟩ := h3.form
  obtain ⟨A2, c2, rfl, _, _⟩ := h2.form
  have hl9 : (as_.length : Int) ≤ 9223372036854775807 := by unfold maxLen at hcm; omega
  have HB := hide (below_laid w (.cells #[vl, .slice A2 l.length c2, .slice A as_.length c] 28))
  have HA := hide (heap_alloc_last w (.cells #[vl, .slice A2 l.length c2, .slice A as_.length c] 28))
  have HAS := hide ((h3.below HB.out).mono (Nat.le_trans hB HB.out.size))
  have HOK := hide (And.intro hok hf)
  have hUl : (namesU as_).length ≤ 20000 := Nat.le_trans (namesU_len hf) (by have := hok.few; omega)
  have HU := hide hUl
  have k0 : (w.alloc (.cells #[vl, .slice A2 l.length c2, .slice A as_.length c] 28)).cell? ⟨w.heap.size, 0, none⟩ = some vl := by rw [cell_block HA.out]; rfl
  have k1 : (w.alloc (.cells #[vl, .slice A2 l.length c2, .slice A as_.length c] 28)).cell? ⟨w.heap.size, 1, none⟩ = some (.slice A2 l.length c2) := by rw [cell_block HA.out]; rfl
  have k2 : (w.alloc (.cells #[vl, .slice A2 l.length c2, .slice A as_.length c] 28)).cell? ⟨w.heap.size, 2, none⟩ = some (.slice A as_.length c) := by rw [cell_block HA.out]; rfl
  have HBG := hide (begun_any vl (.slice A as_.length c) l.length A2 c2 (by have := hok.vars; omega) (w.alloc (.cells #[vl, .slice A2 l.length c2, .slice A as_.length c] 28)))
  have h64 : as_.length ≤ 64 := hok.few
  have H64 := hide h64
  unfold whyV
  clear h2 h3 hok hf hcm HA hUl
  generalize hinn : ((inn.toNat : Nat) : Int) = zin
  have HIN := hide hinn
  clear hinn
  go_enter Tryz.func10, Tryz.ntmps10
  go_upto_region 1 with fail
  generalize w.alloc (Obj.cells _ 28) = w0 at *
  go_upto_region 2 with (go_at_call 28; refine HBG.out.mono ?_; rintro e w1 ⟨P, B2, rfl, hle, htb, hbl⟩; have H1 := hide (And.intro hle (And.intro htb hbl)); have k3 := (Kpt.mk hbl).cell k2; clear hle htb hbl)
  clear HBG k0 k1 k2
  go_wp2_with fail
  clear k3
  go_loopw [13] (fun kv wr => (∃ k : Nat, k ≤ as_.length ∧ kv = .int .i64 (k : Nat)) ∧ (∃ k : Nat, kv = .int .i64 (k : Nat) ∧ FdOk l.length (namesU as_) k (fedT l.length (as_.take k) inn) ∧ TbS w1 B2 P (fedT l.length (as_.take k) inn) wr) ∧ Kpt w0 wr) (fun kv _ => as_.length - (intOf kv).toNat)
  case atStart => exact ⟨⟨0, by omega, rfl⟩, ⟨0, rfl, FdOk.begun _ _, H1.out.2.1.ex, Below.refl _ _, H1.out.2.1.ge⟩, ⟨H1.out.2.2⟩⟩
  case round =>
    obtain ⟨⟨k, hk, rfl⟩, ⟨k', e', hfd, htb⟩, ho⟩ := hrel
    obtain rfl : k = k' := by injection e' with _ e'; omega
    clear e'
    have HO := hide ho
    have HT := hide htb
    have HFD := hide hfd
    clear ho htb hfd
    by_cases hlt : k < as_.length
    · have i0 : (k : Int) < as_.length := by omega
      have i1 : (k : Int) < 64 := by omega
      obtain ⟨bl, off, c', vc, va, vb, e, hbl, hr, ha⟩ := (HAS.out.below HO.out.below).at hlt
      cases e
      have HMEM := hide (List.getElem_mem hlt)
      have HTK : Hid (as_.take (k + 1) = as_.take k ++ [as_[k]]) := hide (List.take_succ_eq_append_getElem hlt)
      have HLK : Hid ((as_.take k).length = k) := hide (by simp; omega)
      generalize as_[k] = x at *
      obtain ⟨Ac, cc, rfl, _, _⟩ := SlAt.form ha.code
      obtain ⟨Aa, ca, rfl, _, _⟩ := SlAt.form ha.fa
      obtain ⟨Ab, cb, rfl, _, _⟩ := SlAt.form ha.fb
      have HA := hide ha
      have HL := hide (ldA (cs := #[.int .i64 x.op, .int .i64 x.lat, (.slice Ac x.code.length cc), .int .i64 x.to_.var, .int .u64 x.to_.el.e0, .int .u64 x.to_.el.e1, .int .u64 x.to_.el.e2, .int .u64 x.to_.el.e3, .int .u64 x.to_.el.e4, .int .u64 x.to_.el.e5, .int .u64 x.to_.el.e6, .int .u64 x.to_.el.e7, (.slice Aa x.a.fields.length ca), .int .i64 x.a.tail, (.slice Ab x.b.fields.length cb), .int .i64 x.b.tail, .int .i64 x.var, .string x.field]) 16 hr Tryz.underlying71 rfl as_info)
      have HST := hide (stA (w := wr) (new := #[.int .i64 x.op, .int .i64 x.lat, (.slice Ac x.code.length cc), .int .i64 x.to_.var, .int .u64 x.to_.el.e0, .int .u64 x.to_.el.e1, .int .u64 x.to_.el.e2, .int .u64 x.to_.el.e3, .int .u64 x.to_.el.e4, .int .u64 x.to_.el.e5, .int .u64 x.to_.el.e6, .int .u64 x.to_.el.e7, (.slice Aa x.a.fields.length ca), .int .i64 x.a.tail, (.slice Ab x.b.fields.length cb), .int .i64 x.b.tail, .int .i64 x.var, .string x.field]) 7 17 as_info (by simp [Value.oneCell']))
      clear hr ha
      go_upto_region 5 with (first | (with_reducible refine HL.out _ _ _ _ _ rfl rfl (by with_unfolding_all rfl) ?_) | (with_reducible refine HST.out _ _ _ _ _ _ rfl rfl rfl rfl (by with_unfolding_all rfl) ?_))
      have HB5 := hide (below_laid wr (.cells #[.int .i64 x.op, .int .i64 x.lat, (.slice Ac x.code.length cc), .int .i64 x.to_.var, .int .u64 x.to_.el.e0, .int .u64 x.to_.el.e1, .int .u64 x.to_.el.e2, .int .u64 x.to_.el.e3, .int .u64 x.to_.el.e4, .int .u64 x.to_.el.e5, .int .u64 x.to_.el.e6, .int .u64 x.to_.el.e7, (.slice Aa x.a.fields.length ca), .int .i64 x.a.tail, (.slice Ab x.b.fields.length cb), .int .i64 x.b.tail, .int .i64 x.var, .string x.field] 71))
      have HL2 := hide (ldA (k := 7) (cs := #[.int .i64 x.op, .int .i64 x.lat, (.slice Ac x.code.length cc), .int .i64 x.to_.var, .int .u64 x.to_.el.e0, .int .u64 x.to_.el.e1, .int .u64 x.to_.el.e2, .int .u64 x.to_.el.e3, .int .u64 x.to_.el.e4, .int .u64 x.to_.el.e5, .int .u64 x.to_.el.e6, .int .u64 x.to_.el.e7, (.slice Aa x.a.fields.length ca), .int .i64 x.a.tail, (.slice Ab x.b.fields.length cb), .int .i64 x.b.tail, .int .i64 x.var, .string x.field]) (b := wr.heap.size) (o := 0) (w := wr.alloc (.cells #[.int .i64 x.op, .int .i64 x.lat, (.slice Ac x.code.length cc), .int .i64 x.to_.var, .int .u64 x.to_.el.e0, .int .u64 x.to_.el.e1, .int .u64 x.to_.el.e2, .int .u64 x.to_.el.e3, .int .u64 x.to_.el.e4, .int .u64 x.to_.el.e5, .int .u64 x.to_.el.e6, .int .u64 x.to_.el.e7, (.slice Aa x.a.fields.length ca), .int .i64 x.a.tail, (.slice Ab x.b.fields.length cb), .int .i64 x.b.tail, .int .i64 x.var, .string x.field] 71)) (range_block (heap_alloc_last wr _) 0 _ fun j u hu => by rw [Nat.zero_add]; simpa using hu) Tryz.underlying71 rfl as_info)
      clear HL HST
      generalize wr.alloc (Obj.cells _ 71) = w5 at *
      go_upto_if 23 with fail
      have hbit : (bits BinOp.and IntKind.u64 (zin / 2 ^ k) 1 == 1) = inn.getLsbD k := by rw [← HIN.out]; exact bit_at inn k
      rw [hbit]
      clear hbit
      have HSN : Hid (fedT l.length (as_.take (k + 1)) inn = if inn.getLsbD k then handA (fedT l.length (as_.take k) inn) x (1#64 <<< k) else fedT l.length (as_.take k) inn) := hide (by rw [HTK.out, fedT_snoc, HLK.out])
      have hk64 : k < 64 := by omega
      have HT5 := hide (HT.out.step HB5.out)
      have HO5 : Hid (Kpt w0 w5) := hide ⟨(HO.out.below).trans (HB5.out.mono HO.out.below.size)⟩
      cases hbt : inn.getLsbD k
      · have HBT := hide hbt
        clear hbt hk64
        go_wp2_with fail
        refine ⟨⟨⟨k + 1, by omega, rfl⟩, ⟨k + 1, rfl, ?_, ?_⟩, HO5.out⟩, by simp [intOf]; omega⟩
        · rw [HSN.out, HBT.out]
          exact HFD.out.mono (Nat.le_succ k)
        · rw [HSN.out, HBT.out]
          exact HT5.out
      · have HBT := hide hbt
        have HH := hide (hand_any w1 B2 P l.length k (namesU as_) (fedT l.length (as_.take k) inn) x (.slice Ac x.code.length cc) (.slice Aa x.a.fields.length ca) (.slice Ab x.b.fields.length cb) (1#64 <<< k) w5 HT5.out HFD.out ((HA.out.below HB5.out).mono H1.out.1) (fun a ha => asr_nm HMEM.out ha (HOK.out.2 x HMEM.out)) (HOK.out.2 x HMEM.out) HU.out (by omega) (by have := HOK.out.1.vars; omega))
        unfold whyV at HH
        rw [one_shl hk64] at HH
        clear hbt hk64
        go_wp2_with (first | (with_reducible refine HL2.out _ _ _ _ _ rfl rfl (by with_unfolding_all rfl) ?_) | (go_at_call 29; refine HH.out.mono ?_; rintro e w6 ⟨b, rfl, htb⟩; have H6 := hide htb; clear htb))
        refine ⟨⟨⟨k + 1, by omega, rfl⟩, ⟨k + 1, rfl, ?_, ?_⟩, ⟨H1.out.2.2.trans (H6.out.below.mono H1.out.1)⟩⟩, by simp [intOf]; omega⟩
        · rw [HSN.out, if_pos HBT.out]
          exact HFD.out.hand fun a ha => asr_nm HMEM.out ha (HOK.out.2 x HMEM.out)
        · rw [HSN.out, if_pos HBT.out]
          exact H6.out
    · obtain rfl : k = as_.length := by omega
      go_wp2_with fail
      go_ret
      refine ⟨P, B2, rfl, Nat.le_trans HB.out.size H1.out.1, ?_, below_next HB.out HO.out.below⟩
      have ht := HT.out
      rw [List.take_length] at ht
      exact ⟨ht.ex, Below.refl _ _, ht.ge⟩
end Go.Proofs.YthnbhcfpfbimgaaGreat
/- The walk of law 22's means. (Printed by rimeans.py.) -/
namespace Go.Proofs.YthnbhcfpfbimgaaGreat
open Go.RowKit
open Rw (El At Fld)
open Hd (elZ getV atomV)
/-- An element. -/
structure RMn (o : El) (e : Ending) : Prop where
  ex : ∃ z : El, e = .returned (.agg #[.int .u64 z.e0, .int .u64 z.e1, .int .u64 z.e2, .int .u64 z.e3, .int .u64 z.e4, .int .u64 z.e5, .int .u64 z.e6, .int .u64 z.e7]) ∧ o = z
set_option maxRecDepth 100000 in
set_option maxHeartbeats 2000000 in
theorem means_any (B : Nat) (vl vr : Value) (L : List El) (a : At) (w : World) (h : Lbs w B vl L) : Calls Tryz.prog 14 #[.agg #[.int .i64 a.var, .int .u64 a.el.e0, .int .u64 a.el.e1, .int .u64 a.el.e2, .int .u64 a.el.e3, .int .u64 a.el.e4, .int .u64 a.el.e5, .int .u64 a.el.e6, .int .u64 a.el.e7], .agg #[vl, vr]] w fun e w' => RMn ((atomV L a).getD elZ) e ∧ Below w.heap.size w w' := by
  obtain ⟨A, c, rfl, _, hcm⟩ := SlAt.form h.at_
  have hl9 : (L.length : Int) ≤ 9223372036854775807 := by unfold maxLen at hcm; omega
  have HB := hide (below_next (below_laid w (.cells #[.int .i64 a.var, .int .u64 a.el.e0, .int .u64 a.el.e1, .int .u64 a.el.e2, .int .u64 a.el.e3, .int .u64 a.el.e4, .int .u64 a.el.e5, .int .u64 a.el.e6, .int .u64 a.el.e7] 50)) (below_laid _ (.cells #[.slice A L.length c, vr] 32)))
  have HL := hide (h.below HB.out)
  have HA := hide (heap_below (heap_alloc_last w (.cells #[.int .i64 a.var, .int .u64 a.el.e0, .int .u64 a.el.e1, .int .u64 a.el.e2, .int .u64 a.el.e3, .int .u64 a.el.e4, .int .u64 a.el.e5, .int .u64 a.el.e6, .int .u64 a.el.e7] 50)) (below_laid _ (.cells #[.slice A L.length c, vr] 32)))
  have HA2 := hide (heap_two w (.cells #[.int .i64 a.var, .int .u64 a.el.e0, .int .u64 a.el.e1, .int .u64 a.el.e2, .int .u64 a.el.e3, .int .u64 a.el.e4, .int .u64 a.el.e5, .int .u64 a.el.e6, .int .u64 a.el.e7] 50) (.cells #[.slice A L.length c, vr] 32))
  have HR := hide (range_block HA.out 1 (elV a.el) fun j u hu => by rw [Nat.add_comm]; simpa [elV] using hu)
  have hsz : ((w.alloc (.cells #[.int .i64 a.var, .int .u64 a.el.e0, .int .u64 a.el.e1, .int .u64 a.el.e2, .int .u64 a.el.e3, .int .u64 a.el.e4, .int .u64 a.el.e5, .int .u64 a.el.e6, .int .u64 a.el.e7] 50)).alloc (.cells #[.slice A L.length c, vr] 32)).heap.size = w.heap.size + 1 + 1 := by rw [World.size_alloc, World.size_alloc]
  have HZ := hide hsz
  have k0 : ((w.alloc (.cells #[.int .i64 a.var, .int .u64 a.el.e0, .int .u64 a.el.e1, .int .u64 a.el.e2, .int .u64 a.el.e3, .int .u64 a.el.e4, .int .u64 a.el.e5, .int .u64 a.el.e6, .int .u64 a.el.e7] 50)).alloc (.cells #[.slice A L.length c, vr] 32)).cell? ⟨w.heap.size, 0, none⟩ = some (.int .i64 a.var) := by rw [cell_block HA.out]; rfl
  have k1 : ((w.alloc (.cells #[.int .i64 a.var, .int .u64 a.el.e0, .int .u64 a.el.e1, .int .u64 a.el.e2, .int .u64 a.el.e3, .int .u64 a.el.e4, .int .u64 a.el.e5, .int .u64 a.el.e6, .int .u64 a.el.e7] 50)).alloc (.cells #[.slice A L.length c, vr] 32)).cell? ⟨w.heap.size + 1, 0, none⟩ = some (.slice A L.length c) := by rw [cell_block HA2.out]; rfl
  clear h hcm hsz HA2
  go_enter Tryz.func14, Tryz.ntmps14
  go_upto_region 1 with fail
  have HLA := hide (blk_lt HA.out)
  clear HA
  generalize (w.alloc (Obj.cells _ 50)).alloc (Obj.cells _ 32) = w1 at *
  have HKP : Hid (Kpt w1 (w1.alloc (.cells #[.int .u64 0, .int .u64 0, .int .u64 0, .int .u64 0, .int .u64 0, .int .u64 0, .int .u64 0, .int .u64 0] 48))) := hide ⟨below_laid _ _⟩
  have j0 := HKP.out.cell k0
  have j1 := HKP.out.cell k1
  by_cases hv : a.var < 0
  · have d1 : decide (a.var < 0) = true := decide_eq_true hv
    have HE : Hid (atomV L a = some a.el) := hide (if_pos hv)
    have HLD := hide (ldA 8 (el_range (HKP.out.range HR.out HLA.out)) Tryz.underlying48 rfl el_info)
    have HST := hide (stP (T := 48) (w := w1) (new := #[.int .u64 a.el.e0, .int .u64 a.el.e1, .int .u64 a.el.e2, .int .u64 a.el.e3, .int .u64 a.el.e4, .int .u64 a.el.e5, .int .u64 a.el.e6, .int .u64 a.el.e7]) 4 9 HZ.out.symm el_info (by simp [Value.oneCell']))
    go_wp2_with (first | (with_reducible refine HLD.out _ _ _ _ _ rfl rfl (by with_unfolding_all rfl) ?_) | (with_reducible refine HST.out _ _ _ _ _ _ rfl rfl rfl rfl (by with_unfolding_all rfl) ?_))
    refine bodyPost_ret (results_cell Tryz.results14 rfl (ld_elP w1 a.el HZ.out.symm)) rfl ⟨⟨_, rfl, by rw [HE.out]; rfl⟩, below_next HB.out (below_laid _ _)⟩
  have d1 : decide (a.var < 0) = false := decide_eq_false hv
  by_cases hn : (L.length : Int) ≤ a.var
  · have d2 : decide ((L.length : Int) ≤ a.var) = true := decide_eq_true hn
    have HE : Hid (atomV L a = none) := hide (by unfold atomV; rw [if_neg hv, List.getElem?_eq_none (by omega)])
    have HST := hide (stP (T := 48) (w := w1) (new := #[.int .u64 0, .int .u64 0, .int .u64 0, .int .u64 0, .int .u64 0, .int .u64 0, .int .u64 0, .int .u64 0]) 4 16 HZ.out.symm el_info (by simp [Value.oneCell']))
    go_wp2_with (with_reducible refine HST.out _ _ _ _ _ _ rfl rfl rfl rfl (by with_unfolding_all rfl) ?_)
    refine bodyPost_ret (results_cell Tryz.results14 rfl (ld_elP w1 elZ HZ.out.symm)) rfl ⟨⟨_, rfl, by rw [HE.out]; rfl⟩, below_next HB.out (below_laid _ _)⟩
  have d2 : decide ((L.length : Int) ≤ a.var) = false := decide_eq_false hn
  obtain ⟨q, hq⟩ := Int.eq_ofNat_of_zero_le (by omega : 0 ≤ a.var)
  have hql : q < L.length := by omega
  have i0 : (q : Int) < L.length := by omega
  have HE : Hid (atomV L a = some L[q]) := hide (by unfold atomV; rw [if_neg hv, hq, Int.toNat_natCast, List.getElem?_eq_getElem hql])
  obtain ⟨bl, off, c', e, hbl, hr⟩ := SlAt.elem (HL.out.at_.below HKP.out.below) (fun _ => rfl) hql
  cases e
  rw [hq] at j0 d1 d2
  generalize L[q] = z at *
  have HLD := hide (ldA 21 (el_range hr) Tryz.underlying48 rfl el_info)
  have HST := hide (stP (T := 48) (w := w1) (new := #[.int .u64 z.e0, .int .u64 z.e1, .int .u64 z.e2, .int .u64 z.e3, .int .u64 z.e4, .int .u64 z.e5, .int .u64 z.e6, .int .u64 z.e7]) 4 22 HZ.out.symm el_info (by simp [Value.oneCell']))
  clear hr hq hv hn k0 k1
  go_wp2_with (first | (with_reducible refine HLD.out _ _ _ _ _ rfl rfl (by with_unfolding_all rfl) ?_) | (with_reducible refine HST.out _ _ _ _ _ _ rfl rfl rfl rfl (by with_unfolding_all rfl) ?_))
  refine bodyPost_ret (results_cell Tryz.results14 rfl (ld_elP w1 z HZ.out.symm)) rfl ⟨⟨_, rfl, by rw [HE.out]; rfl⟩, below_next HB.out (below_laid _ _)⟩
end Go.Proofs.YthnbhcfpfbimgaaGreat
/- The walk of law 22's fields, at tables that know the same. (Printed by rifields.py.) -/
namespace Go.Proofs.YthnbhcfpfbimgaaGreat
open Go.RowKit
open Rw (El At Fld T W64 Gd Sz Ow Nm tot)
theorem fd_info : (Tryz.prog.info? 59).map (·.size) = some 10 := by kernel_rfl
set_option maxRecDepth 100000 in
set_option maxHeartbeats 4000000 in
@[go_sem] theorem eq_fd (x : Fld) (w : World) : (Op.equalIn 10000 59 (.agg #[.string x.name, .int .i64 x.at_.var, .int .u64 x.at_.el.e0, .int .u64 x.at_.el.e1, .int .u64 x.at_.el.e2, .int .u64 x.at_.el.e3, .int .u64 x.at_.el.e4, .int .u64 x.at_.el.e5, .int .u64 x.at_.el.e6, .int .u64 x.at_.el.e7]) (.agg #[.string x.name, .int .i64 x.at_.var, .int .u64 x.at_.el.e0, .int .u64 x.at_.el.e1, .int .u64 x.at_.el.e2, .int .u64 x.at_.el.e3, .int .u64 x.at_.el.e4, .int .u64 x.at_.el.e5, .int .u64 x.at_.el.e6, .int .u64 x.at_.el.e7])).run Tryz.prog w = .ok true w := by
  have hu := Tryz.underlying59
  have ha := Tryz.isAgg59
  have hz := Tryz.sizeOf59
  go_simp
end Go.Proofs.YthnbhcfpfbimgaaGreat
/- Plain: the assertions ahead of a place; what a stuck table knows. No walk. -/
namespace Go.Proofs.YthnbhcfpfbimgaaGreat
open Rw (T Asr W64 Gd Sz Nm NmA tot)
def allW : W64 := BitVec.allOnes 64
theorem allW_bit (i : Nat) : allW.getLsbD i = decide (i < 64) := BitVec.getLsbD_allOnes
/-- The first assertions, handed. -/
theorem FdOk.fed (n : Nat) {as_ : List As} (inn : W64) (hf : ∀ x ∈ as_, x.op = 9 → x.a.fields.length ≤ 100 ∧ x.b.fields.length ≤ 100) : ∀ k, k ≤ as_.length → FdOk n (namesU as_) k (fedT n (as_.take k) inn)
  | 0, _ => FdOk.begun _ _
  | k + 1, h => by
    have ih := FdOk.fed n inn hf k (by omega)
    rw [List.take_succ_eq_append_getElem (by omega), fedT_snoc]
    split
    · exact ih.hand fun a ha => asr_nm (List.getElem_mem _) ha (hf _ (List.getElem_mem _))
    · exact ih.mono (by omega)
end Go.Proofs.YthnbhcfpfbimgaaGreat
/- The walk of law 22's ahead, at a table that is stuck. (Printed by riahead.py.) -/
namespace Go.Proofs.YthnbhcfpfbimgaaGreat
open Go.RowKit
open Rw (El At Fld T W64 Gd Sz Ow Nm tot)
/-- A table that was fed is not great. -/
structure FdSm (n : Nat) (U : List ByteArray) (s : T) : Prop where
  ow : Ow s
  own : s.own = List.range n
  tot : tot s.rows ≤ 1000000000
  len : ∀ v, v < n → (s.spreads [] (v : Nat)).fields.length ≤ 1000000
theorem FdOk.small {n k : Nat} {U : List ByteArray} {s : T} (h : FdOk n U k s) (hn : n ≤ 64) (hk : k ≤ 64) (hU : U.length ≤ 20000) : FdSm n U s := by
  have h1 : k * (7 * U.length + 309) ≤ 64 * 140309 := Nat.mul_le_mul hk (by omega)
  refine ⟨h.gd.ow, h.own, Nat.le_trans h.sz.tot (by omega), fun v hv => ?_⟩
  have ho := h.gd.ow.own v (by rw [h.own]; exact List.mem_range.2 hv)
  exact Nat.le_trans (Rw.Nm.spreads h.nm h.gd.ow h.gd.inv (t := (v : Nat)) (by omega)).2 (by omega)
end Go.Proofs.YthnbhcfpfbimgaaGreat
/- Plain: an assertion that holds, holds of a solution. No walk. -/
namespace Go.Proofs.YthnbhcfpfbimgaaGreat
namespace Hd
open Rw (El At Fld T Asr W64 Val tv sem Off NoDup findN Mod Cl Tr RowEq Holds Acc)
theorem getV_app (a b : List Vl) (f : ByteArray) : getV (a ++ b) f = (getV a f).or (getV b f) := by
  induction a with
  | nil => simp [getV]
  | cons x a ih =>
    rw [List.cons_append, getV_cons, getV_cons, ih]
    split <;> rfl
theorem gather_get : ∀ {l out o : List Vl}, gather out l = some o → (l.Pairwise fun a b => a.name ≠ b.name) ∧ (∀ x ∈ l, getV out x.name = none) ∧ ∀ f, getV o f = (getV out f).or (getV l f)
  | [], out, o, h => by
    simp only [gather] at h
    injection h with h
    subst h
    exact ⟨.nil, fun x hx => (by cases hx), fun f => by simp [getV]⟩
  | x :: r, out, o, h => by
    simp only [gather] at h
    split at h
    · cases h
    · next hn =>
      have hn : getV out x.name = none := by
        cases hg : getV out x.name with
        | none => rfl
        | some e => rw [hg] at hn; exact absurd rfl hn
      obtain ⟨h1, h2, h3⟩ := gather_get h
      have h4 : ∀ y ∈ r, x.name ≠ y.name ∧ getV out y.name = none := fun y hy => by
        have := h2 y hy
        rw [getV_with] at this
        split at this
        · cases this
        · next hne => exact ⟨hne, this⟩
      refine ⟨List.pairwise_cons.2 ⟨fun y hy => (h4 y hy).1, h1⟩, fun y hy => ?_, fun f => ?_⟩
      · rcases List.mem_cons.1 hy with rfl | hy
        · exact hn
        · exact (h4 y hy).2
      · rw [h3 f, getV_with, getV_cons]
        by_cases he : x.name = f
        · subst he
          rw [if_pos rfl, if_pos rfl, hn]
          rfl
        · rw [if_neg he, if_neg he]
def etaL (L : List El) (a : At) : El := (atomV L a).getD elZ
def valR (R : List (List Vl)) (k : Nat) : Val El := getV (R.getD k [])
theorem fieldsV_get (L : List El) : ∀ {fs : List Fld} {l : List Vl}, fieldsV L fs = some l → (l.map (·.name) = fs.map (·.name)) ∧ ∀ f, getV l f = (findN fs f).map fun g => etaL L g.at_
  | [], l, h => by simp only [fieldsV] at h; injection h with h; subst h; exact ⟨rfl, fun f => by simp [getV, findN]⟩
  | x :: fs, l, h => by
    simp only [fieldsV] at h
    cases h1 : atomV L x.at_ with
    | none => rw [h1] at h; cases h
    | some e =>
      cases h2 : fieldsV L fs with
      | none => rw [h1, h2] at h; cases h
      | some m =>
        rw [h1, h2] at h
        injection h with h
        subst h
        obtain ⟨k1, k2⟩ := fieldsV_get L h2
        refine ⟨by simp [k1], fun f => ?_⟩
        rw [getV_cons, k2 f]
        by_cases he : x.name = f
        · subst he
          rw [if_pos rfl]
          simp [findN, etaL, h1]
        · rw [if_neg he]
          have : (x.name.toList == f.toList) = false := by
            cases hb : (x.name.toList == f.toList)
            · rfl
            · exact absurd (name_eq.1 hb) he
          simp [findN, this]
theorem rowH_sem {L : List El} {R : List (List Vl)} {t : Rw.Term} {o : List Vl} (h : rowH L R t = some o) : t.tail < R.length ∧ NoDup t.fields ∧ Off t.fields (getV (tailV R t.tail)) ∧ ∀ f, getV o f = sem (etaL L) t.fields (getV (tailV R t.tail)) f := by
  unfold rowH at h
  split at h
  · cases h
  · next hlt =>
    cases hf : fieldsV L t.fields with
    | none => rw [hf] at h; cases h
    | some l =>
      rw [hf] at h
      obtain ⟨h1, _, h3⟩ := gather_get h
      obtain ⟨k1, k2⟩ := fieldsV_get L hf
      obtain ⟨p1, p2, p3⟩ := List.pairwise_append.1 h1
      have hoff : Off t.fields (getV (tailV R t.tail)) := fun g hg => by
        rw [getV_none]
        intro x hx
        have : g.name ∈ l.map (·.name) := by rw [k1]; exact List.mem_map.2 ⟨g, hg, rfl⟩
        obtain ⟨y, hy, he⟩ := List.mem_map.1 this
        rw [← he]
        exact p3 x hx y hy
      have hdup : NoDup t.fields := by
        have h4 : (l.map (·.name)).Pairwise (· ≠ ·) := List.pairwise_map.2 p2
        rw [k1] at h4
        exact List.pairwise_map.1 h4
      refine ⟨by omega, hdup, hoff, fun f => ?_⟩
      rw [h3 f, getV_app, k2 f]
      have h0 : getV [] f = none := rfl
      rw [h0]
      show (getV (tailV R t.tail) f).or _ = _
      cases hn : findN t.fields f with
      | none =>
        rw [Rw.sem_not (η := etaL L) (Rw.findN_none.1 hn)]
        simp
      | some g =>
        rw [Rw.sem_has (η := etaL L) hn]
        have hg : g.name = f ∧ g ∈ t.fields := ⟨name_eq.1 (by simpa using List.find?_some hn), List.mem_of_find?_eq_some hn⟩
        rw [← hg.1, hoff g hg.2]
        rfl
theorem at_tv {s : T} {n : Nat} (ho : s.own = List.range n) {t : Int} (h : t < n) (R : List (List Vl)) : tv (valR R) (s.at_ t) = getV (tailV R t) := by
  unfold Rw.T.at_ tailV
  by_cases hn : t < 0
  · rw [if_pos hn, if_pos hn, Rw.tv_neg (by omega)]
    rfl
  · rw [if_neg hn, if_neg hn, Rw.tv_nat, ho]
    have : (List.range n).getD t.toNat 0 = t.toNat := by rw [List.getD_eq_getElem?_getD, List.getElem?_range (by omega)]; rfl
    rw [this]
    rfl
/-- An assertion that holds, holds of the rows of values. -/
theorem one_holds {L : List El} {R : List (List Vl)} {x : As} {a : Asr} {s : T} (ho : s.own = List.range R.length) (ha : asr x = some a) (hacc : Acc s.own.length a) (h : oneV L R x = true) : Holds (etaL L) (valR R) s a := by
  unfold asr at ha
  unfold oneV at h
  rw [ho, List.length_range] at hacc
  by_cases h9 : x.op = 9
  · rw [if_pos h9] at ha
    injection ha with ha
    subst ha
    rw [if_neg (by omega)] at h
    cases hl : rowH L R x.a with
    | none => rw [hl] at h; cases h
    | some l =>
      cases hm : rowH L R x.b with
      | none => rw [hl, hm] at h; cases h
      | some m =>
        rw [hl, hm] at h
        have hlm := sameV_iff.1 h
        subst hlm
        obtain ⟨a1, a2, a3, a4⟩ := rowH_sem hl
        obtain ⟨b1, b2, b3, b4⟩ := rowH_sem hm
        refine ⟨a2, b2, ?_, ?_, ?_⟩
        · rw [at_tv ho a1]; exact a3
        · rw [at_tv ho b1]; exact b3
        · rw [at_tv ho a1, at_tv ho b1]
          funext f
          rw [← a4, ← b4]
  · rw [if_neg h9] at ha
    split at ha
    · next h10 =>
      injection ha with ha
      subst ha
      rw [if_pos h10] at h
      obtain ⟨h0, h1⟩ := hacc
      show tv (valR R) (s.at_ x.var) x.field = none
      rw [at_tv ho h1]
      unfold tailV
      rw [if_neg (by omega)]
      cases hg : getV (R.getD x.var.toNat []) x.field with
      | none => rfl
      | some e => rw [hg] at h; cases h
    · cases ha
/-- Before all assertions each row of values is a solution. -/
theorem begun_mod {E : Type} (η : At → E) (W : W64 → Prop) (val : Nat → Val E) (n : Nat) : Mod η W (Rw.begunT n) val := by
  have hb := Rw.begunT_beg n
  refine ⟨fun i r hr hb' => ?_, fun i r hr l hl => ?_, fun e he => ?_, fun h => ?_⟩
  · rw [hb.row hr] at hb'; cases hb'
  · rw [hb.row hr] at hl; cases hl
  · rw [hb.eqs] at he; cases he
  · rw [hb.stuck] at h; cases h
theorem feedL_mem (inn : W64) : ∀ {l : List As} {i : Nat} {p : Asr × W64}, p ∈ feedL inn i l → ∃ j x, l[j]? = some x ∧ inn.getLsbD (i + j) = true ∧ asr x = some p.1 ∧ p.2 = 1#64 <<< (i + j)
  | [], _, p, h => by cases h
  | y :: l, i, p, h => by
    simp only [feedL] at h
    rcases List.mem_append.1 h with h | h
    · split at h
      · next hb =>
        split at h
        · next a ha =>
          obtain rfl := List.mem_singleton.1 h
          exact ⟨0, y, rfl, by simpa using hb, ha, rfl⟩
        · cases h
      · cases h
    · obtain ⟨j, x, h1, h2, h3, h4⟩ := feedL_mem inn h
      exact ⟨j + 1, x, by simpa using h1, by rw [show i + (j + 1) = i + 1 + j by omega]; exact h2, h3, by rw [show i + (j + 1) = i + 1 + j by omega]; exact h4⟩
theorem mem_feedL (inn : W64) : ∀ {l : List As} {i j : Nat} {x : As} {a : Asr}, l[j]? = some x → inn.getLsbD (i + j) = true → asr x = some a → (a, 1#64 <<< (i + j)) ∈ feedL inn i l
  | [], _, j, _, _, h, _, _ => by simp at h
  | y :: l, i, 0, x, a, h, hb, ha => by
    simp at h
    subst h
    simp only [feedL]
    rw [show inn.getLsbD i = true from by simpa using hb, if_pos rfl, ha]
    exact List.mem_append_left _ (by simp)
  | y :: l, i, j + 1, x, a, h, hb, ha => by
    simp only [feedL]
    refine List.mem_append_right _ ?_
    rw [show i + (j + 1) = i + 1 + j by omega] at hb ⊢
    exact mem_feedL inn (by simpa using h) hb ha
/-- Reasons within a set. -/
def Sub (y : W64) : W64 → Prop := fun x => ∀ i, x.getLsbD i = true → y.getLsbD i = true
theorem sub_cl (y : W64) : Cl (Sub y) := by
  refine ⟨fun i h => by simp at h, fun a b => ⟨fun h => ⟨fun i hi => h i (by simp [hi]), fun i hi => h i (by simp [hi])⟩, fun h i hi => ?_⟩⟩
  rw [BitVec.getLsbD_or, Bool.or_eq_true] at hi
  rcases hi with hi | hi
  · exact h.1 i hi
  · exact h.2 i hi
theorem sub_bit {y : W64} {k : Nat} (hk : k < 64) (h : Sub y (1#64 <<< k)) : y.getLsbD k = true := h k (by simp [hk])
end Hd
end Go.Proofs.YthnbhcfpfbimgaaGreat
/- Plain: the reasons that a table tells. No walk. -/
namespace Go.Proofs.YthnbhcfpfbimgaaGreat
namespace Hd
open Rw (El At Fld T Asr W64 Val tv Mod Cl Tr Holds Acc)
theorem asr_op {x : As} {a : Asr} (h : asr x = some a) : x.op = 9 ∨ x.op = 10 := by
  unfold asr at h
  split at h
  · next h9 => exact .inl h9
  · split at h
    · next h10 => exact .inr h10
    · cases h
/-- Rows of values under which the assertions of some reasons hold are a solution for these reasons. -/
theorem fed_mod {L : List El} {R : List (List Vl)} {as_ : List As} (y : W64) (h64 : as_.length ≤ 64) (h : ∀ (j : Nat) x, as_[j]? = some x → y.getLsbD j = true → x.op ≠ 8 → oneV L R x = true) (inn : W64) :
    ∃ val', (∀ i, i < R.length → val' i = valR R i) ∧ Mod (etaL L) (Sub y) (fedT R.length as_ inn) val' := by
  have hb := Rw.begunT_beg R.length
  obtain ⟨val', h1, h2⟩ := Rw.feed_sound (η := etaL L) (sub_cl y) (feedL inn 0 as_) hb.gd (val := valR R) (begun_mod _ _ _ _) (fun p hp hacc hw => by
    obtain ⟨j, x, hx, _, ha, hy⟩ := feedL_mem inn hp
    rw [Nat.zero_add] at hy
    rw [hy] at hw
    have hj := (List.getElem?_eq_some_iff.1 hx).1
    exact one_holds hb.own ha hacc (h j x hx (sub_bit (by omega) hw) (by rcases asr_op ha with e | e <;> omega)))
  exact ⟨val', fun i hi => h1 i (by rw [hb.rows, List.length_replicate]; exact hi), h2⟩
end Hd
end Go.Proofs.YthnbhcfpfbimgaaGreat
