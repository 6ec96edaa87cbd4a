/- Texts put together: RiFed RiMeans RiFields RiAhead0 RiAhead. -/
import Derived.Test.YthnbhcfpfbimgaaMw36
import Derived.Test.YthnbhcfpfbimgaaMw14
/- The walk of law 22's fed. (Printed by rifed.py.) -/
namespace Go.Proofs.Ythnbhcfpfbimgaa
open Go.RowKit
open Rw (El At Fld T W64 Gd Sz Ow Nm)
theorem bits_and (x y : W64) : bits BinOp.and IntKind.u64 ((x.toNat : Nat) : Int) ((y.toNat : Nat) : Int) = (((x &&& y).toNat : Nat) : Int) := by
  show IntKind.u64.wrap (((BitVec.ofInt 64 ((x.toNat : Nat) : Int)) &&& (BitVec.ofInt 64 ((y.toNat : Nat) : Int))).toNat : Int) = _
  have h : ∀ z : W64, BitVec.ofInt 64 ((z.toNat : Nat) : Int) = z := fun z => by
    rw [BitVec.ofInt_natCast]
    exact BitVec.ofNat_toNat 64 z |>.trans (by simp)
  rw [h, h]
  have : (x &&& y).toNat < 2 ^ 64 := (x &&& y).isLt
  generalize (x &&& y).toNat = n at *
  simp [IntKind.wrap, IntKind.bits, IntKind.signed]
  omega
theorem bit_at (inn : W64) (k : Nat) : (bits BinOp.and IntKind.u64 (((inn.toNat : Nat) : Int) / 2 ^ k) 1 == 1) = inn.getLsbD k := by
  have h1 : ((inn.toNat : Nat) : Int) / 2 ^ k = (((inn >>> k).toNat : Nat) : Int) := by
    rw [BitVec.toNat_ushiftRight, Nat.shiftRight_eq_div_pow]
    simp
  rw [h1, show (bits BinOp.and IntKind.u64 (((inn >>> k).toNat : Nat) : Int) 1) = _ from bits_and (inn >>> k) 1#64, BitVec.toNat_and, BitVec.toNat_ushiftRight]
  show (((inn.toNat >>> k &&& 1 : Nat) : Int) == 1) = inn.toNat.testBit k
  rw [Nat.and_one_is_mod, Nat.shiftRight_eq_div_pow, Nat.testBit_eq_decide_div_mod_eq]
  by_cases h : inn.toNat / 2 ^ k % 2 = 1
  · simp [h]
  · have : inn.toNat / 2 ^ k % 2 = 0 := by omega
    simp [this]
theorem one_shl {k : Nat} (hk : k < 64) : (((1#64 <<< k).toNat : Nat) : Int) = IntKind.u64.wrap (2 ^ k) := by
  have h : 2 ^ k < 2 ^ 64 := Nat.pow_lt_pow_right (by decide) hk
  rw [BitVec.toNat_shiftLeft, Nat.shiftLeft_eq, show (1#64).toNat = 1 from rfl, Nat.one_mul, Nat.mod_eq_of_lt h]
  have h2 : ((2 : Int) ^ k) = ((2 ^ k : Nat) : Int) := by simp
  rw [h2]
  generalize 2 ^ k = n at *
  simp [IntKind.wrap, IntKind.bits, IntKind.signed]
  omega
set_option maxRecDepth 100000 in
set_option maxHeartbeats 4000000 in
theorem fed_any (B : Nat) (vl vv vs : Value) (l : List Vr) (as_ : List As) (inn : W64) (w : World) (h2 : Vars w B vv l) (h3 : Asrs w B vs as_) (hB : B ≤ w.heap.size) (hok : POk l as_) (hf : ∀ x ∈ as_, x.op = 9 → x.a.fields.length ≤ 100 ∧ x.b.fields.length ≤ 100) :
    Calls Try.prog 13 #[.agg #[vl, vv, vs], whyV inn] w fun e w' => RTb w (fedT l.length as_ inn) e w' := by
  obtain ⟨A, c, rfl, _, hcm⟩ := h3.form
  obtain ⟨A2, c2, rfl, _, _⟩ := h2.form
  have hl9 : (as_.length : Int) ≤ 9223372036854775807 := by unfold maxLen at hcm; omega
  have HB := hide (below_laid w (.cells #[vl, .slice A2 l.length c2, .slice A as_.length c] 28))
  have HA := hide (heap_alloc_last w (.cells #[vl, .slice A2 l.length c2, .slice A as_.length c] 28))
  have HAS := hide ((h3.below HB.out).mono (Nat.le_trans hB HB.out.size))
  have HOK := hide (And.intro hok hf)
  have hUl : (namesU as_).length ≤ 20000 := Nat.le_trans (namesU_len hf) (by have := hok.few; omega)
  have HU := hide hUl
  have k0 : (w.alloc (.cells #[vl, .slice A2 l.length c2, .slice A as_.length c] 28)).cell? ⟨w.heap.size, 0, none⟩ = some vl := by rw [cell_block HA.out]; rfl
  have k1 : (w.alloc (.cells #[vl, .slice A2 l.length c2, .slice A as_.length c] 28)).cell? ⟨w.heap.size, 1, none⟩ = some (.slice A2 l.length c2) := by rw [cell_block HA.out]; rfl
  have k2 : (w.alloc (.cells #[vl, .slice A2 l.length c2, .slice A as_.length c] 28)).cell? ⟨w.heap.size, 2, none⟩ = some (.slice A as_.length c) := by rw [cell_block HA.out]; rfl
  have HBG := hide (begun_any vl (.slice A as_.length c) l.length A2 c2 (by have := hok.vars; omega) (w.alloc (.cells #[vl, .slice A2 l.length c2, .slice A as_.length c] 28)))
  have h64 : as_.length ≤ 64 := hok.few
  have H64 := hide h64
  unfold whyV
  clear h2 h3 hok hf hcm HA hUl
  generalize hinn : ((inn.toNat : Nat) : Int) = zin
  have HIN := hide hinn
  clear hinn
  go_enter Try.func13, Try.ntmps13
  go_upto_region 1 with fail
  generalize w.alloc (Obj.cells _ 28) = w0 at *
  go_upto_region 2 with (go_at_call 34; refine HBG.out.mono ?_; rintro e w1 ⟨P, B2, rfl, hle, htb, hbl⟩; have H1 := hide (And.intro hle (And.intro htb hbl)); have k3 := (Kpt.mk hbl).cell k2; clear hle htb hbl)
  clear HBG k0 k1 k2
  go_wp2_with fail
  clear k3
  go_loopw [13] (fun kv wr => (∃ k : Nat, k ≤ as_.length ∧ kv = .int .i64 (k : Nat)) ∧ (∃ k : Nat, kv = .int .i64 (k : Nat) ∧ FdOk l.length (namesU as_) k (fedT l.length (as_.take k) inn) ∧ TbS w1 B2 P (fedT l.length (as_.take k) inn) wr) ∧ Kpt w0 wr) (fun kv _ => as_.length - (intOf kv).toNat)
  case atStart => exact ⟨⟨0, by omega, rfl⟩, ⟨0, rfl, FdOk.begun _ _, H1.out.2.1.ex, Below.refl _ _, H1.out.2.1.ge⟩, ⟨H1.out.2.2⟩⟩
  case round =>
    obtain ⟨⟨k, hk, rfl⟩, ⟨k', e', hfd, htb⟩, ho⟩ := hrel
    obtain rfl : k = k' := by injection e' with _ e'; omega
    clear e'
    have HO := hide ho
    have HT := hide htb
    have HFD := hide hfd
    clear ho htb hfd
    by_cases hlt : k < as_.length
    · have i0 : (k : Int) < as_.length := by omega
      have i1 : (k : Int) < 64 := by omega
      obtain ⟨bl, off, c', vc, va, vb, e, hbl, hr, ha⟩ := (HAS.out.below HO.out.below).at hlt
      cases e
      have HMEM := hide (List.getElem_mem hlt)
      have HTK : Hid (as_.take (k + 1) = as_.take k ++ [as_[k]]) := hide (List.take_succ_eq_append_getElem hlt)
      have HLK : Hid ((as_.take k).length = k) := hide (by simp; omega)
      generalize as_[k] = x at *
      obtain ⟨Ac, cc, rfl, _, _⟩ := SlAt.form ha.code
      obtain ⟨Aa, ca, rfl, _, _⟩ := SlAt.form ha.fa
      obtain ⟨Ab, cb, rfl, _, _⟩ := SlAt.form ha.fb
      have HA := hide ha
      have HL := hide (ldA (cs := #[.int .i64 x.op, .int .i64 x.lat, (.slice Ac x.code.length cc), .int .i64 x.to_.var, .int .u64 x.to_.el.e0, .int .u64 x.to_.el.e1, .int .u64 x.to_.el.e2, .int .u64 x.to_.el.e3, .int .u64 x.to_.el.e4, .int .u64 x.to_.el.e5, .int .u64 x.to_.el.e6, .int .u64 x.to_.el.e7, (.slice Aa x.a.fields.length ca), .int .i64 x.a.tail, (.slice Ab x.b.fields.length cb), .int .i64 x.b.tail, .int .i64 x.var, .string x.field]) 16 hr Try.underlying70 rfl as_info)
      have HST := hide (stA (w := wr) (new := #[.int .i64 x.op, .int .i64 x.lat, (.slice Ac x.code.length cc), .int .i64 x.to_.var, .int .u64 x.to_.el.e0, .int .u64 x.to_.el.e1, .int .u64 x.to_.el.e2, .int .u64 x.to_.el.e3, .int .u64 x.to_.el.e4, .int .u64 x.to_.el.e5, .int .u64 x.to_.el.e6, .int .u64 x.to_.el.e7, (.slice Aa x.a.fields.length ca), .int .i64 x.a.tail, (.slice Ab x.b.fields.length cb), .int .i64 x.b.tail, .int .i64 x.var, .string x.field]) 7 17 as_info (by simp [Value.oneCell']))
      clear hr ha
      go_upto_region 5 with (first | (with_reducible refine HL.out _ _ _ _ _ rfl rfl (by with_unfolding_all rfl) ?_) | (with_reducible refine HST.out _ _ _ _ _ _ rfl rfl rfl rfl (by with_unfolding_all rfl) ?_))
      have HB5 := hide (below_laid wr (.cells #[.int .i64 x.op, .int .i64 x.lat, (.slice Ac x.code.length cc), .int .i64 x.to_.var, .int .u64 x.to_.el.e0, .int .u64 x.to_.el.e1, .int .u64 x.to_.el.e2, .int .u64 x.to_.el.e3, .int .u64 x.to_.el.e4, .int .u64 x.to_.el.e5, .int .u64 x.to_.el.e6, .int .u64 x.to_.el.e7, (.slice Aa x.a.fields.length ca), .int .i64 x.a.tail, (.slice Ab x.b.fields.length cb), .int .i64 x.b.tail, .int .i64 x.var, .string x.field] 70))
      have HL2 := hide (ldA (k := 7) (cs := #[.int .i64 x.op, .int .i64 x.lat, (.slice Ac x.code.length cc), .int .i64 x.to_.var, .int .u64 x.to_.el.e0, .int .u64 x.to_.el.e1, .int .u64 x.to_.el.e2, .int .u64 x.to_.el.e3, .int .u64 x.to_.el.e4, .int .u64 x.to_.el.e5, .int .u64 x.to_.el.e6, .int .u64 x.to_.el.e7, (.slice Aa x.a.fields.length ca), .int .i64 x.a.tail, (.slice Ab x.b.fields.length cb), .int .i64 x.b.tail, .int .i64 x.var, .string x.field]) (b := wr.heap.size) (o := 0) (w := wr.alloc (.cells #[.int .i64 x.op, .int .i64 x.lat, (.slice Ac x.code.length cc), .int .i64 x.to_.var, .int .u64 x.to_.el.e0, .int .u64 x.to_.el.e1, .int .u64 x.to_.el.e2, .int .u64 x.to_.el.e3, .int .u64 x.to_.el.e4, .int .u64 x.to_.el.e5, .int .u64 x.to_.el.e6, .int .u64 x.to_.el.e7, (.slice Aa x.a.fields.length ca), .int .i64 x.a.tail, (.slice Ab x.b.fields.length cb), .int .i64 x.b.tail, .int .i64 x.var, .string x.field] 70)) (range_block (heap_alloc_last wr _) 0 _ fun j u hu => by rw [Nat.zero_add]; simpa using hu) Try.underlying70 rfl as_info)
      clear HL HST
      generalize wr.alloc (Obj.cells _ 70) = w5 at *
      go_upto_if 23 with fail
      have hbit : (bits BinOp.and IntKind.u64 (zin / 2 ^ k) 1 == 1) = inn.getLsbD k := by rw [← HIN.out]; exact bit_at inn k
      rw [hbit]
      clear hbit
      have HSN : Hid (fedT l.length (as_.take (k + 1)) inn = if inn.getLsbD k then handA (fedT l.length (as_.take k) inn) x (1#64 <<< k) else fedT l.length (as_.take k) inn) := hide (by rw [HTK.out, fedT_snoc, HLK.out])
      have hk64 : k < 64 := by omega
      have HT5 := hide (HT.out.step HB5.out)
      have HO5 : Hid (Kpt w0 w5) := hide ⟨(HO.out.below).trans (HB5.out.mono HO.out.below.size)⟩
      cases hbt : inn.getLsbD k
      · have HBT := hide hbt
        clear hbt hk64
        go_wp2_with fail
        refine ⟨⟨⟨k + 1, by omega, rfl⟩, ⟨k + 1, rfl, ?_, ?_⟩, HO5.out⟩, by simp [intOf]; omega⟩
        · rw [HSN.out, HBT.out]
          exact HFD.out.mono (Nat.le_succ k)
        · rw [HSN.out, HBT.out]
          exact HT5.out
      · have HBT := hide hbt
        have HH := hide (hand_any w1 B2 P l.length k (namesU as_) (fedT l.length (as_.take k) inn) x (.slice Ac x.code.length cc) (.slice Aa x.a.fields.length ca) (.slice Ab x.b.fields.length cb) (1#64 <<< k) w5 HT5.out HFD.out ((HA.out.below HB5.out).mono H1.out.1) (fun a ha => asr_nm HMEM.out ha (HOK.out.2 x HMEM.out)) (HOK.out.2 x HMEM.out) HU.out (by omega) (by have := HOK.out.1.vars; omega))
        unfold whyV at HH
        rw [one_shl hk64] at HH
        clear hbt hk64
        go_wp2_with (first | (with_reducible refine HL2.out _ _ _ _ _ rfl rfl (by with_unfolding_all rfl) ?_) | (go_at_call 35; refine HH.out.mono ?_; rintro e w6 ⟨b, rfl, htb⟩; have H6 := hide htb; clear htb))
        refine ⟨⟨⟨k + 1, by omega, rfl⟩, ⟨k + 1, rfl, ?_, ?_⟩, ⟨H1.out.2.2.trans (H6.out.below.mono H1.out.1)⟩⟩, by simp [intOf]; omega⟩
        · rw [HSN.out, if_pos HBT.out]
          exact HFD.out.hand fun a ha => asr_nm HMEM.out ha (HOK.out.2 x HMEM.out)
        · rw [HSN.out, if_pos HBT.out]
          exact H6.out
    · obtain rfl : k = as_.length := by omega
      go_wp2_with fail
      go_ret
      refine ⟨P, B2, rfl, Nat.le_trans HB.out.size H1.out.1, ?_, below_next HB.out HO.out.below⟩
      have ht := HT.out
      rw [List.take_length] at ht
      exact ⟨ht.ex, Below.refl _ _, ht.ge⟩
end Go.Proofs.Ythnbhcfpfbimgaa
/- The walk of law 22's means. (Printed by rimeans.py.) -/
namespace Go.Proofs.Ythnbhcfpfbimgaa
open Go.RowKit
open Rw (El At Fld)
open Hd (elZ getV atomV)
/-- An element. -/
structure RMn (o : El) (e : Ending) : Prop where
  ex : ∃ z : El, e = .returned (.agg #[.int .u64 z.e0, .int .u64 z.e1, .int .u64 z.e2, .int .u64 z.e3, .int .u64 z.e4, .int .u64 z.e5, .int .u64 z.e6, .int .u64 z.e7]) ∧ o = z
set_option maxRecDepth 100000 in
set_option maxHeartbeats 2000000 in
theorem means_any (B : Nat) (vl vr : Value) (L : List El) (a : At) (w : World) (h : Lbs w B vl L) : Calls Try.prog 17 #[.agg #[.int .i64 a.var, .int .u64 a.el.e0, .int .u64 a.el.e1, .int .u64 a.el.e2, .int .u64 a.el.e3, .int .u64 a.el.e4, .int .u64 a.el.e5, .int .u64 a.el.e6, .int .u64 a.el.e7], .agg #[vl, vr]] w fun e w' => RMn ((atomV L a).getD elZ) e ∧ Below w.heap.size w w' := by
  obtain ⟨A, c, rfl, _, hcm⟩ := SlAt.form h.at_
  have hl9 : (L.length : Int) ≤ 9223372036854775807 := by unfold maxLen at hcm; omega
  have HB := hide (below_next (below_laid w (.cells #[.int .i64 a.var, .int .u64 a.el.e0, .int .u64 a.el.e1, .int .u64 a.el.e2, .int .u64 a.el.e3, .int .u64 a.el.e4, .int .u64 a.el.e5, .int .u64 a.el.e6, .int .u64 a.el.e7] 50)) (below_laid _ (.cells #[.slice A L.length c, vr] 32)))
  have HL := hide (h.below HB.out)
  have HA := hide (heap_below (heap_alloc_last w (.cells #[.int .i64 a.var, .int .u64 a.el.e0, .int .u64 a.el.e1, .int .u64 a.el.e2, .int .u64 a.el.e3, .int .u64 a.el.e4, .int .u64 a.el.e5, .int .u64 a.el.e6, .int .u64 a.el.e7] 50)) (below_laid _ (.cells #[.slice A L.length c, vr] 32)))
  have HA2 := hide (heap_two w (.cells #[.int .i64 a.var, .int .u64 a.el.e0, .int .u64 a.el.e1, .int .u64 a.el.e2, .int .u64 a.el.e3, .int .u64 a.el.e4, .int .u64 a.el.e5, .int .u64 a.el.e6, .int .u64 a.el.e7] 50) (.cells #[.slice A L.length c, vr] 32))
  have HR := hide (range_block HA.out 1 (elV a.el) fun j u hu => by rw [Nat.add_comm]; simpa [elV] using hu)
  have hsz : ((w.alloc (.cells #[.int .i64 a.var, .int .u64 a.el.e0, .int .u64 a.el.e1, .int .u64 a.el.e2, .int .u64 a.el.e3, .int .u64 a.el.e4, .int .u64 a.el.e5, .int .u64 a.el.e6, .int .u64 a.el.e7] 50)).alloc (.cells #[.slice A L.length c, vr] 32)).heap.size = w.heap.size + 1 + 1 := by rw [World.size_alloc, World.size_alloc]
  have HZ := hide hsz
  have k0 : ((w.alloc (.cells #[.int .i64 a.var, .int .u64 a.el.e0, .int .u64 a.el.e1, .int .u64 a.el.e2, .int .u64 a.el.e3, .int .u64 a.el.e4, .int .u64 a.el.e5, .int .u64 a.el.e6, .int .u64 a.el.e7] 50)).alloc (.cells #[.slice A L.length c, vr] 32)).cell? ⟨w.heap.size, 0, none⟩ = some (.int .i64 a.var) := by rw [cell_block HA.out]; rfl
  have k1 : ((w.alloc (.cells #[.int .i64 a.var, .int .u64 a.el.e0, .int .u64 a.el.e1, .int .u64 a.el.e2, .int .u64 a.el.e3, .int .u64 a.el.e4, .int .u64 a.el.e5, .int .u64 a.el.e6, .int .u64 a.el.e7] 50)).alloc (.cells #[.slice A L.length c, vr] 32)).cell? ⟨w.heap.size + 1, 0, none⟩ = some (.slice A L.length c) := by rw [cell_block HA2.out]; rfl
  clear h hcm hsz HA2
  go_enter Try.func17, Try.ntmps17
  go_upto_region 1 with fail
  have HLA := hide (blk_lt HA.out)
  clear HA
  generalize (w.alloc (Obj.cells _ 50)).alloc (Obj.cells _ 32) = w1 at *
  have HKP : Hid (Kpt w1 (w1.alloc (.cells #[.int .u64 0, .int .u64 0, .int .u64 0, .int .u64 0, .int .u64 0, .int .u64 0, .int .u64 0, .int .u64 0] 48))) := hide ⟨below_laid _ _⟩
  have j0 := HKP.out.cell k0
  have j1 := HKP.out.cell k1
  by_cases hv : a.var < 0
  · have d1 : decide (a.var < 0) = true := decide_eq_true hv
    have HE : Hid (atomV L a = some a.el) := hide (if_pos hv)
    have HLD := hide (ldA 8 (el_range (HKP.out.range HR.out HLA.out)) Try.underlying48 rfl el_info)
    have HST := hide (stP (T := 48) (w := w1) (new := #[.int .u64 a.el.e0, .int .u64 a.el.e1, .int .u64 a.el.e2, .int .u64 a.el.e3, .int .u64 a.el.e4, .int .u64 a.el.e5, .int .u64 a.el.e6, .int .u64 a.el.e7]) 4 9 HZ.out.symm el_info (by simp [Value.oneCell']))
    go_wp2_with (first | (with_reducible refine HLD.out _ _ _ _ _ rfl rfl (by with_unfolding_all rfl) ?_) | (with_reducible refine HST.out _ _ _ _ _ _ rfl rfl rfl rfl (by with_unfolding_all rfl) ?_))
    refine bodyPost_ret (results_cell Try.results17 rfl (ld_elP w1 a.el HZ.out.symm)) rfl ⟨⟨_, rfl, by rw [HE.out]; rfl⟩, below_next HB.out (below_laid _ _)⟩
  have d1 : decide (a.var < 0) = false := decide_eq_false hv
  by_cases hn : (L.length : Int) ≤ a.var
  · have d2 : decide ((L.length : Int) ≤ a.var) = true := decide_eq_true hn
    have HE : Hid (atomV L a = none) := hide (by unfold atomV; rw [if_neg hv, List.getElem?_eq_none (by omega)])
    have HST := hide (stP (T := 48) (w := w1) (new := #[.int .u64 0, .int .u64 0, .int .u64 0, .int .u64 0, .int .u64 0, .int .u64 0, .int .u64 0, .int .u64 0]) 4 16 HZ.out.symm el_info (by simp [Value.oneCell']))
    go_wp2_with (with_reducible refine HST.out _ _ _ _ _ _ rfl rfl rfl rfl (by with_unfolding_all rfl) ?_)
    refine bodyPost_ret (results_cell Try.results17 rfl (ld_elP w1 elZ HZ.out.symm)) rfl ⟨⟨_, rfl, by rw [HE.out]; rfl⟩, below_next HB.out (below_laid _ _)⟩
  have d2 : decide ((L.length : Int) ≤ a.var) = false := decide_eq_false hn
  obtain ⟨q, hq⟩ := Int.eq_ofNat_of_zero_le (by omega : 0 ≤ a.var)
  have hql : q < L.length := by omega
  have i0 : (q : Int) < L.length := by omega
  have HE : Hid (atomV L a = some L[q]) := hide (by unfold atomV; rw [if_neg hv, hq, Int.toNat_natCast, List.getElem?_eq_getElem hql])
  obtain ⟨bl, off, c', e, hbl, hr⟩ := SlAt.elem (HL.out.at_.below HKP.out.below) (fun _ => rfl) hql
  cases e
  rw [hq] at j0 d1 d2
  generalize L[q] = z at *
  have HLD := hide (ldA 21 (el_range hr) Try.underlying48 rfl el_info)
  have HST := hide (stP (T := 48) (w := w1) (new := #[.int .u64 z.e0, .int .u64 z.e1, .int .u64 z.e2, .int .u64 z.e3, .int .u64 z.e4, .int .u64 z.e5, .int .u64 z.e6, .int .u64 z.e7]) 4 22 HZ.out.symm el_info (by simp [Value.oneCell']))
  clear hr hq hv hn k0 k1
  go_wp2_with (first | (with_reducible refine HLD.out _ _ _ _ _ rfl rfl (by with_unfolding_all rfl) ?_) | (with_reducible refine HST.out _ _ _ _ _ _ rfl rfl rfl rfl (by with_unfolding_all rfl) ?_))
  refine bodyPost_ret (results_cell Try.results17 rfl (ld_elP w1 z HZ.out.symm)) rfl ⟨⟨_, rfl, by rw [HE.out]; rfl⟩, below_next HB.out (below_laid _ _)⟩
end Go.Proofs.Ythnbhcfpfbimgaa
/- The walk of law 22's fields, at tables that know the same. (Printed by rifields.py.) -/
namespace Go.Proofs.Ythnbhcfpfbimgaa
open Go.RowKit
open Rw (El At Fld T W64 Gd Sz Ow Nm tot)
theorem fd_info : (Try.prog.info? 60).map (·.size) = some 10 := by kernel_rfl
set_option maxRecDepth 100000 in
set_option maxHeartbeats 4000000 in
@[go_sem] theorem eq_fd (x : Fld) (w : World) : (Op.equalIn 10000 60 (.agg #[.string x.name, .int .i64 x.at_.var, .int .u64 x.at_.el.e0, .int .u64 x.at_.el.e1, .int .u64 x.at_.el.e2, .int .u64 x.at_.el.e3, .int .u64 x.at_.el.e4, .int .u64 x.at_.el.e5, .int .u64 x.at_.el.e6, .int .u64 x.at_.el.e7]) (.agg #[.string x.name, .int .i64 x.at_.var, .int .u64 x.at_.el.e0, .int .u64 x.at_.el.e1, .int .u64 x.at_.el.e2, .int .u64 x.at_.el.e3, .int .u64 x.at_.el.e4, .int .u64 x.at_.el.e5, .int .u64 x.at_.el.e6, .int .u64 x.at_.el.e7])).run Try.prog w = .ok true w := by
  have hu := Try.underlying60
  have ha := Try.isAgg60
  have hz := Try.sizeOf60
  go_simp
set_option maxRecDepth 100000 in
set_option maxHeartbeats 4000000 in
theorem same_fields_any (B1 P1 B2 P2 v o : Nat) (W1 W2 : World) (s1 s2 : T) (w : World) (h1 : TbS W1 B1 P1 s1 w) (h2 : TbS W2 B2 P2 s2 w) (o1 : Ow s1) (o2 : Ow s2) (v1 : s1.own[v]? = some o) (v2 : s2.own[v]? = some o) (hr : s2.spreads [] (o : Nat) = s1.spreads [] (o : Nat)) (n1 : tot s1.rows ≤ 1000000000) (n2 : tot s2.rows ≤ 1000000000) (l : (s1.spreads [] (o : Nat)).fields.length ≤ 1000000) :
    Calls Try.prog 39 #[.pointer (some ⟨P1, 0, none⟩), .pointer (some ⟨P2, 0, none⟩), .int .i64 (v : Nat)] w fun e w' => e = .returned (.bool true) ∧ Below w.heap.size w w' := by
  obtain ⟨g1, t1⟩ := h1.ex
  have HF1 := hide (fields_any P1 B1 v o g1 s1 w t1 o1 v1 n1 l)
  have HF2 : Hid (∀ w', Below w.heap.size w w' → Calls Try.prog 18 #[.pointer (some ⟨P2, 0, none⟩), .int .i64 (v : Nat)] w' fun e w2 => RetFd w' (s1.spreads [] (o : Nat)) e w2) := hide fun w' hb => by
    obtain ⟨g2, t2⟩ := (h2.step hb).ex
    have := fields_any P2 B2 v o g2 s2 w' t2 o2 v2 n2 (by rw [hr]; exact l)
    rwa [hr] at this
  clear h1 h2 t1 o1 o2 v1 v2 hr n1 n2
  have HLn := hide l
  clear l
  generalize s1.spreads [] (o : Nat) = sp at *
  go_enter Try.func39, Try.ntmps39
  go_upto_region 2 with (go_at_call 18; refine HF1.out.mono ?_; rintro e w1 ⟨v1, names, rfl, hso, hrz, hb⟩; have H1 := hide (And.intro hso (And.intro hrz hb)); clear hso hrz hb)
  go_upto_region 3 with (go_at_call 18; refine (HF2.out _ H1.out.2.2).mono ?_; rintro e w2 ⟨v2, names2, rfl, hso, hrz, hb⟩; have H2 := hide (And.intro hso (And.intro hrz hb)); clear hso hrz hb)
  obtain rfl := Nm.Sorts.eq H1.out.1 H2.out.1
  have HR1 := hide (RowZ.below H1.out.2.1 H2.out.2.2)
  have HR2 := hide H2.out.2.1
  have hlen : (Rw.pick sp.fields names).length ≤ 1000000 := Nat.le_trans (Rw.pick_len _ _) (Nat.le_trans (Nm.Sorts.length_le H1.out.1.1 fun x hx => (H1.out.1.2 x).1 hx) (by simpa using HLn.out))
  have HBB := hide (below_next H1.out.2.2 H2.out.2.2)
  clear HLn H1 H2 HF1 HF2
  generalize decide (0 ≤ sp.fin) = op at *
  generalize Rw.pick sp.fields names = fs at *
  obtain ⟨A1, c1, rfl, _, _⟩ := RowZ.form HR1.out
  obtain ⟨A2, c2, rfl, _, _⟩ := RowZ.form HR2.out
  have hl9 : (fs.length : Int) ≤ 9223372036854775807 := by omega
  go_wp2_with fail
  go_loopw [36] (fun kv wr => (∃ k : Nat, k ≤ fs.length ∧ kv = .int .i64 (k : Nat)) ∧ Kpt w2 wr) (fun kv _ => fs.length - (intOf kv).toNat)
  case atStart => exact ⟨⟨0, by omega, rfl⟩, ⟨Below.refl _ _⟩⟩
  case round =>
    obtain ⟨⟨k, hk, rfl⟩, ho⟩ := hrel
    have HO := hide ho
    clear ho
    by_cases hlt : k < fs.length
    · have i0 : (k : Int) < fs.length := by omega
      obtain ⟨bl, off, c', e, hbl, hr⟩ := SlAt.elem (SlAt.of_row (B := w2.heap.size) HR1.out) (fun _ => rfl) hlt
      cases e
      obtain ⟨bl2, off2, c2', e, hbl2, hr2⟩ := SlAt.elem (SlAt.of_row (B := w2.heap.size) HR2.out) (fun _ => rfl) hlt
      cases e
      generalize fs[k] = x at *
      have HG1 := hide (And.intro hr hbl)
      have HG2 := hide (And.intro hr2 hbl2)
      clear hr hr2 hbl hbl2
      go_upto_region 8 with fail
      have HSS : Hid (Kpt w2 wr.drew) := hide (HO.out.step (below_drewN (Below.refl _ _) 1))
      refine wp_region_tree [0, 1, 4, 5, 2, 6, 3, 7, 8] .done (Kpt w2) (by kernel_rfl) (by kernel_rfl) (fun _ _ _ _ _ h => h) HSS.out ?_
      intro hne
      simp only [picks, List.filterMap_cons, List.filterMap_nil, List.getElem?_cons_zero, List.getElem?_cons_succ]
      iterate 6 (refine wpHeld_step (fun K hK => ?_); go_simp; refine hK _ ?_; clear hK K)
      refine wpHeld_step (fun K hK => ?_)
      rw [if_pos (by with_unfolding_all rfl)]
      refine held_mid (b := bl) (o := off + k * 10) (cs := [.string x.name, .int .i64 x.at_.var, .int .u64 x.at_.el.e0, .int .u64 x.at_.el.e1, .int .u64 x.at_.el.e2, .int .u64 x.at_.el.e3, .int .u64 x.at_.el.e4, .int .u64 x.at_.el.e5, .int .u64 x.at_.el.e6, .int .u64 x.at_.el.e7]) rfl rfl (by rintro _ ⟨u, rfl⟩; exact u.ok.range HG1.out.1 HG1.out.2) Try.underlying60 rfl fd_info (hK _ ?_)
      clear hK K
      refine wpHeld_step (fun K hK => ?_)
      rw [if_pos (by with_unfolding_all rfl)]
      refine held_mid (b := bl2) (o := off2 + k * 10) (cs := [.string x.name, .int .i64 x.at_.var, .int .u64 x.at_.el.e0, .int .u64 x.at_.el.e1, .int .u64 x.at_.el.e2, .int .u64 x.at_.el.e3, .int .u64 x.at_.el.e4, .int .u64 x.at_.el.e5, .int .u64 x.at_.el.e6, .int .u64 x.at_.el.e7]) rfl rfl (by rintro _ ⟨u, rfl⟩; exact u.ok.range HG2.out.1 HG2.out.2) Try.underlying60 rfl fd_info (hK _ ?_)
      clear hK K
      refine wpHeld_step (fun K hK => ?_)
      go_simp
      refine hK _ ?_
      clear hK K
      refine wpHeld_nil ?_
      clear hne
      refine wpTree_end ?_
      have HS2 := HSS
      generalize wr.drew = wz at *
      go_wp2_with fail
      exact ⟨⟨⟨k + 1, by omega, rfl⟩, HS2.out⟩, by simp [intOf]; omega⟩
    · obtain rfl : k = fs.length := by omega
      go_wp2_with fail
      go_ret
      exact ⟨rfl, HBB.out.trans (HO.out.below.mono HBB.out.size)⟩
end Go.Proofs.Ythnbhcfpfbimgaa
/- Plain: the assertions ahead of a place; what a stuck table knows. No walk. -/
namespace Go.Proofs.Ythnbhcfpfbimgaa
open Rw (T Asr W64 Gd Sz Nm NmA tot)
theorem feedL_app (inn : W64) (r : List As) : ∀ (l : List As) (i : Nat), feedL inn i (l ++ r) = feedL inn i l ++ feedL inn (i + l.length) r
  | [], i => by simp [feedL]
  | y :: l, i => by
    simp only [List.cons_append, feedL, feedL_app inn r l (i + 1), List.append_assoc, List.length_cons]
    rw [show i + 1 + l.length = i + (l.length + 1) by omega]
theorem feedL_congr (x y : W64) : ∀ (l : List As) (i : Nat), (∀ j, j < l.length → x.getLsbD (i + j) = y.getLsbD (i + j)) → feedL x i l = feedL y i l
  | [], i, _ => rfl
  | a :: l, i, h => by
    simp only [feedL]
    rw [feedL_congr x y l (i + 1) fun j hj => by
      have := h (j + 1) (by simp; omega)
      rwa [show i + (j + 1) = i + 1 + j by omega] at this, show x.getLsbD i = y.getLsbD i from by simpa using h 0 (by simp)]
theorem feedL_none (x : W64) : ∀ (l : List As) (i : Nat), (∀ j, j < l.length → x.getLsbD (i + j) = false) → feedL x i l = []
  | [], i, _ => rfl
  | a :: l, i, h => by
    simp only [feedL]
    rw [feedL_none x l (i + 1) fun j hj => by
      have := h (j + 1) (by simp; omega)
      rwa [show i + (j + 1) = i + 1 + j by omega] at this, show x.getLsbD i = false from by simpa using h 0 (by simp)]
    rfl
/-- The lowest bits; all bits. -/
def lowW (k : Nat) : W64 := BitVec.ofNat 64 (2 ^ k - 1)
def allW : W64 := BitVec.allOnes 64
theorem lowW_bit (k i : Nat) : (lowW k).getLsbD i = (decide (i < 64) && decide (i < k)) := by
  unfold lowW
  rw [BitVec.getLsbD_ofNat, Nat.testBit_two_pow_sub_one]
theorem allW_bit (i : Nat) : allW.getLsbD i = decide (i < 64) := BitVec.getLsbD_allOnes
theorem feedL_low (as_ : List As) (k : Nat) : feedL (lowW k) 0 as_ = feedL allW 0 (as_.take k) := by
  have h := feedL_app (lowW k) (as_.drop k) (as_.take k) 0
  rw [List.take_append_drop] at h
  rw [h, feedL_none (lowW k) (as_.drop k) _ fun j hj => ?_, List.append_nil]
  · exact feedL_congr _ _ _ _ fun j hj => by
      rw [lowW_bit, allW_bit]
      simp at hj ⊢
      omega
  · rw [lowW_bit]
    simp at hj ⊢
    omega
theorem fedT_low (n : Nat) (as_ : List As) (k : Nat) : fedT n as_ (lowW k) = fedT n (as_.take k) allW := by
  unfold fedT; rw [feedL_low as_ k]
/-- The first assertions, handed. -/
theorem FdOk.fed (n : Nat) {as_ : List As} (inn : W64) (hf : ∀ x ∈ as_, x.op = 9 → x.a.fields.length ≤ 100 ∧ x.b.fields.length ≤ 100) : ∀ k, k ≤ as_.length → FdOk n (namesU as_) k (fedT n (as_.take k) inn)
  | 0, _ => FdOk.begun _ _
  | k + 1, h => by
    have ih := FdOk.fed n inn hf k (by omega)
    rw [List.take_succ_eq_append_getElem (by omega), fedT_snoc]
    split
    · exact ih.hand fun a ha => asr_nm (List.getElem_mem _) ha (hf _ (List.getElem_mem _))
    · exact ih.mono (by omega)
theorem fedT_step (n : Nat) (as_ : List As) (inn : W64) {k : Nat} (hk : k < as_.length) : fedT n (as_.take (k + 1)) inn = if inn.getLsbD k then handA (fedT n (as_.take k) inn) as_[k] (1#64 <<< k) else fedT n (as_.take k) inn := by
  rw [List.take_succ_eq_append_getElem hk, fedT_snoc, show (as_.take k).length = k by simp; omega]
theorem fedT_begun (n : Nat) (as_ : List As) (inn : W64) : (fedT n (as_.take 0) inn).stuck = false := (Rw.begunT_beg n).stuck
/-- A table that is stuck at a place, and not ahead of that, knows ever after what it knew there. -/
theorem fedT_left (n : Nat) {as_ : List As} (inn : W64) (hf : ∀ x ∈ as_, x.op = 9 → x.a.fields.length ≤ 100 ∧ x.b.fields.length ≤ 100) {k : Nat} (hk : k < as_.length) (h0 : (fedT n (as_.take k) inn).stuck = false) (h1 : (fedT n (as_.take (k + 1)) inn).stuck = true) :
    (fedT n as_ inn).rows = (fedT n (as_.take k) inn).rows ∧ (fedT n as_ inn).own = (fedT n (as_.take k) inn).own := by
  have e : fedT n as_ inn = fedT n (as_.take (k + 1)) inn := by
    have h := feedL_app inn (as_.drop (k + 1)) (as_.take (k + 1)) 0
    rw [List.take_append_drop] at h
    have hg := (FdOk.fed n inn hf (k + 1) (by omega)).gd
    unfold fedT at *
    rw [h, Rw.feed_app]
    exact Rw.feed_stuck _ hg h1
  rw [e]
  rw [fedT_step n as_ inn hk] at h1 ⊢
  have hg := (FdOk.fed n inn hf k (by omega)).gd
  split at h1
  · next hb =>
    rw [if_pos hb]
    unfold handA at h1 ⊢
    split at h1
    · next a ha =>
      rcases (Rw.hand_left hg a (1#64 <<< k)).ex with ⟨e1, h2⟩ | ⟨_, _, h2, _⟩ | ⟨_, _, _, h2, h3, _⟩
      · rw [e1, h0] at h1; cases h1
      · rw [h2] at h1; cases h1
      · exact ⟨h2, h3⟩
    · rw [h0] at h1; cases h1
  · rw [h0] at h1; cases h1
theorem low_val {k : Nat} (hk : k ≤ 64) : IntKind.u64.wrap (IntKind.u64.wrap (2 ^ k) - 1) = (((lowW k).toNat : Nat) : Int) := by
  have h2 : ((2 : Int) ^ k) = ((2 ^ k : Nat) : Int) := by simp
  have h1 : 0 < 2 ^ k := Nat.pow_pos (by decide)
  have h : 2 ^ k ≤ 2 ^ 64 := Nat.pow_le_pow_right (by decide) hk
  unfold lowW
  rw [BitVec.toNat_ofNat, h2]
  generalize 2 ^ k = n at *
  rw [Nat.mod_eq_of_lt (by omega)]
  simp [IntKind.wrap, IntKind.bits, IntKind.signed]
  omega
end Go.Proofs.Ythnbhcfpfbimgaa
/- The walk of law 22's ahead, at a table that is stuck. (Printed by riahead.py.) -/
namespace Go.Proofs.Ythnbhcfpfbimgaa
open Go.RowKit
open Rw (El At Fld T W64 Gd Sz Ow Nm tot)
/-- A table that was fed is not great. -/
structure FdSm (n : Nat) (U : List ByteArray) (s : T) : Prop where
  ow : Ow s
  own : s.own = List.range n
  tot : tot s.rows ≤ 1000000000
  len : ∀ v, v < n → (s.spreads [] (v : Nat)).fields.length ≤ 1000000
theorem FdOk.small {n k : Nat} {U : List ByteArray} {s : T} (h : FdOk n U k s) (hn : n ≤ 64) (hk : k ≤ 64) (hU : U.length ≤ 20000) : FdSm n U s := by
  have h1 : k * (7 * U.length + 309) ≤ 64 * 140309 := Nat.mul_le_mul hk (by omega)
  refine ⟨h.gd.ow, h.own, Nat.le_trans h.sz.tot (by omega), fun v hv => ?_⟩
  have ho := h.gd.ow.own v (by rw [h.own]; exact List.mem_range.2 hv)
  exact Nat.le_trans (Rw.Nm.spreads h.nm h.gd.ow h.gd.inv (t := (v : Nat)) (by omega)).2 (by omega)
set_option maxRecDepth 100000 in
set_option maxHeartbeats 4000000 in
theorem ahead_any (B B1 P1 : Nat) (W1 : World) (vl vv vs : Value) (l : List Vr) (as_ : List As) (w : World) (h2 : Vars w B vv l) (h3 : Asrs w B vs as_) (hB : B ≤ w.heap.size) (hok : POk l as_) (hf : ∀ x ∈ as_, x.op = 9 → x.a.fields.length ≤ 100 ∧ x.b.fields.length ≤ 100) (ht : TbS W1 B1 P1 (fedT l.length as_ allW) w) (hst : (fedT l.length as_ allW).stuck = true) :
    Calls Try.prog 20 #[.agg #[vl, vv, vs], .pointer (some ⟨P1, 0, none⟩)] w fun e w' => e = .returned (.bool true) ∧ Below w.heap.size w w' := by
  obtain ⟨A, c, rfl, _, hcm⟩ := h3.form
  obtain ⟨A2, c2, rfl, _, _⟩ := h2.form
  have hl9 : (as_.length : Int) ≤ 9223372036854775807 := by unfold maxLen at hcm; omega
  have HB := hide (below_laid w (.cells #[vl, .slice A2 l.length c2, .slice A as_.length c] 28))
  have HA := hide (heap_alloc_last w (.cells #[vl, .slice A2 l.length c2, .slice A as_.length c] 28))
  have HAR := hide (And.intro (h2.below HB.out) (And.intro (h3.below HB.out) (Nat.le_trans hB HB.out.size)))
  have HOK := hide (And.intro hok hf)
  have hUl : (namesU as_).length ≤ 20000 := Nat.le_trans (namesU_len hf) (by have := hok.few; omega)
  have h64 : as_.length ≤ 64 := hok.few
  have H64 := hide h64
  have hv64 : l.length ≤ 64 := hok.vars
  have HT := hide (And.intro (ht.step HB.out) hst)
  have HSM : Hid (∀ k, k ≤ as_.length → FdSm l.length (namesU as_) (fedT l.length (as_.take k) allW)) := hide fun k hk => (FdOk.fed l.length allW hf k hk).small hv64 (by omega) hUl
  have k0 : (w.alloc (.cells #[vl, .slice A2 l.length c2, .slice A as_.length c] 28)).cell? ⟨w.heap.size, 0, none⟩ = some (vl) := by rw [cell_block HA.out]; rfl
  have k1 : (w.alloc (.cells #[vl, .slice A2 l.length c2, .slice A as_.length c] 28)).cell? ⟨w.heap.size, 1, none⟩ = some (.slice A2 l.length c2) := by rw [cell_block HA.out]; rfl
  have k2 : (w.alloc (.cells #[vl, .slice A2 l.length c2, .slice A as_.length c] 28)).cell? ⟨w.heap.size, 2, none⟩ = some (.slice A as_.length c) := by rw [cell_block HA.out]; rfl
  have hlt0 := blk_lt HA.out
  clear h2 h3 hok hf hcm HA hUl ht hst hB
  go_enter Try.func20, Try.ntmps20
  go_upto_region 1 with fail
  generalize w.alloc (Obj.cells _ 28) = w0 at *
  have HK0 := hide (And.intro hlt0 (And.intro k0 (And.intro k1 k2)))
  clear hlt0 k0 k1
  go_wp2_with fail
  clear k2
  go_loopw [13] (fun kv wr => (∃ k : Nat, k ≤ as_.length ∧ kv = .int .i64 (k : Nat) ∧ (fedT l.length (as_.take k) allW).stuck = false) ∧ Kpt w0 wr) (fun kv _ => as_.length - (intOf kv).toNat)
  case atStart => exact ⟨⟨0, by omega, rfl, fedT_begun _ _ _⟩, ⟨Below.refl _ _⟩⟩
  case round =>
    obtain ⟨⟨k, hk, rfl, hns⟩, ho⟩ := hrel
    have HO := hide ho
    have HNS := hide hns
    clear ho hns
    by_cases hlt : k < as_.length
    · have i0 : (k : Int) < as_.length := by omega
      have i1 : (k : Int) < 64 := by omega
      have k0 := HO.out.cell HK0.out.2.1
      have k1 := HO.out.cell HK0.out.2.2.1
      have k2 := HO.out.cell HK0.out.2.2.2
      have HFA := hide (fed_any B vl (.slice A2 l.length c2) (.slice A as_.length c) l as_ (lowW (k + 1)) wr (HAR.out.1.below HO.out.below) (HAR.out.2.1.below HO.out.below) (Nat.le_trans HAR.out.2.2 HO.out.below.size) HOK.out.1 HOK.out.2)
      have HFB := hide (fun (wq : World) (hq : Kpt w0 wq) => fed_any B vl (.slice A2 l.length c2) (.slice A as_.length c) l as_ (lowW k) wq (HAR.out.1.below hq.below) (HAR.out.2.1.below hq.below) (Nat.le_trans HAR.out.2.2 hq.below.size) HOK.out.1 HOK.out.2)
      unfold whyV at HFA HFB
      rw [fedT_low, ← low_val (by omega)] at HFA
      simp only [fedT_low, ← low_val (show k ≤ 64 by omega)] at HFB
      go_upto_region 5 with (first | (go_at_call 13; refine HFA.out.mono ?_; rintro e w3 ⟨P3, B3, rfl, hle, htb, hbl⟩; have H3 := hide (And.intro hle (And.intro htb hbl)); obtain ⟨g3, ht3⟩ := htb.ex; have HG3 := hide ht3; clear hle htb hbl ht3) | (go_at_call 14; refine (stuck_tb _ _ _ _ _ HG3.out).mono ?_; rintro e w4 ⟨rfl, hb4⟩; have H4 := hide (HO.out.step (below_next H3.out.2.2 hb4)); clear hb4))
      clear HFA k0 k1 k2
      cases hsb : (fedT l.length (as_.take (k + 1)) allW).stuck
      · have HSB := hide hsb
        clear hsb
        have i2 : (k : Int) < 63 := by
          by_cases h : k = 63
          · have h63 := h
            subst h63
            have hn : as_.length = 64 := by omega
            have hs := HSB.out
            rw [show (63 + 1) = as_.length by omega, List.take_length, HT.out.2] at hs
            cases hs
          · omega
        go_wp2_with fail
        exact ⟨⟨⟨k + 1, by omega, rfl, HSB.out⟩, H4.out⟩, by simp [intOf]; omega⟩
      · have HLF := hide (fedT_left l.length allW HOK.out.2 hlt HNS.out hsb)
        clear hsb
        have HT4 := hide (HT.out.1.step H4.out.below)
        have k0 := H4.out.cell HK0.out.2.1
        have k1 := H4.out.cell HK0.out.2.2.1
        have k2 := H4.out.cell HK0.out.2.2.2
        have HF2 := hide (HFB.out w4 H4.out)
        clear HFB
        go_upto_region 7 with (go_at_call 13; refine HF2.out.mono ?_; rintro e w5 ⟨P5, B5, rfl, hle, htb, hbl⟩; have H5 := hide (And.intro (H4.out.step hbl) (And.intro htb (HT4.out.step hbl))); clear hle htb hbl)
        clear HF2 k0 k1 k2
        have HS1 := hide (HSM.out as_.length (Nat.le_refl _))
        rw [List.take_length] at HS1
        have HS2 := hide (HSM.out k hk)
        generalize fedT l.length as_ allW = s1 at *
        generalize fedT l.length (as_.take k) allW = s2 at *
        have HLN : Hid (Calls Try.prog 15 #[.pointer (some ⟨P1, 0, none⟩)] w5 fun e w' => e = .returned (.int .i64 (l.length : Nat)) ∧ w5 = w') := hide (by
          obtain ⟨g1, hg1⟩ := H5.out.2.2.ex
          have := len_any P1 B1 g1 s1 w5 hg1
          rwa [HS1.out.own, List.length_range] at this)
        have hlv : (l.length : Int) ≤ 64 := by omega
        go_wp2_with (go_at_call 15; refine HLN.out.mono ?_; rintro e w6 ⟨rfl, rfl⟩)
        go_loopw [41] (fun kv wx => (∃ v : Nat, v ≤ l.length ∧ kv = .int .i64 (v : Nat)) ∧ Kpt w5 wx) (fun kv _ => l.length - (intOf kv).toNat)
        case atStart => exact ⟨⟨0, by omega, rfl⟩, ⟨Below.refl _ _⟩⟩
        case round =>
          obtain ⟨⟨v, hv, rfl⟩, hx⟩ := hrel
          have HX := hide hx
          clear hx
          by_cases hvl : v < l.length
          · have i4 : (v : Int) < l.length := by omega
            have HSF := hide (same_fields_any B1 P1 B5 P5 v v W1 w5 s1 s2 _ (H5.out.2.2.step HX.out.below) (H5.out.2.1.step HX.out.below) HS1.out.ow HS2.out.ow (by rw [HS1.out.own]; simp [hvl]) (by rw [HS2.out.own]; simp [hvl]) (by unfold Rw.T.spreads; rw [HLF.out.1]) HS1.out.tot HS2.out.tot (HS1.out.len v hvl))
            go_wp2_with (go_at_call 39; refine HSF.out.mono ?_; rintro e w7 ⟨rfl, hb7⟩; have H7 := hide (HX.out.step hb7); clear hb7)
            exact ⟨⟨⟨v + 1, by omega, rfl⟩, H7.out⟩, by simp [intOf]; omega⟩
          · obtain rfl : v = l.length := by omega
            go_wp2_with fail
            go_ret
            exact ⟨rfl, below_next (below_next HB.out H5.out.1.below) HX.out.below⟩
    · go_wp2_with fail
      go_ret
      exact ⟨rfl, below_next HB.out HO.out.below⟩
end Go.Proofs.Ythnbhcfpfbimgaa
