/- Texts put together: RwFields RgScope RgFit. -/
import Derived.Test.YthnbhcfpfbimgaaGreatMl12
import Derived.Test.YthnbhcfpfbimgaaGreatMl19
/- The walk of Fields: what is known of a variable. -/
namespace Go.Proofs.YthnbhcfpfbimgaaGreat
namespace Rw
/-- The fields of some names. -/
def pick (fs : List Fld) (ns : List ByteArray) : List Fld := ns.filterMap fun n => fs.find? fun x => x.name.toList == n.toList
theorem pick_snoc {fs : List Fld} {ns : List ByteArray} {n : ByteArray} {g : Fld} (h : fs.find? (fun x => x.name.toList == n.toList) = some g) : pick fs (ns ++ [n]) = pick fs ns ++ [g] := by simp [pick, h]
theorem pick_len (fs : List Fld) (ns : List ByteArray) : (pick fs ns).length ≤ ns.length := List.length_filterMap_le _ _
theorem findI_mem {fs : List Fld} {n : ByteArray} (h : n ∈ fs.map (·.name)) : ¬ findI fs n < 0 := by
  obtain ⟨f, hf, rfl⟩ := List.mem_map.1 h
  rw [hasF_iff]
  simp only [hasF]
  intro hn
  rw [List.any_eq_false] at hn
  exact absurd (hn f hf) (by simp)
end Rw
open Go.RowKit
open Rw (El At Fld Lk Eqn U T W64 Sp Wf tot Sz Nx Ow)
theorem own_slice' {w : World} {base : Nat} {v : Value} {out : List ByteArray} (h : w.ownsRow base 9 1 v out.length (out.map Value.string)) :
    ∃ A c, v = .slice A out.length c ∧ out.length ≤ c ∧ c ≤ maxLen ∧ HasStr w w.heap.size A out.length out := by
  rcases h.2 with ⟨rfl, h0⟩ | ⟨g, cap, cur, rfl, _, _, hn, hm, _⟩
  · exact ⟨none, 0, by rw [h0], by omega, by unfold maxLen; omega, by rw [h0] at h ⊢; exact Has.of_own h⟩
  · exact ⟨_, _, rfl, hn, hm, Has.of_own h⟩
theorem has_row {w : World} {n c : Nat} {A : Option Addr} {xs : List Value} (h : RowZ w 9 1 (.slice A n c) n xs) : Has w w.heap.size A n xs := by
  refine ⟨by have := h.len; omega, fun hn => ?_⟩
  obtain ⟨b, rfl⟩ := RowZ.addr h hn
  refine ⟨b, 0, rfl, RowZ.lt h b rfl, fun j u hu => ?_⟩
  rw [Nat.zero_add, RowZ.cell h (List.getElem?_eq_some_iff.1 hu).1]
  exact hu
theorem str_news {w : World} {b : Nat} {x : ByteArray} (h : w.heap[b]? = some (.cells #[.string x] 9 (0, 0))) : Src Tryz.prog 1 101 (.slice (some ⟨b, 0, none⟩) 1 1) 1 [.string x] w :=
  Src.ofSlice _ Tryz.underlying101 ⟨b, 0, none⟩ 1 1 _ rfl (World.news_of_block (cs := #[.string x]) (t := 9) (fr := (0, 0)) h) (by simp [Value.oneCell'])
/-- The first loop: the names. -/
structure FnL (W : World) (ns : List ByteArray) (kv v : Value) (wr : World) : Prop where
  ex : ∃ k : Nat, k ≤ ns.length ∧ kv = .int .i64 (k : Nat) ∧ RowZ wr 9 1 v (ns.take k).length ((ns.take k).map Value.string) ∧ (∀ g, v.ownBlock = some g → W.heap.size ≤ g) ∧ Below W.heap.size W wr
structure FoL (W : World) (fs : List Fld) (ns : List ByteArray) (kv v : Value) (wr : World) : Prop where
  ex : ∃ k : Nat, k ≤ ns.length ∧ kv = .int .i64 (k : Nat) ∧ RowZ wr 59 10 v (Rw.pick fs (ns.take k)).length (fdsV (Rw.pick fs (ns.take k))) ∧ (∀ g, v.ownBlock = some g → W.heap.size ≤ g) ∧ Below W.heap.size W wr
structure RetFd (w : World) (sp : Sp) (e : Ending) (w' : World) : Prop where
  ex : ∃ v names, e = .returned (.tuple #[v, .bool (decide (0 ≤ sp.fin))]) ∧ Nm.Sorts (sp.fields.map (·.name)) names ∧ RowZ w' 59 10 v (Rw.pick sp.fields names).length (fdsV (Rw.pick sp.fields names)) ∧ Below w.heap.size w w'
theorem names_take {fs : List Fld} {k : Nat} {z : Fld} (h : fs[k]? = some z) : (fs.map (·.name)).take (k + 1) = (fs.map (·.name)).take k ++ [z.name] := by
  have hk := (List.getElem?_eq_some_iff.1 h).1
  rw [List.take_succ_eq_append_getElem (by simpa using hk)]
  congr 1
  have := (List.getElem?_eq_some_iff.1 h).2
  simp [this]
set_option maxRecDepth 100000 in
set_option maxHeartbeats 4000000 in
theorem fields_any (P B v o : Nat) (g : Bl) (s : T) (w : World) (h : Tb w B P g s) (hO : Ow s) (hv : s.own[v]? = some o) (hN : tot s.rows ≤ 1000000000) (hl : (s.spreads [] (o : Nat)).fields.length ≤ 1000000) :
    Calls Tryz.prog 15 #[.pointer (some ⟨P, 0, none⟩), .int .i64 (v : Nat)] w fun e w' => RetFd w (s.spreads [] (o : Nat)) e w' := by
  obtain ⟨i1, hj, hy0, hy1, hy2⟩ := info_parts info_string
  obtain ⟨i2, hj', hy0', hy1', hy2'⟩ := info_parts info_fd
  have hvl := (List.getElem?_eq_some_iff.1 hv).1
  have hor := hO.own o (List.mem_iff_getElem?.2 ⟨_, hv⟩)
  have HSp := hide (spreads_any P B g s [] (.slice none 0 0) (o : Nat) w h hO.wf (SlAt.nil _ _ _ _) (by omega) (by simpa using hN))
  obtain ⟨vu, vt, vr, vo, ve, vs, fu, hx⟩ := h
  obtain ⟨bo, co, rfl, c4⟩ := hx.ownCell hv
  have c3 := hx.cells.2.2.2.1
  clear hx
  have hv0 : ((v : Nat) : Int) < s.own.length := by omega
  have hv1 : (0 : Int) ≤ (v : Nat) := by omega
  generalize s.spreads [] (o : Nat) = sp at *
  obtain ⟨fs, fin, why⟩ := sp
  dsimp only at *
  go_enter Tryz.func15, Tryz.ntmps15
  go_upto_region 5 with (go_at_call 31; refine (HSp.out).mono ?_; rintro e w1 ⟨⟨v1, rfl, hsl, hb1⟩⟩; obtain ⟨A1, c1, rfl, _⟩ := hsl.ex; have H1 := hide (And.intro hsl hb1); unfold spC; clear hsl hb1)
  have hbb := below_laid w1 (.cells #[.slice A1 fs.length c1, .int .i64 fin, .int .u64 (why.toNat : Nat)] 99)
  have e1 := heap_alloc_new w1 (.cells #[.slice A1 fs.length c1, .int .i64 fin, .int .u64 (why.toNat : Nat)] 99)
  have HW := hide (And.intro (H1.out.1.below hbb) (And.intro e1 (H1.out.2.trans (hbb.mono H1.out.2.size))))
  clear hbb e1 c3 c4
  generalize hW : w1.alloc (.cells #[.slice A1 fs.length c1, .int .i64 fin, .int .u64 (why.toNat : Nat)] 99) = W at *
  obtain ⟨k0, k1, k2⟩ := spC_cells HW.out.2.1
  have hnb : w1.heap.size < W.heap.size := blk_lt HW.out.2.1
  clear H1 HSp hW
  go_wp2_with fail
  go_loopw [40, 7] (fun kv v wr => FnL W (fs.map (·.name)) kv v wr) (fun kv _ _ => fs.length - (intOf kv).toNat)
  case atStart => exact ⟨0, Nat.zero_le _, rfl, RowZ.nil, fun g hg => (by cases hg), Below.refl _ _⟩
  case round =>
    obtain ⟨k, hk, rfl, hr, ho, hd⟩ := hrel
    rw [List.length_map] at hk
    have hlk : ((fs.map (·.name)).take k).length = k := by simp; omega
    rw [hlk] at hr
    obtain ⟨Ar, cr, rfl, hrc, hrm⟩ := RowZ.form hr
    by_cases hlt : k < fs.length
    · obtain ⟨z, hf⟩ : ∃ z, fs[k]? = some z := ⟨fs[k], List.getElem?_eq_getElem hlt⟩
      have hfl := HW.out.1.below hd
      obtain ⟨A', c', e1, _, _, _, hc⟩ := hfl.ex
      cases e1
      obtain ⟨b1, off, rfl, _⟩ := hc (by omega)
      have z0 : wr.cell? ⟨b1, off + k * 10, none⟩ = some (.string z.name) := hfl.fcell (j := 0) rfl hf (by omega) rfl
      have z1 : wr.cell? ⟨b1, off + k * 10 + 1, none⟩ = some (.int .i64 z.at_.var) := hfl.fcell rfl hf (by omega) rfl
      have z2 : wr.cell? ⟨b1, off + k * 10 + 2, none⟩ = some (.int .u64 z.at_.el.e0) := hfl.fcell rfl hf (by omega) rfl
      have z3 : wr.cell? ⟨b1, off + k * 10 + 3, none⟩ = some (.int .u64 z.at_.el.e1) := hfl.fcell rfl hf (by omega) rfl
      have z4 : wr.cell? ⟨b1, off + k * 10 + 4, none⟩ = some (.int .u64 z.at_.el.e2) := hfl.fcell rfl hf (by omega) rfl
      have z5 : wr.cell? ⟨b1, off + k * 10 + 5, none⟩ = some (.int .u64 z.at_.el.e3) := hfl.fcell rfl hf (by omega) rfl
      have z6 : wr.cell? ⟨b1, off + k * 10 + 6, none⟩ = some (.int .u64 z.at_.el.e4) := hfl.fcell rfl hf (by omega) rfl
      have z7 : wr.cell? ⟨b1, off + k * 10 + 7, none⟩ = some (.int .u64 z.at_.el.e5) := hfl.fcell rfl hf (by omega) rfl
      have z8 : wr.cell? ⟨b1, off + k * 10 + 8, none⟩ = some (.int .u64 z.at_.el.e6) := hfl.fcell rfl hf (by omega) rfl
      have z9 : wr.cell? ⟨b1, off + k * 10 + 9, none⟩ = some (.int .u64 z.at_.el.e7) := hfl.fcell rfl hf (by omega) rfl
      have hq0 : (k : Int) < fs.length := by omega
      have hq1 : (0 : Int) ≤ k := by omega
      have hba := below_laid wr (.cells #[.string z.name, .int .i64 z.at_.var, .int .u64 z.at_.el.e0, .int .u64 z.at_.el.e1, .int .u64 z.at_.el.e2, .int .u64 z.at_.el.e3, .int .u64 z.at_.el.e4, .int .u64 z.at_.el.e5, .int .u64 z.at_.el.e6, .int .u64 z.at_.el.e7] 59)
      have p0 : (wr.alloc (.cells #[.string z.name, .int .i64 z.at_.var, .int .u64 z.at_.el.e0, .int .u64 z.at_.el.e1, .int .u64 z.at_.el.e2, .int .u64 z.at_.el.e3, .int .u64 z.at_.el.e4, .int .u64 z.at_.el.e5, .int .u64 z.at_.el.e6, .int .u64 z.at_.el.e7] 59)).cell? ⟨wr.heap.size, 0, none⟩ = some (.string z.name) := by rw [cell_block (heap_alloc_new wr _)]; rfl
      have HN := hide (And.intro (hr.below hba) (And.intro ho (And.intro hd (And.intro hf hba))))
      clear hr ho hd hf hba hfl hc
      generalize hU : wr.alloc (.cells #[.string z.name, .int .i64 z.at_.var, .int .u64 z.at_.el.e0, .int .u64 z.at_.el.e1, .int .u64 z.at_.el.e2, .int .u64 z.at_.el.e3, .int .u64 z.at_.el.e4, .int .u64 z.at_.el.e5, .int .u64 z.at_.el.e6, .int .u64 z.at_.el.e7] 59) = U at *
      go_wp2_with (at_builtin; go_must (refine app_rowz rfl (.tmp 44) (.tmp 47) 101 101 rfl 9 i1 _ 1 16 Tryz.underlying101 hj hy0 hy1 hy2 rfl (.slice Ar k cr) k (((fs.map (·.name)).take k).map Value.string) rfl (HN.out.1.below (below_laid U _)) _ 1 [.string z.name] rfl (str_news (heap_alloc_new U _)) (by unfold maxLen; omega) (by omega) ?_); intro A' c' w' hr hg hob; have HG := hide (And.intro hr (And.intro hg hob)); clear hr hg hob)
      have hbU := HN.out.2.2.2.2.mono (show W.heap.size ≤ wr.heap.size from HN.out.2.2.1.size)
      have hbl : Below W.heap.size W (U.alloc (.cells #[.string z.name] 9)) := (HN.out.2.2.1.trans hbU).alloc (HN.out.2.2.1.trans hbU).size _
      refine ⟨⟨k + 1, by simp; omega, rfl, ?_, fun q hq => ?_, hbl.grown HG.out.2.1 hbl.size HN.out.2.1⟩, by simp [intOf]; omega⟩
      · rw [names_take HN.out.2.2.2.1, List.length_append, hlk, List.map_append]; exact HG.out.1
      · rcases HG.out.2.2 with e | e
        · rw [e] at hq; exact HN.out.2.1 q hq
        · rw [e] at hq; injection hq with hq; rw [← hq]; exact hbl.size
    · obtain rfl : k = fs.length := by omega
      rw [List.take_of_length_le (by simp)] at hr
      have hst : HasStr wr wr.heap.size Ar fs.length (fs.map (fun x => x.name)) := has_row hr
      have HSo := hide (sort_any fs.length cr wr.heap.size Ar (fs.map (·.name)) wr hl (Nat.le_refl _) hst)
      have HN := hide hd
      clear hr ho hd hst hlt hlk
      generalize wr = wo at *
      go_wp2_with (go_at_call 32; refine (HSo.out).mono ?_; rintro e w2 ⟨ns, v2, rfl, hso, hown, hb2⟩; obtain ⟨A2, c2, rfl, hnc, hnm, hss⟩ := own_slice' hown; have H2 := hide (And.intro hso (And.intro hss (HN.out.trans (hb2.mono HN.out.size)))); clear hso hown hb2 hss)
      have hnl : ns.length ≤ 1000000 := by
        have := Nm.Sorts.length_le H2.out.1.1 (fun x hx => (H2.out.1.2 x).1 hx)
        simp at this; omega
      have hfl2 := HW.out.1.below H2.out.2.2
      have e2 := (H2.out.2.2.block _ hnb).trans HW.out.2.1
      have HW2 := hide (And.intro hfl2 e2)
      clear hfl2 e2 k0 k1 k2
      go_loopw [53, 10] (fun kv v wr => FoL w2 fs ns kv v wr) (fun kv _ _ => ns.length - (intOf kv).toNat)
      case atStart => exact ⟨0, Nat.zero_le _, rfl, RowZ.nil, fun g hg => (by cases hg), Below.refl _ _⟩
      case round =>
        obtain ⟨k, hk, rfl, hr, ho, hd⟩ := hrel
        obtain ⟨Ar, cr', rfl, hrc', hrm'⟩ := RowZ.form hr
        by_cases hlt : k < ns.length
        · have hpl : (Rw.pick fs (ns.take k)).length ≤ 1000000 := Nat.le_trans (Rw.pick_len _ _) (by simp; omega)
          obtain ⟨bs, os, rfl, hbs, hcs⟩ := HasStr.str H2.out.2.1 hlt
          have hmem : Nm.at_ ns k ∈ ns := by rw [Nm.at_mem hlt]; exact List.getElem_mem hlt
          have htk : ns.take (k + 1) = ns.take k ++ [Nm.at_ ns k] := take_one hlt
          obtain ⟨q, gg, hqi, hgq, hgf⟩ := Rw.findI_pos (Rw.findI_mem ((H2.out.1.2 _).1 hmem))
          generalize Nm.at_ ns k = nm at *
          have HFd : Hid (∀ u, Below w2.heap.size w2 u → Calls Tryz.prog 33 #[.agg #[.slice A1 fs.length c1, .int .i64 fin, .int .u64 (why.toNat : Nat)], .string nm] u fun e w' => e = .returned (.int .i64 (q : Nat)) ∧ Below u.heap.size u w') := hide fun u hu => by
            have := find_any B fs (.slice A1 fs.length c1) fin why nm u (HW2.out.1.below hu)
            rw [hqi] at this
            exact this
          have hql := (List.getElem?_eq_some_iff.1 hgq).1
          have hfl2 := HW2.out.1
          obtain ⟨A', c', e1, _, _, _, hc⟩ := hfl2.ex
          cases e1
          obtain ⟨b1, off, rfl, _⟩ := hc (by omega)
          have hb0 : ∀ u : HoldW (fun w'' => Below w2.heap.size w2 w''), u.w.cell? ⟨w1.heap.size, 0, none⟩ = some (.slice (some ⟨b1, off, none⟩) fs.length c1) := fun u => (spC_cells ((u.ok.block _ (blk_lt HW2.out.2)).trans HW2.out.2)).1
          have hb1' : ∀ u : HoldW (fun w'' => Below w2.heap.size w2 w''), u.w.cell? ⟨w1.heap.size, 1, none⟩ = some (.int .i64 fin) := fun u => (spC_cells ((u.ok.block _ (blk_lt HW2.out.2)).trans HW2.out.2)).2.1
          have hb2' : ∀ u : HoldW (fun w'' => Below w2.heap.size w2 w''), u.w.cell? ⟨w1.heap.size, 2, none⟩ = some (.int .u64 (why.toNat : Nat)) := fun u => (spC_cells ((u.ok.block _ (blk_lt HW2.out.2)).trans HW2.out.2)).2.2
          have z9 := (hd.cell (p := ⟨bs, os + k, none⟩) hbs).trans hcs
          have hk0 : (k : Int) < ns.length := by omega
          have hk1 : (0 : Int) ≤ k := by omega
          have hq2 : (q : Int) < fs.length := by omega
          have hq3 : (0 : Int) ≤ q := by omega
          have HN := hide (And.intro hr (And.intro ho (And.intro hd (And.intro htk (And.intro hgf hgq)))))
          clear hr ho hd htk hgf hqi hcs hmem hc hfl2
          have hd1 : Below w2.heap.size w2 wr.drew := below_drewN HN.out.2.2.1 1
          go_upto_region 14 with (fail)
          refine wp_region_chain [0, 1, 2, 3, 4] [(5, true), (6, true), (7, true), (8, true), (9, true), (10, true)] (fun w'' => Below w2.heap.size w2 w'') (by kernel_rfl) (by kernel_rfl) (fun _ _ _ _ _ h => h) hd1 ?_
          intro hne
          simp only [picks, picksW, List.filterMap_cons, List.filterMap_nil, List.getElem?_cons_zero, List.getElem?_cons_succ, Option.map_some]
          repeat (refine wpHeld_step (fun K hK => ?_); go_simp; refine hK _ ?_; clear hK K)
          refine wpHeld_nil ?_
          clear hb0 hb1' hb2' hne
          refine wpChain_cons fun K hK => ?_
          go_wp2_with (go_at_call 33; refine (HFd.out _ hd1).mono ?_; rintro e w3 ⟨rfl, hb3⟩; have H3 := hide (And.intro hb3 (hd1.trans (hb3.mono hd1.size))); clear hb3)
          refine chainF (fun _ => H3.out.2) (hK _ _ ?_)
          clear hK K
          have hfl3 := HW2.out.1.below H3.out.2
          have hgq := HN.out.2.2.2.2.2
          have hg0 : w3.cell? ⟨b1, off + q * 10, none⟩ = some (.string gg.name) := hfl3.fcell (j := 0) rfl hgq (by omega) rfl
          have hg1 : w3.cell? ⟨b1, off + q * 10 + 1, none⟩ = some (.int .i64 gg.at_.var) := hfl3.fcell (j := 1) rfl hgq (by omega) rfl
          have hg2 : w3.cell? ⟨b1, off + q * 10 + 2, none⟩ = some (.int .u64 gg.at_.el.e0) := hfl3.fcell (j := 2) rfl hgq (by omega) rfl
          have hg3 : w3.cell? ⟨b1, off + q * 10 + 3, none⟩ = some (.int .u64 gg.at_.el.e1) := hfl3.fcell (j := 3) rfl hgq (by omega) rfl
          have hg4 : w3.cell? ⟨b1, off + q * 10 + 4, none⟩ = some (.int .u64 gg.at_.el.e2) := hfl3.fcell (j := 4) rfl hgq (by omega) rfl
          have hg5 : w3.cell? ⟨b1, off + q * 10 + 5, none⟩ = some (.int .u64 gg.at_.el.e3) := hfl3.fcell (j := 5) rfl hgq (by omega) rfl
          have hg6 : w3.cell? ⟨b1, off + q * 10 + 6, none⟩ = some (.int .u64 gg.at_.el.e4) := hfl3.fcell (j := 6) rfl hgq (by omega) rfl
          have hg7 : w3.cell? ⟨b1, off + q * 10 + 7, none⟩ = some (.int .u64 gg.at_.el.e5) := hfl3.fcell (j := 7) rfl hgq (by omega) rfl
          have hg8 : w3.cell? ⟨b1, off + q * 10 + 8, none⟩ = some (.int .u64 gg.at_.el.e6) := hfl3.fcell (j := 8) rfl hgq (by omega) rfl
          have hg9 : w3.cell? ⟨b1, off + q * 10 + 9, none⟩ = some (.int .u64 gg.at_.el.e7) := hfl3.fcell (j := 9) rfl hgq (by omega) rfl
          clear hfl3 hgq
          refine wpChain_cons fun K hK => ?_
          go_wp2_with fail
          refine chainF (fun _ => H3.out.2) (hK _ _ ?_)
          clear hK K
          refine wpChain_cons fun K hK => ?_
          go_wp2_with fail
          refine chainF (fun _ => H3.out.2) (hK _ _ ?_)
          clear hK K
          clear hg0 hg1 hg2 hg3 hg4 hg5 hg6 hg7 hg8 hg9
          refine wpChain_cons fun K hK => ?_
          go_wp2_with fail
          have hb4 := below_laid w3 (.cells #[.string gg.name, .int .i64 gg.at_.var, .int .u64 gg.at_.el.e0, .int .u64 gg.at_.el.e1, .int .u64 gg.at_.el.e2, .int .u64 gg.at_.el.e3, .int .u64 gg.at_.el.e4, .int .u64 gg.at_.el.e5, .int .u64 gg.at_.el.e6, .int .u64 gg.at_.el.e7] 59)
          have hd4 := H3.out.2.trans (hb4.mono H3.out.2.size)
          have hr4 := (RowZ.below (RowZ.below (RowZ.below HN.out.1 (below_drewN (Below.refl _ _) 1)) H3.out.1) hb4)
          refine chainF (fun _ => hd4) (hK _ _ ?_)
          clear hK K
          refine wpChain_cons fun K hK => ?_
          refine app_rowz rfl (.tmp 57) (.tmp 65) 54 54 rfl 59 i2 _ 10 88 Tryz.underlying54 hj' hy0' hy1' hy2' rfl (.slice Ar (Rw.pick fs (ns.take k)).length cr') (Rw.pick fs (ns.take k)).length (fdsV (Rw.pick fs (ns.take k))) rfl hr4 _ 1 [.string gg.name, .int .i64 gg.at_.var, .int .u64 gg.at_.el.e0, .int .u64 gg.at_.el.e1, .int .u64 gg.at_.el.e2, .int .u64 gg.at_.el.e3, .int .u64 gg.at_.el.e4, .int .u64 gg.at_.el.e5, .int .u64 gg.at_.el.e6, .int .u64 gg.at_.el.e7] rfl (fd_news (heap_alloc_new w3 _)) (by unfold maxLen; omega) (by omega) ?_
          intro A' c' w' hr hg hob
          have hd5 : Below w2.heap.size w2 w' := hd4.grown hg hd4.size HN.out.2.1
          have HG := hide (And.intro hr (And.intro hob (And.intro hd5 hd4)))
          refine chainF (fun _ => HG.out.2.2.1) (hK _ _ ?_)
          clear hK K hr hg hob hd5 hd4 hr4 hb4
          refine wpChain_cons fun K hK => ?_
          go_wp2_with fail
          refine chainF (fun _ => HG.out.2.2.1) (hK _ _ ?_)
          clear hK K
          refine wpChain_nil ?_
          go_wp2_with fail
          refine ⟨⟨k + 1, by omega, rfl, ?_, fun p hp => ?_, HG.out.2.2.1⟩, by simp [intOf]; omega⟩
          · rw [HN.out.2.2.2.1, Rw.pick_snoc HN.out.2.2.2.2.1, List.length_append, fdsV_snoc]; exact HG.out.1
          · rcases HG.out.2.1 with e | e
            · rw [e] at hp; exact HN.out.2.1 p hp
            · rw [e] at hp; injection hp with hp; rw [← hp]; exact HG.out.2.2.2.size
        · obtain rfl : k = ns.length := by omega
          have ht : ns.take ns.length = ns := List.take_of_length_le (Nat.le_refl _)
          rw [ht] at hr ⊢
          clear ht
          have k1 := (spC_cells ((hd.block _ (blk_lt HW2.out.2)).trans HW2.out.2)).2.1
          have HN' := hide (And.intro hr hd)
          clear hr ho hd
          go_wp2_with fail
          go_quiet (fail)
          go_wp2_with fail
          go_ret2
          refine ⟨⟨_, ns, rfl, H2.out.1, RowZ.below HN'.out.1 (below_drewN (Below.refl _ _) nq), ?_⟩⟩
          exact HW.out.2.2.trans ((H2.out.2.2.trans ((below_drewN HN'.out.2 nq).mono H2.out.2.2.size)).mono HW.out.2.2.size)
end Go.Proofs.YthnbhcfpfbimgaaGreat
/- The walk of chapter 13's Right. -/
namespace Go.Proofs.YthnbhcfpfbimgaaGreat
open Go.RowKit
/-- A list of strings of one's own. -/
structure StS (W : World) (v : Value) (ss : List ByteArray) (wr : World) : Prop where
  row : RowZ wr 9 1 v ss.length (strV ss)
  own : ∀ g, v.ownBlock = some g → W.heap.size ≤ g
  below : Below W.heap.size W wr
  small : ∀ s ∈ ss, s.size ≤ maxLen
theorem StS.nil {W wr : World} (h : Below W.heap.size W wr) : StS W (.slice none 0 0) [] wr := ⟨RowZ.nil, fun g hg => (by cases hg), h, fun s hs => (by cases hs)⟩
theorem StS.step {W : World} {v : Value} {ss : List ByteArray} {wr w' : World} (h : StS W v ss wr) (hb : Below wr.heap.size wr w') : StS W v ss w' := ⟨RowZ.below h.row hb, h.own, below_next h.below hb, h.small⟩
theorem StS.push {W : World} {v v' : Value} {ss : List ByteArray} {s : ByteArray} {wr w' : World} (h : StS W v ss wr) (hs : s.size ≤ maxLen) (hr : RowZ w' 9 1 v' (ss.length + 1) (strV ss ++ [.string s])) (hg : (wr.alloc (.cells #[.string s] 9)).grownBy w' v.ownBlock)
    (ho : v'.ownBlock = v.ownBlock ∨ v'.ownBlock = some (wr.alloc (.cells #[.string s] 9)).heap.size) : StS W v' (ss ++ [s]) w' := by
  have H5 := h.step (below_laid wr (.cells #[.string s] 9))
  refine ⟨?_, fun g hg => ?_, H5.below.grown hg H5.below.size H5.own, fun x hx => ?_⟩
  · have e : strV (ss ++ [s]) = strV ss ++ [.string s] := by simp [strV]
    rw [e, List.length_append]; exact hr
  · rcases ho with e | e
    · rw [e] at hg; exact H5.own g hg
    · rw [e] at hg; injection hg with hg; rw [← hg]; exact H5.below.size
  · rcases List.mem_append.1 hx with hx | hx
    · exact h.small x hx
    · simp at hx; subst hx; exact hs
theorem StS.ls {W : World} {v : Value} {ss : List ByteArray} {wr : World} (h : StS W v ss wr) : LS wr wr.heap.size v ss := ⟨SlAt.of_row h.row, h.small⟩
structure StL (W : World) (kv v : Value) (m n : Nat) (wr : World) : Prop where
  ex : ∃ (k : Nat) (ss : List ByteArray), k ≤ n ∧ kv = .int .i64 (k : Nat) ∧ ss.length ≤ m + k ∧ StS W v ss wr
/-- Whether a scope is right; if so its variables are not many. -/
structure RSc (m : Nat) (e : Ending) : Prop where
  ex : ∃ r, e = .returned (.bool r) ∧ (r = true → m ≤ 64)
set_option maxRecDepth 100000 in
set_option maxHeartbeats 2000000 in
theorem right13_tot (B : Nat) (vl vv : Value) (n : Nat) (l : List Vr) (w : World) (h : Lats w B vl n) (h2 : Vars w B vv l) (hB : B ≤ w.heap.size) : Calls Tryz.prog 21 #[.agg #[vl, vv]] w fun e w' => RSc l.length e ∧ Below w.heap.size w w' := by
  obtain ⟨i1, hj, hy0, hy1, hy2⟩ := info_parts info_string
  obtain ⟨A, c, rfl, hnc, hcm⟩ := h.form
  obtain ⟨A2, c2, rfl, hnc2, hcm2⟩ := h2.form
  have HT := hide (ScW.new h h2 hB)
  have k0 := HT.out.c0
  have k1 := HT.out.c1
  have hl9 : (n : Int) ≤ 9223372036854775807 := by unfold maxLen at hcm; omega
  have hl8 : (l.length : Int) ≤ 9223372036854775807 := by unfold maxLen at hcm2; omega
  clear h hnc hcm h2 hnc2 hcm2
  go_enter Tryz.func21, Tryz.ntmps21
  go_upto_region 1 with fail
  generalize w.alloc (Obj.cells _ 25) = w0 at *
  by_cases h2 : 16 < n
  · have d2 : decide (16 < (n : Int)) = true := decide_eq_true (by omega)
    go_wp2_with fail
    go_ret
    exact ⟨⟨_, rfl, fun h => by cases h⟩, HT.out.below⟩
  have d2 : decide (16 < (n : Int)) = false := decide_eq_false (by omega)
  by_cases h3 : 64 < l.length
  · have d3 : decide (64 < (l.length : Int)) = true := decide_eq_true (by omega)
    go_wp2_with fail
    go_ret
    exact ⟨⟨_, rfl, fun h => by cases h⟩, HT.out.below⟩
  have d3 : decide (64 < (l.length : Int)) = false := decide_eq_false (by omega)
  have hn16 : n ≤ 16 := by omega
  have hl64 : l.length ≤ 64 := by omega
  have HN := hide (And.intro hn16 hl64)
  go_wp2_with fail
  clear d2 d3 k1 k0 h2 h3
  go_loopw [4, 3] (fun kv v wr => StL w0 kv v 0 n wr) (fun kv _ _ => n - (intOf kv).toNat)
  case atStart => exact ⟨0, [], by omega, rfl, by simp, StS.nil (Below.refl _ _)⟩
  case round =>
    obtain ⟨k, ss, hk, rfl, hss, ho⟩ := hrel
    obtain ⟨Ar, cr, rfl, _⟩ := RowZ.form ho.row
    have HO := hide ho
    have HS := hide (HT.out.step ho.below)
    clear ho
    have k0 := HS.out.c0
    by_cases hlt : k < n
    · have i0 : (k : Int) < n := by omega
      obtain ⟨bl, off, c', nm, bb, u, m, e, hbl, g0, g1, g2, hsm, hsh⟩ := HS.out.lats.at hlt
      cases e
      obtain ⟨A3, c3, rfl, _⟩ := hsh.form
      have HR := hide (right7_tot w.heap.size bb (.slice A3 m c3) m wr hsh HS.out.below.size)
      have HM := hide hsm
      clear hsh hsm
      go_upto_if 32 with (go_at_call 37; refine HR.out.mono ?_; rintro e w4 ⟨⟨⟨z, rfl⟩⟩, hb4⟩; have H7 := hide (And.intro (HO.out.step hb4) (HS.out.step hb4)); have q0 := (World.cell?_of_block (hb4.block _ hbl)).trans g0; clear hb4)
      clear HR g0 g1 g2 k0
      have k0 := H7.out.2.c0
      cases z
      · go_wp2_with fail
        go_ret
        exact ⟨⟨_, rfl, fun h => by cases h⟩, H7.out.2.below⟩
      · go_wp2_with (at_builtin; go_must (refine app_rowz rfl (.tmp 33) (.tmp 40) 101 101 rfl 9 i1 _ 1 16 Tryz.underlying101 hj hy0 hy1 hy2 rfl (.slice Ar ss.length cr) ss.length (strV ss) rfl (RowZ.below H7.out.1.row (below_laid w4 _)) _ 1 [.string nm] rfl (str_news (heap_alloc_new w4 _)) (by unfold maxLen; omega) (by omega) ?_); intro A' c' w' hr hg hob; have HG := hide (And.intro hr (And.intro hg hob)); clear hr hg hob)
        exact ⟨⟨k + 1, ss ++ [nm], by omega, rfl, by simp; omega, H7.out.1.push HM.out HG.out.1 HG.out.2.1 HG.out.2.2⟩, by simp [intOf]; omega⟩
    · obtain rfl : k = n := by omega
      go_wp2_with fail
      clear k0
      have H0 := hide HO.out
      generalize hwo : Value.slice Ar ss.length cr = v0 at *
      clear hwo HO HS
      go_loopw [5, 3] (fun kv v wr => StL w0 kv v 16 l.length wr) (fun kv _ _ => l.length - (intOf kv).toNat)
      case atStart => exact ⟨0, ss, by omega, rfl, by omega, H0.out⟩
      case round =>
        clear hss H0
        obtain ⟨q, ss, hq, rfl, hss, ho⟩ := hrel
        obtain ⟨Ar, cr, rfl, _⟩ := RowZ.form ho.row
        have HO := hide ho
        have HS := hide (HT.out.step ho.below)
        clear ho
        have k1 := HS.out.c1
        by_cases hlt2 : q < l.length
        · have i0 : (q : Int) < l.length := by omega
          obtain ⟨bl, off, c', e, hbl, g0, g1, g2, hsm⟩ := HS.out.vars.at hlt2
          cases e
          generalize l[q] = vr at *
          obtain ⟨nm, kd, lt⟩ := vr
          have HM := hide hsm
          clear hsm
          have H5 := hide (And.intro (HO.out.step (below_laid wr (.cells #[.string nm, .int .i64 kd, .int .i64 lt] 75))) (HS.out.step (below_laid wr (.cells #[.string nm, .int .i64 kd, .int .i64 lt] 75))))
          have H6 := hide (heap_alloc_last wr (.cells #[.string nm, .int .i64 kd, .int .i64 lt] 75))
          go_upto_region 14 with fail
          clear g0 g1 g2 k1
          have g0 : (wr.alloc (.cells #[.string nm, .int .i64 kd, .int .i64 lt] 75)).cell? ⟨wr.heap.size, 0, none⟩ = some (.string nm) := by rw [cell_block H6.out]; rfl
          have g1 : (wr.alloc (.cells #[.string nm, .int .i64 kd, .int .i64 lt] 75)).cell? ⟨wr.heap.size, 1, none⟩ = some (.int .i64 kd) := by rw [cell_block H6.out]; rfl
          have g2 : (wr.alloc (.cells #[.string nm, .int .i64 kd, .int .i64 lt] 75)).cell? ⟨wr.heap.size, 2, none⟩ = some (.int .i64 lt) := by rw [cell_block H6.out]; rfl
          have k0 := H5.out.2.c0
          clear H6
          generalize wr.alloc (Obj.cells _ 75) = w4 at *
          have key : (kd = 1 ∨ kd = 2) ∧ 0 ≤ lt ∧ lt < k ∨ ¬ ((kd = 1 ∨ kd = 2) ∧ 0 ≤ lt ∧ lt < k) := Classical.em _
          rcases key with ⟨hkd, h0, h1⟩ | hno
          · have e0 : decide (lt < 0) = false := decide_eq_false (by omega)
            have e1 : decide ((k : Int) ≤ lt) = false := decide_eq_false (by omega)
            rcases hkd with rfl | rfl
            all_goals
              go_wp2_with (at_builtin; go_must (refine app_rowz rfl (.tmp 75) (.tmp 78) 101 101 rfl 9 i1 _ 1 16 Tryz.underlying101 hj hy0 hy1 hy2 rfl (.slice Ar ss.length cr) ss.length (strV ss) rfl (RowZ.below H5.out.1.row (below_laid w4 _)) _ 1 [.string nm] rfl (str_news (heap_alloc_new w4 _)) (by unfold maxLen; omega) (by omega) ?_); intro A' c' w' hr hg hob; have HG := hide (And.intro hr (And.intro hg hob)); clear hr hg hob)
              exact ⟨⟨q + 1, ss ++ [nm], by omega, rfl, by simp; omega, H5.out.1.push HM.out HG.out.1 HG.out.2.1 HG.out.2.2⟩, by simp [intOf]; omega⟩
          · by_cases hkd : kd = 1 ∨ kd = 2
            · by_cases h0 : lt < 0
              · have e0 : decide (lt < 0) = true := decide_eq_true h0
                rcases hkd with rfl | rfl
                all_goals
                  go_wp2_with fail
                  go_ret
                  exact ⟨⟨_, rfl, fun h => by cases h⟩, H5.out.2.below⟩
              · have e0 : decide (lt < 0) = false := decide_eq_false h0
                have e1 : decide ((k : Int) ≤ lt) = true := decide_eq_true (by
                  rcases Int.lt_or_le lt k with h | h
                  · exact absurd ⟨hkd, by omega, h⟩ hno
                  · exact h)
                rcases hkd with rfl | rfl
                all_goals
                  clear hno
                  go_wp2_with fail
                  go_ret
                  exact ⟨⟨_, rfl, fun h => by cases h⟩, H5.out.2.below⟩
            · have e0 : (kd != 1) = true := by simp; omega
              have e1 : (kd != 2) = true := by simp; omega
              clear hno hkd
              go_wp2_with fail
              go_ret
              exact ⟨⟨_, rfl, fun h => by cases h⟩, H5.out.2.below⟩
        · obtain rfl : q = l.length := by omega
          go_wp2_with fail
          have HL := hide (And.intro HO.out.ls HO.out.ls.at_)
          have hs9 : (ss.length : Int) ≤ 9223372036854775807 := by have := HN.out.2; omega
          go_loop [7] (fun kv => ∃ j : Nat, j ≤ ss.length ∧ kv = .int .i64 (j : Nat)) (fun kv => ss.length - (intOf kv).toNat)
          case atStart => exact ⟨0, by omega, rfl⟩
          case round =>
            obtain ⟨j, hj2, rfl⟩ := hrel
            by_cases hjl : j < ss.length
            · have j0 : (j : Int) < ss.length := by omega
              obtain ⟨b, o, c', e, hcell, hsm⟩ := HL.out.1.str hjl
              cases e
              generalize ss[j] = s at *
              have HR := hide (rightR_any s wr hsm)
              generalize Nm.right s = r at *
              cases r
              · go_wp2_with (go_at_call 38; refine HR.out.mono ?_; rintro e w1 ⟨rfl, rfl⟩)
                go_ret
                exact ⟨⟨_, rfl, fun h => by cases h⟩, HS.out.below⟩
              · go_wp2_with (go_at_call 38; refine HR.out.mono ?_; rintro e w1 ⟨rfl, rfl⟩)
                exact ⟨⟨j + 1, by omega, rfl⟩, by simp [intOf]; omega⟩
            · obtain rfl : j = ss.length := by omega
              have HW := hide (twiceR_any ss.length cr wr.heap.size Ar ss wr (by omega) HL.out.1.has)
              go_wp2_with (go_at_call 39; refine HW.out.mono ?_; rintro e w1 ⟨rfl, rfl⟩)
              go_ret
              exact ⟨⟨_, rfl, fun _ => HN.out.2⟩, HS.out.below⟩
end Go.Proofs.YthnbhcfpfbimgaaGreat
/- The walks of chapters 14, 15: Right of a code, Kind, isAtom. -/
namespace Go.Proofs.YthnbhcfpfbimgaaGreat
open Go.RowKit
open Rw (El At Fld)
set_option maxRecDepth 100000 in
set_option maxHeartbeats 2000000 in
theorem right14_tot (B : Nat) (v : Value) (l : List Ins) (w : World) (h : SlAt w B 114 10 v l.length (l.flatMap insV)) : Calls Tryz.prog 42 #[v] w fun e w' => RBo e ∧ w = w' := by
  obtain ⟨A, c, rfl, hlc, hcm⟩ := SlAt.form h
  have hl9 : (l.length : Int) ≤ 9223372036854775807 := by unfold maxLen at hcm; omega
  have HS := hide h
  clear h hlc hcm
  go_enter Tryz.func42, Tryz.ntmps42
  go_wp2_with fail
  go_loop [3, 4] (fun dv kv => (∃ z, dv = .int .i64 z) ∧ ∃ k : Nat, k ≤ l.length ∧ kv = .int .i64 (k : Nat)) (fun _ kv => l.length - (intOf kv).toNat)
  case atStart => exact ⟨⟨_, rfl⟩, 0, by omega, rfl⟩
  case round =>
    obtain ⟨⟨z, rfl⟩, k, hk, rfl⟩ := hrel
    by_cases hlt : k < l.length
    · have i0 : (k : Int) < l.length := by omega
      obtain ⟨b, o, c', e, hbl, hr⟩ := SlAt.elem HS.out (fun _ => rfl) hlt
      cases e
      generalize l[k] = x at *
      obtain ⟨op, nn, el⟩ := x
      have g0 : w.cell? ⟨b, o + k * 10, none⟩ = some (.int .i64 op) := hr 0 _ rfl
      have g1 : w.cell? ⟨b, o + k * 10 + 1, none⟩ = some (.int .i64 nn) := hr 1 _ rfl
      clear hr
      by_cases e1 : op = 1
      · subst e1
        go_wp2_with fail
        exact ⟨⟨⟨_, rfl⟩, k + 1, by omega, rfl⟩, by simp [intOf]; omega⟩
      have b1 : (op == 1) = false := by simpa using e1
      by_cases e2 : op = 2
      · subst e2
        go_wp2_with fail
        exact ⟨⟨⟨_, rfl⟩, k + 1, by omega, rfl⟩, by simp [intOf]; omega⟩
      have b2 : (op == 2) = false := by simpa using e2
      by_cases e34 : op = 3 ∨ op = 4
      · by_cases hn1 : nn < 1
        · have d1 : decide (nn < 1) = true := decide_eq_true hn1
          rcases e34 with rfl | rfl
          all_goals
            go_wp2_with fail
            go_ret
            exact ⟨⟨_, rfl⟩, rfl⟩
        · have d1 : decide (nn < 1) = false := decide_eq_false hn1
          cases d2 : decide (z < nn)
          · rcases e34 with rfl | rfl
            all_goals
              go_wp2_with fail
              exact ⟨⟨⟨_, rfl⟩, k + 1, by omega, rfl⟩, by simp [intOf]; omega⟩
          · rcases e34 with rfl | rfl
            all_goals
              go_wp2_with fail
              go_ret
              exact ⟨⟨_, rfl⟩, rfl⟩
      · have b3 : (op == 3) = false := by simp; omega
        have b4 : (op == 4) = false := by simp; omega
        go_wp2_with fail
        go_ret
        exact ⟨⟨_, rfl⟩, rfl⟩
    · obtain rfl : k = l.length := by omega
      go_wp2_with fail
      go_ret
      exact ⟨⟨_, rfl⟩, rfl⟩
/-- Is there a variable of that kind? -/
def kindB (l : List Vr) (v k t : Int) : Bool := decide (0 ≤ v) && decide (v < l.length) && ((l.getD v.toNat ⟨ByteArray.empty, 0, 0⟩).kind == k) && ((l.getD v.toNat ⟨ByteArray.empty, 0, 0⟩).lat == t)
theorem kindB_lt {l : List Vr} {v k t : Int} (h : kindB l v k t = true) : 0 ≤ v ∧ v < l.length := by
  simp only [kindB, Bool.and_eq_true, decide_eq_true_eq] at h
  exact h.1.1
set_option maxRecDepth 100000 in
set_option maxHeartbeats 2000000 in
theorem kind_any (B : Nat) (vl vv : Value) (n : Nat) (l : List Vr) (v k t : Int) (w : World) (h : Lats w B vl n) (h2 : Vars w B vv l) (hB : B ≤ w.heap.size) : Calls Tryz.prog 40 #[.agg #[vl, vv], .int .i64 v, .int .i64 k, .int .i64 t] w fun e w' => e = .returned (.bool (kindB l v k t)) ∧ Below w.heap.size w w' := by
  obtain ⟨A, c, rfl, hnc, hcm⟩ := h.form
  obtain ⟨A2, c2, rfl, hnc2, hcm2⟩ := h2.form
  have HT := hide (ScW.new h h2 hB)
  have k1 := HT.out.c1
  have hl8 : (l.length : Int) ≤ 9223372036854775807 := by unfold maxLen at hcm2; omega
  clear h hnc hcm h2 hnc2 hcm2
  by_cases h1 : 0 ≤ v
  rotate_left
  · have e : kindB l v k t = false := by unfold kindB; rw [decide_eq_false h1]; rfl
    have d1 : decide (0 ≤ v) = false := decide_eq_false h1
    rw [e]
    clear e
    go_enter Tryz.func40, Tryz.ntmps40
    go_wp2_with fail
    go_ret
    exact ⟨rfl, HT.out.below⟩
  obtain ⟨q, rfl⟩ := Int.eq_ofNat_of_zero_le h1
  by_cases h2 : q < l.length
  rotate_left
  · have e : kindB l (q : Int) k t = false := by unfold kindB; rw [decide_eq_false (p := (q : Int) < l.length) (by omega)]; simp
    have i0 : (l.length : Int) ≤ q := by omega
    rw [e]
    clear e h1
    go_enter Tryz.func40, Tryz.ntmps40
    go_wp2_with fail
    go_ret
    exact ⟨rfl, HT.out.below⟩
  obtain ⟨bl, off, c', e, hbl, g0, g1, g2, hsm⟩ := HT.out.vars.at h2
  cases e
  have e : kindB l (q : Int) k t = ((l[q].kind == k) && (l[q].lat == t)) := by
    unfold kindB
    rw [decide_eq_true h1, decide_eq_true (p := (q : Int) < l.length) (by omega), Int.toNat_natCast, List.getD_eq_getElem?_getD, List.getElem?_eq_getElem h2]
    rfl
  rw [e]
  have i0 : (q : Int) < l.length := by omega
  clear e h1 hsm
  generalize l[q] = x at *
  obtain ⟨nm, kd, lt⟩ := x
  cases hk : (kd == k)
  · go_enter Tryz.func40, Tryz.ntmps40
    go_wp2_with fail
    go_ret
    exact ⟨by simp, HT.out.below⟩
  · go_enter Tryz.func40, Tryz.ntmps40
    go_wp2_with fail
    go_ret
    exact ⟨by simp, HT.out.below⟩
end Go.Proofs.YthnbhcfpfbimgaaGreat
