/- The walk of Fields: what is known of a variable. -/
import Derived.Test.YthnbhcfpfbimgaaRwSmall
import Derived.Test.YthnbhcfpfbimgaaNmSortW
namespace Go.Proofs.Ythnbhcfpfbimgaa
namespace Rw
/-- The fields of some names. -/
def pick (fs : List Fld) (ns : List ByteArray) : List Fld := ns.filterMap fun n => fs.find? fun x => x.name.toList == n.toList
theorem pick_snoc {fs : List Fld} {ns : List ByteArray} {n : ByteArray} {g : Fld} (h : fs.find? (fun x => x.name.toList == n.toList) = some g) : pick fs (ns ++ [n]) = pick fs ns ++ [g] := by simp [pick, h]
theorem pick_len (fs : List Fld) (ns : List ByteArray) : (pick fs ns).length ≤ ns.length := List.length_filterMap_le _ _
theorem findI_mem {fs : List Fld} {n : ByteArray} (h : n ∈ fs.map (·.name)) : ¬ findI fs n < 0 := by
  obtain ⟨f, hf, rfl⟩ := List.mem_map.1 h
  rw [hasF_iff]
  simp only [hasF]
  intro hn
  rw [List.any_eq_false] at hn
  exact absurd (hn f hf) (by simp)
end Rw
open Go.RowKit
open Rw (El At Fld Lk Eqn U T W64 Sp Wf tot Sz Nx Ow)
theorem own_slice' {w : World} {base : Nat} {v : Value} {out : List ByteArray} (h : w.ownsRow base 9 1 v out.length (out.map Value.string)) :
    ∃ A c, v = .slice A out.length c ∧ out.length ≤ c ∧ c ≤ maxLen ∧ HasStr w w.heap.size A out.length out := by
  rcases h.2 with ⟨rfl, h0⟩ | ⟨g, cap, cur, rfl, _, _, hn, hm, _⟩
  · exact ⟨none, 0, by rw [h0], by omega, by unfold maxLen; omega, by rw [h0] at h ⊢; exact Has.of_own h⟩
  · exact ⟨_, _, rfl, hn, hm, Has.of_own h⟩
theorem has_row {w : World} {n c : Nat} {A : Option Addr} {xs : List Value} (h : RowZ w 9 1 (.slice A n c) n xs) : Has w w.heap.size A n xs := by
  refine ⟨by have := h.len; omega, fun hn => ?_⟩
  obtain ⟨b, rfl⟩ := RowZ.addr h hn
  refine ⟨b, 0, rfl, RowZ.lt h b rfl, fun j u hu => ?_⟩
  rw [Nat.zero_add, RowZ.cell h (List.getElem?_eq_some_iff.1 hu).1]
  exact hu
theorem str_news {w : World} {b : Nat} {x : ByteArray} (h : w.heap[b]? = some (.cells #[.string x] 9 (0, 0))) : Src Try.prog 1 103 (.slice (some ⟨b, 0, none⟩) 1 1) 1 [.string x] w :=
  Src.ofSlice _ Try.underlying103 ⟨b, 0, none⟩ 1 1 _ rfl (World.news_of_block (cs := #[.string x]) (t := 9) (fr := (0, 0)) h) (by simp [Value.oneCell'])
theorem fields_nil (v : Int) (w : World) : Calls Try.prog 18 #[.pointer none, .int .i64 v] w fun e w' => e = .returned (.tuple #[.slice none 0 0, .bool false]) ∧ w = w' := by
  go_enter Try.func18, Try.ntmps18
  go_wp2_with fail
  go_ret2
  exact ⟨rfl, rfl⟩
/-- The first loop: the names. -/
structure FnL (W : World) (ns : List ByteArray) (kv v : Value) (wr : World) : Prop where
  ex : ∃ k : Nat, k ≤ ns.length ∧ kv = .int .i64 (k : Nat) ∧ RowZ wr 9 1 v (ns.take k).length ((ns.take k).map Value.string) ∧ (∀ g, v.ownBlock = some g → W.heap.size ≤ g) ∧ Below W.heap.size W wr
structure FoL (W : World) (fs : List Fld) (ns : List ByteArray) (kv v : Value) (wr : World) : Prop where
  ex : ∃ k : Nat, k ≤ ns.length ∧ kv = .int .i64 (k : Nat) ∧ RowZ wr 60 10 v (Rw.pick fs (ns.take k)).length (fdsV (Rw.pick fs (ns.take k))) ∧ (∀ g, v.ownBlock = some g → W.heap.size ≤ g) ∧ Below W.heap.size W wr
structure RetFd (w : World) (sp : Sp) (e : Ending) (w' : World) : Prop where
  ex : ∃ v names, e = .returned (.tuple #[v, .bool (decide (0 ≤ sp.fin))]) ∧ Nm.Sorts (sp.fields.map (·.name)) names ∧ RowZ w' 60 10 v (Rw.pick sp.fields names).length (fdsV (Rw.pick sp.fields names)) ∧ Below w.heap.size w w'
theorem names_take {fs : List Fld} {k : Nat} {z : Fld} (h : fs[k]? = some z) : (fs.map (·.name)).take (k + 1) = (fs.map (·.name)).take k ++ [z.name] := by
  have hk := (List.getElem?_eq_some_iff.1 h).1
  rw [List.take_succ_eq_append_getElem (by simpa using hk)]
  congr 1
  have := (List.getElem?_eq_some_iff.1 h).2
  simp [this]
set_option maxRecDepth 100000 in
set_option maxHeartbeats 4000000 in
theorem fields_any (P B v o : Nat) (g : Bl) (s : T) (w : World) (h : Tb w B P g s) (hO : Ow s) (hv : s.own[v]? = some o) (hN : tot s.rows ≤ 1000000000) (hl : (s.spreads [] (o : Nat)).fields.length ≤ 1000000) :
    Calls Try.prog 18 #[.pointer (some ⟨P, 0, none⟩), .int .i64 (v : Nat)] w fun e w' => RetFd w (s.spreads [] (o : Nat)) e w' := by
  obtain ⟨i1, hj, hy0, hy1, hy2⟩ := info_parts info_string
  obtain ⟨i2, hj', hy0', hy1', hy2'⟩ := info_parts info_fd
  have hvl := (List.getElem?_eq_some_iff.1 hv).1
  have hor := hO.own o (List.mem_iff_getElem?.2 ⟨_, hv⟩)
  have HSp := hide (spreads_any P B g s [] (.slice none 0 0) (o : Nat) w h hO.wf (SlAt.nil _ _ _ _) (by omega) (by simpa using hN))
  obtain ⟨vu, vt, vr, vo, ve, vs, fu, hx⟩ := h
  obtain ⟨bo, co, rfl, c4⟩ := hx.ownCell hv
  have c3 := hx.cells.2.2.2.1
  clear hx
  have hv0 : ((v : Nat) : Int) < s.own.length := by omega
  have hv1 : (0 : Int) ≤ (v : Nat) := by omega
  generalize s.spreads [] (o : Nat) = sp at *
  obtain ⟨fs, fin, why⟩ := sp
  dsimp only at *
  go_enter Try.func18, Try.ntmps18
  go_upto_region 5 with (go_at_call 36; refine (HSp.out).mono ?_; rintro e w1 ⟨⟨v1, rfl, hsl, hb1⟩⟩; obtain ⟨A1, c1, rfl, _⟩ := hsl.ex; have H1 := hide (And.intro hsl hb1); unfold spC; clear hsl hb1)
  have hbb := below_laid w1 (.cells #[.slice A1 fs.length c1, .int .i64 fin, .int .u64 (why.toNat : Nat)] 101)
  have e1 := heap_alloc_new w1 (.cells #[.slice A1 fs.length c1, .int .i64 fin, .int .u64 (why.toNat : Nat)] 101)
  have HW := hide (And.intro (H1.out.1.below hbb) (And.intro e1 (H1.out.2.trans (hbb.mono H1.out.2.size))))
  clear hbb e1 c3 c4
  generalize hW : w1.alloc (.cells #[.slice A1 fs.length c1, .int .i64 fin, .int .u64 (why.toNat : Nat)] 101) = W at *
  obtain ⟨k0, k1, k2⟩ := spC_cells HW.out.2.1
  have hnb : w1.heap.size < W.heap.size := blk_lt HW.out.2.1
  clear H1 HSp hW
  go_wp2_with fail
  go_loopw [40, 7] (fun kv v wr => FnL W (fs.map (·.name)) kv v wr) (fun kv _ _ => fs.length - (intOf kv).toNat)
  case atStart => exact ⟨0, Nat.zero_le _, rfl, RowZ.nil, fun g hg => (by cases hg), Below.refl _ _⟩
  case round =>
    obtain ⟨k, hk, rfl, hr, ho, hd⟩ := hrel
    rw [List.length_map] at hk
    have hlk : ((fs.map (·.name)).take k).length = k := by simp; omega
    rw [hlk] at hr
    obtain ⟨Ar, cr, rfl, hrc, hrm⟩ := RowZ.form hr
    by_cases hlt : k < fs.length
    · obtain ⟨z, hf⟩ : ∃ z, fs[k]? = some z := ⟨fs[k], List.getElem?_eq_getElem hlt⟩
      have hfl := HW.out.1.below hd
      obtain ⟨A', c', e1, _, _, _, hc⟩ := hfl.ex
      cases e1
      obtain ⟨b1, off, rfl, _⟩ := hc (by omega)
      have z0 : wr.cell? ⟨b1, off + k * 10, none⟩ = some (.string z.name) := hfl.fcell (j := 0) rfl hf (by omega) rfl
      have z1 : wr.cell? ⟨b1, off + k * 10 + 1, none⟩ = some (.int .i64 z.at_.var) := hfl.fcell rfl hf (by omega) rfl
      have z2 : wr.cell? ⟨b1, off + k * 10 + 2, none⟩ = some (.int .u64 z.at_.el.e0) := hfl.fcell rfl hf (by omega) rfl
      have z3 : wr.cell? ⟨b1, off + k * 10 + 3, none⟩ = some (.int .u64 z.at_.el.e1) := hfl.fcell rfl hf (by omega) rfl
      have z4 : wr.cell? ⟨b1, off + k * 10 + 4, none⟩ = some (.int .u64 z.at_.el.e2) := hfl.fcell rfl hf (by omega) rfl
      have z5 : wr.cell? ⟨b1, off + k * 10 + 5, none⟩ = some (.int .u64 z.at_.el.e3) := hfl.fcell rfl hf (by omega) rfl
      have z6 : wr.cell? ⟨b1, off + k * 10 + 6, none⟩ = some (.int .u64 z.at_.el.e4) := hfl.fcell rfl hf (by omega) rfl
      have z7 : wr.cell? ⟨b1, off + k * 10 + 7, none⟩ = some (.int .u64 z.at_.el.e5) := hfl.fcell rfl hf (by omega) rfl
      have z8 : wr.cell? ⟨b1, off + k * 10 + 8, none⟩ = some (.int .u64 z.at_.el.e6) := hfl.fcell rfl hf (by omega) rfl
      have z9 : wr.cell? ⟨b1, off + k * 10 + 9, none⟩ = some (.int .u64 z.at_.el.e7) := hfl.fcell rfl hf (by omega) rfl
      have hq0 : (k : Int) < fs.length := by omega
      have hq1 : (0 : Int) ≤ k := by omega
      have hba := below_laid wr (.cells #[.string z.name, .int .i64 z.at_.var, .int .u64 z.at_.el.e0, .int .u64 z.at_.el.e1, .int .u64 z.at_.el.e2, .int .u64 z.at_.el.e3, .int .u64 z.at_.el.e4, .int .u64 z.at_.el.e5, .int .u64 z.at_.el.e6, .int .u64 z.at_.el.e7] 60)
      have p0 : (wr.alloc (.cells #[.string z.name, .int .i64 z.at_.var, .int .u64 z.at_.el.e0, .int .u64 z.at_.el.e1, .int .u64 z.at_.el.e2, .int .u64 z.at_.el.e3, .int .u64 z.at_.el.e4, .int .u64 z.at_.el.e5, .int .u64 z.at_.el.e6, .int .u64 z.at_.el.e7] 60)).cell? ⟨wr.heap.size, 0, none⟩ = some (.string z.name) := by rw [cell_block (heap_alloc_new wr _)]; rfl
      have HN := hide (And.intro (hr.below hba) (And.intro ho (And.intro hd (And.intro hf hba))))
      clear hr ho hd hf hba hfl hc
      generalize hU : wr.alloc (.cells #[.string z.name, .int .i64 z.at_.var, .int .u64 z.at_.el.e0, .int .u64 z.at_.el.e1, .int .u64 z.at_.el.e2, .int .u64 z.at_.el.e3, .int .u64 z.at_.el.e4, .int .u64 z.at_.el.e5, .int .u64 z.at_.el.e6, .int .u64 z.at_.el.e7] 60) = U at *
      go_wp2_with (at_builtin; go_must (refine app_rowz rfl (.tmp 44) (.tmp 47) 103 103 rfl 9 i1 _ 1 16 Try.underlying103 hj hy0 hy1 hy2 rfl (.slice Ar k cr) k (((fs.map (·.name)).take k).map Value.string) rfl (HN.out.1.below (below_laid U _)) _ 1 [.string z.name] rfl (str_news (heap_alloc_new U _)) (by unfold maxLen; omega) (by omega) ?_); intro A' c' w' hr hg hob; have HG := hide (And.intro hr (And.intro hg hob)); clear hr hg hob)
      have hbU := HN.out.2.2.2.2.mono (show W.heap.size ≤ wr.heap.size from HN.out.2.2.1.size)
      have hbl : Below W.heap.size W (U.alloc (.cells #[.string z.name] 9)) := (HN.out.2.2.1.trans hbU).alloc (HN.out.2.2.1.trans hbU).size _
      refine ⟨⟨k + 1, by simp; omega, rfl, ?_, fun q hq => ?_, hbl.grown HG.out.2.1 hbl.size HN.out.2.1⟩, by simp [intOf]; omega⟩
      · rw [names_take HN.out.2.2.2.1, List.length_append, hlk, List.map_append]; exact HG.out.1
      · rcases HG.out.2.2 with e | e
        · rw [e] at hq; exact HN.out.2.1 q hq
        · rw [e] at hq; injection hq with hq; rw [← hq]; exact hbl.size
    · obtain rfl : k = fs.length := by omega
      rw [List.take_of_length_le (by simp)] at hr
      have hst : HasStr wr wr.heap.size Ar fs.length (fs.map (fun x => x.name)) := has_row hr
      have HSo := hide (sort_any fs.length cr wr.heap.size Ar (fs.map (·.name)) wr hl (Nat.le_refl _) hst)
      have HN := hide hd
      clear hr ho hd hst hlt hlk
      generalize wr = wo at *
      go_wp2_with (go_at_call 37; refine (HSo.out).mono ?_; rintro e w2 ⟨ns, v2, rfl, hso, hown, hb2⟩; obtain ⟨A2, c2, rfl, hnc, hnm, hss⟩ := own_slice' hown; have H2 := hide (And.intro hso (And.intro hss (HN.out.trans (hb2.mono HN.out.size)))); clear hso hown hb2 hss)
      have hnl : ns.length ≤ 1000000 := by
        have := Nm.Sorts.length_le H2.out.1.1 (fun x hx => (H2.out.1.2 x).1 hx)
        simp at this; omega
      have hfl2 := HW.out.1.below H2.out.2.2
      have e2 := (H2.out.2.2.block _ hnb).trans HW.out.2.1
      have HW2 := hide (And.intro hfl2 e2)
      clear hfl2 e2 k0 k1 k2
      go_loopw [53, 10] (fun kv v wr => FoL w2 fs ns kv v wr) (fun kv _ _ => ns.length - (intOf kv).toNat)
      case atStart => exact ⟨0, Nat.zero_le _, rfl, RowZ.nil, fun g hg => (by cases hg), Below.refl _ _⟩
      case round =>
        obtain ⟨k, hk, rfl, hr, ho, hd⟩ := hrel
        obtain ⟨Ar, cr', rfl, hrc', hrm'⟩ := RowZ.form hr
        by_cases hlt : k < ns.length
        · have hpl : (Rw.pick fs (ns.take k)).length ≤ 1000000 := Nat.le_trans (Rw.pick_len _ _) (by simp; omega)
          obtain ⟨bs, os, rfl, hbs, hcs⟩ := HasStr.str H2.out.2.1 hlt
          have hmem : Nm.at_ ns k ∈ ns := by rw [Nm.at_mem hlt]; exact List.getElem_mem hlt
          have htk : ns.take (k + 1) = ns.take k ++ [Nm.at_ ns k] := take_one hlt
          obtain ⟨q, gg, hqi, hgq, hgf⟩ := Rw.findI_pos (Rw.findI_mem ((H2.out.1.2 _).1 hmem))
          generalize Nm.at_ ns k = nm at *
          have HFd : Hid (∀ u, Below w2.heap.size w2 u → Calls Try.prog 38 #[.agg #[.slice A1 fs.length c1, .int .i64 fin, .int .u64 (why.toNat : Nat)], .string nm] u fun e w' => e = .returned (.int .i64 (q : Nat)) ∧ Below u.heap.size u w') := hide fun u hu => by
            have := find_any B fs (.slice A1 fs.length c1) fin why nm u (HW2.out.1.below hu)
            rw [hqi] at this
            exact this
          have hql := (List.getElem?_eq_some_iff.1 hgq).1
          have hfl2 := HW2.out.1
          obtain ⟨A', c', e1, _, _, _, hc⟩ := hfl2.ex
          cases e1
          obtain ⟨b1, off, rfl, _⟩ := hc (by omega)
          have hb0 : ∀ u : HoldW (fun w'' => Below w2.heap.size w2 w''), u.w.cell? ⟨w1.heap.size, 0, none⟩ = some (.slice (some ⟨b1, off, none⟩) fs.length c1) := fun u => (spC_cells ((u.ok.block _ (blk_lt HW2.out.2)).trans HW2.out.2)).1
          have hb1' : ∀ u : HoldW (fun w'' => Below w2.heap.size w2 w''), u.w.cell? ⟨w1.heap.size, 1, none⟩ = some (.int .i64 fin) := fun u => (spC_cells ((u.ok.block _ (blk_lt HW2.out.2)).trans HW2.out.2)).2.1
          have hb2' : ∀ u : HoldW (fun w'' => Below w2.heap.size w2 w''), u.w.cell? ⟨w1.heap.size, 2, none⟩ = some (.int .u64 (why.toNat : Nat)) := fun u => (spC_cells ((u.ok.block _ (blk_lt HW2.out.2)).trans HW2.out.2)).2.2
          have z9 := (hd.cell (p := ⟨bs, os + k, none⟩) hbs).trans hcs
          have hk0 : (k : Int) < ns.length := by omega
          have hk1 : (0 : Int) ≤ k := by omega
          have hq2 : (q : Int) < fs.length := by omega
          have hq3 : (0 : Int) ≤ q := by omega
          have HN := hide (And.intro hr (And.intro ho (And.intro hd (And.intro htk (And.intro hgf hgq)))))
          clear hr ho hd htk hgf hqi hcs hmem hc hfl2
          have hd1 : Below w2.heap.size w2 wr.drew := below_drewN HN.out.2.2.1 1
          go_upto_region 14 with (fail)
          refine wp_region_chain [0, 1, 2, 3, 4] [(5, true), (6, true), (7, true), (8, true), (9, true), (10, true)] (fun w'' => Below w2.heap.size w2 w'') (by kernel_rfl) (by kernel_rfl) (fun _ _ _ _ _ h => h) hd1 ?_
          intro hne
          simp only [picks, picksW, List.filterMap_cons, List.filterMap_nil, List.getElem?_cons_zero, List.getElem?_cons_succ, Option.map_some]
          repeat (refine wpHeld_step (fun K hK => ?_); go_simp; refine hK _ ?_; clear hK K)
          refine wpHeld_nil ?_
          clear hb0 hb1' hb2' hne
          refine wpChain_cons fun K hK => ?_
          go_wp2_with (go_at_call 38; refine (HFd.out _ hd1).mono ?_; rintro e w3 ⟨rfl, hb3⟩; have H3 := hide (And.intro hb3 (hd1.trans (hb3.mono hd1.size))); clear hb3)
          refine chainF (fun _ => H3.out.2) (hK _ _ ?_)
          clear hK K
          have hfl3 := HW2.out.1.below H3.out.2
          have hgq := HN.out.2.2.2.2.2
          have hg0 : w3.cell? ⟨b1, off + q * 10, none⟩ = some (.string gg.name) := hfl3.fcell (j := 0) rfl hgq (by omega) rfl
          have hg1 : w3.cell? ⟨b1, off + q * 10 + 1, none⟩ = some (.int .i64 gg.at_.var) := hfl3.fcell (j := 1) rfl hgq (by omega) rfl
          have hg2 : w3.cell? ⟨b1, off + q * 10 + 2, none⟩ = some (.int .u64 gg.at_.el.e0) := hfl3.fcell (j := 2) rfl hgq (by omega) rfl
          have hg3 : w3.cell? ⟨b1, off + q * 10 + 3, none⟩ = some (.int .u64 gg.at_.el.e1) := hfl3.fcell (j := 3) rfl hgq (by omega) rfl
          have hg4 : w3.cell? ⟨b1, off + q * 10 + 4, none⟩ = some (.int .u64 gg.at_.el.e2) := hfl3.fcell (j := 4) rfl hgq (by omega) rfl
          have hg5 : w3.cell? ⟨b1, off + q * 10 + 5, none⟩ = some (.int .u64 gg.at_.el.e3) := hfl3.fcell (j := 5) rfl hgq (by omega) rfl
          have hg6 : w3.cell? ⟨b1, off + q * 10 + 6, none⟩ = some (.int .u64 gg.at_.el.e4) := hfl3.fcell (j := 6) rfl hgq (by omega) rfl
          have hg7 : w3.cell? ⟨b1, off + q * 10 + 7, none⟩ = some (.int .u64 gg.at_.el.e5) := hfl3.fcell (j := 7) rfl hgq (by omega) rfl
          have hg8 : w3.cell? ⟨b1, off + q * 10 + 8, none⟩ = some (.int .u64 gg.at_.el.e6) := hfl3.fcell (j := 8) rfl hgq (by omega) rfl
          have hg9 : w3.cell? ⟨b1, off + q * 10 + 9, none⟩ = some (.int .u64 gg.at_.el.e7) := hfl3.fcell (j := 9) rfl hgq (by omega) rfl
          clear hfl3 hgq
          refine wpChain_cons fun K hK => ?_
          go_wp2_with fail
          refine chainF (fun _ => H3.out.2) (hK _ _ ?_)
          clear hK K
          refine wpChain_cons fun K hK => ?_
          go_wp2_with fail
          refine chainF (fun _ => H3.out.2) (hK _ _ ?_)
          clear hK K
          clear hg0 hg1 hg2 hg3 hg4 hg5 hg6 hg7 hg8 hg9
          refine wpChain_cons fun K hK => ?_
          go_wp2_with fail
          have hb4 := below_laid w3 (.cells #[.string gg.name, .int .i64 gg.at_.var, .int .u64 gg.at_.el.e0, .int .u64 gg.at_.el.e1, .int .u64 gg.at_.el.e2, .int .u64 gg.at_.el.e3, .int .u64 gg.at_.el.e4, .int .u64 gg.at_.el.e5, .int .u64 gg.at_.el.e6, .int .u64 gg.at_.el.e7] 60)
          have hd4 := H3.out.2.trans (hb4.mono H3.out.2.size)
          have hr4 := (RowZ.below (RowZ.below (RowZ.below HN.out.1 (below_drewN (Below.refl _ _) 1)) H3.out.1) hb4)
          refine chainF (fun _ => hd4) (hK _ _ ?_)
          clear hK K
          refine wpChain_cons fun K hK => ?_
          refine app_rowz rfl (.tmp 57) (.tmp 65) 56 56 rfl 60 i2 _ 10 88 Try.underlying56 hj' hy0' hy1' hy2' rfl (.slice Ar (Rw.pick fs (ns.take k)).length cr') (Rw.pick fs (ns.take k)).length (fdsV (Rw.pick fs (ns.take k))) rfl hr4 _ 1 [.string gg.name, .int .i64 gg.at_.var, .int .u64 gg.at_.el.e0, .int .u64 gg.at_.el.e1, .int .u64 gg.at_.el.e2, .int .u64 gg.at_.el.e3, .int .u64 gg.at_.el.e4, .int .u64 gg.at_.el.e5, .int .u64 gg.at_.el.e6, .int .u64 gg.at_.el.e7] rfl (fd_news (heap_alloc_new w3 _)) (by unfold maxLen; omega) (by omega) ?_
          intro A' c' w' hr hg hob
          have hd5 : Below w2.heap.size w2 w' := hd4.grown hg hd4.size HN.out.2.1
          have HG := hide (And.intro hr (And.intro hob (And.intro hd5 hd4)))
          refine chainF (fun _ => HG.out.2.2.1) (hK _ _ ?_)
          clear hK K hr hg hob hd5 hd4 hr4 hb4
          refine wpChain_cons fun K hK => ?_
          go_wp2_with fail
          refine chainF (fun _ => HG.out.2.2.1) (hK _ _ ?_)
          clear hK K
          refine wpChain_nil ?_
          go_wp2_with fail
          refine ⟨⟨k + 1, by omega, rfl, ?_, fun p hp => ?_, HG.out.2.2.1⟩, by simp [intOf]; omega⟩
          · rw [HN.out.2.2.2.1, Rw.pick_snoc HN.out.2.2.2.2.1, List.length_append, fdsV_snoc]; exact HG.out.1
          · rcases HG.out.2.1 with e | e
            · rw [e] at hp; exact HN.out.2.1 p hp
            · rw [e] at hp; injection hp with hp; rw [← hp]; exact HG.out.2.2.2.size
        · obtain rfl : k = ns.length := by omega
          have ht : ns.take ns.length = ns := List.take_of_length_le (Nat.le_refl _)
          rw [ht] at hr ⊢
          clear ht
          have k1 := (spC_cells ((hd.block _ (blk_lt HW2.out.2)).trans HW2.out.2)).2.1
          have HN' := hide (And.intro hr hd)
          clear hr ho hd
          go_wp2_with fail
          go_quiet (fail)
          go_wp2_with fail
          go_ret2
          refine ⟨⟨_, ns, rfl, H2.out.1, RowZ.below HN'.out.1 (below_drewN (Below.refl _ _) nq), ?_⟩⟩
          exact HW.out.2.2.trans ((H2.out.2.2.trans ((below_drewN HN'.out.2 nq).mono H2.out.2.2.size)).mono HW.out.2.2.size)
end Go.Proofs.Ythnbhcfpfbimgaa
