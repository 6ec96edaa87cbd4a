/- The walk of Leads: does a way lead from one node to another one? -/
import Derived.Test.YtgmppddlgbkjmaaKnOf
import Derived.Deep.OwnRows
import Derived.Laws.OwnMore
import Derived.Deep.LoopGhost
namespace Go.Proofs.Ytgmppddlgbkjmaa
open Go.RowKit

namespace Kn
/-- Nodes met, nodes still to be looked at, and one that is being looked at. -/
structure Dfs (g : G) (i : Nat) (met : List Bool) (l : List Nat) (pend : Option (Nat × Nat)) : Prop where
  len : met.length = g.length
  start : met.getD i false = true
  reach : ∀ x, met.getD x false = true → Reach g i x
  opn : ∀ x ∈ l, met.getD x false = true
  pendm : ∀ a j, pend = some (a, j) → met.getD a false = true
  closed : ∀ x, met.getD x false = true → x ∉ l → ∀ (q y : Nat), (arcs g x)[q]? = some (y : Int) → y < g.length → (∀ a j, pend = some (a, j) → x = a → q < j) → met.getD y false = true
theorem getD_setB (l : List Bool) (i j : Nat) (h : i < l.length) : (l.set i true).getD j false = if i = j then true else l.getD j false := by
  rw [getD_set]
  by_cases h1 : i = j
  · subst h1; simp [h]
  · simp [h1]
variable {g : G} {i : Nat} {met : List Bool} {l : List Nat}
theorem Dfs.begin (g : G) {i : Nat} (hi : i < g.length) : Dfs g i ((List.replicate g.length false).set i true) [i] none := by
  have hm : ∀ x, ((List.replicate g.length false).set i true).getD x false = true → x = i := fun x hx => by
    rw [getD_setB _ _ _ (by simpa using hi)] at hx
    split at hx
    · rename_i e; exact e.symm
    · rw [repF] at hx; cases hx
  have h0 : ((List.replicate g.length false).set i true).getD i false = true := by rw [getD_setB _ _ _ (by simpa using hi), if_pos rfl]
  refine ⟨by simp, h0, fun x hx => by rw [hm x hx]; exact Reach.refl _, fun x hx => by simp at hx; subst hx; exact h0, fun a j e => by (cases e), fun x hx hn => absurd (by simp [hm x hx]) hn⟩
theorem Dfs.pop {a : Nat} (h : Dfs g i met (l ++ [a]) none) : Dfs g i met l (some (a, 0)) := by
  have ha : met.getD a false = true := h.opn a (by simp)
  refine ⟨h.len, h.start, h.reach, fun x hx => h.opn x (by simp [hx]), fun b j e => ?_, fun x hx hn q y hq hy hp => ?_⟩
  · obtain ⟨rfl, rfl⟩ := Prod.mk.injEq .. ▸ Option.some.inj e
    exact ha
  · by_cases hxa : x = a
    · exact absurd (hp a 0 rfl hxa) (Nat.not_lt_zero _)
    · exact h.closed x hx (by simp [hn, hxa]) q y hq hy fun b j e => by cases e
theorem Dfs.skip {a j : Nat} (h : Dfs g i met l (some (a, j))) (hs : ∀ y : Nat, (arcs g a)[j]? = some (y : Int) → y < g.length → met.getD y false = true) : Dfs g i met l (some (a, j + 1)) := by
  refine ⟨h.len, h.start, h.reach, h.opn, fun b j' e => ?_, fun x hx hn q y hq hy hp => ?_⟩
  · obtain ⟨rfl, rfl⟩ := Prod.mk.injEq .. ▸ Option.some.inj e
    exact h.pendm a j rfl
  · by_cases hxa : x = a ∧ q = j
    · obtain ⟨rfl, rfl⟩ := hxa
      exact hs y hq hy
    · refine h.closed x hx hn q y hq hy fun b j' e hxb => ?_
      obtain ⟨rfl, rfl⟩ := Prod.mk.injEq .. ▸ Option.some.inj e
      have := hp a (j + 1) rfl hxb
      have : q ≠ j := fun e => hxa ⟨hxb, e⟩
      omega
theorem Dfs.push {a j k : Nat} (h : Dfs g i met l (some (a, j))) (hk : (arcs g a)[j]? = some (k : Int)) (hl : k < g.length) : Dfs g i (met.set k true) (l ++ [k]) (some (a, j + 1)) := by
  have hm : ∀ x, (met.set k true).getD x false = if k = x then true else met.getD x false := fun x => getD_setB met k x (by rw [h.len]; exact hl)
  have hmo : ∀ x, met.getD x false = true → (met.set k true).getD x false = true := fun x hx => by rw [hm]; split; (· rfl); (· exact hx)
  have ha := h.pendm a j rfl
  refine ⟨by simp [h.len], hmo _ h.start, fun x hx => ?_, fun x hx => ?_, fun b j' e => ?_, fun x hx hn q y hq hy hp => ?_⟩
  · rw [hm] at hx
    split at hx
    · rename_i e; subst e
      exact (h.reach a ha).tail ⟨List.mem_of_getElem? hk, hl⟩
    · exact h.reach x hx
  · rcases List.mem_append.1 hx with hx | hx
    · exact hmo x (h.opn x hx)
    · simp at hx; subst hx; rw [hm, if_pos rfl]
  · obtain ⟨rfl, rfl⟩ := Prod.mk.injEq .. ▸ Option.some.inj e
    exact hmo _ ha
  · simp only [List.mem_append, List.mem_singleton, not_or] at hn
    rw [hm, if_neg (fun e => hn.2 e.symm)] at hx
    by_cases hxa : x = a ∧ q = j
    · obtain ⟨rfl, rfl⟩ := hxa
      rw [hk] at hq
      injection hq with hq
      obtain rfl : k = y := by omega
      rw [hm, if_pos rfl]
    · refine hmo y (h.closed x hx hn.1 q y hq hy fun b j' e hxb => ?_)
      obtain ⟨rfl, rfl⟩ := Prod.mk.injEq .. ▸ Option.some.inj e
      have := hp a (j + 1) rfl hxb
      have : q ≠ j := fun e => hxa ⟨hxb, e⟩
      omega
theorem Dfs.finish {a j : Nat} (h : Dfs g i met l (some (a, j))) (hj : (arcs g a).length ≤ j) : Dfs g i met l none :=
  ⟨h.len, h.start, h.reach, h.opn, fun b j' e => by (cases e), fun x hx hn q y hq hy _ => h.closed x hx hn q y hq hy fun b j' e hxb => by
    obtain ⟨rfl, rfl⟩ := Prod.mk.injEq .. ▸ Option.some.inj e
    subst hxb
    exact Nat.lt_of_lt_of_le (List.getElem?_eq_some_iff.1 hq).1 hj⟩
theorem Dfs.done (h : Dfs g i met [] none) (y : Nat) : met.getD y false = true ↔ Reach g i y := by
  refine ⟨h.reach y, fun hr => hr.closed (C := fun z => met.getD z false = true) (fun u v hu hv => ?_) h.start⟩
  obtain ⟨q, hq⟩ := List.mem_iff_getElem?.1 hv.1
  exact h.closed u hu (by simp) q v hq hv.2 fun a j e => by cases e
def unmet (met : List Bool) : Nat := met.countP fun b => !b
theorem unmet_set {k : Nat} (hk : k < met.length) (h : met.getD k false = false) : unmet (met.set k true) + 1 = unmet met := by
  unfold unmet
  have h0 : met[k] = false := by rw [List.getD_eq_getElem?_getD, List.getElem?_eq_getElem hk] at h; exact h
  have : 0 < met.countP fun b => !b := List.countP_pos_iff.2 ⟨met[k], List.getElem_mem hk, by simp [h0]⟩
  rw [List.countP_set hk]
  simp [h0]
  omega
end Kn

theorem leads_out (n cg : Nat) (i j : Int) (Ag : Option Addr) (w : World) (h : i < 0 ∨ j < 0 ∨ (n : Int) ≤ i ∨ (n : Int) ≤ j) : Calls Try.prog 14 #[.slice Ag n cg, .int .i64 i, .int .i64 j] w fun e w' => e = .returned (.bool false) ∧ w = w' := by
  by_cases h0 : i < 0
  · clear h
    go_enter Try.func14, Try.ntmps14
    go_wp2_with fail
    go_ret
    exact ⟨rfl, rfl⟩
  · have d0 : decide (i < 0) = false := by simp; omega
    by_cases h1 : j < 0
    · clear h h0
      go_enter Try.func14, Try.ntmps14
      go_wp2_with fail
      go_ret
      exact ⟨rfl, rfl⟩
    · have d1 : decide (j < 0) = false := by simp; omega
      by_cases h2 : (n : Int) ≤ i
      · clear h h0 h1
        go_enter Try.func14, Try.ntmps14
        go_wp2_with fail
        go_ret
        exact ⟨rfl, rfl⟩
      · have d2 : decide ((n : Int) ≤ i) = false := by simp; omega
        have h3 : (n : Int) ≤ j := by omega
        clear h h0 h1 h2
        go_enter Try.func14, Try.ntmps14
        go_wp2_with fail
        go_ret
        exact ⟨rfl, rfl⟩
theorem Has.of_bools {w : World} {M k : Nat} {met : List Bool} (h : w.heap[M]? = some (.cells (boolsV met).toArray 4 (0, 0))) (hk : k < met.length) : w.cell? ⟨M, k, none⟩ = some (.bool (met.getD k false)) := by
  rw [cell_block h, List.getElem?_toArray]; exact boolsV_get hk
structure LW (w : World) (M : Nat) (met : List Bool) (A : Option Addr) (m c : Nat) (l : List Nat) (wr : World) : Prop where
  hm : wr.heap[M]? = some (.cells (boolsV met).toArray 4 (0, 0))
  row : IR wr w.heap.size A m c l
  below : Below w.heap.size w wr
theorem LW.ne {w wr : World} {M m c : Nat} {met : List Bool} {A : Option Addr} {l : List Nat} (h : LW w M met A m c l wr) : (Value.slice A m c).ownBlock ≠ some M := RowZ.ne_type h.row.row h.hm (by decide)
structure LeadsO (w : World) (g : Kn.G) (i M : Nat) (gk : Nat) (v : Value) (wr : World) : Prop where
  ex : ∃ (m c : Nat) (A : Option Addr) (l : List Nat) (met : List Bool), v = .slice A m c ∧ LW w M met A m c l wr ∧ Kn.Dfs g i met l none ∧ Kn.unmet met + l.length = gk ∧ gk ≤ 1000000
structure LeadsI (w : World) (g : Kn.G) (i M a la gk : Nat) (v jv : Value) (wr : World) : Prop where
  ex : ∃ (j m c : Nat) (A : Option Addr) (l : List Nat) (met : List Bool), j ≤ la ∧ jv = .int .i64 (j : Nat) ∧ v = .slice A m c ∧ LW w M met A m c l wr ∧ Kn.Dfs g i met l (some (a, j)) ∧ Kn.unmet met + l.length + 1 = gk
structure LeadsE (g : Kn.G) (i j : Nat) (w : World) (e : Ending) (w' : World) : Prop where
  ex : ∃ b, e = .returned (.bool b) ∧ (b = true ↔ Kn.Reach g i j)
  below : Below w.heap.size w w'
set_option maxRecDepth 100000 in
set_option maxHeartbeats 4000000 in
theorem leads_any (n cg B i j : Nat) (Ag : Option Addr) (g : Kn.G) (w : World) (hG : HasG w B Ag n g) (hB : B ≤ w.heap.size) (hn : n ≤ 100000) (hA : ∀ i, (Kn.arcs g i).length ≤ 1000000) (hi : i < n) (hj : j < n) :
    Calls Try.prog 14 #[.slice Ag n cg, .int .i64 (i : Nat), .int .i64 (j : Nat)] w fun e w' => LeadsE g i j w e w' := by
  have hgl := hG.1
  obtain ⟨bg, og, rfl, hbg, _⟩ := hG.2 (by omega)
  have HG := hide (And.intro hG (And.intro hB (And.intro hA (And.intro hgl hbg))))
  have hmb := run_make_row' (P := Try.prog) 34 4 (.bool false) 1 Try.underlying34 info_bool rfl .i64 .i64 n (by omega) (by omega)
  have i0 : (0 : Int) ≤ i := by omega
  have i1 : (i : Int) < n := by omega
  have j0 : (0 : Int) ≤ j := by omega
  have j1 : (j : Int) < n := by omega
  have d0 : decide ((i : Int) < 0) = false := by simp
  have d1 : decide ((j : Int) < 0) = false := by simp
  have d2 : decide (n ≤ i) = false := by simp; omega
  have d3 : decide (n ≤ j) = false := by simp; omega
  have h1 : (w.alloc (.cells (madeCells #[.bool false] n) 4)).heap[w.heap.size]? = some (.cells (boolsV (List.replicate n false)).toArray 4 (0, 0)) := by
    rw [heap_alloc_new, made_bools]
  have h2 : (w.alloc (.cells ((madeCells #[.bool false] n).setIfInBounds i (.bool true)) 4)).heap[w.heap.size]? = some (.cells (boolsV ((List.replicate n false).set i true)).toArray 4 (0, 0)) := by
    rw [heap_alloc_new, made_bools, arr_set, ← boolsV_set]
  have c0 : (w.alloc (.cells (madeCells #[.bool false] n) 4)).cell? ⟨w.heap.size, i, none⟩ = some (.bool ((List.replicate n false).getD i false)) := Has.of_bools h1 (by simp; omega)
  have f0 : (w.alloc (.cells (madeCells #[.bool false] n) 4)).frozen? ⟨w.heap.size, i, none⟩ = false := frozen_of_row _ w.heap.size i _ _ h1
  have hb1 : Below w.heap.size w (w.alloc (.cells ((madeCells #[.bool false] n).setIfInBounds i (.bool true)) 4)) := below_laid w _
  generalize hW : w.alloc (.cells ((madeCells #[.bool false] n).setIfInBounds i (.bool true)) 4) = W at *
  have HW := hide hW
  have h3 : IR (W.alloc (.cells #[.int .i64 (i : Nat)] 3)) w.heap.size (some ⟨W.heap.size, 0, none⟩) 1 1 [i] :=
    ⟨RowZ.laid W 3 1 1 [.int .i64 (i : Nat)] (by simp) (by decide), fun b hb => by simp only [Value.ownBlock, Option.some.injEq] at hb; have := hb1.size; omega⟩
  have hWs : W.heap.size = w.heap.size + 1 := by rw [← hW]; simp
  rw [hWs] at h3
  have hs : Kn.unmet ((List.replicate n false).set i true) + 1 = n := by
    rw [Kn.unmet_set (by simp; omega) (Kn.repF _ _)]
    simp [Kn.unmet, List.countP_replicate]
  have hdf := Kn.Dfs.begin g (i := i) (by omega)
  rw [hgl] at hdf
  have H0 := hide (And.intro (LW.mk (by rw [Below.heap_alloc W _ _ (blk_lt h2)]; exact h2) h3 (hb1.trans ((below_laid W _).mono hb1.size)) : LW w w.heap.size ((List.replicate n false).set i true) (some ⟨w.heap.size + 1, 0, none⟩) 1 1 [i] (W.alloc (.cells #[.int .i64 (i : Nat)] 3))) (And.intro hdf hs))
  clear hG hB hA hgl hbg h1 h2 hb1 h3 hs hdf hW hWs
  go_enter Try.func14, Try.ntmps14
  go_wp2_with fail
  rw [HW.out]
  have hn2 : n ≤ 1000000 := by omega
  clear HW d0 d1 d2 d3 hmb c0 f0
  go_loopg [8] n (fun gk v wr => LeadsO w g i w.heap.size gk v wr)
  case atStart => exact ⟨⟨1, 1, _, [i], _, rfl, H0.out.1, H0.out.2.1, H0.out.2.2, by omega⟩⟩
  case round =>
    rename Nat => gk
    obtain ⟨⟨m, c, A, l, met, rfl, hLW, hD, hgk⟩⟩ := hrel
    have hml := hLW.row.len
    have hlm : met.length = n := hD.len.trans HG.out.2.2.2.1
    have HL := hide (And.intro hLW (And.intro hD (And.intro hgk.1 (And.intro hml hlm))))
    have HGK := hide hgk.2
    have hun : Kn.unmet met ≤ n := by have : Kn.unmet met ≤ met.length := List.countP_le_length; omega
    have hcm := hLW.row.bound
    clear hLW hD hgk hlm
    by_cases hm : 0 < m
    · obtain ⟨q, rfl⟩ : ∃ q, m = q + 1 := ⟨m - 1, by omega⟩
      obtain ⟨l', a, rfl⟩ : ∃ l' a, l = l' ++ [a] := ⟨l.dropLast, l.getLast (by intro e; rw [e] at hml; simp at hml), (List.dropLast_concat_getLast _).symm⟩
      have hq : l'.length = q := by simpa using hml
      obtain ⟨bq, rfl, _, _, hac⟩ := HL.out.1.row.cell (k := q) (x := a) (by rw [List.getElem?_append_right (by omega), hq, Nat.sub_self]; rfl)
      have HQ := hide hq
      have han : a < n := by
        have h1 := (HL.out.2.1.reach a (HL.out.2.1.opn a (by simp))).lt (by have := HG.out.2.2.2.1; omega)
        have := HG.out.2.2.2.1
        omega
      have a0 : (0 : Int) ≤ a := by omega
      have a1 : (a : Int) < n := by omega
      have hGw := (HG.out.1.below (HL.out.1.below.mono HG.out.2.1))
      obtain ⟨_, Aa, ca, hrc, hrx⟩ := hGw.row han
      have HX := hide (And.intro hrx hGw)
      have hqb : q ≤ 9223372036854775806 := by have := hcm; unfold maxLen at this; omega
      have hqc : q < c := by omega
      have hla := HG.out.2.2.1 a
      generalize hlaa : (Kn.arcs g a).length = la at *
      have HLA := hide hlaa
      clear hml hq hrx hGw hcm hm han hlaa
      have hcut := RowZ.cut HL.out.1.row.row (k := q) (c' := c) (by omega) (by omega) (Nat.le_refl _) (by simp)
      rw [show (intsV (l' ++ [a])).take (q * 1) = intsV l' by rw [Nat.mul_one, ← HQ.out]; simp [intsV]] at hcut
      have HC := hide hcut
      clear hcut
      go_wp2_with fail
      generalize wr = wo at *
      go_loopw [8, 57] (fun v jv wr => LeadsI w g i w.heap.size a la gk v jv wr) (fun _ jv _ => la - (intOf jv).toNat)
      case atStart =>
        refine ⟨⟨0, q, c, some ⟨bq, 0, none⟩, l', met, Nat.zero_le _, rfl, rfl, ⟨HL.out.1.hm, ⟨HC.out, fun b hb => ?_⟩, HL.out.1.below⟩, HL.out.2.1.pop, ?_⟩⟩
        · exact HL.out.1.row.own b hb
        · have := HL.out.2.2.1
          rw [List.length_append] at this
          simpa [Nat.add_assoc] using this
      case round =>
        have HLO := HL
        clear HL HC hrc hac
        obtain ⟨⟨j', m, c, A, l, met, hj', rfl, rfl, hLW, hD, hgk⟩⟩ := hrel
        have hml := hLW.row.len
        have hlm : met.length = n := hD.len.trans HG.out.2.2.2.1
        have hun : Kn.unmet met ≤ n := by have : Kn.unmet met ≤ met.length := List.countP_le_length; omega
        have HL := hide (And.intro hLW (And.intro hD (And.intro hgk (And.intro hml hlm))))
        have p0 : (0 : Int) ≤ j' := by omega
        clear hLW hD hgk hml hlm
        by_cases hjl : j' < la
        · have p1 : (j' : Int) < la := by omega
          obtain ⟨x, hx⟩ : ∃ x, (Kn.arcs g a)[j']? = some x := ⟨_, List.getElem?_eq_getElem (by have := HLA.out; omega)⟩
          obtain ⟨ba, oa, rfl, hba, hxs⟩ := HX.out.1 (by have := HLA.out; omega)
          have hxc : wr.cell? ⟨ba, oa + j', none⟩ = some (.int .i64 x) :=
            ((HL.out.1.below.mono HG.out.2.1).cell (p := ⟨ba, oa + j', none⟩) hba).trans (((HLO.out.1.below.mono HG.out.2.1).cell (p := ⟨ba, oa + j', none⟩) hba).symm.trans (hxs j' x hx))
          have HXX := hide hx
          clear hx hxs
          by_cases hx0 : 0 ≤ x
          · by_cases hxn : x < n
            · obtain ⟨k, rfl⟩ : ∃ k : Nat, x = k := ⟨x.toNat, by omega⟩
              have hmc := Has.of_bools HL.out.1.hm (k := k) (by have := HL.out.2.2.2.2; omega)
              have hmf : wr.frozen? ⟨w.heap.size, k, none⟩ = false := frozen_of_row _ w.heap.size k _ _ HL.out.1.hm
              generalize hmk : met.getD k false = b at *
              have HMK := hide hmk
              clear hmk
              cases b with
              | true =>
                go_wp2_with fail
                refine ⟨⟨⟨j' + 1, m, c, A, l, met, by omega, by congr 1, rfl, HL.out.1, HL.out.2.1.skip fun y hy _ => ?_, HL.out.2.2.1⟩⟩, by simp only [intOf]; omega⟩
                rw [HXX.out] at hy
                injection hy with hy
                rw [← Int.ofNat.inj hy]
                exact HMK.out
              | false =>
                have hkl : k < met.length := by have := HL.out.2.2.2.2; omega
                have hun2 := Kn.unmet_set hkl HMK.out
                have h2 := heap_setCell_same wr w.heap.size k _ 4 (.bool true) HL.out.1.hm
                rw [arr_set, ← boolsV_set] at h2
                have hrow := HL.out.1.row.far (p := ⟨w.heap.size, k, none⟩) HL.out.1.ne (.bool true)
                have hbs : Below w.heap.size w (wr.setCell ⟨w.heap.size, k, none⟩ (.bool true)) := HL.out.1.below.setCell (Nat.le_refl _) _
                have HS := hide (And.intro h2 (And.intro hrow (And.intro hbs hun2)))
                clear h2 hrow hbs hun2 hkl
                go_upto_region 14 with (fail)
                generalize wr.setCell ⟨w.heap.size, k, none⟩ (.bool true) = W1 at *
                have H3 := hide (And.intro (HS.out.2.1.below (below_laid W1 (.cells #[.int .i64 (k : Nat)] 3))) (And.intro (heap_alloc_new W1 (.cells #[.int .i64 (k : Nat)] 3)) (below_laid W1 (.cells #[.int .i64 (k : Nat)] 3))))
                have hmm : m ≤ 1000000 := by have h1 := HL.out.2.2.1; have h2 := HL.out.2.2.2.1; have h3 := HGK.out; omega
                go_wp2_with (at_builtin; refine app_int rfl (.tmp 79) (.tmp 81) rfl rfl rfl H3.out.2.1 H3.out.1 (by have := HS.out.2.2.1.size; rw [World.size_alloc]; omega) hmm ?_)
                intro A' c' w' hr hg hb hob
                have hmw : w'.heap[w.heap.size]? = some (.cells (boolsV (met.set k true)).toArray 4 (0, 0)) := by
                  rw [hg.block w.heap.size (by rw [World.size_alloc]; have := blk_lt HS.out.1; omega) (fun e => HL.out.1.ne e.symm), Below.heap_alloc W1 _ _ (blk_lt HS.out.1)]
                  exact HS.out.1
                have HF := hide (And.intro hr (And.intro hmw (HS.out.2.2.1.trans ((H3.out.2.2.mono HS.out.2.2.1.size).trans hb))))
                clear hr hg hb hob hmw
                go_wp2_with fail
                refine ⟨⟨⟨j' + 1, m + 1, c', A', l ++ [k], met.set k true, by omega, by congr 1, rfl, ⟨HF.out.2.1, HF.out.1, HF.out.2.2⟩, HL.out.2.1.push HXX.out (by have := HG.out.2.2.2.1; omega), ?_⟩⟩, by simp only [intOf]; omega⟩
                rw [List.length_append]
                have h1 := HS.out.2.2.2
                have h2 := HL.out.2.2.1
                simp only [List.length_singleton]
                omega
            · have hxn2 : decide (x < (n : Int)) = false := by simp; omega
              have HXN := hide hxn
              clear hxn
              go_wp2_with fail
              refine ⟨⟨⟨j' + 1, m, c, A, l, met, by omega, by congr 1, rfl, HL.out.1, HL.out.2.1.skip fun y hy hyl => ?_, HL.out.2.2.1⟩⟩, by simp only [intOf]; omega⟩
              rw [HXX.out] at hy
              injection hy with hy
              exact absurd (by rw [hy]; have := HG.out.2.2.2.1; omega) HXN.out
          · have hx2 : decide (0 ≤ x) = false := by simp; omega
            have HX0 := hide hx0
            clear hx0
            go_wp2_with fail
            refine ⟨⟨⟨j' + 1, m, c, A, l, met, by omega, by congr 1, rfl, HL.out.1, HL.out.2.1.skip fun y hy hyl => ?_, HL.out.2.2.1⟩⟩, by simp only [intOf]; omega⟩
            rw [HXX.out] at hy
            injection hy with hy
            exact absurd (by rw [hy]; omega) HX0.out
        · obtain rfl : j' = la := by omega
          have p1 : ¬ (j' : Int) < j' := by omega
          go_wp2_with fail
          go_roundg (Kn.unmet met + l.length)
          case measure => have := HL.out.2.2.1; omega
          case rel => exact ⟨⟨m, c, A, l, met, rfl, HL.out.1, HL.out.2.1.finish (by have := HLA.out; omega), rfl, by have := HL.out.2.2.1; have := HGK.out; omega⟩⟩
    · obtain rfl : m = 0 := by omega
      obtain rfl : l = [] := List.eq_nil_of_length_eq_zero hml
      have hc := Has.of_bools HL.out.1.hm (k := j) (by have := HL.out.2.2.2.2; omega)
      clear hml hcm hm
      go_wp2_with fail
      go_ret
      exact ⟨⟨_, rfl, HL.out.2.1.done j⟩, HL.out.1.below⟩
end Go.Proofs.Ytgmppddlgbkjmaa
