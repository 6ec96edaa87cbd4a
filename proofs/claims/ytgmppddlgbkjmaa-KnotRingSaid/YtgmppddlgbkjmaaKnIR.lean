/- A row of numbers of one's own, and append to it. -/
import Derived.Test.YtgmppddlgbkjmaaKnFrom0
import Derived.Test.YtgmppddlgbkjmaaKnIn
namespace Go.Proofs.Ytgmppddlgbkjmaa
open Go.RowKit

/-- A row of numbers in a block from B on (or no block at all). -/
structure IR (w : World) (B : Nat) (A : Option Addr) (n c : Nat) (l : List Nat) : Prop where
  row : RowZ w 3 1 (.slice A n c) n (intsV l)
  own : ∀ b, (Value.slice A n c).ownBlock = some b → B ≤ b
section
variable {w w' : World} {B n c : Nat} {A : Option Addr} {l : List Nat}
theorem IR.len (h : IR w B A n c l) : l.length = n := by have := h.row.len; rw [intsV_len] at this; omega
theorem IR.nil (w : World) (B : Nat) : IR w B none 0 0 [] := ⟨RowZ.nil, fun b h => by cases h⟩
theorem IR.has (h : IR w B A n c l) : Has w w.heap.size A n (intsV l) := by
  have hl := h.len
  refine ⟨by rw [intsV_len]; exact hl, fun hn => ?_⟩
  obtain ⟨g, rfl⟩ := RowZ.addr h.row hn
  refine ⟨g, 0, rfl, RowZ.lt h.row g rfl, fun j u hu => ?_⟩
  rw [Nat.zero_add, RowZ.cell h.row (List.getElem?_eq_some_iff.1 hu).1]
  exact hu
theorem IR.below (h : IR w B A n c l) (hb : Below w.heap.size w w') : IR w' B A n c l := ⟨RowZ.below h.row hb, h.own⟩
theorem IR.keep (h : IR w B A n c l) {own : Option Nat} (hg : w.grownBy w' own) (hne : ∀ b, (Value.slice A n c).ownBlock = some b → own ≠ some b) : IR w' B A n c l :=
  ⟨RowZ.keep h.row fun b hb => hg.block b (RowZ.lt h.row b hb) fun e => hne b hb e.symm, h.own⟩
theorem IR.more {B' : Nat} (h : IR w B A n c l) (hB : B' ≤ B) : IR w B' A n c l := ⟨h.row, fun b hb => Nat.le_trans hB (h.own b hb)⟩
theorem IR.cell (h : IR w B A n c l) {k x : Nat} (hk : l[k]? = some x) : ∃ g, A = some ⟨g, 0, none⟩ ∧ B ≤ g ∧ g < w.heap.size ∧ w.cell? ⟨g, k, none⟩ = some (.int .i64 (x : Nat)) := by
  have hkn := (List.getElem?_eq_some_iff.1 hk).1
  have hl := h.len
  obtain ⟨g, rfl⟩ := RowZ.addr h.row (by omega)
  refine ⟨g, rfl, h.own g rfl, RowZ.lt h.row g rfl, ?_⟩
  rw [RowZ.cell h.row (by rw [intsV_len]; exact hkn)]
  simp [intsV, hk]
theorem IR.set {g : Nat} (h : IR w B (some ⟨g, 0, none⟩) n c l) (k x : Nat) : IR (w.setCell ⟨g, k, none⟩ (.int .i64 (x : Nat))) B (some ⟨g, 0, none⟩) n c (l.set k x) := by
  refine ⟨?_, h.own⟩
  rcases h.row with ⟨h0, _⟩ | ⟨g', cap, cur, h0, hh, h1, h2, h3, h4, h5⟩
  · cases h0
  · simp only [Value.slice.injEq, Option.some.injEq, Addr.mk.injEq, and_true, true_and] at h0
    obtain ⟨rfl, rfl⟩ := h0
    refine .inr ⟨g, c, _, rfl, heap_setCell_same w g k cur 3 _ hh, h1, by simpa using h2, h3, by rw [intsV_len, List.length_set, ← intsV_len]; exact h4, ?_⟩
    have : (cur.setIfInBounds k (.int .i64 (x : Nat))).toList = cur.toList.set k (.int .i64 (x : Nat)) := by simp
    rw [this, List.take_set, h5, intsV_set]
theorem IR.far (h : IR w B A n c l) {p : Addr} (hp : (Value.slice A n c).ownBlock ≠ some p.block) (u : Value) : IR (w.setCell p u) B A n c l := ⟨RowZ.far h.row hp u, h.own⟩
theorem IR.free {g : Nat} (h : IR w B (some ⟨g, 0, none⟩) n c l) (k : Nat) : w.frozen? ⟨g, k, none⟩ = false := RowZ.free h.row k
theorem IR.bound (h : IR w B A n c l) : n ≤ c ∧ c ≤ maxLen := by
  obtain ⟨A', c', h1, h2, h3⟩ := RowZ.form h.row
  cases h1
  exact ⟨h2, h3⟩
end
/-- A number appended. -/
theorem app_int {w : World} {ops : Array Oper} {rest : List Oper} {o : Oper} {a : Act} {Q : Exit → Act → World → Prop} (hgd : o.guard = none) (s x : Operand)
    (ho : o.op = .call { callee := .builtin .append, args := #[s, x], argTypes := #[26, 26] }) {B n c : Nat} {A : Option Addr} {l : List Nat} {b k : Nat} (hs : a.eval s = .slice A n c) (hx : a.eval x = .slice (some ⟨b, 0, none⟩) 1 1)
    (hb : w.heap[b]? = some (.cells #[.int .i64 (k : Nat)] 3 (0, 0))) (h : IR w B A n c l) (hB : B ≤ w.heap.size) (hn : n ≤ 1000000)
    (hK : ∀ A' c' w', IR w' B A' (n + 1) c' (l ++ [k]) → w.grownBy w' (Value.slice A n c).ownBlock → Below B w w' → ((Value.slice A' (n + 1) c').ownBlock = (Value.slice A n c).ownBlock ∨ (Value.slice A' (n + 1) c').ownBlock = some w.heap.size) →
      wpList Try.prog ops Q rest (a.put o.dst (.slice A' (n + 1) c')) w') : wpList Try.prog ops Q (o :: rest) a w := by
  obtain ⟨it, hit, hz0, hz1, hz2⟩ := info_parts info_int
  refine app_rowz hgd s x 26 26 ho 3 it _ 1 8 Try.underlying26 hit hz0 hz1 hz2 rfl (.slice A n c) n (intsV l) hs h.row _ 1 [.int .i64 (k : Nat)] hx (int_news hb) (by unfold maxLen; omega) (by omega) ?_
  intro A' c' w' hr hg hob
  refine hK A' c' w' ⟨?_, fun b' hb' => ?_⟩ hg (grown_from (Below.refl B w) hB hg fun b' hb' => h.own b' hb') hob
  · rw [show intsV (l ++ [k]) = intsV l ++ [.int .i64 (k : Nat)] by simp [intsV]]; exact hr
  · rcases hob with e | e
    · rw [e] at hb'; exact h.own b' hb'
    · rw [e] at hb'; simp only [Option.some.injEq] at hb'; omega

namespace Kn
/-- The nodes to which a node's arcs lead. -/
def okB (g : G) (k : Int) : Bool := decide (0 ≤ k ∧ k < g.length)
def outs (g : G) (i : Nat) : List Nat := ((arcs g i).filter (okB g)).map Int.toNat
theorem outs_iff {g : G} {i j : Nat} : j ∈ outs g i ↔ (j : Int) ∈ arcs g i ∧ j < g.length := by
  simp only [outs, List.mem_map, List.mem_filter, okB, decide_eq_true_eq]
  constructor
  · rintro ⟨x, ⟨h1, h2, h3⟩, rfl⟩
    rw [show ((x.toNat : Nat) : Int) = x by omega]
    exact ⟨h1, by omega⟩
  · rintro ⟨h1, h2⟩
    exact ⟨j, ⟨h1, by omega, by omega⟩, by omega⟩
def outsK (g : G) (i k : Nat) : List Nat := (((arcs g i).take k).filter (okB g)).map Int.toNat
theorem outsK_yes {g : G} {i k : Nat} {x : Int} (h : (arcs g i)[k]? = some x) (hx : 0 ≤ x) (hn : x < g.length) : outsK g i (k + 1) = outsK g i k ++ [x.toNat] := by
  obtain ⟨hk, rfl⟩ := List.getElem?_eq_some_iff.1 h
  simp only [outsK]
  rw [List.take_succ_eq_append_getElem hk, List.filter_append]
  simp [okB, hx, hn]
theorem outsK_no {g : G} {i k : Nat} {x : Int} (h : (arcs g i)[k]? = some x) (hx : ¬ (0 ≤ x ∧ x < g.length)) : outsK g i (k + 1) = outsK g i k := by
  obtain ⟨hk, rfl⟩ := List.getElem?_eq_some_iff.1 h
  simp only [outsK]
  rw [List.take_succ_eq_append_getElem hk, List.filter_append]
  simp [okB, hx]
theorem outsK_all {g : G} {i k : Nat} (h : (arcs g i).length ≤ k) : outsK g i k = outs g i := by
  unfold outsK outs
  rw [List.take_of_length_le h]
theorem outsK_le {g : G} {i k : Nat} : (outsK g i k).length ≤ k := by
  unfold outsK
  rw [List.length_map]
  exact Nat.le_trans (List.length_filter_le _ _) (List.length_take_le _ _)
end Kn
set_option maxHeartbeats 800000 in
theorem rarcs_any (n cg B i : Nat) (Ag : Option Addr) (g : Kn.G) (w : World) (hG : HasG w B Ag n g) (hB : B ≤ w.heap.size) (hn : n ≤ 1000000) (hi : i < n) (hA : (Kn.arcs g i).length ≤ 1000000) :
    Calls Try.prog 21 #[.slice Ag n cg, .int .i64 (i : Nat)] w fun e w' => (∃ A m c, e = .returned (.slice A m c) ∧ IR w' w.heap.size A m c (Kn.outs g i)) ∧ Below w.heap.size w w' := by
  obtain ⟨bg, og, rfl, hbg, _⟩ := hG.2 (by omega)
  have hgl := hG.1
  obtain ⟨hbB, Ai, ci, hrc, hrx⟩ := hG.row hi
  have HX := hide hrx
  have HGL := hide hgl
  have hi1 : (i : Int) < n := by omega
  have hi0 : (0 : Int) ≤ i := by omega
  generalize hla : (Kn.arcs g i).length = la at *
  have HLA := hide hla
  have HB := hide (Nat.lt_of_lt_of_le hbg hB)
  clear hG hgl hrx hla hbg hbB
  go_enter Try.func21, Try.ntmps21
  go_wp2_with fail
  go_loopw [5, 6] (fun v kv wr => ∃ (k m c : Nat) (A : Option Addr), k ≤ la ∧ kv = .int .i64 (k : Nat) ∧ v = .slice A m c ∧ IR wr w.heap.size A m c (Kn.outsK g i k) ∧ Below w.heap.size w wr) (fun _ kv _ => la - (intOf kv).toNat)
  case atStart => exact ⟨0, 0, 0, none, Nat.zero_le _, rfl, rfl, IR.nil _ _, Below.refl _ _⟩
  case round =>
    obtain ⟨k, m, c, A, hk, rfl, rfl, hrow, hbl⟩ := hrel
    have hrw : wr.cell? ⟨bg, og + i, none⟩ = some (.slice Ai la ci) := (hbl.cell (p := ⟨bg, og + i, none⟩) HB.out).trans hrc
    have hmk : m ≤ 1000000 := by have := hrow.len; have := Kn.outsK_le (g := g) (i := i) (k := k); omega
    by_cases hlt : k < la
    · obtain ⟨bi, oi, rfl, hbi, hxs⟩ := HX.out (by omega)
      obtain ⟨x, hx⟩ : ∃ x, (Kn.arcs g i)[k]? = some x := ⟨_, List.getElem?_eq_getElem (by have := HLA.out; omega)⟩
      have hxc : wr.cell? ⟨bi, oi + k, none⟩ = some (.int .i64 x) := (hbl.cell (p := ⟨bi, oi + k, none⟩) (by show bi < _; omega)).trans (hxs k x hx)
      have k0 : (0 : Int) ≤ k := by omega
      have k1 : (k : Int) < la := by omega
      have HR := hide (And.intro hrow (And.intro hbl hx))
      clear hrow hbl hx hxs hrc
      by_cases hx0 : 0 ≤ x
      · by_cases hxn : x < n
        · obtain ⟨j, rfl⟩ : ∃ j : Nat, x = j := ⟨x.toNat, by omega⟩
          have H2 := hide (And.intro (HR.out.1.below (below_laid wr (.cells #[.int .i64 (j : Nat)] 3))) (And.intro (heap_alloc_new wr (.cells #[.int .i64 (j : Nat)] 3)) (below_laid wr (.cells #[.int .i64 (j : Nat)] 3))))
          go_wp2_with (at_builtin; refine app_int rfl (.tmp 36) (.tmp 44) rfl rfl rfl H2.out.2.1 H2.out.1 (by have := HR.out.2.1.size; rw [World.size_alloc]; omega) hmk ?_)
          intro A' c' w' hr hg hb hob
          have HF := hide (And.intro hr hb)
          clear hr hg hb hob
          go_wp2_with fail
          refine ⟨⟨k + 1, m + 1, c', A', by omega, by congr 1, rfl, ?_, ?_⟩, by simp only [intOf]; omega⟩
          · rw [Kn.outsK_yes HR.out.2.2 (by omega) (by have := HGL.out; omega)]; exact HF.out.1
          · exact HR.out.2.1.trans ((H2.out.2.2.mono HR.out.2.1.size).trans HF.out.2)
        · have hxn2 : decide (x < (n : Int)) = false := by simp; omega
          have HF := hide hxn
          clear hxn
          go_wp2_with fail
          refine ⟨⟨k + 1, m, c, A, by omega, by congr 1, rfl, ?_, HR.out.2.1⟩, by simp only [intOf]; omega⟩
          rw [Kn.outsK_no HR.out.2.2 (by have := HGL.out; have := HF.out; omega)]; exact HR.out.1
      · have hxn2 : decide (0 ≤ x) = false := by simp; omega
        have HF := hide hx0
        clear hx0
        go_wp2_with fail
        refine ⟨⟨k + 1, m, c, A, by omega, by congr 1, rfl, ?_, HR.out.2.1⟩, by simp only [intOf]; omega⟩
        rw [Kn.outsK_no HR.out.2.2 (by have := HF.out; omega)]; exact HR.out.1
    · obtain rfl : k = la := by omega
      have k1 : ¬ (k : Int) < k := by omega
      have HR := hide (And.intro hrow hbl)
      clear hrow hbl hrc
      go_wp2_with fail
      go_ret
      refine ⟨⟨A, m, c, rfl, ?_⟩, HR.out.2⟩
      have := HR.out.1
      rw [Kn.outsK_all (by have := HLA.out; omega)] at this
      exact this
end Go.Proofs.Ytgmppddlgbkjmaa
