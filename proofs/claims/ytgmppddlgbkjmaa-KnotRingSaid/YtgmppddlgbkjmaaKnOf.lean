/- The walk of Of: the least node of each node's knot. -/
import Derived.Test.YtgmppddlgbkjmaaKnFrom
import Derived.Test.YtgmppddlgbkjmaaKnROrd
import Derived.Test.YtgmppddlgbkjmaaKnTar2
import Derived.Deep.OwnRows
import Derived.Laws.OwnMore
import Derived.BigRegion
namespace Go.Proofs.Ytgmppddlgbkjmaa
open Go.RowKit
open Kn (Sd mu)

theorem info_bool : (Try.prog.info? 4).map (fun i => (i.zero, i.size, i.bytes)) = some (some (.bool false), 1, 1) := by kernel_rfl
theorem made_ints (n : Nat) : madeCells #[.int .i64 0] n = (intsV (List.replicate n 0)).toArray := by
  apply Array.toList_inj.1
  rw [toList_madeCells_one]
  simp [intsV]
theorem made_bools (n : Nat) : madeCells #[.bool false] n = (boolsV (List.replicate n false)).toArray := by
  apply Array.toList_inj.1
  rw [toList_madeCells_one]
  simp [boolsV]
theorem heap_at (w : World) (o : Obj) (k : Nat) : (w.alloc o).heap[k]? = if k = w.heap.size then some o else w.heap[k]? := by
  split
  · rename_i h; rw [h]; exact heap_alloc_new w o
  · rename_i h
    by_cases hk : k < w.heap.size
    · exact Below.heap_alloc w o k hk
    · rw [Array.getElem?_eq_none (by rw [World.size_alloc]; omega), Array.getElem?_eq_none (by omega)]
theorem below_laid4 (w : World) (a b c d : Obj) : Below w.heap.size w ((((w.alloc a).alloc b).alloc c).alloc d) :=
  ((((Below.refl _ _).alloc (Nat.le_refl _) a).alloc (by simp) b).alloc (by simp; omega) c).alloc (by simp; omega) d
structure CutOf (w : World) (Ag : Option Addr) (n cg : Nat) (p : Value) (wx : World) : Prop where
  ex : ∃ a, p = .pointer (some ⟨a.P, 0, none⟩) ∧ Wk wx w.heap.size a Ag n cg (.slice none 0 0) (.slice none 0 0) (Kn.St.start n)
  below : Below w.heap.size w wx
theorem cut_mk {w W : World} {Ag : Option Addr} {n cg P o l nn f : Nat} (hb : Below w.heap.size w W) (hP : P = W.heap.size) (ge : w.heap.size ≤ o ∧ w.heap.size ≤ l ∧ w.heap.size ≤ nn ∧ w.heap.size ≤ f) (ap : o ≠ l ∧ o ≠ f ∧ l ≠ f)
    (ho : W.heap[o]? = some (.cells (madeCells #[.int .i64 0] n) 3)) (hl : W.heap[l]? = some (.cells (madeCells #[.int .i64 0] n) 3)) (hn : W.heap[nn]? = some (.cells (madeCells #[.bool false] n) 4)) (hf : W.heap[f]? = some (.cells (madeCells #[.int .i64 0] n) 3)) :
    CutOf w Ag n cg (.pointer (some ⟨P, 0, none⟩)) (W.alloc (.cells #[.slice Ag n cg, .slice (some ⟨o, 0, none⟩) n n, .slice (some ⟨l, 0, none⟩) n n, .slice (some ⟨nn, 0, none⟩) n n, .slice none 0 0, .slice none 0 0, .int .i64 0, .slice (some ⟨f, 0, none⟩) n n] 37)).drew := by
  subst hP
  refine ⟨⟨⟨W.heap.size, o, l, nn, f⟩, rfl, ?_⟩, below_drewN (hb.alloc hb.size _) 1⟩
  rw [made_ints] at ho hl hf
  rw [made_bools] at hn
  have hk : ∀ (b : Nat) (x y : Obj), W.heap[b]? = some x → (W.alloc y).heap[b]? = some x := fun b x y h => (Below.heap_alloc W y b (blk_lt h)).trans h
  exact ⟨heap_alloc_new W _, hk _ _ _ ho, hk _ _ _ hl, hk _ _ _ hn, hk _ _ _ hf, RowZ.nil, RowZ.nil, ⟨hb.size, ge⟩, (fun b h => by cases h), (fun b h => by cases h), ap⟩
structure OfR (w : World) (a : At) (Ag : Option Addr) (n cg : Nat) (g : Kn.G) (kv : Value) (wr : World) : Prop where
  ex : ∃ (k : Nat) (vs vo : Value) (s : Kn.St), k ≤ n ∧ kv = .int .i64 (k : Nat) ∧ Wk wr w.heap.size a Ag n cg vs vo s ∧ Kn.Inv g s ∧ s.opn = [] ∧ ∀ x, x < k → s.order.getD x 0 ≠ 0
  below : Below w.heap.size w wr
set_option maxRecDepth 100000 in
set_option maxHeartbeats 4000000 in
theorem of_any (n cg B : Nat) (Ag : Option Addr) (g : Kn.G) (w : World) (hG : HasG w B Ag n g) (hB : B ≤ w.heap.size) (hn : n ≤ 1000000) (hA : ∀ i, (Kn.arcs g i).length ≤ 1000000) :
    Calls Try.prog 10 #[.slice Ag n cg] w fun e w' => ROfE n g w e w' := by
  have hgl := hG.1
  have HG := hide (And.intro (hG.more hB) (And.intro hA hgl))
  have hmi := run_make_row' (P := Try.prog) 26 3 (.int .i64 0) 8 Try.underlying26 info_int rfl .i64 .i64 n (by omega) (by omega)
  have hmb := run_make_row' (P := Try.prog) 34 4 (.bool false) 1 Try.underlying34 info_bool rfl .i64 .i64 n (by omega) (by omega)
  clear hG hB hA hgl
  go_enter Try.func10, Try.ntmps10
  go_upto_region 2 with (fail)
  go_cut [4] from 8 to 19 (fun p wx => CutOf w Ag n cg p wx)
  case first =>
    go_region
    all_goals (go_wp2_with fail; go_meet)
    all_goals
      refine cut_mk (below_laid4 w _ _ _ _) (by simp only [World.size_alloc]) ⟨by omega, by omega, by omega, by omega⟩ ⟨by omega, by omega, by omega⟩ ?_ ?_ ?_ ?_
      all_goals (simp only [heap_at, World.size_alloc]; repeat (first | rw [if_neg (by omega)] | rw [if_pos trivial] | rw [if_pos (by omega)]))
  case rest =>
    obtain ⟨⟨a, rfl, hW⟩, hbl⟩ := hcut
    clear hmi hmb
    have hi0 : Kn.Inv g (Kn.St.start n) := by have := Kn.Inv.start g; rw [HG.out.2.2] at this; exact this
    have H0 := hide (And.intro hW (And.intro hbl hi0))
    clear hW hbl hi0
    go_wp2_with fail
    go_loopw [20] (fun kv wr => OfR w a Ag n cg g kv wr) (fun kv _ => n - (intOf kv).toNat)
    case atStart => exact ⟨⟨0, _, _, _, Nat.zero_le _, rfl, H0.out.1, H0.out.2.2, rfl, fun x hx => by omega⟩, H0.out.2.1⟩
    case round =>
      obtain ⟨⟨k, vs, vo, s, hk, rfl, hW, hI, ho, hs⟩, hb⟩ := hrel
      have HR := hide (And.intro hW (And.intro hI (And.intro ho (And.intro hs hb))))
      have k0 : (0 : Int) ≤ k := by omega
      obtain ⟨c0, c1, c2, c3, c4, c5, c6, c7⟩ := hW.cells
      by_cases hlt : k < n
      · have k1 : (k : Int) < n := by omega
        have hoc := hW.order (i := k) (by rw [hI.sd.lo, HG.out.2.2]; exact hlt)
        generalize hd : s.order.getD k 0 = d at *
        have HD := hide hd
        clear hW hI ho hs hb hd c0 c2 c3 c4 c5 c6 c7
        by_cases hd0 : d = 0
        · subst hd0
          have HF := hide (from_any k (s.enter k) wr HR.out.1 HR.out.2.2.2.2.size (HG.out.1.below HR.out.2.2.2.2) HR.out.2.1.sd hlt HD.out hn (fun i => Nat.le_trans (HG.out.2.1 i) (by omega)) rfl)
          go_wp2_with (go_at_call 17; refine (HF.out).mono ?_; rintro e w3 ⟨rfl, ⟨vs3, vo3, m, hW3, ho3, hS3⟩, hb3⟩; have H3 := hide (And.intro hW3 (And.intro ho3 hb3)); clear hW3 ho3 hS3 hb3)
          obtain ⟨h1, h2, h3⟩ := HR.out.2.1.from HR.out.2.2.1 (m := m) (by rw [HG.out.2.2]; exact hlt) HD.out
          refine ⟨⟨⟨k + 1, vs3, vo3, _, by omega, by congr 1, H3.out.1, h1, H3.out.2.1, fun x hx => ?_⟩, HR.out.2.2.2.2.trans H3.out.2.2⟩, by simp only [intOf]; omega⟩
          by_cases hxk : x = k
          · rw [hxk]; exact h2
          · exact h3 x (HR.out.2.2.2.1 x (by omega))
        · have hd2 : ((d : Int) == 0) = false := by simp; omega
          go_wp2_with fail
          refine ⟨⟨⟨k + 1, vs, vo, s, by omega, by congr 1, HR.out.1, HR.out.2.1, HR.out.2.2.1, fun x hx => ?_⟩, HR.out.2.2.2.2⟩, by simp only [intOf]; omega⟩
          by_cases hxk : x = k
          · rw [hxk, HD.out]; exact hd0
          · exact HR.out.2.2.2.1 x (by omega)
      · obtain rfl : k = n := by omega
        have k1 : ¬ (k : Int) < k := by omega
        clear hW hI ho hs hb hlt hk
        go_wp2_with fail
        go_ret
        have hlf : s.of.length = k := by rw [HR.out.2.1.sd.lf]; exact HG.out.2.2
        refine ⟨⟨some ⟨a.f, 0, none⟩, k, s.of, rfl, ⟨.inr ⟨a.f, k, _, rfl, HR.out.1.hf, Nat.le_refl _, ?_, by unfold maxLen; omega, by rw [intsV_len]; omega, ?_⟩, fun b hb => ?_⟩, HR.out.2.1.sd.lf, fun i hi => HR.out.2.1.all HR.out.2.2.1 hi (HR.out.2.2.2.1 i (by have := HG.out.2.2; omega))⟩, HR.out.2.2.2.2⟩
        · simp [intsV_len, hlf]
        · simp only [Nat.mul_one]
          exact List.take_of_length_le (by rw [intsV_len]; omega)
        · simp only [Value.ownBlock, Option.some.injEq] at hb
          rw [← hb]
          exact HR.out.1.ge.2.2.2.2
end Go.Proofs.Ytgmppddlgbkjmaa
