/- The law KnotRing, walked. -/
import Derived.Test.YtgmppddlgbkjmaaKnLOf
import Derived.Test.YtgmppddlgbkjmaaKnRing
import Derived.Test.YtgmppddlgbkjmaaKnMb
namespace Go.Proofs.Ytgmppddlgbkjmaa
open Go.RowKit

/-- A graph being built: the row of rows, each row in a block of its own. -/
structure GB (wr : World) (B Rb n : Nat) (g : Kn.G) : Prop where
  ge : B ≤ Rb
  ex : ∃ vals : List Value, wr.heap[Rb]? = some (.cells vals.toArray 26 (0, 0)) ∧ vals.length = n ∧ g.length = n ∧ ∀ (k : Nat) (l : List Int), g[k]? = some l → ∃ A c, vals[k]? = some (.slice A l.length c) ∧
    (0 < l.length → ∃ b cur, A = some ⟨b, 0, none⟩ ∧ wr.heap[b]? = some (.cells cur 3 (0, 0)) ∧ ∀ (j : Nat) (x : Int), l[j]? = some x → cur[j]? = some (.int .i64 x))
theorem GB.start {wr : World} {B Rb n : Nat} (hB : B ≤ Rb) (h : wr.heap[Rb]? = some (.cells (madeCells #[Value.slice none 0 0] n) 26 (0, 0))) : GB wr B Rb n (List.replicate n []) := by
  rw [made_slices] at h
  refine ⟨hB, ⟨_, h, by simp, by simp, fun k l hk => ?_⟩⟩
  rw [List.getElem?_replicate] at hk
  split at hk
  · rename_i hkn
    injection hk with hk
    subst hk
    exact ⟨none, 0, by simp [hkn], fun h => by simp at h⟩
  · cases hk
theorem GB.keep {w w' : World} {B Rb n : Nat} {g : Kn.G} (h : GB w B Rb n g) (hR : w'.heap[Rb]? = w.heap[Rb]?) (hk : ∀ (b : Nat) (cur : Array Value), w.heap[b]? = some (.cells cur 3 (0, 0)) → w'.heap[b]? = w.heap[b]?) : GB w' B Rb n g := by
  obtain ⟨vals, h1, h2, h3, h4⟩ := h.ex
  refine ⟨h.ge, ⟨vals, hR.trans h1, h2, h3, fun k l hl => ?_⟩⟩
  obtain ⟨A, c, h5, h6⟩ := h4 k l hl
  refine ⟨A, c, h5, fun hp => ?_⟩
  obtain ⟨b, cur, h7, h8, h9⟩ := h6 hp
  exact ⟨b, cur, h7, (hk b cur h8).trans h8, h9⟩
theorem GB.below {w w' : World} {B Rb n : Nat} {g : Kn.G} (h : GB w B Rb n g) (hb : Below w.heap.size w w') : GB w' B Rb n g := by
  obtain ⟨vals, h1, _⟩ := h.ex
  exact h.keep (hb.block _ (blk_lt h1)) fun b cur hc => hb.block _ (blk_lt hc)
/-- Another row of rows is written. -/
theorem GB.far {w : World} {B Rb n : Nat} {g : Kn.G} (h : GB w B Rb n g) {p : Addr} {vals : List Value} (hp : w.heap[p.block]? = some (.cells vals.toArray 26 (0, 0))) (hne : Rb ≠ p.block) (v : Value) : GB (w.setCell p v) B Rb n g :=
  h.keep (Below.heap_setCell w p v _ hne) fun b cur hc => Below.heap_setCell w p v b (blocks_ne hc hp (by decide))
theorem GB.set {w : World} {B Rb n i b : Nat} {g : Kn.G} {z : Int} (h : GB w B Rb n g) (hb : w.heap[b]? = some (.cells #[.int .i64 z] 3 (0, 0))) :
    GB (w.setCell ⟨Rb, i, none⟩ (.slice (some ⟨b, 0, none⟩) 1 1)) B Rb n (g.set i [z]) := by
  obtain ⟨vals, h1, h2, h3, h4⟩ := h.ex
  have hk : ∀ (b : Nat) (cur : Array Value), w.heap[b]? = some (.cells cur 3 (0, 0)) → (w.setCell ⟨Rb, i, none⟩ (.slice (some ⟨b, 0, none⟩) 1 1)).heap[b]? = w.heap[b]? := fun b cur hc => Below.heap_setCell w _ _ b (blocks_ne hc h1 (by decide))
  have hk' : ∀ (b' : Nat) (cur : Array Value), w.heap[b']? = some (.cells cur 3 (0, 0)) → (w.setCell ⟨Rb, i, none⟩ (.slice (some ⟨b, 0, none⟩) 1 1)).heap[b']? = w.heap[b']? := fun b' cur hc => Below.heap_setCell w _ _ b' (blocks_ne hc h1 (by decide))
  refine ⟨h.ge, ⟨vals.set i (.slice (some ⟨b, 0, none⟩) 1 1), ?_, by simp [h2], by simp [h3], fun k l hl => ?_⟩⟩
  · rw [heap_setCell_same w Rb i _ _ _ h1]; simp
  · by_cases hki : i = k
    · subst hki
      have hil : i < g.length := by have := (List.getElem?_eq_some_iff.1 hl).1; simpa using this
      rw [List.getElem?_set_self hil] at hl
      injection hl with hl
      subst hl
      refine ⟨some ⟨b, 0, none⟩, 1, by rw [List.getElem?_set_self (by omega)]; rfl, fun _ => ⟨b, _, rfl, (hk' b _ hb).trans hb, fun j x hx => ?_⟩⟩
      match j, hx with
      | 0, hx => cases hx; rfl
      | j + 1, hx => simp at hx
    · rw [List.getElem?_set_ne hki] at hl
      obtain ⟨A, c, h5, h6⟩ := h4 k l hl
      refine ⟨A, c, by rw [List.getElem?_set_ne hki]; exact h5, fun hp => ?_⟩
      obtain ⟨b', cur, h7, h8, h9⟩ := h6 hp
      exact ⟨b', cur, h7, (hk' b' cur h8).trans h8, h9⟩
theorem GB.has {w : World} {B Rb n : Nat} {g : Kn.G} (h : GB w B Rb n g) : HasG w w.heap.size (some ⟨Rb, 0, none⟩) n g := by
  obtain ⟨vals, h1, h2, h3, h4⟩ := h.ex
  refine ⟨h3, fun _ => ⟨Rb, 0, rfl, blk_lt h1, fun i l hl => ?_⟩⟩
  obtain ⟨A, c, h5, h6⟩ := h4 i l hl
  refine ⟨A, c, by rw [cell_block h1, Nat.zero_add, List.getElem?_toArray]; exact h5, fun hp => ?_⟩
  obtain ⟨b, cur, h7, h8, h9⟩ := h6 hp
  exact ⟨b, 0, h7, blk_lt h8, fun j x hx => by rw [cell_block h8, Nat.zero_add]; exact h9 j x hx⟩
theorem GB.cell {w : World} {B Rb n i : Nat} {g : Kn.G} (h : GB w B Rb n g) (hi : i < n) : (∃ v, w.cell? ⟨Rb, i, none⟩ = some v) ∧ w.frozen? ⟨Rb, i, none⟩ = false ∧ ∃ vals : List Value, w.heap[Rb]? = some (.cells vals.toArray 26 (0, 0)) := by
  obtain ⟨vals, h1, h2, _⟩ := h.ex
  exact ⟨⟨vals[i]'(by omega), by rw [cell_block h1, List.getElem?_toArray]; exact List.getElem?_eq_getElem _⟩, frozen_of_row _ Rb i _ _ h1, vals, h1⟩
structure CutRing (w : World) (n : Nat) (p q : Value) (wx : World) : Prop where
  ex : ∃ Rb Wb, p = .slice (some ⟨Rb, 0, none⟩) n n ∧ q = .slice (some ⟨Wb, 0, none⟩) n n ∧ Rb ≠ Wb ∧ GB wx w.heap.size Rb n (List.replicate n []) ∧ GB wx w.heap.size Wb n (List.replicate n [])
  below : Below w.heap.size w wx
theorem cut_ring1 (w : World) (n : Nat) : CutRing w n (.slice (some ⟨w.heap.size, 0, none⟩) n n) (.slice (some ⟨w.heap.size + 1, 0, none⟩) n n) ((w.alloc (.cells (madeCells #[Value.slice none 0 0] n) 26)).alloc (.cells (madeCells #[Value.slice none 0 0] n) 26)).drew := by
  refine ⟨⟨w.heap.size, w.heap.size + 1, rfl, rfl, by omega, (GB.start (Nat.le_refl _) (wr := (w.alloc _).alloc _) ?_).below (below_drewN (Below.refl _ _) 1), (GB.start (by omega) (wr := (w.alloc _).alloc _) ?_).below (below_drewN (Below.refl _ _) 1)⟩, below_drewN ((below_laid w _).alloc (by simp) _) 1⟩
  · rw [heap_at, if_neg (by rw [World.size_alloc]; omega), heap_at, if_pos rfl]
  · rw [heap_at, if_pos (by rw [World.size_alloc])]
theorem cut_ring2 (w : World) (n : Nat) : CutRing w n (.slice (some ⟨w.heap.size + 1, 0, none⟩) n n) (.slice (some ⟨w.heap.size, 0, none⟩) n n) ((w.alloc (.cells (madeCells #[Value.slice none 0 0] n) 26)).alloc (.cells (madeCells #[Value.slice none 0 0] n) 26)).drew := by
  refine ⟨⟨w.heap.size + 1, w.heap.size, rfl, rfl, by omega, (GB.start (by omega) (wr := (w.alloc _).alloc _) ?_).below (below_drewN (Below.refl _ _) 1), (GB.start (Nat.le_refl _) (wr := (w.alloc _).alloc _) ?_).below (below_drewN (Below.refl _ _) 1)⟩, below_drewN ((below_laid w _).alloc (by simp) _) 1⟩
  · rw [heap_at, if_pos (by rw [World.size_alloc])]
  · rw [heap_at, if_neg (by rw [World.size_alloc]; omega), heap_at, if_pos rfl]
structure LR1 (w : World) (Rb Wb n : Nat) (kv : Value) (wr : World) : Prop where
  ex : ∃ k : Nat, k ≤ n ∧ kv = .int .i64 (k : Nat) ∧ GB wr w.heap.size Rb n (Kn.gRing n k) ∧ GB wr w.heap.size Wb n (Kn.gRow n k)
  below : Below w.heap.size w wr
set_option maxRecDepth 100000 in
set_option maxHeartbeats 4000000 in
theorem lawRing (a : Int) (w : World) (ha : (Lit.int .u16 a).wf = true) :
    Calls Try.prog 5 #[.int .u16 a] w fun e w' => AliveE w e w' := by
  obtain ⟨k, rfl, hk⟩ : ∃ k : Nat, a = k ∧ k ≤ 65535 := by
    simp [Lit.wf, IntKind.min, IntKind.max, IntKind.signed, IntKind.bits] at ha
    exact ⟨a.toNat, by omega, by omega⟩
  clear ha
  have hmk := fun n (h1 : 24 * n ≤ 281474976710656) (h2 : n ≤ 9223372036854775807) => run_make_row' (P := Try.prog) 22 26 (.slice none 0 0) 24 Try.underlying22 info_ints rfl .i64 .i64 n h1 h2
  have HMK := hide hmk
  clear hmk
  go_enter Try.func5, Try.ntmps5
  go_upto_region 2 with (fail)
  obtain ⟨n, hn⟩ : ∃ n, n = k % 3000 + 1 := ⟨_, rfl⟩
  rw [show ((k : Int) % 3000 + 1) = (n : Int) by omega]
  have n1 : 1 ≤ n := by omega
  have n2 : n ≤ 3000 := by omega
  have hmk := HMK.out n (by omega) (by omega)
  clear hn HMK
  go_cut [4, 5] from 16 to 19 (fun p q wx => CutRing w n p q wx)
  case first =>
    go_region
    all_goals (go_wp2_with fail; go_meet)
    all_goals first | exact cut_ring1 w n | exact cut_ring2 w n
  case rest =>
    obtain ⟨⟨Rb, Wb, rfl, rfl, hne, hR, hW⟩, hb⟩ := hcut
    rw [← Kn.gRing_zero] at hR
    rw [← Kn.gRow_zero] at hW
    have H0 := hide (And.intro hR (And.intro hW (And.intro hb hne)))
    have nz : (0 : Int) < n := by omega
    clear hR hW hb hne hmk
    go_wp2_with fail
    go_loopw [21] (fun kv wr => LR1 w Rb Wb n kv wr) (fun kv _ => n - (intOf kv).toNat)
    case atStart => exact ⟨⟨0, Nat.zero_le _, rfl, H0.out.1, H0.out.2.1⟩, H0.out.2.2.1⟩
    case round =>
      obtain ⟨⟨i, hi, rfl, hR, hW⟩, hb⟩ := hrel
      have i0 : (0 : Int) ≤ i := by omega
      by_cases hin : i < n
      · have i1 : (i : Int) < n := by omega
        have HR := hide (And.intro hR (And.intro hW hb))
        have hRa := hR.below (below_laid wr (.cells #[.int .i64 (((i : Int) + 1) % (n : Int))] 3))
        have hWa := hW.below (below_laid wr (.cells #[.int .i64 (((i : Int) + 1) % (n : Int))] 3))
        obtain ⟨⟨v, hc⟩, hf, vals, hv⟩ := hRa.cell hin
        have hRs := hRa.set (i := i) (heap_alloc_new wr (.cells #[.int .i64 (((i : Int) + 1) % (n : Int))] 3))
        have e : (Kn.gRing n i).set i [((i : Int) + 1) % (n : Int)] = Kn.gRing n (i + 1) := by
          rw [← Kn.gRing_set, Int.natCast_emod]; rfl
        rw [e] at hRs
        have hWs := hWa.far (p := ⟨Rb, i, none⟩) hv (fun e => H0.out.2.2.2 e.symm) (.slice (some ⟨wr.heap.size, 0, none⟩) 1 1)
        have hbs : Below w.heap.size w ((wr.alloc (.cells #[.int .i64 (((i : Int) + 1) % (n : Int))] 3)).setCell ⟨Rb, i, none⟩ (.slice (some ⟨wr.heap.size, 0, none⟩) 1 1)) := (hb.trans ((below_laid wr _).mono hb.size)).setCell (by exact hR.ge) _
        have HS := hide (And.intro hRs (And.intro hWs hbs))
        clear hR hW hb hRa hWa hv hRs hWs hbs e HR
        go_upto_region 7 with (fail)
        generalize (wr.alloc (.cells #[.int .i64 (((i : Int) + 1) % (n : Int))] 3)).setCell ⟨Rb, i, none⟩ (.slice (some ⟨wr.heap.size, 0, none⟩) 1 1) = X at *
        clear hc hf
        by_cases h0 : 0 < i
        · have h1 : (0 : Int) < i := by omega
          have hRa := HS.out.1.below (below_laid X (.cells #[.int .i64 ((i : Int) - 1)] 3))
          have hWa := HS.out.2.1.below (below_laid X (.cells #[.int .i64 ((i : Int) - 1)] 3))
          obtain ⟨⟨v2, hc⟩, hf, vals2, hv⟩ := hWa.cell hin
          have hWs := hWa.set (i := i) (heap_alloc_new X (.cells #[.int .i64 ((i : Int) - 1)] 3))
          have e : (Kn.gRow n i).set i [(i : Int) - 1] = Kn.gRow n (i + 1) := by
            rw [← Kn.gRow_set h0, show ((i - 1 : Nat) : Int) = (i : Int) - 1 by omega]
          rw [e] at hWs
          have hRs := hRa.far (p := ⟨Wb, i, none⟩) hv H0.out.2.2.2 (.slice (some ⟨X.heap.size, 0, none⟩) 1 1)
          have hbs : Below w.heap.size w ((X.alloc (.cells #[.int .i64 ((i : Int) - 1)] 3)).setCell ⟨Wb, i, none⟩ (.slice (some ⟨X.heap.size, 0, none⟩) 1 1)) := (HS.out.2.2.trans ((below_laid X _).mono HS.out.2.2.size)).setCell (by exact HS.out.2.1.ge) _
          have HS2 := hide (And.intro hRs (And.intro hWs hbs))
          clear hRa hWa hv hRs hWs hbs e
          go_wp2_with fail
          exact ⟨⟨⟨i + 1, by omega, by congr 1, HS2.out.1, HS2.out.2.1⟩, HS2.out.2.2⟩, by simp only [intOf]; omega⟩
        · obtain rfl : i = 0 := by omega
          have h1 : ¬ (0 : Int) < ((0 : Nat) : Int) := by omega
          have hWs := HS.out.2.1
          rw [Kn.gRow_one] at hWs
          have HS2 := hide (And.intro HS.out.1 (And.intro hWs HS.out.2.2))
          clear hWs
          go_wp2_with fail
          exact ⟨⟨⟨1, by omega, by congr 1, HS2.out.1, HS2.out.2.1⟩, HS2.out.2.2⟩, by simp only [intOf]; omega⟩
      · obtain rfl : i = n := by omega
        have i1 : ¬ (i : Int) < i := by omega
        have HR := hide (And.intro hR (And.intro hW hb))
        clear hR hW hb
        have hAr : ∀ j, (Kn.arcs (Kn.gRing i i) j).length ≤ 1000000 := fun j => Nat.le_trans (Kn.gRing_arcs i i j) (by decide)
        have hAw : ∀ j, (Kn.arcs (Kn.gRow i i) j).length ≤ 1000000 := fun j => Nat.le_trans (Kn.gRow_arcs i i j) (by decide)
        have HAA := hide (And.intro hAr hAw)
        clear hAr hAw hin hi nz
        go_upto_region 11 with (first | (go_at_call 10; (with_reducible refine (of_any i i wr.heap.size (some ⟨Rb, 0, none⟩) (Kn.gRing i i) wr HR.out.1.has (Nat.le_refl _) (by omega) HAA.out.1).mono ?_); rintro e w1 ⟨⟨A1, c1, of1, rfl, hI1, ho1⟩, hb1⟩; have H1 := hide (And.intro hI1 (And.intro ho1 hb1)); clear hI1 ho1 hb1) | (go_at_call 12; (with_reducible refine (order_any i i wr.heap.size (some ⟨Rb, 0, none⟩) (Kn.gRing i i) w1 (HR.out.1.has.below H1.out.2.2) H1.out.2.2.size (by omega) HAA.out.1).mono ?_); intro e w2 he2; obtain ⟨⟨A2, m2, c2, rfl, hI2, hm2⟩, hb2⟩ := he2.to2 H1.out.2.1; rw [Kn.ring_order H1.out.2.1 (by omega)] at hI2; obtain rfl : 1 = m2 := hI2.len; have H2 := hide (And.intro hI2 (And.intro (H1.out.1.below hb2) (H1.out.2.2.trans (hb2.mono H1.out.2.2.size)))); clear hI2 hb2 hm2 he2) | (go_at_call 10; (with_reducible refine (of_any i i wr.heap.size (some ⟨Wb, 0, none⟩) (Kn.gRow i i) w2 (HR.out.2.1.has.below H2.out.2.2) H2.out.2.2.size (by omega) HAA.out.2).mono ?_); rintro e w3 ⟨⟨A3, c3, of3, rfl, hI3, ho3⟩, hb3⟩; have H3 := hide (And.intro hI3 (And.intro ho3 (And.intro (H2.out.1.below hb3) (And.intro (H2.out.2.1.below hb3) (H2.out.2.2.trans (hb3.mono H2.out.2.2.size)))))); clear hI3 ho3 hb3) | (go_at_call 12; (with_reducible refine (order_any i i wr.heap.size (some ⟨Wb, 0, none⟩) (Kn.gRow i i) w3 (HR.out.2.1.has.below H3.out.2.2.2.2) H3.out.2.2.2.2.size (by omega) HAA.out.2).mono ?_); intro e w4 he4; obtain ⟨⟨A4, m4, c4, rfl, hI4, hm4⟩, hb4⟩ := he4.to2 H3.out.2.1; obtain rfl : i = m4 := (Kn.row_order H3.out.2.1).1.symm.trans hI4.len; have H4 := hide (And.intro hI4 (And.intro (H3.out.1.below hb4) (And.intro (H3.out.2.2.1.below hb4) (And.intro (H3.out.2.2.2.1.below hb4) (H3.out.2.2.2.2.trans (hb4.mono H3.out.2.2.2.2.size)))))); clear hI4 hb4 hm4 he4))
        obtain ⟨g2, rfl, _, _, hb0⟩ := H4.out.2.2.1.cell (k := 0) (x := 0) rfl
        have hb0' : w4.cell? ⟨g2, 0, none⟩ = some (.int .i64 0) := hb0
        clear hb0
        have hbt : Below w.heap.size w w4 := HR.out.2.2.trans (H4.out.2.2.2.2.mono HR.out.2.2.size)
        have HB := hide hbt
        clear hbt
        go_wp2_with fail
        clear hb0'
        go_loop [77] (fun kv => ∃ q : Nat, q ≤ i ∧ kv = .int .i64 (q : Nat)) (fun kv => i - (intOf kv).toNat)
        case atStart => exact ⟨0, Nat.zero_le _, rfl⟩
        case round =>
          obtain ⟨q, hq, rfl⟩ := hrel
          have q0 : (0 : Int) ≤ q := by omega
          by_cases hqi : q < i
          · have q1 : (q : Int) < i := by omega
            have e1 := Kn.ring_of H1.out.2.1 hqi
            have e3 := Kn.row_of H3.out.2.1 hqi
            have e4 := (Kn.row_order H3.out.2.1).2 q hqi
            obtain ⟨ga, rfl, _, _, hca⟩ := H4.out.2.2.2.1.cell (k := q) (x := 0) (by rw [← e1, List.getD_eq_getElem?_getD, List.getElem?_eq_getElem (by have := H1.out.1.len; omega)]; rfl)
            obtain ⟨gc, rfl, _, _, hcc⟩ := H4.out.2.1.cell (k := q) (x := q) (by
              have h9 : of3[q]? = some (of3.getD q 0) := by rw [List.getD_eq_getElem?_getD, List.getElem?_eq_getElem (by have := H3.out.1.len; omega)]; rfl
              rw [h9, e3])
            obtain ⟨gd, rfl, _, _, hcd⟩ := H4.out.1.cell e4
            rw [show ((i - 1 - q : Nat) : Int) = (i : Int) - 1 - q by omega] at hcd
            have hca' : w4.cell? ⟨ga, q, none⟩ = some (.int .i64 0) := hca
            clear hca e1 e3 e4
            go_wp2_with fail
            exact ⟨⟨q + 1, by omega, by congr 1⟩, by simp only [intOf]; omega⟩
          · obtain rfl : q = i := by omega
            have q1 : ¬ (q : Int) < q := by omega
            go_wp2_with (go_at_call 8; refine (alive_any _).mono ?_; rintro e w7 ⟨rfl, hb7⟩; have H7 := hide (HB.out.trans (hb7.mono HB.out.size)); clear hb7)
            go_ret
            exact ⟨rfl, H7.out⟩
end Go.Proofs.Ytgmppddlgbkjmaa
