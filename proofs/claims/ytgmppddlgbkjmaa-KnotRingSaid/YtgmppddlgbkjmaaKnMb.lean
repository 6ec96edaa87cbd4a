/- The rows of the knots' members, in memory. -/
import Derived.Test.YtgmppddlgbkjmaaKnPut
import Derived.Test.YtgmppddlgbkjmaaKnOrd3
namespace Go.Proofs.Ytgmppddlgbkjmaa
open Go.RowKit

namespace Kn
theorem restM_le {g : G} {of : List Nat} {x M : Nat} (hM : ∀ i, (outs g i).length ≤ M) : ∀ l : List Nat, restM g of x l ≤ l.length * M
  | [] => by simp [restM]
  | i :: l => by
    have h1 := restM_le (of := of) (x := x) hM l
    have h2 := Nat.le_trans (cntRow_le of x (outs g i)) (hM i)
    simp only [restM, List.map_cons, List.sum_cons, List.length_cons, Nat.add_mul] at h1 ⊢
    omega
theorem Kw.bound {g : G} {of out ready left cur ms : List Nat} {a x M N : Nat} (h : Kw g of out a ready left cur ms) (hM : ∀ i, (outs g i).length ≤ M) (hc : cur.length ≤ M) (hm : ms.length ≤ N) (hN : g.length ≤ N) (hx : x < g.length) (hxa : x ≠ a) : left.getD x 0 ≤ N * M + M + N * M := by
  rw [h.lft x hx hxa]
  have h1 : cnt g of (out ++ [a]) x ≤ g.length * M := pc_le hM x g.length
  have h2 := Nat.le_trans (cntRow_le of x cur) hc
  have h3 := restM_le (of := of) (x := x) hM ms
  have h4 := Nat.mul_le_mul_right M hm
  have h5 := Nat.mul_le_mul_right M hN
  omega
theorem outsD_le (g : G) (i j : Nat) : (outsD g i j).length ≤ (arcs g i).length := by
  unfold outsD
  rw [List.length_map]
  refine Nat.le_trans (List.length_filter_le _ _) ?_
  rw [List.length_drop]
  omega
end Kn
structure MB (wr : World) (B Mb n : Nat) (rows : Nat → List Nat) : Prop where
  ex : ∃ vals : List Value, wr.heap[Mb]? = some (.cells vals.toArray 26 (0, 0)) ∧ vals.length = n ∧ (∀ k, k < n → ∃ A m c, vals[k]? = some (.slice A m c) ∧ IR wr B A m c (rows k)) ∧
    (∀ (k k' : Nat) (v v' : Value) (b : Nat), k ≠ k' → vals[k]? = some v → vals[k']? = some v' → v.ownBlock = some b → v'.ownBlock ≠ some b)
theorem made_slices (n : Nat) : madeCells #[Value.slice none 0 0] n = (List.replicate n (Value.slice none 0 0)).toArray := by
  apply Array.toList_inj.1
  rw [toList_madeCells_one]
theorem MB.start {wr : World} {Mb n : Nat} (B : Nat) (h : wr.heap[Mb]? = some (.cells (List.replicate n (Value.slice none 0 0)).toArray 26 (0, 0))) : MB wr B Mb n (fun _ => []) := by
  refine ⟨⟨_, h, by simp, fun k hk => ⟨none, 0, 0, by simp [hk], IR.nil _ _⟩, fun k k' v v' b _ hv _ hb => ?_⟩⟩
  rw [List.getElem?_replicate] at hv
  split at hv
  · injection hv with hv; subst hv; cases hb
  · cases hv
theorem MB.below {w w' : World} {B Mb n : Nat} {rows : Nat → List Nat} (h : MB w B Mb n rows) (hb : Below w.heap.size w w') : MB w' B Mb n rows := by
  obtain ⟨vals, h1, h2, h3, h4⟩ := h.ex
  exact ⟨⟨vals, (hb.block _ (blk_lt h1)).trans h1, h2, fun k hk => by obtain ⟨A, m, c, h5, h6⟩ := h3 k hk; exact ⟨A, m, c, h5, h6.below hb⟩, h4⟩⟩
theorem MB.rows {w : World} {B Mb n : Nat} {rows rows' : Nat → List Nat} (h : MB w B Mb n rows) (he : ∀ k, k < n → rows k = rows' k) : MB w B Mb n rows' := by
  obtain ⟨vals, h1, h2, h3, h4⟩ := h.ex
  exact ⟨⟨vals, h1, h2, fun k hk => by rw [← he k hk]; exact h3 k hk, h4⟩⟩
/-- A member appended to its knot's row. -/
theorem MB.add {w w' : World} {B Mb n a m c c' i : Nat} {A A' : Option Addr} {rows : Nat → List Nat} {l : List Nat} (h : MB w B Mb n rows) (ha : a < n) (hv : w.cell? ⟨Mb, a, none⟩ = some (.slice A m c))
    (hr : IR w' B A' (m + 1) c' (l ++ [i])) (hl : l = rows a) (hg : w.grownBy w' (Value.slice A m c).ownBlock) (hob : (Value.slice A' (m + 1) c').ownBlock = (Value.slice A m c).ownBlock ∨ (Value.slice A' (m + 1) c').ownBlock = some w.heap.size) :
    MB (w'.setCell ⟨Mb, a, none⟩ (.slice A' (m + 1) c')) B Mb n (fun k => if k = a then rows k ++ [i] else rows k) ∧ w'.cell? ⟨Mb, a, none⟩ = some (.slice A m c) ∧ w'.frozen? ⟨Mb, a, none⟩ = false := by
  obtain ⟨vals, h1, h2, h3, h4⟩ := h.ex
  obtain ⟨A0, m0, c0, h5, h6⟩ := h3 a ha
  have hvv : vals[a]? = some (.slice A m c) := by rw [cell_block h1, List.getElem?_toArray] at hv; exact hv
  rw [hvv] at h5
  cases h5
  have hne : (Value.slice A m c).ownBlock ≠ some Mb := RowZ.ne_type h6.row h1 (by decide)
  have hM : w'.heap[Mb]? = some (.cells vals.toArray 26 (0, 0)) := (hg.block Mb (blk_lt h1) (fun e => hne e.symm)).trans h1
  refine ⟨⟨⟨vals.set a (.slice A' (m + 1) c'), ?_, by simp [h2], fun k hk => ?_, fun k k' v v' b hkk hk hk' hb => ?_⟩⟩, by rw [cell_block hM, List.getElem?_toArray]; exact hvv, frozen_of_row _ Mb a _ _ hM⟩
  · rw [heap_setCell_same w' Mb a _ _ _ hM]; simp
  · by_cases hka : k = a
    · subst hka
      refine ⟨A', m + 1, c', by rw [List.getElem?_set_self (by omega)], ?_⟩
      rw [if_pos rfl, ← hl]
      exact hr.far (p := ⟨Mb, k, none⟩) (RowZ.ne_type hr.row hM (by decide)) _
    · obtain ⟨A1, m1, c1, h7, h8⟩ := h3 k hk
      refine ⟨A1, m1, c1, by rw [List.getElem?_set_ne (fun e => hka e.symm)]; exact h7, ?_⟩
      rw [if_neg hka]
      have h9 := h8.keep hg fun b hb => h4 k a _ _ b hka h7 hvv hb
      exact h9.far (p := ⟨Mb, a, none⟩) (RowZ.ne_type h9.row hM (by decide)) _
  · have hold : ∀ (k : Nat) (v : Value) (b : Nat), k ≠ a → (vals.set a (.slice A' (m + 1) c'))[k]? = some v → v.ownBlock = some b → vals[k]? = some v ∧ b < w.heap.size ∧ (Value.slice A m c).ownBlock ≠ some b := fun k v b hka hk hb => by
      rw [List.getElem?_set_ne (fun e => hka e.symm)] at hk
      have hkn : k < n := by rw [← h2]; exact (List.getElem?_eq_some_iff.1 hk).1
      obtain ⟨A1, m1, c1, h7, h8⟩ := h3 k hkn
      rw [h7] at hk
      injection hk with hk
      subst hk
      exact ⟨h7, RowZ.lt h8.row b hb, h4 k a _ _ b hka h7 hvv hb⟩
    have hnew : ∀ (v : Value), (vals.set a (.slice A' (m + 1) c'))[a]? = some v → v = .slice A' (m + 1) c' := fun v hk => by
      rw [List.getElem?_set_self (by omega)] at hk
      injection hk with hk
      exact hk.symm
    by_cases hka : k = a
    · subst hka
      rw [hnew v hk] at hb
      intro hb'
      obtain ⟨_, h8, h9⟩ := hold k' v' b (fun e => hkk e.symm) hk' hb'
      rcases hob with e | e
      · rw [e] at hb; exact h9 hb
      · rw [e] at hb; injection hb with hb; omega
    · obtain ⟨h7, h8, h9⟩ := hold k v b hka hk hb
      by_cases hka' : k' = a
      · subst hka'
        rw [hnew v' hk']
        intro hb'
        rcases hob with e | e
        · rw [e] at hb'; exact h9 hb'
        · rw [e] at hb'; injection hb' with hb'; omega
      · rw [List.getElem?_set_ne (fun e => hka' e.symm)] at hk'
        exact h4 k k' v v' b hkk h7 hk' hb
/-- While the order is made: the box of what is ready, its row, and what is left. -/
structure OW (W4 : World) (R L B1 n : Nat) (A : Option Addr) (m c : Nat) (ready left : List Nat) (wr : World) : Prop where
  box : wr.heap[R]? = some (boxR A m c)
  rdy : IR wr W4.heap.size A m c ready
  lft : IR wr B1 (some ⟨L, 0, none⟩) n n left
  kp : Kp (fun b => b = R ∨ b = L) W4 wr
section
variable {W4 wr w' : World} {R L B1 n m c : Nat} {A : Option Addr} {ready left : List Nat}
theorem IR.kept {w w' : World} {B m c : Nat} {A : Option Addr} {l : List Nat} (h : IR w B A m c l) (hk : ∀ b, (Value.slice A m c).ownBlock = some b → w'.heap[b]? = w.heap[b]?) : IR w' B A m c l := ⟨RowZ.keep h.row hk, h.own⟩
theorem OW.ne (h : OW W4 R L B1 n A m c ready left wr) : R ≠ L := by
  have h1 := h.box
  rcases h.lft.row with ⟨h0, _⟩ | ⟨g, cap, cur, h0, hh, _⟩
  · cases h0
  · simp only [Value.slice.injEq, Option.some.injEq, Addr.mk.injEq, and_true] at h0
    obtain ⟨rfl, _, _⟩ := h0
    exact blocks_ne h1 hh (by decide)
theorem OW.cell (h : OW W4 R L B1 n A m c ready left wr) : wr.cell? ⟨R, 0, none⟩ = some (.slice A m c) ∧ wr.frozen? ⟨R, 0, none⟩ = false := by
  have h1 := h.box
  unfold boxR at h1
  exact ⟨by rw [cell_block h1]; rfl, frozen_of_row _ R 0 _ _ h1⟩
theorem OW.ownR (h : OW W4 R L B1 n A m c ready left wr) : (Value.slice A m c).ownBlock ≠ some R := RowZ.ne_type h.rdy.row h.box (by decide)
theorem OW.put {k : Nat} {e : Ending} (h : OW W4 R L B1 n A m c ready left wr) (hL : L < W4.heap.size) (hp : PutE R W4.heap.size m k ready (Value.slice A m c).ownBlock wr e w') :
    ∃ A' c' q, q ≤ m ∧ OW W4 R L B1 n A' (m + 1) c' (ready.take q ++ k :: ready.drop q) left w' ∧ (∀ b, (Value.slice A' (m + 1) c').ownBlock = some b → (Value.slice A m c).ownBlock = some b ∨ wr.heap.size ≤ b) ∧
      (∀ x, 0 < q → ready[q - 1]? = some x → k ≤ x) ∧ (∀ (p x : Nat), q ≤ p → ready[p]? = some x → x < k) := by
  obtain ⟨A', c', q, hq, h1, h2, h3, h4, h5⟩ := hp.ex
  have hsz := h.kp.size
  refine ⟨A', c', q, hq, ⟨h1, h2, h.lft.kept fun b hb => ?_, ⟨hp.kp.os.trans h.kp.os, hp.kp.tape.trans h.kp.tape, hp.kp.output.trans h.kp.output, Nat.le_trans hsz hp.kp.size, fun b hb hs => ?_⟩⟩, h3, h4, h5⟩
  · simp only [Value.ownBlock, Option.some.injEq] at hb
    subst hb
    refine hp.kp.block L (by omega) fun hs => ?_
    rcases hs with e | e
    · exact h.ne e.symm
    · have := h.rdy.own L e; omega
  · refine (hp.kp.block b (by omega) fun hs2 => ?_).trans (h.kp.block b hb hs)
    rcases hs2 with e | e
    · exact hs (.inl e)
    · have := h.rdy.own b e; omega
theorem OW.setLeft (h : OW W4 R L B1 n A m c ready left wr) (hL : L < W4.heap.size) (y v : Nat) : OW W4 R L B1 n A m c ready (left.set y v) (wr.setCell ⟨L, y, none⟩ (.int .i64 (v : Nat))) :=
  ⟨(Below.heap_setCell wr ⟨L, y, none⟩ _ R h.ne).trans h.box, h.rdy.far (p := ⟨L, y, none⟩) (fun e => by have := h.rdy.own L e; omega) _, h.lft.set y v, h.kp.setCell (.inl (.inr rfl)) _⟩
theorem OW.pop {g q a : Nat} {r : List Nat} (h : OW W4 R L B1 n (some ⟨g, 0, none⟩) (q + 1) c (r ++ [a]) left wr) : OW W4 R L B1 n (some ⟨g, 0, none⟩) q c r left (wr.setCell ⟨R, 0, none⟩ (.slice (some ⟨g, 0, none⟩) q c)) := by
  have hl := h.rdy.len
  rw [List.length_append, List.length_singleton] at hl
  have hb := h.rdy.bound
  have hcut := RowZ.cut h.rdy.row (k := q) (c' := c) (by omega) (by omega) (Nat.le_refl _) (by simp)
  have e : (intsV (r ++ [a])).take (q * 1) = intsV r := by
    rw [Nat.mul_one, show q = r.length by omega]; simp [intsV]
  rw [e] at hcut
  have hg : g ≠ R := fun e => h.ownR (by rw [← e]; rfl)
  refine ⟨?_, ⟨RowZ.far hcut (p := ⟨R, 0, none⟩) (fun e => hg (by simpa [Value.ownBlock] using e)) _, h.rdy.own⟩, h.lft.far (p := ⟨R, 0, none⟩) (fun e => h.ne (by simpa [Value.ownBlock] using e.symm)) _, h.kp.setCell (.inl (.inl rfl)) _⟩
  have h1 := h.box
  unfold boxR at h1
  rw [heap_setCell_same wr R 0 _ _ _ h1]
  rfl
theorem OW.below (h : OW W4 R L B1 n A m c ready left wr) (hb : Below wr.heap.size wr w') : OW W4 R L B1 n A m c ready left w' :=
  ⟨(hb.block _ (blk_lt h.box)).trans h.box, h.rdy.below hb, h.lft.below hb, ⟨hb.os.trans h.kp.os, hb.tape.trans h.kp.tape, hb.output.trans h.kp.output, Nat.le_trans h.kp.size hb.size, fun b hlt hs => (hb.block b (Nat.lt_of_lt_of_le hlt h.kp.size)).trans (h.kp.block b hlt hs)⟩⟩
/-- Another row of one's own grows. -/
theorem OW.grown {own : Option Nat} (h : OW W4 R L B1 n A m c ready left wr) (hR : R < W4.heap.size) (hL : L < W4.heap.size) (hg : wr.grownBy w' own) (ho : ∀ b, own = some b → W4.heap.size ≤ b) (hne : ∀ b, own = some b → (Value.slice A m c).ownBlock ≠ some b) : OW W4 R L B1 n A m c ready left w' := by
  have hsz := h.kp.size
  refine ⟨(hg.block R (by omega) fun e => by have := ho R e.symm; omega).trans h.box, h.rdy.keep hg fun b hb e => hne b e hb, h.lft.keep hg fun b hb e => ?_, ⟨hg.os.trans h.kp.os, hg.tape.trans h.kp.tape, hg.output.trans h.kp.output, Nat.le_trans hsz hg.size, fun b hlt hs => (hg.block b (by omega) fun e => by have := ho b e.symm; omega).trans (h.kp.block b hlt hs)⟩⟩
  · simp only [Value.ownBlock, Option.some.injEq] at hb
    have := ho b e
    omega
end
end Go.Proofs.Ytgmppddlgbkjmaa
