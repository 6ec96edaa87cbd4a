/- What tree.Read has in memory: the brackets that are open, and the row of trees at the innermost level. -/
import Derived.Test.YtokfcnjmgnmncaaTrSmall
namespace Go.Proofs.Ytokfcnjmgnmncaa
open Go.RowKit

abbrev Lev := Lx.T × Tr.Fo × Value
def levV (x : Lev) : List Value := [.int .u8 x.1.kind, .string x.1.text, .int .i64 x.1.pos, x.2.2]
def levelV (S : List Lev) : List Value := S.flatMap levV
theorem levelV_len : ∀ S : List Lev, (levelV S).length = S.length * 4
  | [] => rfl
  | x :: S => by
    have := levelV_len S
    simp only [levelV] at this
    simp only [levelV, List.flatMap_cons, List.length_append, this, List.length_cons]
    simp [levV]; omega
theorem levelV_snoc (S : List Lev) (x : Lev) : levelV (S ++ [x]) = levelV S ++ levV x := by simp [levelV]
/-- The blocks of one level. -/
def okc (B : Nat) (W : World) (col : Nat → Nat) (i : Nat) : Nat → Prop := fun b => B ≤ b ∧ b < W.heap.size ∧ col b = i

structure TrSt (B : Nat) (W : World) (vo vr : Value) (S : List Lev) (row : Tr.Fo) (col : Nat → Nat) : Prop where
  opened : RowZ W 44 4 vo S.length (levelV S.reverse)
  own : ∀ g, vo.ownBlock = some g → B ≤ g ∧ col g = 0
  ahead : ∀ (j : Nat) (x : Lev), S[j]? = some x → TreeRow W (okc B W col (S.length - j)) x.2.2 x.2.1
  last : TreeRow W (okc B W col (S.length + 1)) vr row

section
variable {B : Nat} {W W' : World} {vo vr v' : Value} {S : List Lev} {row : Tr.Fo} {col : Nat → Nat}
theorem TrSt.below (h : TrSt B W vo vr S row col) (hb : Below W.heap.size W W') : TrSt B W' vo vr S row col :=
  ⟨RowZ.below h.opened hb, h.own, fun j x hx => (h.ahead j x hx).keep fun b hb' => ⟨⟨hb'.1, Nat.lt_of_lt_of_le hb'.2.1 hb.size, hb'.2.2⟩, hb.block b hb'.2.1⟩,
    h.last.keep fun b hb' => ⟨⟨hb'.1, Nat.lt_of_lt_of_le hb'.2.1 hb.size, hb'.2.2⟩, hb.block b hb'.2.1⟩⟩
theorem TrSt.nil (B : Nat) (W : World) : TrSt B W (.slice none 0 0) (.slice none 0 0) [] .nil (fun _ => 0) :=
  ⟨RowZ.nil, fun g h => by simp [Value.ownBlock] at h, fun j x h => by simp at h, TreeRow.nil⟩

/-- One tree more at the innermost level. -/
theorem TrSt.plain {xs : List Value} {t : Lx.T} {e : Int} (h : TrSt B W vo vr S row col) (hB : B ≤ W.heap.size)
    (r2 : ∀ g, vr.ownBlock = some g → okc B W col (S.length + 1) g) (r3 : Elems W (fun b => okc B W col (S.length + 1) b ∧ vr.ownBlock ≠ some b) row xs)
    (hgr : W.grownBy W' vr.ownBlock) (hrow : RowZ W' 37 5 v' (row.len + 1) (xs ++ treeV t none 0 0 e)) (hob : v'.ownBlock = vr.ownBlock ∨ v'.ownBlock = some W.heap.size) :
    TrSt B W' vo v' S (row.snoc t .nil e) (fun b => if b = W.heap.size then S.length + 1 else col b) := by
  have hne : ∀ b, b < W.heap.size → (if b = W.heap.size then S.length + 1 else col b) = col b := fun b hb => if_neg (by omega)
  have hside : ∀ b i, okc B W col i b → i ≠ S.length + 1 → some b ≠ vr.ownBlock := fun b i hb hi he => by
    have := (r2 b he.symm).2.2
    have := hb.2.2
    omega
  refine ⟨h.opened.keep fun g hg => hgr.block g (RowZ.lt h.opened g hg) ?_, fun g hg => ⟨(h.own g hg).1, by show (if _ then _ else _) = _; rw [hne g (RowZ.lt h.opened g hg)]; exact (h.own g hg).2⟩, fun j x hx => ?_, ?_⟩
  · intro he
    have h1 := (r2 g he.symm).2.2
    have h2 := (h.own g hg).2
    omega
  · refine (h.ahead j x hx).keep fun b hb => ⟨⟨hb.1, Nat.lt_of_lt_of_le hb.2.1 hgr.size, by show (if _ then _ else _) = _; rw [hne b hb.2.1]; exact hb.2.2⟩, hgr.block b hb.2.1 (hside b _ hb (by omega))⟩
  · refine TreeRow.snoc (okk := fun _ => False) r2 r3 ⟨rfl, Nat.le_refl _, Nat.zero_le _, fun h => absurd h (Nat.lt_irrefl 0)⟩ hgr hrow hob (fun b hb => ⟨⟨hb.1, Nat.lt_of_lt_of_le hb.2.1 hgr.size, by show (if _ then _ else _) = _; rw [hne b hb.2.1]; exact hb.2.2⟩, hb.2.1⟩) (fun b hb => hb.elim) (fun hn => ⟨hB, RowZ.lt hrow _ hn, if_pos rfl⟩)

/-- One bracket more. -/
theorem TrSt.push {t : Lx.T} (h : TrSt B W vo vr S row col) (hB : B ≤ W.heap.size) (hgr : W.grownBy W' vo.ownBlock)
    (hrow : RowZ W' 44 4 v' (S.length + 1) (levelV S.reverse ++ levV (t, row, vr))) (hob : v'.ownBlock = vo.ownBlock ∨ v'.ownBlock = some W.heap.size) :
    TrSt B W' v' (.slice none 0 0) ((t, row, vr) :: S) .nil (fun b => if b = W.heap.size then 0 else col b) := by
  have hne : ∀ b, b < W.heap.size → (if b = W.heap.size then 0 else col b) = col b := fun b hb => if_neg (by omega)
  have hkeep : ∀ i, 0 < i → ∀ b, okc B W col i b → okc B W' (fun b => if b = W.heap.size then 0 else col b) i b ∧ W'.heap[b]? = W.heap[b]? := fun i hi b hb => by
    refine ⟨⟨hb.1, Nat.lt_of_lt_of_le hb.2.1 hgr.size, by show (if _ then _ else _) = _; rw [hne b hb.2.1]; exact hb.2.2⟩, hgr.block b hb.2.1 fun he => ?_⟩
    have := (h.own b he.symm).2
    have := hb.2.2
    omega
  refine ⟨?_, fun g hg => ?_, fun j x hx => ?_, TreeRow.nil⟩
  · rw [List.reverse_cons, levelV_snoc]; exact hrow
  · rcases hob with ho | ho
    · have := h.own g (ho ▸ hg)
      exact ⟨this.1, by show (if _ then _ else _) = _; rw [hne g (RowZ.lt h.opened g (ho ▸ hg))]; exact this.2⟩
    · rw [ho] at hg
      simp only [Option.some.injEq] at hg
      subst hg
      exact ⟨hB, if_pos rfl⟩
  · cases j with
    | zero =>
      simp only [List.getElem?_cons_zero, Option.some.injEq] at hx
      subst hx
      exact h.last.keep (hkeep _ (by omega))
    | succ j =>
      simp only [List.getElem?_cons_succ] at hx
      have hj := (List.getElem?_eq_some_iff.1 hx).1
      have := (h.ahead j x hx).keep (hkeep _ (by omega))
      rw [show ((t, row, vr) :: S).length - (j + 1) = S.length - j by simp]
      exact this

/-- One bracket is closed. -/
theorem TrSt.pop {x : Lev} {xs : List Value} {e : Int} {A Ao : Option Addr} {n c no co : Nat} (h : TrSt B W vo (.slice A n c) (x :: S) row col) (hB : B ≤ W.heap.size) (hvo : vo = .slice Ao no co)
    (r2 : ∀ g, x.2.2.ownBlock = some g → okc B W col (S.length + 1) g) (r3 : Elems W (fun b => okc B W col (S.length + 1) b ∧ x.2.2.ownBlock ≠ some b) x.2.1 xs)
    (hgr : W.grownBy W' x.2.2.ownBlock) (hrow : RowZ W' 37 5 v' (x.2.1.len + 1) (xs ++ treeV x.1 A n c e)) (hob : v'.ownBlock = x.2.2.ownBlock ∨ v'.ownBlock = some W.heap.size) :
    TrSt B W' (.slice Ao S.length S.length) v' S (x.2.1.snoc x.1 row e) (fun b => if b = W.heap.size then S.length + 1 else if col b = S.length + 2 then S.length + 1 else col b) := by
  have hlen : (x :: S).length = S.length + 1 := rfl
  have hne : ∀ b, b < W.heap.size → col b ≠ S.length + 2 → (if b = W.heap.size then S.length + 1 else if col b = S.length + 2 then S.length + 1 else col b) = col b := fun b hb hc => by rw [if_neg (by omega), if_neg hc]
  have hcut : RowZ W 44 4 (.slice Ao S.length S.length) S.length (levelV S.reverse) := by
    have ho := h.opened
    rw [hvo] at ho
    obtain ⟨A1, c1, he, hc1, hm1⟩ := RowZ.form ho
    simp only [Value.slice.injEq] at he
    obtain ⟨rfl, rfl, rfl⟩ := he
    have := RowZ.cut ho (k := S.length) (c' := S.length) (by simp) (Nat.le_refl _) (by simp at hc1; omega) (fun hn => by
      obtain ⟨g, hg⟩ := RowZ.addr ho (by simp)
      rw [hn] at hg; cases hg)
    rw [List.reverse_cons, levelV_snoc, List.take_left' (by rw [levelV_len, List.length_reverse])] at this
    exact this
  have hown2 : (Value.slice Ao S.length S.length).ownBlock = vo.ownBlock := by rw [hvo]; cases Ao <;> rfl
  refine ⟨hcut.keep fun g hg => ?_, fun g hg => ?_, fun j y hy => ?_, ?_⟩
  · rw [hown2] at hg
    refine hgr.block g (RowZ.lt h.opened g hg) fun he => ?_
    have h1 := (r2 g he.symm).2.2
    have h2 := (h.own g hg).2
    omega
  · rw [hown2] at hg
    have := h.own g hg
    refine ⟨this.1, ?_⟩
    show (if _ then _ else _) = _
    rw [hne g (RowZ.lt h.opened g hg) (by omega)]
    exact this.2
  · have hj := (List.getElem?_eq_some_iff.1 hy).1
    have h1 := h.ahead (j + 1) y (by simpa using hy)
    rw [hlen, show S.length + 1 - (j + 1) = S.length - j by omega] at h1
    refine h1.keep fun b hb => ⟨⟨hb.1, Nat.lt_of_lt_of_le hb.2.1 hgr.size, ?_⟩, hgr.block b hb.2.1 fun he => ?_⟩
    · show (if _ then _ else _) = _
      rw [hne b hb.2.1 (by have := hb.2.2; omega)]
      exact hb.2.2
    · have h2 := (r2 b he.symm).2.2
      have := hb.2.2
      omega
  · have hl := h.last
    rw [hlen] at hl
    refine TreeRow.snoc r2 r3 hl.holds hgr hrow hob (fun b hb => ⟨⟨hb.1, Nat.lt_of_lt_of_le hb.2.1 hgr.size, ?_⟩, hb.2.1⟩) (fun b hb => ⟨⟨hb.1, Nat.lt_of_lt_of_le hb.2.1 hgr.size, ?_⟩, hb.2.1, fun he => ?_⟩) (fun hn => ⟨hB, RowZ.lt hrow _ hn, if_pos rfl⟩)
    · show (if _ then _ else _) = _
      rw [hne b hb.2.1 (by have := hb.2.2; omega)]
      exact hb.2.2
    · show (if _ then _ else _) = _
      have := hb.2.1
      rw [if_neg (by omega), if_pos hb.2.2]
    · have h2 := (r2 b he).2.2
      have := hb.2.2
      omega
/-- The innermost bracket's cells. -/
theorem TrSt.top {x : Lev} {g c : Nat} {no : Nat} (h : TrSt B W (.slice (some ⟨g, 0, none⟩) no c) vr (x :: S) row col) :
    W.cell? ⟨g, S.length * 4, none⟩ = some (.int .u8 x.1.kind) ∧ W.cell? ⟨g, S.length * 4 + 1, none⟩ = some (.string x.1.text) ∧ W.cell? ⟨g, S.length * 4 + 2, none⟩ = some (.int .i64 x.1.pos) ∧ W.cell? ⟨g, S.length * 4 + 3, none⟩ = some x.2.2 := by
  have ho := h.opened
  have hl := levelV_len (x :: S).reverse
  rw [List.length_reverse, List.length_cons] at hl
  have hv : levelV (x :: S).reverse = levelV S.reverse ++ levV x := by rw [List.reverse_cons, levelV_snoc]
  have hl2 : (levelV S.reverse).length = S.length * 4 := by rw [levelV_len, List.length_reverse]
  refine ⟨?_, ?_, ?_, ?_⟩
  all_goals
    rw [RowZ.cell ho (by omega), hv, List.getElem?_append_right (by omega), hl2]
    simp [levV]
end

theorem info_level : (Try.prog.info? 44).map (fun i => (i.zero, i.size, i.bytes)) = some (some (.agg #[.int .u8 0, .string ByteArray.empty, .int .i64 0, .slice none 0 0]), 4, 56) := by kernel_rfl
theorem level_news {w : World} {b : Nat} {t : Lx.T} {f : Tr.Fo} {A : Option Addr} {n c : Nat} (h : w.heap[b]? = some (.cells #[.int .u8 t.kind, .string t.text, .int .i64 t.pos, .slice A n c] 44 (0, 0))) :
    Src Try.prog 4 40 (.slice (some ⟨b, 0, none⟩) 1 1) 1 (levV (t, f, .slice A n c)) w :=
  Src.ofSlice _ Try.underlying40 ⟨b, 0, none⟩ 1 1 _ rfl (World.news_of_block (cs := #[.int .u8 t.kind, .string t.text, .int .i64 t.pos, .slice A n c]) (t := 44) (fr := (0, 0)) h) (by simp [levV, Value.oneCell'])
end Go.Proofs.Ytokfcnjmgnmncaa
