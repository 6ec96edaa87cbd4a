/- Trees in memory: rows of five cells an element, of which the fourth is the row of what stands in the bracket. -/
import Derived.Test.YtokfcnjmgnmncaaTrPlain
import Derived.Test.YtokfcnjmgnmncaaLxTok
namespace Go.Proofs.Ytokfcnjmgnmncaa
open Go.RowKit

/-- The cells xs are those of the trees f; all rows within lie in blocks that are ok. -/
def Elems (w : World) (ok : Nat → Prop) : Tr.Fo → List Value → Prop
  | .nil, xs => xs = []
  | .cons t k e r, xs => ∃ A n c ys, xs = .int .u8 t.kind :: .string t.text :: .int .i64 t.pos :: .slice A n c :: .int .i64 e :: ys ∧
      (n = k.len ∧ n ≤ c ∧ c ≤ maxLen ∧ (0 < n → ∃ b off zs, A = some ⟨b, off, none⟩ ∧ ok b ∧ Elems w ok k zs ∧ ∀ (j : Nat) u, zs[j]? = some u → w.cell? ⟨b, off + j, none⟩ = some u)) ∧ Elems w ok r ys
/-- The slice '.slice A n c' holds the trees f. -/
def Holds (w : World) (ok : Nat → Prop) (f : Tr.Fo) (A : Option Addr) (n c : Nat) : Prop :=
  n = f.len ∧ n ≤ c ∧ c ≤ maxLen ∧ (0 < n → ∃ b off zs, A = some ⟨b, off, none⟩ ∧ ok b ∧ Elems w ok f zs ∧ ∀ (j : Nat) u, zs[j]? = some u → w.cell? ⟨b, off + j, none⟩ = some u)
def treeV (t : Lx.T) (A : Option Addr) (n c : Nat) (e : Int) : List Value := [.int .u8 t.kind, .string t.text, .int .i64 t.pos, .slice A n c, .int .i64 e]
theorem Elems.cons_iff {w : World} {ok : Nat → Prop} {t : Lx.T} {k : Tr.Fo} {e : Int} {r : Tr.Fo} {xs : List Value} :
    Elems w ok (.cons t k e r) xs ↔ ∃ A n c ys, xs = treeV t A n c e ++ ys ∧ Holds w ok k A n c ∧ Elems w ok r ys := Iff.rfl

theorem Elems.mono {w w' : World} {ok ok' : Nat → Prop} (h : ∀ b, ok b → ok' b ∧ ∀ o, w'.cell? ⟨b, o, none⟩ = w.cell? ⟨b, o, none⟩) : ∀ (f : Tr.Fo) (xs : List Value), Elems w ok f xs → Elems w' ok' f xs
  | .nil, xs, hx => hx
  | .cons t k e r, xs, hx => by
    obtain ⟨A, n, c, ys, h1, ⟨h2, h3, h4, h5⟩, h6⟩ := hx
    refine ⟨A, n, c, ys, h1, ⟨h2, h3, h4, fun hn => ?_⟩, Elems.mono h r ys h6⟩
    obtain ⟨b, off, zs, g1, g2, g3, g4⟩ := h5 hn
    exact ⟨b, off, zs, g1, (h b g2).1, Elems.mono h k zs g3, fun j u hu => ((h b g2).2 _).trans (g4 j u hu)⟩
theorem Elems.len {w : World} {ok : Nat → Prop} : ∀ (f : Tr.Fo) (xs : List Value), Elems w ok f xs → xs.length = f.len * 5
  | .nil, xs, hx => by rw [show xs = [] from hx]; rfl
  | .cons t k e r, xs, hx => by
    obtain ⟨A, n, c, ys, h1, _, h6⟩ := hx
    have := Elems.len r ys h6
    subst h1
    simp only [List.length_cons, Tr.Fo.len, this]; omega
theorem Elems.app {w : World} {ok : Nat → Prop} : ∀ (f g : Tr.Fo) (xs ys : List Value), Elems w ok f xs → Elems w ok g ys → Elems w ok (f.app g) (xs ++ ys)
  | .nil, g, xs, ys, hx, hy => by rw [show xs = [] from hx]; exact hy
  | .cons t k e r, g, xs, ys, hx, hy => by
    obtain ⟨A, n, c, zs, h1, h2, h6⟩ := hx
    exact ⟨A, n, c, zs ++ ys, by rw [h1]; rfl, h2, Elems.app r g zs ys h6 hy⟩
theorem Holds.mono {w w' : World} {ok ok' : Nat → Prop} {f : Tr.Fo} {A : Option Addr} {n c : Nat} (h : ∀ b, ok b → ok' b ∧ ∀ o, w'.cell? ⟨b, o, none⟩ = w.cell? ⟨b, o, none⟩) (hh : Holds w ok f A n c) : Holds w' ok' f A n c := by
  obtain ⟨h2, h3, h4, h5⟩ := hh
  refine ⟨h2, h3, h4, fun hn => ?_⟩
  obtain ⟨b, off, zs, g1, g2, g3, g4⟩ := h5 hn
  exact ⟨b, off, zs, g1, (h b g2).1, Elems.mono h f zs g3, fun j u hu => ((h b g2).2 _).trans (g4 j u hu)⟩
theorem Holds.below {w w' : World} {B : Nat} {f : Tr.Fo} {A : Option Addr} {n c : Nat} (hh : Holds w (· < B) f A n c) (hb : Below B w w') : Holds w' (· < B) f A n c :=
  hh.mono fun b h => ⟨h, fun o => hb.cell (p := ⟨b, o, none⟩) h⟩
theorem Holds.more {w : World} {ok ok' : Nat → Prop} {f : Tr.Fo} {A : Option Addr} {n c : Nat} (hh : Holds w ok f A n c) (h : ∀ b, ok b → ok' b) : Holds w ok' f A n c :=
  hh.mono fun b hb => ⟨h b hb, fun _ => rfl⟩

/-- A row of trees that the call itself made: its own block stands aside from those within. -/
def TreeRow (w : World) (ok : Nat → Prop) (v : Value) (f : Tr.Fo) : Prop :=
  ∃ xs, RowZ w 37 5 v f.len xs ∧ (∀ g, v.ownBlock = some g → ok g) ∧ Elems w (fun b => ok b ∧ v.ownBlock ≠ some b) f xs
section
variable {w w' : World} {ok ok' okk : Nat → Prop} {v v' : Value} {f k : Tr.Fo} {A : Option Addr} {n c : Nat}
theorem TreeRow.nil : TreeRow w ok (.slice none 0 0) .nil := ⟨[], RowZ.nil, fun g h => by simp [Value.ownBlock] at h, rfl⟩
theorem TreeRow.form (h : TreeRow w ok v f) : ∃ A c, v = .slice A f.len c ∧ f.len ≤ c ∧ c ≤ maxLen := by
  obtain ⟨xs, h1, _⟩ := h
  exact RowZ.form h1
theorem TreeRow.keep (h : TreeRow w ok v f) (hk : ∀ b, ok b → ok' b ∧ w'.heap[b]? = w.heap[b]?) : TreeRow w' ok' v f := by
  obtain ⟨xs, h1, h2, h3⟩ := h
  exact ⟨xs, h1.keep fun g hg => (hk g (h2 g hg)).2, fun g hg => (hk g (h2 g hg)).1, h3.mono (fun b hb => ⟨⟨(hk b hb.1).1, hb.2⟩, fun o => World.cell?_of_block (hk b hb.1).2⟩)⟩
theorem TreeRow.holds (h : TreeRow w ok (.slice A n c) f) : Holds w ok f A n c := by
  obtain ⟨xs, h1, h2, h3⟩ := h
  obtain ⟨A', c', he, hc, hm⟩ := RowZ.form h1
  simp only [Value.slice.injEq] at he
  obtain ⟨rfl, rfl, rfl⟩ := he
  refine ⟨rfl, hc, hm, fun hn => ?_⟩
  obtain ⟨g, rfl⟩ := RowZ.addr h1 hn
  refine ⟨g, 0, xs, rfl, h2 g rfl, h3.mono (fun b hb => ⟨hb.1, fun _ => rfl⟩), fun j u hu => ?_⟩
  rw [Nat.zero_add, RowZ.cell h1 (List.getElem?_eq_some_iff.1 hu).1, hu]
/-- One tree more. -/
theorem TreeRow.snoc {xs : List Value} {t : Lx.T} {e : Int} (h2 : ∀ g, v.ownBlock = some g → ok g) (h3 : Elems w (fun b => ok b ∧ v.ownBlock ≠ some b) f xs) (hk : Holds w okk k A n c)
    (hgr : w.grownBy w' v.ownBlock) (hrow : RowZ w' 37 5 v' (f.len + 1) (xs ++ treeV t A n c e)) (hob : v'.ownBlock = v.ownBlock ∨ v'.ownBlock = some w.heap.size)
    (hl : ∀ b, ok b → ok' b ∧ b < w.heap.size) (hlk : ∀ b, okk b → ok' b ∧ b < w.heap.size ∧ v.ownBlock ≠ some b) (hnew : v'.ownBlock = some w.heap.size → ok' w.heap.size) : TreeRow w' ok' v' (f.snoc t k e) := by
  have hside : ∀ b, b < w.heap.size → v.ownBlock ≠ some b → v'.ownBlock ≠ some b := fun b hb hn => by
    rcases hob with h | h
    · rw [h]; exact hn
    · rw [h]; intro he; simp only [Option.some.injEq] at he; omega
  have hcell : ∀ b, b < w.heap.size → v.ownBlock ≠ some b → ∀ o, w'.cell? ⟨b, o, none⟩ = w.cell? ⟨b, o, none⟩ := fun b hb hn o => World.cell?_of_block (hgr.block b hb (fun he => hn he.symm))
  refine ⟨xs ++ treeV t A n c e, by rw [Tr.Fo.len_snoc]; exact hrow, fun g hg => ?_, ?_⟩
  · rcases hob with h | h
    · exact (hl g (h2 g (h ▸ hg))).1
    · have hg' := hg
      rw [h] at hg'
      simp only [Option.some.injEq] at hg'
      subst hg'
      exact hnew h
  · refine Elems.app _ _ _ _ (h3.mono (fun b hb => ⟨⟨(hl b hb.1).1, hside b (hl b hb.1).2 hb.2⟩, hcell b (hl b hb.1).2 hb.2⟩)) ?_
    refine ⟨A, n, c, [], rfl, ?_, rfl⟩
    exact hk.mono (fun b hb => ⟨⟨(hlk b hb).1, hside b (hlk b hb).2.1 (hlk b hb).2.2⟩, hcell b (hlk b hb).2.1 (hlk b hb).2.2⟩)
end

theorem info_tree : (Try.prog.info? 37).map (fun i => (i.zero, i.size, i.bytes)) = some (some (.agg #[.int .u8 0, .string ByteArray.empty, .int .i64 0, .slice none 0 0, .int .i64 0]), 5, 64) := by kernel_rfl
theorem tree_news {w : World} {b : Nat} {t : Lx.T} {A : Option Addr} {n c : Nat} {e : Int} (h : w.heap[b]? = some (.cells #[.int .u8 t.kind, .string t.text, .int .i64 t.pos, .slice A n c, .int .i64 e] 37 (0, 0))) :
    Src Try.prog 5 25 (.slice (some ⟨b, 0, none⟩) 1 1) 1 (treeV t A n c e) w :=
  Src.ofSlice _ Try.underlying25 ⟨b, 0, none⟩ 1 1 _ rfl (World.news_of_block (cs := #[.int .u8 t.kind, .string t.text, .int .i64 t.pos, .slice A n c, .int .i64 e]) (t := 37) (fr := (0, 0)) h) (by simp [treeV, Value.oneCell'])
/-- The elements, one by one. -/
def Tr.Fo.get : Tr.Fo → Nat → Option (Lx.T × Tr.Fo × Int)
  | .nil, _ => none
  | .cons t k e _, 0 => some (t, k, e)
  | .cons _ _ _ r, j + 1 => r.get j
theorem Tr.Fo.get_lt : ∀ (f : Tr.Fo) (j : Nat), j < f.len → ∃ x, f.get j = some x
  | .nil, j, h => by simp [Tr.Fo.len] at h
  | .cons t k e r, 0, _ => ⟨_, rfl⟩
  | .cons t k e r, j + 1, h => Tr.Fo.get_lt r j (by simp only [Tr.Fo.len] at h; omega)
theorem Tr.Fo.get_size : ∀ (f : Tr.Fo) (j : Nat) (x : Lx.T × Tr.Fo × Int), f.get j = some x → x.2.1.size < f.size
  | .nil, j, x, h => by simp [Tr.Fo.get] at h
  | .cons t k e r, 0, x, h => by simp only [Tr.Fo.get, Option.some.injEq] at h; subst h; simp only [Tr.Fo.size]; omega
  | .cons t k e r, j + 1, x, h => by have := Tr.Fo.get_size r j x h; simp only [Tr.Fo.size]; omega
theorem Elems.get {w : World} {ok : Nat → Prop} : ∀ (f : Tr.Fo) (xs : List Value), Elems w ok f xs → ∀ (j : Nat) (x : Lx.T × Tr.Fo × Int), f.get j = some x →
    ∃ A n c, Holds w ok x.2.1 A n c ∧ xs[j * 5]? = some (.int .u8 x.1.kind) ∧ xs[j * 5 + 1]? = some (.string x.1.text) ∧ xs[j * 5 + 2]? = some (.int .i64 x.1.pos) ∧ xs[j * 5 + 3]? = some (.slice A n c) ∧ xs[j * 5 + 4]? = some (.int .i64 x.2.2)
  | .nil, xs, _, j, x, h => by simp [Tr.Fo.get] at h
  | .cons t k e r, xs, hx, 0, x, h => by
    obtain ⟨A, n, c, ys, h1, h2, _⟩ := hx
    simp only [Tr.Fo.get, Option.some.injEq] at h
    subst h
    subst h1
    exact ⟨A, n, c, h2, rfl, rfl, rfl, rfl, rfl⟩
  | .cons t k e r, xs, hx, j + 1, x, h => by
    obtain ⟨A, n, c, ys, h1, _, h3⟩ := hx
    obtain ⟨A', n', c', g1, g2⟩ := Elems.get r ys h3 j x h
    refine ⟨A', n', c', g1, ?_⟩
    subst h1
    rw [show (j + 1) * 5 = j * 5 + 5 by omega]
    exact g2
theorem Holds.get {w : World} {ok : Nat → Prop} {f : Tr.Fo} {A : Option Addr} {n c : Nat} (h : Holds w ok f A n c) (hn : 0 < n) : ∃ b off, A = some ⟨b, off, none⟩ ∧ ok b ∧ ∀ (j : Nat) (x : Lx.T × Tr.Fo × Int), f.get j = some x →
    ∃ A n c, Holds w ok x.2.1 A n c ∧ w.cell? ⟨b, off + j * 5, none⟩ = some (.int .u8 x.1.kind) ∧ w.cell? ⟨b, off + j * 5 + 1, none⟩ = some (.string x.1.text) ∧ w.cell? ⟨b, off + j * 5 + 2, none⟩ = some (.int .i64 x.1.pos) ∧
      w.cell? ⟨b, off + j * 5 + 3, none⟩ = some (.slice A n c) ∧ w.cell? ⟨b, off + j * 5 + 4, none⟩ = some (.int .i64 x.2.2) := by
  obtain ⟨b, off, zs, g1, g2, g3, g4⟩ := h.2.2.2 hn
  refine ⟨b, off, g1, g2, fun j x hx => ?_⟩
  obtain ⟨A', n', c', h1, e0, e1, e2, e3, e4⟩ := Elems.get f zs g3 j x hx
  exact ⟨A', n', c', h1, g4 _ _ e0, g4 _ _ e1, g4 _ _ e2, g4 _ _ e3, g4 _ _ e4⟩
end Go.Proofs.Ytokfcnjmgnmncaa
