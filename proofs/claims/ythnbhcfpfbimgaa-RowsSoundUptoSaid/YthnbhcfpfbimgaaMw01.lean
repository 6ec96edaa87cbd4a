/- Texts put together: Row RowZ Tree. -/
import Derived.Test.YthnbhcfpfbimgaaMw00
/- A slice value that lies at the head of a block whose first cells are known: kept, cut, written, appended to. Nothing is asked of the block's end: so a cut slice is a row, too. -/
namespace Go.Proofs.Ythnbhcfpfbimgaa
open Go.RowKit

/-- The slice value v lies at the head of a block of element type e (one cell an element); its elements are xs. -/
def Row (w : World) (e : TypeId) (v : Value) (xs : List Value) : Prop :=
  (v = .slice none 0 0 ∧ xs = []) ∨
  ∃ g cap cur, v = .slice (some ⟨g, 0, none⟩) xs.length cap ∧ w.heap[g]? = some (.cells cur e (0, 0)) ∧ xs.length ≤ cap ∧ cap ≤ cur.size ∧ cap ≤ maxLen ∧ cur.toList.take xs.length = xs

section
variable {w w' : World} {e : TypeId} {v : Value} {xs : List Value}
theorem Row.nil : Row w e (.slice none 0 0) [] := .inl ⟨rfl, rfl⟩
theorem Row.form (h : Row w e v xs) : ∃ A c, v = .slice A xs.length c ∧ xs.length ≤ c ∧ c ≤ maxLen := by
  rcases h with ⟨rfl, rfl⟩ | ⟨g, cap, cur, rfl, _, h1, _, h3, _⟩
  · exact ⟨none, 0, rfl, Nat.le_refl _, Nat.zero_le _⟩
  · exact ⟨_, cap, rfl, h1, h3⟩
theorem Row.lt (h : Row w e v xs) : ∀ g, v.ownBlock = some g → g < w.heap.size := by
  intro g hg
  rcases h with ⟨rfl, rfl⟩ | ⟨g', cap, cur, rfl, hh, _⟩
  · simp [Value.ownBlock] at hg
  · simp [Value.ownBlock] at hg
    subst hg
    exact (Array.getElem?_eq_some_iff.1 hh).1
theorem Row.keep (h : Row w e v xs) (hk : ∀ g, v.ownBlock = some g → w'.heap[g]? = w.heap[g]?) : Row w' e v xs := by
  rcases h with h0 | ⟨g, cap, cur, rfl, hh, r⟩
  · exact .inl h0
  · exact .inr ⟨g, cap, cur, rfl, (hk g rfl).trans hh, r⟩
theorem Row.below (h : Row w e v xs) (hb : Below w.heap.size w w') : Row w' e v xs := h.keep fun g hg => hb.block g (h.lt g hg)
theorem Row.dr (h : Row w e v xs) (hd : Dr w w') : Row w' e v xs := h.below (hd.below _)
/-- The block's own element type. -/
theorem Row.block (h : Row w e v xs) {g : Nat} (hg : v.ownBlock = some g) : ∃ cur, w.heap[g]? = some (.cells cur e (0, 0)) := by
  rcases h with ⟨rfl, rfl⟩ | ⟨g', cap, cur, rfl, hh, _⟩
  · simp [Value.ownBlock] at hg
  · simp [Value.ownBlock] at hg
    subst hg
    exact ⟨cur, hh⟩
theorem Row.ne_type (h : Row w e v xs) {g : Nat} {t : TypeId} {cs : Array Value} (hg : w.heap[g]? = some (.cells cs t (0, 0))) (hne : e ≠ t) : v.ownBlock ≠ some g := by
  intro he
  obtain ⟨cur, hc⟩ := h.block he
  exact blocks_ne hc hg hne rfl
theorem Row.cell {g c : Nat} {n : Nat} (h : Row w e (.slice (some ⟨g, 0, none⟩) n c) xs) {j : Nat} (hj : j < xs.length) : w.cell? ⟨g, j, none⟩ = xs[j]? := by
  rcases h with ⟨h0, _⟩ | ⟨g', cap, cur, h0, hh, _, _, _, ht⟩
  · cases h0
  · simp only [Value.slice.injEq, Option.some.injEq, Addr.mk.injEq, and_true] at h0
    obtain ⟨rfl, _, _⟩ := h0
    rw [cell_block hh, ← ht, List.getElem?_take, if_pos hj]
    simp
theorem Row.free {g c : Nat} {n : Nat} (h : Row w e (.slice (some ⟨g, 0, none⟩) n c) xs) (j : Nat) : w.frozen? ⟨g, j, none⟩ = false := by
  rcases h with ⟨h0, _⟩ | ⟨g', cap, cur, h0, hh, _⟩
  · cases h0
  · simp only [Value.slice.injEq, Option.some.injEq, Addr.mk.injEq, and_true] at h0
    obtain ⟨rfl, _, _⟩ := h0
    exact frozen_of_row w g j cur e hh
/-- With an element there is an address. -/
theorem Row.addr {A : Option Addr} {n c : Nat} (h : Row w e (.slice A n c) xs) (hp : 0 < xs.length) : ∃ g, A = some ⟨g, 0, none⟩ := by
  rcases h with ⟨_, h0⟩ | ⟨g', cap, cur, h0, _⟩
  · subst h0; simp at hp
  · simp only [Value.slice.injEq] at h0
    exact ⟨g', h0.1⟩
theorem Row.has {A : Option Addr} {c : Nat} (h : Row w e (.slice A xs.length c) xs) : Has w w.heap.size A xs.length xs := by
  refine ⟨rfl, fun hn => ?_⟩
  obtain ⟨g, rfl⟩ := h.addr hn
  exact ⟨g, 0, rfl, h.lt g rfl, fun j u hu => by rw [Nat.zero_add, h.cell (List.getElem?_eq_some_iff.1 hu).1]; exact hu⟩
/-- 's[:k:k]'. -/
theorem Row.cut {A : Option Addr} {n c k : Nat} (h : Row w e (.slice A n c) xs) (hk : k ≤ xs.length) : Row w e (.slice A k k) (xs.take k) := by
  have hl : (xs.take k).length = k := by rw [List.length_take]; omega
  rcases h with ⟨h0, rfl⟩ | ⟨g', cap, cur, h0, hh, h1, h2, h3, h4⟩
  · simp at hk
    subst hk
    simp only [Value.slice.injEq] at h0
    rw [h0.1]
    exact .inl ⟨rfl, rfl⟩
  · simp only [Value.slice.injEq] at h0
    obtain ⟨rfl, _, rfl⟩ := h0
    refine .inr ⟨g', k, cur, by rw [hl], hh, by omega, by omega, by omega, ?_⟩
    rw [hl]
    rw [← h4, List.take_take]
    congr 1
    omega
/-- A store to an element. -/
theorem Row.set {g c : Nat} (h : Row w e (.slice (some ⟨g, 0, none⟩) xs.length c) xs) (j : Nat) (u : Value) : Row (w.setCell ⟨g, j, none⟩ u) e (.slice (some ⟨g, 0, none⟩) xs.length c) (xs.set j u) := by
  rcases h with ⟨h0, _⟩ | ⟨g', cap, cur, h0, hh, h1, h2, h3, h4⟩
  · cases h0
  · simp only [Value.slice.injEq, Option.some.injEq, Addr.mk.injEq, and_true, true_and] at h0
    obtain ⟨rfl, rfl⟩ := h0
    refine .inr ⟨g, c, _, by rw [List.length_set], heap_setCell_same w g j cur e u hh, by rw [List.length_set]; exact h1, by simpa using h2, h3, ?_⟩
    rw [List.length_set]
    have : (cur.setIfInBounds j u).toList = cur.toList.set j u := by simp
    rw [this, List.take_set, h4]
theorem Row.far (h : Row w e v xs) {p : Addr} (hp : v.ownBlock ≠ some p.block) (u : Value) : Row (w.setCell p u) e v xs :=
  h.keep fun g hg => Below.heap_setCell w p u g (fun he => hp (by rw [hg, he]))
/-- A row that is laid as written. -/
theorem Row.laid (w : World) (e : TypeId) (cs : List Value) (hm : cs.length ≤ maxLen) : Row (w.alloc (.cells cs.toArray e)) e (.slice (some ⟨w.heap.size, 0, none⟩) cs.length cs.length) cs :=
  .inr ⟨w.heap.size, cs.length, cs.toArray, rfl, heap_alloc_new w _, Nat.le_refl _, by simp, hm, by simp⟩
end

theorem Src.of_has {P : Program} {w : World} {B : Nat} {A : Option Addr} {n c : Nat} {xs : List Value} {tx e' : TypeId} (hk : P.underlying tx = some (.slice e')) (h : Has w B A n xs) (h1 : ∀ u ∈ xs, u.oneCell' = true) : Src P 1 tx (.slice A n c) n xs w := by
  cases A with
  | some a =>
    refine Src.ofSlice w hk a n c xs (by rw [h.1, Nat.mul_one]) (fun j u hu => ?_) h1
    have hj := (List.getElem?_eq_some_iff.1 hu).1
    obtain ⟨b, off, ha, _, hc⟩ := h.2 (by rw [← h.1]; omega)
    simp only [Option.some.injEq] at ha
    subst ha
    rw [add_plain]; exact hc j u hu
  | none =>
    have hn : n = 0 := by
      rcases Nat.eq_zero_or_pos n with h0 | h0
      · exact h0
      · obtain ⟨_, _, he, _⟩ := h.2 h0; cases he
    subst hn
    have hx : xs = [] := List.eq_nil_of_length_eq_zero h.1
    subst hx
    exact Src.ofNil w hk c

theorem run_app_row {P : Program} {w : World} (t tx ty e : TypeId) (i : TypeInfo) (z : Value) (bytes : Nat) (ht : P.underlying t = some (.slice e)) (hi : P.info? e = some i) (hz : i.zero = some z)
    (hsize : i.size = 1) (hby : i.bytes = bytes) (hzs : z.cells.size = 1) (v : Value) (xs : List Value) (hrow : Row w e v xs) (x : Value) (m : Nat) (news : List Value) (hs : Src P 1 tx x m news w)
    (h63 : xs.length + m ≤ maxLen) (hbytes : (xs.length + m) * bytes ≤ 140737488355328) :
    ∃ A' c' w', (Builtin.append_ #[t, tx] ty #[v, x]).run P w = .ok (.slice A' (xs.length + m) c') w' ∧ Row w' e (.slice A' (xs.length + m) c') (xs ++ news) ∧ w.grownBy w' v.ownBlock ∧
      ((Value.slice A' (xs.length + m) c').ownBlock = v.ownBlock ∨ (Value.slice A' (xs.length + m) c').ownBlock = some w.heap.size) := by
  have hsmall : ((xs.length + m : Nat) : Int) ≤ 9223372036854775807 := by simp only [maxLen] at h63; omega
  have hs' : Src P i.size tx x m news w := by rw [hsize]; exact hs
  have hnl : news.length = m := by simpa using hs.newsLen
  have hlen : (xs ++ news).length = xs.length + m := by rw [List.length_append, hnl]
  have hgrown : ∀ old, Row (w.drew.alloc (.cells ((xs ++ news).toArray ++ Builtin.zeroCells z.cells (grownCap w (xs.length + m) old e - (xs.length + m))) e)) e
      (.slice (some ⟨w.heap.size, 0, none⟩) (xs.length + m) (grownCap w (xs.length + m) old e)) (xs ++ news) := fun old => by
    have hge := grownCap_ge w (xs.length + m) old e
    refine .inr ⟨w.heap.size, grownCap w (xs.length + m) old e, _, by rw [hlen], heap_alloc_new w.drew _, by rw [hlen]; exact hge, ?_, grownCap_le_maxLen w (xs.length + m) old e h63, ?_⟩
    · simp only [Array.size_append, List.size_toArray, size_zeroCells, hzs, hlen]; omega
    · simp only [Array.toList_append]
      exact List.take_left' rfl
  subst hby
  rcases hrow with ⟨rfl, rfl⟩ | ⟨g, cap, cur, rfl, hg, hnc, hcs, hcm, htake⟩
  · by_cases hm : m = 0
    · subst hm
      have hn0 : news = [] := List.eq_nil_of_length_eq_zero hnl
      subst hn0
      refine ⟨none, 0, w, ?_, Row.nil, ⟨rfl, rfl, rfl, Nat.le_refl _, fun _ _ _ => rfl⟩, .inl rfl⟩
      have hc := hs'.cells
      have hl := hs'.len
      rcases hs'.kind with ⟨e', hk⟩ | hk <;> simp [Builtin.append_, run_underlying ht, run_underlying hk, sizeOf, typeInfo, hi, hl, hc]
    · have hr := run_append_grow_src (P := P) w t tx ty e i z ht hi hz none 0 0 [] (run_firstCells_none w.drew i.size 0 0 0) x m news hs' (by omega) hsmall (growslice_fits (by simp; omega) hbytes)
      exact ⟨_, _, _, hr, hgrown 0, ⟨rfl, rfl, rfl, by simp, fun k hk _ => Below.heap_alloc w.drew _ k hk⟩, .inr rfl⟩
  · by_cases hroom : xs.length + m ≤ cap
    · have hfit : xs.length + news.length ≤ cur.size := by omega
      have hcell : ∀ j, j < news.length → (w.cell? ⟨g, 0 + xs.length * i.size + j, none⟩).isSome = true := fun j hj => by
        rw [cell_of_row w g _ cur e (0, 0) hg, hsize, Array.getElem?_eq_getElem (by omega)]; rfl
      have hr := run_append_room_src (P := P) w t tx ty e i ht hi g 0 xs.length cap x m news hs' hroom hcell (fun j _ => frozen_of_row w g _ cur e hg)
      rw [hsize, Nat.mul_one, Nat.zero_add] at hr
      obtain ⟨cur', h1, h2, h3⟩ := setCells_block g e news xs.length w cur hg hfit
      refine ⟨_, _, _, hr, .inr ⟨g, cap, cur', by rw [hlen], h1, by rw [hlen]; exact hroom, by omega, hcm, ?_⟩, ⟨?_, ?_, ?_, ?_, ?_⟩, .inl rfl⟩
      · rw [h3, htake, ← List.append_assoc]
        exact List.take_left' rfl
      · exact (setCells_rest g news xs.length w).1
      · exact (setCells_rest g news xs.length w).2.1
      · exact (setCells_rest g news xs.length w).2.2.1
      · exact (setCells_rest g news xs.length w).2.2.2
      · intro k hk hne
        exact World.heap_setCells_other w g xs.length news hk (fun e => hne (by subst e; rfl))
    · have hold : (Builtin.firstCells i.size xs.length (.slice (some ⟨g, 0, none⟩) xs.length cap)).run P w.drew = .ok xs.toArray w.drew := by
        rw [hsize]
        refine run_firstCells_some w.drew 1 xs.length ⟨g, 0, none⟩ xs.length cap xs (by simp) fun j u hu => ?_
        rw [add_plain, Nat.zero_add]
        show w.cell? _ = _
        rw [cell_block hg, ← hu, ← htake, List.getElem?_take, if_pos (List.getElem?_eq_some_iff.1 hu).1]
        simp
      have hr := run_append_grow_src (P := P) w t tx ty e i z ht hi hz (some ⟨g, 0, none⟩) xs.length cap xs hold x m news hs' (by omega) hsmall (growslice_fits (by omega) hbytes)
      exact ⟨_, _, _, hr, hgrown cap, ⟨rfl, rfl, rfl, by simp, fun k hk _ => Below.heap_alloc w.drew _ k hk⟩, .inr rfl⟩

theorem app_row {P : Program} {w : World} {ops : Array Oper} {rest : List Oper} {o : Oper} {a : Act} {Q : Exit → Act → World → Prop} (hgd : o.guard = none) (s x : Operand) (t tx : TypeId)
    (ho : o.op = .call { callee := .builtin .append, args := #[s, x], argTypes := #[t, tx] })
    (e : TypeId) (i : TypeInfo) (z : Value) (bytes : Nat) (ht : P.underlying t = some (.slice e)) (hi : P.info? e = some i) (hz : i.zero = some z)
    (hsize : i.size = 1) (hby : i.bytes = bytes) (hzs : z.cells.size = 1)
    (v : Value) (xs : List Value) (hs : a.eval s = v) (hrow : Row w e v xs)
    (xv : Value) (m : Nat) (news : List Value) (hx : a.eval x = xv) (hsrc : Src P 1 tx xv m news w)
    (h63 : xs.length + m ≤ maxLen) (hbytes : (xs.length + m) * bytes ≤ 140737488355328)
    (h : ∀ A' c' w', Row w' e (.slice A' (xs.length + m) c') (xs ++ news) → w.grownBy w' v.ownBlock → ((Value.slice A' (xs.length + m) c').ownBlock = v.ownBlock ∨ (Value.slice A' (xs.length + m) c').ownBlock = some w.heap.size) →
      wpList P ops Q rest (a.put o.dst (.slice A' (xs.length + m) c')) w') : wpList P ops Q (o :: rest) a w := by
  refine wpList_plain hgd fun K hK => ?_
  obtain ⟨A', c', w', hr, h2, h3, h4⟩ := run_app_row (P := P) (w := w) t tx o.type e i z bytes ht hi hz hsize hby hzs v xs hrow xv m news hsrc h63 hbytes
  unfold Oper.wp
  simp [execOp, ho, resolve, invoke, builtin, hs, hx, hr, Result.andThen]
  exact hK _ _ (h A' c' w' h2 h3 h4)

/-- The end of a writer in a chain. -/
theorem chainF {F : World → Prop} {b : Bool} {K : Act → World → Prop} {a : Act} {w : World} (hF : b = true → F w) (hK : K a w) : chainPost (fun w' => ∃ u : HoldW F, w' = u.w) b K .normal a w :=
  chainPost_normal (fun hb => ⟨⟨w, hF hb⟩, rfl⟩) hK
theorem chainSkip {S : World → Prop} {K : Act → World → Prop} {a : Act} {w : World} (hK : K a w) : chainPost S false K .normal a w :=
  chainPost_normal (fun h => by cases h) hK
end Go.Proofs.Ythnbhcfpfbimgaa
/- Rows whose elements are some cells each: a slice value that lies at the head of a block of them: kept, cut, appended to. No program in sight. -/
namespace Go.Proofs.Ythnbhcfpfbimgaa
open Go.RowKit

/-- The slice value v lies at the head of a block of element type e, z cells an element; it has n elements, and xs are their cells. -/
def RowZ (w : World) (e : TypeId) (z : Nat) (v : Value) (n : Nat) (xs : List Value) : Prop :=
  (v = .slice none 0 0 ∧ n = 0 ∧ xs = []) ∨
  ∃ g cap cur, v = .slice (some ⟨g, 0, none⟩) n cap ∧ w.heap[g]? = some (.cells cur e (0, 0)) ∧ n ≤ cap ∧ cap * z ≤ cur.size ∧ cap ≤ maxLen ∧ xs.length = n * z ∧ cur.toList.take (n * z) = xs

section
variable {w w' : World} {e : TypeId} {z n : Nat} {v : Value} {xs : List Value}
theorem RowZ.nil : RowZ w e z (.slice none 0 0) 0 [] := .inl ⟨rfl, rfl, rfl⟩
theorem RowZ.form (h : RowZ w e z v n xs) : ∃ A c, v = .slice A n c ∧ n ≤ c ∧ c ≤ maxLen := by
  rcases h with ⟨rfl, rfl, rfl⟩ | ⟨g, cap, cur, rfl, _, h1, _, h3, _⟩
  · exact ⟨none, 0, rfl, Nat.le_refl _, Nat.zero_le _⟩
  · exact ⟨_, cap, rfl, h1, h3⟩
theorem RowZ.len (h : RowZ w e z v n xs) : xs.length = n * z := by
  rcases h with ⟨rfl, rfl, rfl⟩ | ⟨g, cap, cur, _, _, _, _, _, h5, _⟩
  · simp
  · exact h5
theorem RowZ.lt (h : RowZ w e z v n xs) : ∀ g, v.ownBlock = some g → g < w.heap.size := by
  intro g hg
  rcases h with ⟨rfl, _⟩ | ⟨g', cap, cur, rfl, hh, _⟩
  · simp [Value.ownBlock] at hg
  · simp [Value.ownBlock] at hg
    subst hg
    exact (Array.getElem?_eq_some_iff.1 hh).1
theorem RowZ.keep (h : RowZ w e z v n xs) (hk : ∀ g, v.ownBlock = some g → w'.heap[g]? = w.heap[g]?) : RowZ w' e z v n xs := by
  rcases h with h0 | ⟨g, cap, cur, rfl, hh, r⟩
  · exact .inl h0
  · exact .inr ⟨g, cap, cur, rfl, (hk g rfl).trans hh, r⟩
theorem RowZ.below (h : RowZ w e z v n xs) (hb : Below w.heap.size w w') : RowZ w' e z v n xs := h.keep fun g hg => hb.block g (h.lt g hg)
theorem RowZ.dr (h : RowZ w e z v n xs) (hd : Dr w w') : RowZ w' e z v n xs := h.below (hd.below _)
theorem RowZ.block (h : RowZ w e z v n xs) {g : Nat} (hg : v.ownBlock = some g) : ∃ cur, w.heap[g]? = some (.cells cur e (0, 0)) := by
  rcases h with ⟨rfl, _⟩ | ⟨g', cap, cur, rfl, hh, _⟩
  · simp [Value.ownBlock] at hg
  · simp [Value.ownBlock] at hg
    subst hg
    exact ⟨cur, hh⟩
theorem RowZ.ne_type (h : RowZ w e z v n xs) {g : Nat} {t : TypeId} {cs : Array Value} (hg : w.heap[g]? = some (.cells cs t (0, 0))) (hne : e ≠ t) : v.ownBlock ≠ some g := by
  intro he
  obtain ⟨cur, hc⟩ := h.block he
  exact blocks_ne hc hg hne rfl
theorem RowZ.cell {g c : Nat} {k : Nat} (h : RowZ w e z (.slice (some ⟨g, 0, none⟩) k c) n xs) {j : Nat} (hj : j < xs.length) : w.cell? ⟨g, j, none⟩ = xs[j]? := by
  rcases h with ⟨h0, _⟩ | ⟨g', cap, cur, h0, hh, _, _, _, hl, ht⟩
  · cases h0
  · simp only [Value.slice.injEq, Option.some.injEq, Addr.mk.injEq, and_true] at h0
    obtain ⟨rfl, _, _⟩ := h0
    rw [cell_block hh, ← ht, List.getElem?_take, if_pos (by omega)]
    simp
theorem RowZ.free {g c : Nat} {k : Nat} (h : RowZ w e z (.slice (some ⟨g, 0, none⟩) k c) n xs) (j : Nat) : w.frozen? ⟨g, j, none⟩ = false := by
  rcases h with ⟨h0, _⟩ | ⟨g', cap, cur, h0, hh, _⟩
  · cases h0
  · simp only [Value.slice.injEq, Option.some.injEq, Addr.mk.injEq, and_true] at h0
    obtain ⟨rfl, _, _⟩ := h0
    exact frozen_of_row w g j cur e hh
theorem RowZ.addr {A : Option Addr} {k c : Nat} (h : RowZ w e z (.slice A k c) n xs) (hp : 0 < n) : ∃ g, A = some ⟨g, 0, none⟩ := by
  rcases h with ⟨_, h0, _⟩ | ⟨g', cap, cur, h0, _⟩
  · omega
  · simp only [Value.slice.injEq] at h0
    exact ⟨g', h0.1⟩
/-- 's[:k]': the first elements, whatever the room behind them. -/
theorem RowZ.cut {A : Option Addr} {m c k c' : Nat} (h : RowZ w e z (.slice A m c) n xs) (hk : k ≤ n) (hc : k ≤ c') (hc' : c' ≤ c) (hn : A = none → c' = 0) : RowZ w e z (.slice A k c') k (xs.take (k * z)) := by
  have hl : (xs.take (k * z)).length = k * z := by
    rw [List.length_take, h.len]
    have := Nat.mul_le_mul_right z hk
    omega
  rcases h with ⟨h0, rfl, rfl⟩ | ⟨g', cap, cur, h0, hh, h1, h2, h3, h4, h5⟩
  · simp only [Value.slice.injEq] at h0
    obtain rfl : k = 0 := by omega
    rw [h0.1, hn h0.1]
    exact .inl ⟨rfl, rfl, by simp⟩
  · simp only [Value.slice.injEq] at h0
    obtain ⟨rfl, rfl, rfl⟩ := h0
    refine .inr ⟨g', c', cur, rfl, hh, hc, Nat.le_trans (Nat.mul_le_mul_right z hc') h2, by omega, hl, ?_⟩
    rw [← h5, List.take_take]
    congr 1
    have := Nat.mul_le_mul_right z hk
    omega
theorem RowZ.far (h : RowZ w e z v n xs) {p : Addr} (hp : v.ownBlock ≠ some p.block) (u : Value) : RowZ (w.setCell p u) e z v n xs :=
  h.keep fun g hg => Below.heap_setCell w p u g (fun he => hp (by rw [hg, he]))
theorem RowZ.laid (w : World) (e : TypeId) (z n : Nat) (cs : List Value) (hl : cs.length = n * z) (hm : n ≤ maxLen) : RowZ (w.alloc (.cells cs.toArray e)) e z (.slice (some ⟨w.heap.size, 0, none⟩) n n) n cs :=
  .inr ⟨w.heap.size, n, cs.toArray, rfl, heap_alloc_new w _, Nat.le_refl _, by simp [hl], hm, hl, by rw [← hl]; simp⟩
end

theorem run_app_rowz {P : Program} {w : World} (t tx ty e : TypeId) (i : TypeInfo) (z : Value) (sz bytes : Nat) (ht : P.underlying t = some (.slice e)) (hi : P.info? e = some i) (hz : i.zero = some z)
    (hsize : i.size = sz) (hby : i.bytes = bytes) (hzs : z.cells.size = sz) (v : Value) (n : Nat) (xs : List Value) (hrow : RowZ w e sz v n xs) (x : Value) (m : Nat) (news : List Value) (hs : Src P sz tx x m news w)
    (h63 : n + m ≤ maxLen) (hbytes : (n + m) * bytes ≤ 140737488355328) :
    ∃ A' c' w', (Builtin.append_ #[t, tx] ty #[v, x]).run P w = .ok (.slice A' (n + m) c') w' ∧ RowZ w' e sz (.slice A' (n + m) c') (n + m) (xs ++ news) ∧ w.grownBy w' v.ownBlock ∧
      ((Value.slice A' (n + m) c').ownBlock = v.ownBlock ∨ (Value.slice A' (n + m) c').ownBlock = some w.heap.size) := by
  have hsmall : ((n + m : Nat) : Int) ≤ 9223372036854775807 := by simp only [maxLen] at h63; omega
  have hs' : Src P i.size tx x m news w := by rw [hsize]; exact hs
  have hnl : news.length = m * sz := hs.newsLen
  have hxl := hrow.len
  have hlen : (xs ++ news).length = (n + m) * sz := by rw [List.length_append, hnl, hxl, Nat.add_mul]
  have hgrown : ∀ old, RowZ (w.drew.alloc (.cells ((xs ++ news).toArray ++ Builtin.zeroCells z.cells (grownCap w (n + m) old e - (n + m))) e)) e sz
      (.slice (some ⟨w.heap.size, 0, none⟩) (n + m) (grownCap w (n + m) old e)) (n + m) (xs ++ news) := fun old => by
    have hge := grownCap_ge w (n + m) old e
    refine .inr ⟨w.heap.size, grownCap w (n + m) old e, _, rfl, heap_alloc_new w.drew _, hge, ?_, grownCap_le_maxLen w (n + m) old e h63, hlen, ?_⟩
    · simp only [Array.size_append, List.size_toArray, size_zeroCells, hzs, hlen]
      rw [← Nat.add_mul, Nat.add_sub_cancel' hge]
      exact Nat.le_refl _
    · simp only [Array.toList_append]
      exact List.take_left' hlen
  subst hby
  rcases hrow with ⟨rfl, rfl, rfl⟩ | ⟨g, cap, cur, rfl, hg, hnc, hcs, hcm, hxl', htake⟩
  · by_cases hm : m = 0
    · subst hm
      have hn0 : news = [] := List.eq_nil_of_length_eq_zero (by simpa using hnl)
      subst hn0
      refine ⟨none, 0, w, ?_, RowZ.nil, ⟨rfl, rfl, rfl, Nat.le_refl _, fun _ _ _ => rfl⟩, .inl rfl⟩
      have hc := hs'.cells
      have hl := hs'.len
      rcases hs'.kind with ⟨e', hk⟩ | hk <;> simp [Builtin.append_, run_underlying ht, run_underlying hk, sizeOf, typeInfo, hi, hl, hc]
    · have hr := run_append_grow_src (P := P) w t tx ty e i z ht hi hz none 0 0 [] (run_firstCells_none w.drew i.size 0 0 0) x m news hs' (by omega) hsmall (growslice_fits (by omega) hbytes)
      exact ⟨_, _, _, hr, hgrown 0, ⟨rfl, rfl, rfl, by simp, fun k hk _ => Below.heap_alloc w.drew _ k hk⟩, .inr rfl⟩
  · by_cases hroom : n + m ≤ cap
    · have hmul : (n + m) * sz ≤ cap * sz := Nat.mul_le_mul_right sz hroom
      have hfit : n * sz + news.length ≤ cur.size := by rw [hnl, ← Nat.add_mul]; omega
      have hcell : ∀ j, j < news.length → (w.cell? ⟨g, 0 + n * i.size + j, none⟩).isSome = true := fun j hj => by
        rw [cell_of_row w g _ cur e (0, 0) hg, hsize, Array.getElem?_eq_getElem (by omega)]; rfl
      have hr := run_append_room_src (P := P) w t tx ty e i ht hi g 0 n cap x m news hs' hroom hcell (fun j _ => frozen_of_row w g _ cur e hg)
      rw [hsize, Nat.zero_add] at hr
      obtain ⟨cur', h1, h2, h3⟩ := setCells_block g e news (n * sz) w cur hg hfit
      refine ⟨_, _, _, hr, .inr ⟨g, cap, cur', rfl, h1, hroom, by omega, hcm, hlen, ?_⟩, ⟨?_, ?_, ?_, ?_, ?_⟩, .inl rfl⟩
      · rw [h3, htake, ← List.append_assoc]
        exact List.take_left' hlen
      · exact (setCells_rest g news (n * sz) w).1
      · exact (setCells_rest g news (n * sz) w).2.1
      · exact (setCells_rest g news (n * sz) w).2.2.1
      · exact (setCells_rest g news (n * sz) w).2.2.2
      · intro k hk hne
        exact World.heap_setCells_other w g (n * sz) news hk (fun e => hne (by subst e; rfl))
    · have hold : (Builtin.firstCells i.size n (.slice (some ⟨g, 0, none⟩) n cap)).run P w.drew = .ok xs.toArray w.drew := by
        rw [hsize]
        refine run_firstCells_some w.drew sz n ⟨g, 0, none⟩ n cap xs hxl' fun j u hu => ?_
        rw [add_plain, Nat.zero_add]
        show w.cell? _ = _
        rw [cell_block hg, ← hu, ← htake, List.getElem?_take, if_pos (by have := (List.getElem?_eq_some_iff.1 hu).1; omega)]
        simp
      have hr := run_append_grow_src (P := P) w t tx ty e i z ht hi hz (some ⟨g, 0, none⟩) n cap xs hold x m news hs' (by omega) hsmall (growslice_fits (by omega) hbytes)
      exact ⟨_, _, _, hr, hgrown cap, ⟨rfl, rfl, rfl, by simp, fun k hk _ => Below.heap_alloc w.drew _ k hk⟩, .inr rfl⟩

theorem app_rowz {P : Program} {w : World} {ops : Array Oper} {rest : List Oper} {o : Oper} {a : Act} {Q : Exit → Act → World → Prop} (hgd : o.guard = none) (s x : Operand) (t tx : TypeId)
    (ho : o.op = .call { callee := .builtin .append, args := #[s, x], argTypes := #[t, tx] })
    (e : TypeId) (i : TypeInfo) (z : Value) (sz bytes : Nat) (ht : P.underlying t = some (.slice e)) (hi : P.info? e = some i) (hz : i.zero = some z)
    (hsize : i.size = sz) (hby : i.bytes = bytes) (hzs : z.cells.size = sz)
    (v : Value) (n : Nat) (xs : List Value) (hs : a.eval s = v) (hrow : RowZ w e sz v n xs)
    (xv : Value) (m : Nat) (news : List Value) (hx : a.eval x = xv) (hsrc : Src P sz tx xv m news w)
    (h63 : n + m ≤ maxLen) (hbytes : (n + m) * bytes ≤ 140737488355328)
    (h : ∀ A' c' w', RowZ w' e sz (.slice A' (n + m) c') (n + m) (xs ++ news) → w.grownBy w' v.ownBlock → ((Value.slice A' (n + m) c').ownBlock = v.ownBlock ∨ (Value.slice A' (n + m) c').ownBlock = some w.heap.size) →
      wpList P ops Q rest (a.put o.dst (.slice A' (n + m) c')) w') : wpList P ops Q (o :: rest) a w := by
  refine wpList_plain hgd fun K hK => ?_
  obtain ⟨A', c', w', hr, h2, h3, h4⟩ := run_app_rowz (P := P) (w := w) t tx o.type e i z sz bytes ht hi hz hsize hby hzs v n xs hrow xv m news hsrc h63 hbytes
  unfold Oper.wp
  simp [execOp, ho, resolve, invoke, builtin, hs, hx, hr, Result.andThen]
  exact hK _ _ (h A' c' w' h2 h3 h4)
end Go.Proofs.Ythnbhcfpfbimgaa
/- A region that draws its order, of operations that read and of some that write in more than one order: the reads first, then the writers in each order that they may take. No program in sight. -/
namespace Go.Proofs.Ythnbhcfpfbimgaa

/-- The orders: at each place the operations that may come next, with what follows each; 'take': one that only reads is taken first. -/
inductive WT where
  | done
  | step (k : Nat) (b : Bool) (next alt : WT)
  | take (k : Nat) (next : WT)

def WT.keys : WT → List Nat
  | .done => []
  | .step k _ _ alt => k :: alt.keys
  | .take _ _ => []
/-- All writers with their flags. -/
def WT.all : WT → List (Nat × Bool)
  | .done => []
  | .step k b next alt => (k, b) :: (next.all ++ alt.all)
  | .take _ next => next.all
def WT.takes : WT → List Nat
  | .done => []
  | .step _ _ next alt => next.takes ++ alt.takes
  | .take k next => k :: next.takes
def WT.isTake : WT → Bool
  | .take _ _ => true
  | _ => false

section
variable {P : Program} {ops : Array Oper} {Q : Exit → Act → World → Prop} {md : Region.Mode} {S : World → Prop} {need : Nat → Bool}

/-- The writers, in each order. -/
def wpTree (P : Program) (ops : Array Oper) (Q : Exit → Act → World → Prop) (S : World → Prop) : WT → Bool → Act → World → Prop
  | .done, top, a, w => top = true → Q .normal a w
  | .step k b next alt, _, a, w => (∀ o, ops[k]? = some o → wpList P ops (chainPost S b (wpTree P ops Q S next true)) [o] a w) ∧ wpTree P ops Q S alt false a w
  | .take k next, _, a, w => ∀ o, ops[k]? = some o → if Region.wanted o (yielded ops a.tmps) then held P o a S (fun a' => wpTree P ops Q S next true a' w) else wpTree P ops Q S next true (a.put o.dst undef) w
theorem wpTree_end {a : Act} {w : World} (h : Q .normal a w) : wpTree P ops Q S .done true a w := fun _ => h
theorem wpTree_step {k : Nat} {b : Bool} {next : WT} {top : Bool} {a : Act} {w : World} {o : Oper} (ho : ops[k]? = some o)
    (h : ∀ K : Act → World → Prop, (∀ a w, wpTree P ops Q S next true a w → K a w) → wpList P ops (chainPost S b K) [o] a w) : wpTree P ops Q S (.step k b next .done) top a w :=
  ⟨fun o' ho' => by rw [ho] at ho'; cases ho'; exact h _ fun _ _ h => h, fun h => by cases h⟩
theorem wpTree_both {k : Nat} {b : Bool} {next alt : WT} {top : Bool} {a : Act} {w : World} {o : Oper} (ho : ops[k]? = some o)
    (h : ∀ K : Act → World → Prop, (∀ a w, wpTree P ops Q S next true a w → K a w) → wpList P ops (chainPost S b K) [o] a w) (h2 : wpTree P ops Q S alt false a w) : wpTree P ops Q S (.step k b next alt) top a w :=
  ⟨fun o' ho' => by rw [ho] at ho'; cases ho'; exact h _ fun _ _ h => h, h2⟩

theorem wpTree_take {k : Nat} {next : WT} {top : Bool} {a : Act} {w : World} {o : Oper} (ho : ops[k]? = some o)
    (h : ∀ K : Act → Prop, (∀ a, wpTree P ops Q S next true a w → K a) → if Region.wanted o (yielded ops a.tmps) then held P o a S K else K (a.put o.dst undef)) : wpTree P ops Q S (.take k next) top a w :=
  fun o' ho' => by rw [ho] at ho'; cases ho'; exact h _ fun _ h => h

/-- The Bool over the orders: at each place just these may come next. n is the number of operations still to come. -/
def okB (md : Region.Mode) (ops : Array Oper) : WT → Bool → Nat → Array Bool → Bool
  | .done, top, n, listed => !top || (n == 0 && Region.ready md ops listed == [])
  | .step k b next alt, top, n, listed => (!top || Region.ready md ops listed == k :: alt.keys) && (b || !next.isTake) && !alt.isTake && (match n with
      | 0 => false
      | m + 1 => (ops[k]?).isSome && okB md ops next true m (listed.setIfInBounds k true)) && okB md ops alt false n listed
  | .take k next, _, n, listed => (match n with
      | 0 => false
      | m + 1 => (Region.ready md ops listed).contains k && Region.free md ops listed k && (ops[k]?).isSome && okB md ops next true m (listed.setIfInBounds k true))

theorem tree_any {l : List Oper} (hsel : Region.noSelect l.toArray = true) (hpan : ∀ c a w o v, Q (.panic c) (Act.put a (Oper.dst o) v) w → Q (.panic c) a w) : ∀ (t : WT) (top : Bool) (n : Nat) (listed : Array Bool) (a : Act) (w : World),
    (∀ k b, (k, b) ∈ t.all → need k = true → b = true) → (∀ i ∈ t.takes, ∀ j oj, l.toArray[j]? = some oj → need j = false → ∃ e ∈ oj.after, Region.binds md e = true ∧ e.on = i) → (t.isTake = true → S w) →
    okB md l.toArray t top n listed = true → wpTree P l.toArray Q S t top a w →
    ((top = true ∨ t.isTake = true) → wpAnyN P md l.toArray Q S need n listed a w) ∧
    ∀ i ∈ t.keys, ∃ m, n = m + 1 ∧ wpOp P l.toArray Q i (fun a' w' => (need i = true → S w') ∧ wpAnyN P md l.toArray Q S need m (listed.setIfInBounds i true) a' w') a w
  | .done, top, n, listed, a, w, _, _, _, hB, h => by
    refine ⟨fun ht => ?_, fun i hi => by cases hi⟩
    obtain rfl : top = true := by
      rcases ht with ht | ht
      · exact ht
      · cases ht
    simp only [okB, Bool.not_true, Bool.false_or, Bool.and_eq_true, beq_iff_eq] at hB
    obtain ⟨hn, hr⟩ := hB
    subst hn
    exact ⟨hr, h rfl⟩
  | .step k b next alt, top, n, listed, a, w, hf, ht, _, hB, h => by
    match n, hB with
    | 0, hB => simp [okB] at hB
    | m + 1, hB =>
      simp only [okB, Bool.and_eq_true, Bool.or_eq_true, Bool.not_eq_true', beq_iff_eq] at hB
      obtain ⟨⟨⟨⟨hr, hbt⟩, hat⟩, ⟨hs, hn⟩⟩, ha⟩ := hB
      obtain ⟨o, ho⟩ := Option.isSome_iff_exists.1 hs
      have h2 : ∀ i ∈ (WT.step k b next alt).keys, ∃ m', m + 1 = m' + 1 ∧ wpOp P l.toArray Q i (fun a' w' => (need i = true → S w') ∧ wpAnyN P md l.toArray Q S need m' (listed.setIfInBounds i true) a' w') a w := fun i hi => by
        rcases List.mem_cons.1 hi with hi | hi
        · subst hi
          refine ⟨m, rfl, wpOp_mono (fun a' w' h' => ⟨fun hn => h'.1 (hf i b (by simp [WT.all]) hn), ?_⟩) (chain_list (by simpa using ho) (h.1 o ho))⟩
          refine (tree_any hsel hpan next true m _ a' w' (fun k' b' hk => hf k' b' (by simp [WT.all, hk])) (fun i hi => ht i (by simp [WT.takes, hi])) (fun htk => h'.1 ?_) hn h'.2).1 (.inl rfl)
          rcases hbt with hb | hb
          · exact hb
          · rw [htk] at hb; cases hb
        · exact (tree_any hsel hpan alt false (m + 1) listed a w (fun k' b' hk => hf k' b' (by simp [WT.all, hk])) (fun i hi => ht i (by simp [WT.takes, hi])) (fun h => by rw [hat] at h; cases h) ha h.2).2 i hi
      refine ⟨fun htop => ?_, h2⟩
      obtain rfl : top = true := by
        rcases htop with h | h
        · exact h
        · cases h
      have hr : Region.ready md l.toArray listed = k :: alt.keys := by
        rcases hr with h | h
        · cases h
        · exact h
      refine ⟨fun h0 => ?_, fun i hi => ?_⟩
      · rw [hr] at h0; cases h0
      · rw [hr] at hi
        obtain ⟨m', hm, hw⟩ := h2 i hi
        obtain rfl : m = m' := by omega
        exact hw
  | .take k next, top, n, listed, a, w, hf, ht, hS, hB, h => by
    match n, hB with
    | 0, hB => simp [okB] at hB
    | m + 1, hB =>
      simp only [okB, Bool.and_eq_true] at hB
      obtain ⟨⟨⟨hr, hfr⟩, hs⟩, hn⟩ := hB
      obtain ⟨o, ho⟩ := Option.isSome_iff_exists.1 hs
      refine ⟨fun _ => ?_, fun i hi => by cases hi⟩
      have hSw := hS rfl
      have key : ∃ v, YieldsIf P l.toArray S o v a ∧ wpTree P l.toArray Q S next true (a.put o.dst v) w := by
        have h' := h o ho
        split at h'
        · rename_i hw
          obtain ⟨v, h1, h2⟩ := h'
          exact ⟨v, .inl ⟨hw, h1⟩, h2⟩
        · rename_i hw
          exact ⟨undef, .inr ⟨by simpa using hw, rfl⟩, h'⟩
      obtain ⟨v, hy, hK⟩ := key
      exact wpAnyN_first ho (Region.noSelect_spec hsel) (fun j oj hj hnj => ht k (by simp [WT.takes]) j oj hj hnj) (fun c a w h => hpan c a w o v h) _ listed a w (Region.free_spec ho hfr) (by simpa using hr) hy hSw
        ((tree_any hsel hpan next true m _ _ w (fun k' b' hk => hf k' b' (by simpa [WT.all] using hk)) (fun i hi => ht i (by simp [WT.takes, hi])) (fun _ => hSw) hn hK).1 (.inl rfl))

theorem reads_tree {l : List Oper} (t : WT) (m : Nat) (hsel : Region.noSelect l.toArray = true) (hpan : ∀ c a w o v, Q (.panic c) (Act.put a (Oper.dst o) v) w → Q (.panic c) a w)
    (hn2 : ∀ k b, (k, b) ∈ t.all → need k = true → b = true) (ht : ∀ i ∈ t.takes, ∀ j oj, l.toArray[j]? = some oj → need j = false → ∃ e ∈ oj.after, Region.binds md e = true ∧ e.on = i) :
    ∀ (rs : List Nat) (listed : Array Bool) (a : Act) (w : World), (∀ i ∈ rs, ∀ j oj, l.toArray[j]? = some oj → need j = false → ∃ e ∈ oj.after, Region.binds md e = true ∧ e.on = i) →
    readsB md l.toArray rs listed = true → okB md l.toArray t true m (rs.foldl (fun l k => l.setIfInBounds k true) listed) = true → S w →
    wpHeld P l.toArray S (fun a' => wpTree P l.toArray Q S t true a' w) (picks l rs) a → wpAnyN P md l.toArray Q S need (rs.length + m) listed a w
  | [], listed, a, w, hneed, hB, hW, hS, h => by
    rw [List.length_nil, Nat.zero_add]
    exact (tree_any hsel hpan t true m listed a w hn2 ht (fun _ => hS) hW h).1 (.inl rfl)
  | k :: rs, listed, a, w, hneed, hB, hW, hS, h => by
    simp only [readsB, Bool.and_eq_true] at hB
    obtain ⟨⟨⟨hr, hf⟩, hs⟩, hB'⟩ := hB
    obtain ⟨o, ho⟩ := Option.isSome_iff_exists.1 hs
    have ho' : l[k]? = some o := by simpa using ho
    simp only [picks, List.filterMap_cons, ho'] at h
    rw [show (k :: rs).length + m = rs.length + m + 1 from by simp; omega]
    have key : ∃ v, YieldsIf P l.toArray S o v a ∧ wpHeld P l.toArray S (fun a' => wpTree P l.toArray Q S t true a' w) (picks l rs) (a.put o.dst v) := by
      unfold wpHeld at h
      split at h
      · rename_i hw
        obtain ⟨v, h1, h2⟩ := h
        exact ⟨v, .inl ⟨hw, h1⟩, h2⟩
      · rename_i hw
        exact ⟨undef, .inr ⟨by simpa using hw, rfl⟩, h⟩
    obtain ⟨v, hy, hK⟩ := key
    exact wpAnyN_first ho (Region.noSelect_spec hsel) (fun j oj hj hnj => hneed k (by simp) j oj hj hnj) (fun c a w h => hpan c a w o v h) _ listed a w (Region.free_spec ho hf) (by simpa using hr) hy hS
      (reads_tree t m hsel hpan hn2 ht rs _ _ w (fun i hi => hneed i (by simp [hi])) hB' hW hS hK)
end

def treeB (md : Region.Mode) (ops : Array Oper) (rs : List Nat) (t : WT) : Bool :=
  Region.noSelect ops && readsB md ops rs (Array.replicate ops.size false) &&
    okB md ops t true (ops.size - rs.length) (rs.foldl (fun l k => l.setIfInBounds k true) (Array.replicate ops.size false)) && needB md ops (rs ++ t.takes) t.all && (rs.length + (ops.size - rs.length) == ops.size)

theorem wp_region_tree {P : Program} {id : Nat} {Q : Exit → Act → World → Prop} {a : Act} {w : World} {l : List Oper} (rs : List Nat) (t : WT) (F : World → Prop) (hm : P.follows .mixedOrders = true)
    (hB : treeB .any l.toArray rs t = true) (hpan0 : ∀ c a w d v, Q (.panic c) (Act.put a (some d) v) w → Q (.panic c) a w) (hF : F w.drew)
    (h : Nonempty (HoldW F) → wpHeld P l.toArray (fun w' => ∃ u : HoldW F, w' = u.w) (fun a' => wpTree P l.toArray Q (fun w' => ∃ u : HoldW F, w' = u.w) t true a' w.drew) (picks l rs) a) :
    (Code.region id l.toArray true).wp P Q a w := by
  have hpan : ∀ c a w o v, Q (.panic c) (Act.put a (Oper.dst o) v) w → Q (.panic c) a w := fun c a w o v h => by
    cases hd : o.dst with
    | none => rw [hd] at h; exact h
    | some d => rw [hd] at h; exact hpan0 c a w d v h
  simp only [treeB, Bool.and_eq_true, beq_iff_eq] at hB
  obtain ⟨⟨⟨⟨h1, h2⟩, h3⟩, h4⟩, h5⟩ := hB
  refine wp_region_any hm ?_
  have hne : Nonempty (HoldW F) := ⟨⟨_, hF⟩⟩
  have hmem : ∀ k b, (k, b) ∈ t.all → b = true ∨ ∀ o, l.toArray[k]? = some o → ∀ i ∈ rs ++ t.takes, ∃ e ∈ o.after, Region.binds .any e = true ∧ e.on = i := fun k b hk => by
    have h4' := List.all_eq_true.1 h4 (k, b) hk
    simp only [Bool.or_eq_true] at h4'
    refine h4'.imp (fun h => h) fun h o ho i hi => ?_
    rw [ho] at h
    have := List.all_eq_true.1 h i hi
    obtain ⟨e, he, hb⟩ := Array.any_eq_true'.1 this
    simp only [Bool.and_eq_true, beq_iff_eq] at hb
    exact ⟨e, he, hb⟩
  have hed : ∀ i ∈ rs ++ t.takes, ∀ j oj, l.toArray[j]? = some oj → (!(t.all.any fun x => x.1 == j && !x.2)) = false → ∃ e ∈ oj.after, Region.binds .any e = true ∧ e.on = i := fun i hi j oj hj hnj => by
    simp only [Bool.not_eq_false', List.any_eq_true] at hnj
    obtain ⟨⟨k, b⟩, hk, hb⟩ := hnj
    simp only [Bool.and_eq_true, beq_iff_eq, Bool.not_eq_true'] at hb
    obtain ⟨rfl, rfl⟩ := hb
    rcases hmem k false hk with h | h
    · cases h
    · exact h oj hj i hi
  have key := reads_tree (S := fun w' => ∃ u : HoldW F, w' = u.w) (need := fun k => !(t.all.any fun x => x.1 == k && !x.2)) t (l.toArray.size - rs.length) h1 hpan (fun k b hk hb => ?_) (fun i hi => hed i (List.mem_append_right _ hi)) rs _ _ _ (fun i hi => hed i (List.mem_append_left _ hi)) h2 h3 ⟨⟨_, hF⟩, rfl⟩ (h hne)
  · rw [h5] at key; exact wpAny_of_need _ _ _ _ key
  · simp only [Bool.not_eq_true', List.any_eq_false] at hb
    have := hb (k, b) hk
    simpa using this
end Go.Proofs.Ythnbhcfpfbimgaa
