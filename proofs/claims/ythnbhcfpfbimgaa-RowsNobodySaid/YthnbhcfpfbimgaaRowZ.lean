/- Rows whose elements are some cells each: a slice value that lies at the head of a block of them: kept, cut, appended to. No program in sight. -/
import Derived.Test.YthnbhcfpfbimgaaRow
namespace Go.Proofs.Ythnbhcfpfbimgaa
open Go.RowKit

/-- The slice value v lies at the head of a block of element type e, z cells an element; it has n elements, and xs are their cells. -/
def RowZ (w : World) (e : TypeId) (z : Nat) (v : Value) (n : Nat) (xs : List Value) : Prop :=
  (v = .slice none 0 0 ∧ n = 0 ∧ xs = []) ∨
  ∃ g cap cur, v = .slice (some ⟨g, 0, none⟩) n cap ∧ w.heap[g]? = some (.cells cur e (0, 0)) ∧ n ≤ cap ∧ cap * z ≤ cur.size ∧ cap ≤ maxLen ∧ xs.length = n * z ∧ cur.toList.take (n * z) = xs

section
variable {w w' : World} {e : TypeId} {z n : Nat} {v : Value} {xs : List Value}
theorem RowZ.nil : RowZ w e z (.slice none 0 0) 0 [] := .inl ⟨rfl, rfl, rfl⟩
theorem RowZ.form (h : RowZ w e z v n xs) : ∃ A c, v = .slice A n c ∧ n ≤ c ∧ c ≤ maxLen := by
  rcases h with ⟨rfl, rfl, rfl⟩ | ⟨g, cap, cur, rfl, _, h1, _, h3, _⟩
  · exact ⟨none, 0, rfl, Nat.le_refl _, Nat.zero_le _⟩
  · exact ⟨_, cap, rfl, h1, h3⟩
theorem RowZ.len (h : RowZ w e z v n xs) : xs.length = n * z := by
  rcases h with ⟨rfl, rfl, rfl⟩ | ⟨g, cap, cur, _, _, _, _, _, h5, _⟩
  · simp
  · exact h5
theorem RowZ.lt (h : RowZ w e z v n xs) : ∀ g, v.ownBlock = some g → g < w.heap.size := by
  intro g hg
  rcases h with ⟨rfl, _⟩ | ⟨g', cap, cur, rfl, hh, _⟩
  · simp [Value.ownBlock] at hg
  · simp [Value.ownBlock] at hg
    subst hg
    exact (Array.getElem?_eq_some_iff.1 hh).1
theorem RowZ.keep (h : RowZ w e z v n xs) (hk : ∀ g, v.ownBlock = some g → w'.heap[g]? = w.heap[g]?) : RowZ w' e z v n xs := by
  rcases h with h0 | ⟨g, cap, cur, rfl, hh, r⟩
  · exact .inl h0
  · exact .inr ⟨g, cap, cur, rfl, (hk g rfl).trans hh, r⟩
theorem RowZ.below (h : RowZ w e z v n xs) (hb : Below w.heap.size w w') : RowZ w' e z v n xs := h.keep fun g hg => hb.block g (h.lt g hg)
theorem RowZ.dr (h : RowZ w e z v n xs) (hd : Dr w w') : RowZ w' e z v n xs := h.below (hd.below _)
theorem RowZ.block (h : RowZ w e z v n xs) {g : Nat} (hg : v.ownBlock = some g) : ∃ cur, w.heap[g]? = some (.cells cur e (0, 0)) := by
  rcases h with ⟨rfl, _⟩ | ⟨g', cap, cur, rfl, hh, _⟩
  · simp [Value.ownBlock] at hg
  · simp [Value.ownBlock] at hg
    subst hg
    exact ⟨cur, hh⟩
theorem RowZ.ne_type (h : RowZ w e z v n xs) {g : Nat} {t : TypeId} {cs : Array Value} (hg : w.heap[g]? = some (.cells cs t (0, 0))) (hne : e ≠ t) : v.ownBlock ≠ some g := by
  intro he
  obtain ⟨cur, hc⟩ := h.block he
  exact blocks_ne hc hg hne rfl
theorem RowZ.cell {g c : Nat} {k : Nat} (h : RowZ w e z (.slice (some ⟨g, 0, none⟩) k c) n xs) {j : Nat} (hj : j < xs.length) : w.cell? ⟨g, j, none⟩ = xs[j]? := by
  rcases h with ⟨h0, _⟩ | ⟨g', cap, cur, h0, hh, _, _, _, hl, ht⟩
  · cases h0
  · simp only [Value.slice.injEq, Option.some.injEq, Addr.mk.injEq, and_true] at h0
    obtain ⟨rfl, _, _⟩ := h0
    rw [cell_block hh, ← ht, List.getElem?_take, if_pos (by omega)]
    simp
theorem RowZ.free {g c : Nat} {k : Nat} (h : RowZ w e z (.slice (some ⟨g, 0, none⟩) k c) n xs) (j : Nat) : w.frozen? ⟨g, j, none⟩ = false := by
  rcases h with ⟨h0, _⟩ | ⟨g', cap, cur, h0, hh, _⟩
  · cases h0
  · simp only [Value.slice.injEq, Option.some.injEq, Addr.mk.injEq, and_true] at h0
    obtain ⟨rfl, _, _⟩ := h0
    exact frozen_of_row w g j cur e hh
theorem RowZ.addr {A : Option Addr} {k c : Nat} (h : RowZ w e z (.slice A k c) n xs) (hp : 0 < n) : ∃ g, A = some ⟨g, 0, none⟩ := by
  rcases h with ⟨_, h0, _⟩ | ⟨g', cap, cur, h0, _⟩
  · omega
  · simp only [Value.slice.injEq] at h0
    exact ⟨g', h0.1⟩
/-- 's[:k]': the first elements, whatever the room behind them. -/
theorem RowZ.cut {A : Option Addr} {m c k c' : Nat} (h : RowZ w e z (.slice A m c) n xs) (hk : k ≤ n) (hc : k ≤ c') (hc' : c' ≤ c) (hn : A = none → c' = 0) : RowZ w e z (.slice A k c') k (xs.take (k * z)) := by
  have hl : (xs.take (k * z)).length = k * z := by
    rw [List.length_take, h.len]
    have := Nat.mul_le_mul_right z hk
    omega
  rcases h with ⟨h0, rfl, rfl⟩ | ⟨g', cap, cur, h0, hh, h1, h2, h3, h4, h5⟩
  · simp only [Value.slice.injEq] at h0
    obtain rfl : k = 0 := by omega
    rw [h0.1, hn h0.1]
    exact .inl ⟨rfl, rfl, by simp⟩
  · simp only [Value.slice.injEq] at h0
    obtain ⟨rfl, rfl, rfl⟩ := h0
    refine .inr ⟨g', c', cur, rfl, hh, hc, Nat.le_trans (Nat.mul_le_mul_right z hc') h2, by omega, hl, ?_⟩
    rw [← h5, List.take_take]
    congr 1
    have := Nat.mul_le_mul_right z hk
    omega
theorem RowZ.far (h : RowZ w e z v n xs) {p : Addr} (hp : v.ownBlock ≠ some p.block) (u : Value) : RowZ (w.setCell p u) e z v n xs :=
  h.keep fun g hg => Below.heap_setCell w p u g (fun he => hp (by rw [hg, he]))
theorem RowZ.laid (w : World) (e : TypeId) (z n : Nat) (cs : List Value) (hl : cs.length = n * z) (hm : n ≤ maxLen) : RowZ (w.alloc (.cells cs.toArray e)) e z (.slice (some ⟨w.heap.size, 0, none⟩) n n) n cs :=
  .inr ⟨w.heap.size, n, cs.toArray, rfl, heap_alloc_new w _, Nat.le_refl _, by simp [hl], hm, hl, by rw [← hl]; simp⟩
end

theorem run_app_rowz {P : Program} {w : World} (t tx ty e : TypeId) (i : TypeInfo) (z : Value) (sz bytes : Nat) (ht : P.underlying t = some (.slice e)) (hi : P.info? e = some i) (hz : i.zero = some z)
    (hsize : i.size = sz) (hby : i.bytes = bytes) (hzs : z.cells.size = sz) (v : Value) (n : Nat) (xs : List Value) (hrow : RowZ w e sz v n xs) (x : Value) (m : Nat) (news : List Value) (hs : Src P sz tx x m news w)
    (h63 : n + m ≤ maxLen) (hbytes : (n + m) * bytes ≤ 140737488355328) :
    ∃ A' c' w', (Builtin.append_ #[t, tx] ty #[v, x]).run P w = .ok (.slice A' (n + m) c') w' ∧ RowZ w' e sz (.slice A' (n + m) c') (n + m) (xs ++ news) ∧ w.grownBy w' v.ownBlock ∧
      ((Value.slice A' (n + m) c').ownBlock = v.ownBlock ∨ (Value.slice A' (n + m) c').ownBlock = some w.heap.size) := by
  have hsmall : ((n + m : Nat) : Int) ≤ 9223372036854775807 := by simp only [maxLen] at h63; omega
  have hs' : Src P i.size tx x m news w := by rw [hsize]; exact hs
  have hnl : news.length = m * sz := hs.newsLen
  have hxl := hrow.len
  have hlen : (xs ++ news).length = (n + m) * sz := by rw [List.length_append, hnl, hxl, Nat.add_mul]
  have hgrown : ∀ old, RowZ (w.drew.alloc (.cells ((xs ++ news).toArray ++ Builtin.zeroCells z.cells (grownCap w (n + m) old e - (n + m))) e)) e sz
      (.slice (some ⟨w.heap.size, 0, none⟩) (n + m) (grownCap w (n + m) old e)) (n + m) (xs ++ news) := fun old => by
    have hge := grownCap_ge w (n + m) old e
    refine .inr ⟨w.heap.size, grownCap w (n + m) old e, _, rfl, heap_alloc_new w.drew _, hge, ?_, grownCap_le_maxLen w (n + m) old e h63, hlen, ?_⟩
    · simp only [Array.size_append, List.size_toArray, size_zeroCells, hzs, hlen]
      rw [← Nat.add_mul, Nat.add_sub_cancel' hge]
      exact Nat.le_refl _
    · simp only [Array.toList_append]
      exact List.take_left' hlen
  subst hby
  rcases hrow with ⟨rfl, rfl, rfl⟩ | ⟨g, cap, cur, rfl, hg, hnc, hcs, hcm, hxl', htake⟩
  · by_cases hm : m = 0
    · subst hm
      have hn0 : news = [] := List.eq_nil_of_length_eq_zero (by simpa using hnl)
      subst hn0
      refine ⟨none, 0, w, ?_, RowZ.nil, ⟨rfl, rfl, rfl, Nat.le_refl _, fun _ _ _ => rfl⟩, .inl rfl⟩
      have hc := hs'.cells
      have hl := hs'.len
      rcases hs'.kind with ⟨e', hk⟩ | hk <;> simp [Builtin.append_, run_underlying ht, run_underlying hk, sizeOf, typeInfo, hi, hl, hc]
    · have hr := run_append_grow_src (P := P) w t tx ty e i z ht hi hz none 0 0 [] (run_firstCells_none w.drew i.size 0 0 0) x m news hs' (by omega) hsmall (growslice_fits (by omega) hbytes)
      exact ⟨_, _, _, hr, hgrown 0, ⟨rfl, rfl, rfl, by simp, fun k hk _ => Below.heap_alloc w.drew _ k hk⟩, .inr rfl⟩
  · by_cases hroom : n + m ≤ cap
    · have hmul : (n + m) * sz ≤ cap * sz := Nat.mul_le_mul_right sz hroom
      have hfit : n * sz + news.length ≤ cur.size := by rw [hnl, ← Nat.add_mul]; omega
      have hcell : ∀ j, j < news.length → (w.cell? ⟨g, 0 + n * i.size + j, none⟩).isSome = true := fun j hj => by
        rw [cell_of_row w g _ cur e (0, 0) hg, hsize, Array.getElem?_eq_getElem (by omega)]; rfl
      have hr := run_append_room_src (P := P) w t tx ty e i ht hi g 0 n cap x m news hs' hroom hcell (fun j _ => frozen_of_row w g _ cur e hg)
      rw [hsize, Nat.zero_add] at hr
      obtain ⟨cur', h1, h2, h3⟩ := setCells_block g e news (n * sz) w cur hg hfit
      refine ⟨_, _, _, hr, .inr ⟨g, cap, cur', rfl, h1, hroom, by omega, hcm, hlen, ?_⟩, ⟨?_, ?_, ?_, ?_, ?_⟩, .inl rfl⟩
      · rw [h3, htake, ← List.append_assoc]
        exact List.take_left' hlen
      · exact (setCells_rest g news (n * sz) w).1
      · exact (setCells_rest g news (n * sz) w).2.1
      · exact (setCells_rest g news (n * sz) w).2.2.1
      · exact (setCells_rest g news (n * sz) w).2.2.2
      · intro k hk hne
        exact World.heap_setCells_other w g (n * sz) news hk (fun e => hne (by subst e; rfl))
    · have hold : (Builtin.firstCells i.size n (.slice (some ⟨g, 0, none⟩) n cap)).run P w.drew = .ok xs.toArray w.drew := by
        rw [hsize]
        refine run_firstCells_some w.drew sz n ⟨g, 0, none⟩ n cap xs hxl' fun j u hu => ?_
        rw [add_plain, Nat.zero_add]
        show w.cell? _ = _
        rw [cell_block hg, ← hu, ← htake, List.getElem?_take, if_pos (by have := (List.getElem?_eq_some_iff.1 hu).1; omega)]
        simp
      have hr := run_append_grow_src (P := P) w t tx ty e i z ht hi hz (some ⟨g, 0, none⟩) n cap xs hold x m news hs' (by omega) hsmall (growslice_fits (by omega) hbytes)
      exact ⟨_, _, _, hr, hgrown cap, ⟨rfl, rfl, rfl, by simp, fun k hk _ => Below.heap_alloc w.drew _ k hk⟩, .inr rfl⟩

theorem app_rowz {P : Program} {w : World} {ops : Array Oper} {rest : List Oper} {o : Oper} {a : Act} {Q : Exit → Act → World → Prop} (hgd : o.guard = none) (s x : Operand) (t tx : TypeId)
    (ho : o.op = .call { callee := .builtin .append, args := #[s, x], argTypes := #[t, tx] })
    (e : TypeId) (i : TypeInfo) (z : Value) (sz bytes : Nat) (ht : P.underlying t = some (.slice e)) (hi : P.info? e = some i) (hz : i.zero = some z)
    (hsize : i.size = sz) (hby : i.bytes = bytes) (hzs : z.cells.size = sz)
    (v : Value) (n : Nat) (xs : List Value) (hs : a.eval s = v) (hrow : RowZ w e sz v n xs)
    (xv : Value) (m : Nat) (news : List Value) (hx : a.eval x = xv) (hsrc : Src P sz tx xv m news w)
    (h63 : n + m ≤ maxLen) (hbytes : (n + m) * bytes ≤ 140737488355328)
    (h : ∀ A' c' w', RowZ w' e sz (.slice A' (n + m) c') (n + m) (xs ++ news) → w.grownBy w' v.ownBlock → ((Value.slice A' (n + m) c').ownBlock = v.ownBlock ∨ (Value.slice A' (n + m) c').ownBlock = some w.heap.size) →
      wpList P ops Q rest (a.put o.dst (.slice A' (n + m) c')) w') : wpList P ops Q (o :: rest) a w := by
  refine wpList_plain hgd fun K hK => ?_
  obtain ⟨A', c', w', hr, h2, h3, h4⟩ := run_app_rowz (P := P) (w := w) t tx o.type e i z sz bytes ht hi hz hsize hby hzs v n xs hrow xv m news hsrc h63 hbytes
  unfold Oper.wp
  simp [execOp, ho, resolve, invoke, builtin, hs, hx, hr, Result.andThen]
  exact hK _ _ (h A' c' w' h2 h3 h4)
end Go.Proofs.Ythnbhcfpfbimgaa
