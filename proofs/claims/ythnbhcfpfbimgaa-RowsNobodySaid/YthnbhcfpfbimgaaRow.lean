/- A slice value that lies at the head of a block whose first cells are known: kept, cut, written, appended to. Nothing is asked of the block's end: so a cut slice is a row, too. -/
import Derived.Test.YthnbhcfpfbimgaaAppStr
import Derived.Test.YthnbhcfpfbimgaaChain
namespace Go.Proofs.Ythnbhcfpfbimgaa
open Go.RowKit

/-- The slice value v lies at the head of a block of element type e (one cell an element); its elements are xs. -/
def Row (w : World) (e : TypeId) (v : Value) (xs : List Value) : Prop :=
  (v = .slice none 0 0 ∧ xs = []) ∨
  ∃ g cap cur, v = .slice (some ⟨g, 0, none⟩) xs.length cap ∧ w.heap[g]? = some (.cells cur e (0, 0)) ∧ xs.length ≤ cap ∧ cap ≤ cur.size ∧ cap ≤ maxLen ∧ cur.toList.take xs.length = xs

section
variable {w w' : World} {e : TypeId} {v : Value} {xs : List Value}
theorem Row.nil : Row w e (.slice none 0 0) [] := .inl ⟨rfl, rfl⟩
theorem Row.form (h : Row w e v xs) : ∃ A c, v = .slice A xs.length c ∧ xs.length ≤ c ∧ c ≤ maxLen := by
  rcases h with ⟨rfl, rfl⟩ | ⟨g, cap, cur, rfl, _, h1, _, h3, _⟩
  · exact ⟨none, 0, rfl, Nat.le_refl _, Nat.zero_le _⟩
  · exact ⟨_, cap, rfl, h1, h3⟩
theorem Row.lt (h : Row w e v xs) : ∀ g, v.ownBlock = some g → g < w.heap.size := by
  intro g hg
  rcases h with ⟨rfl, rfl⟩ | ⟨g', cap, cur, rfl, hh, _⟩
  · simp [Value.ownBlock] at hg
  · simp [Value.ownBlock] at hg
    subst hg
    exact (Array.getElem?_eq_some_iff.1 hh).1
theorem Row.keep (h : Row w e v xs) (hk : ∀ g, v.ownBlock = some g → w'.heap[g]? = w.heap[g]?) : Row w' e v xs := by
  rcases h with h0 | ⟨g, cap, cur, rfl, hh, r⟩
  · exact .inl h0
  · exact .inr ⟨g, cap, cur, rfl, (hk g rfl).trans hh, r⟩
theorem Row.below (h : Row w e v xs) (hb : Below w.heap.size w w') : Row w' e v xs := h.keep fun g hg => hb.block g (h.lt g hg)
theorem Row.dr (h : Row w e v xs) (hd : Dr w w') : Row w' e v xs := h.below (hd.below _)
/-- The block's own element type. -/
theorem Row.block (h : Row w e v xs) {g : Nat} (hg : v.ownBlock = some g) : ∃ cur, w.heap[g]? = some (.cells cur e (0, 0)) := by
  rcases h with ⟨rfl, rfl⟩ | ⟨g', cap, cur, rfl, hh, _⟩
  · simp [Value.ownBlock] at hg
  · simp [Value.ownBlock] at hg
    subst hg
    exact ⟨cur, hh⟩
theorem Row.ne_type (h : Row w e v xs) {g : Nat} {t : TypeId} {cs : Array Value} (hg : w.heap[g]? = some (.cells cs t (0, 0))) (hne : e ≠ t) : v.ownBlock ≠ some g := by
  intro he
  obtain ⟨cur, hc⟩ := h.block he
  exact blocks_ne hc hg hne rfl
theorem Row.cell {g c : Nat} {n : Nat} (h : Row w e (.slice (some ⟨g, 0, none⟩) n c) xs) {j : Nat} (hj : j < xs.length) : w.cell? ⟨g, j, none⟩ = xs[j]? := by
  rcases h with ⟨h0, _⟩ | ⟨g', cap, cur, h0, hh, _, _, _, ht⟩
  · cases h0
  · simp only [Value.slice.injEq, Option.some.injEq, Addr.mk.injEq, and_true] at h0
    obtain ⟨rfl, _, _⟩ := h0
    rw [cell_block hh, ← ht, List.getElem?_take, if_pos hj]
    simp
theorem Row.free {g c : Nat} {n : Nat} (h : Row w e (.slice (some ⟨g, 0, none⟩) n c) xs) (j : Nat) : w.frozen? ⟨g, j, none⟩ = false := by
  rcases h with ⟨h0, _⟩ | ⟨g', cap, cur, h0, hh, _⟩
  · cases h0
  · simp only [Value.slice.injEq, Option.some.injEq, Addr.mk.injEq, and_true] at h0
    obtain ⟨rfl, _, _⟩ := h0
    exact frozen_of_row w g j cur e hh
/-- With an element there is an address. -/
theorem Row.addr {A : Option Addr} {n c : Nat} (h : Row w e (.slice A n c) xs) (hp : 0 < xs.length) : ∃ g, A = some ⟨g, 0, none⟩ := by
  rcases h with ⟨_, h0⟩ | ⟨g', cap, cur, h0, _⟩
  · subst h0; simp at hp
  · simp only [Value.slice.injEq] at h0
    exact ⟨g', h0.1⟩
theorem Row.has {A : Option Addr} {c : Nat} (h : Row w e (.slice A xs.length c) xs) : Has w w.heap.size A xs.length xs := by
  refine ⟨rfl, fun hn => ?_⟩
  obtain ⟨g, rfl⟩ := h.addr hn
  exact ⟨g, 0, rfl, h.lt g rfl, fun j u hu => by rw [Nat.zero_add, h.cell (List.getElem?_eq_some_iff.1 hu).1]; exact hu⟩
/-- 's[:k:k]'. -/
theorem Row.cut {A : Option Addr} {n c k : Nat} (h : Row w e (.slice A n c) xs) (hk : k ≤ xs.length) : Row w e (.slice A k k) (xs.take k) := by
  have hl : (xs.take k).length = k := by rw [List.length_take]; omega
  rcases h with ⟨h0, rfl⟩ | ⟨g', cap, cur, h0, hh, h1, h2, h3, h4⟩
  · simp at hk
    subst hk
    simp only [Value.slice.injEq] at h0
    rw [h0.1]
    exact .inl ⟨rfl, rfl⟩
  · simp only [Value.slice.injEq] at h0
    obtain ⟨rfl, _, rfl⟩ := h0
    refine .inr ⟨g', k, cur, by rw [hl], hh, by omega, by omega, by omega, ?_⟩
    rw [hl]
    rw [← h4, List.take_take]
    congr 1
    omega
/-- A store to an element. -/
theorem Row.set {g c : Nat} (h : Row w e (.slice (some ⟨g, 0, none⟩) xs.length c) xs) (j : Nat) (u : Value) : Row (w.setCell ⟨g, j, none⟩ u) e (.slice (some ⟨g, 0, none⟩) xs.length c) (xs.set j u) := by
  rcases h with ⟨h0, _⟩ | ⟨g', cap, cur, h0, hh, h1, h2, h3, h4⟩
  · cases h0
  · simp only [Value.slice.injEq, Option.some.injEq, Addr.mk.injEq, and_true, true_and] at h0
    obtain ⟨rfl, rfl⟩ := h0
    refine .inr ⟨g, c, _, by rw [List.length_set], heap_setCell_same w g j cur e u hh, by rw [List.length_set]; exact h1, by simpa using h2, h3, ?_⟩
    rw [List.length_set]
    have : (cur.setIfInBounds j u).toList = cur.toList.set j u := by simp
    rw [this, List.take_set, h4]
theorem Row.far (h : Row w e v xs) {p : Addr} (hp : v.ownBlock ≠ some p.block) (u : Value) : Row (w.setCell p u) e v xs :=
  h.keep fun g hg => Below.heap_setCell w p u g (fun he => hp (by rw [hg, he]))
/-- A row that is laid as written. -/
theorem Row.laid (w : World) (e : TypeId) (cs : List Value) (hm : cs.length ≤ maxLen) : Row (w.alloc (.cells cs.toArray e)) e (.slice (some ⟨w.heap.size, 0, none⟩) cs.length cs.length) cs :=
  .inr ⟨w.heap.size, cs.length, cs.toArray, rfl, heap_alloc_new w _, Nat.le_refl _, by simp, hm, by simp⟩
end

theorem Src.of_has {P : Program} {w : World} {B : Nat} {A : Option Addr} {n c : Nat} {xs : List Value} {tx e' : TypeId} (hk : P.underlying tx = some (.slice e')) (h : Has w B A n xs) (h1 : ∀ u ∈ xs, u.oneCell' = true) : Src P 1 tx (.slice A n c) n xs w := by
  cases A with
  | some a =>
    refine Src.ofSlice w hk a n c xs (by rw [h.1, Nat.mul_one]) (fun j u hu => ?_) h1
    have hj := (List.getElem?_eq_some_iff.1 hu).1
    obtain ⟨b, off, ha, _, hc⟩ := h.2 (by rw [← h.1]; omega)
    simp only [Option.some.injEq] at ha
    subst ha
    rw [add_plain]; exact hc j u hu
  | none =>
    have hn : n = 0 := by
      rcases Nat.eq_zero_or_pos n with h0 | h0
      · exact h0
      · obtain ⟨_, _, he, _⟩ := h.2 h0; cases he
    subst hn
    have hx : xs = [] := List.eq_nil_of_length_eq_zero h.1
    subst hx
    exact Src.ofNil w hk c

theorem run_app_row {P : Program} {w : World} (t tx ty e : TypeId) (i : TypeInfo) (z : Value) (bytes : Nat) (ht : P.underlying t = some (.slice e)) (hi : P.info? e = some i) (hz : i.zero = some z)
    (hsize : i.size = 1) (hby : i.bytes = bytes) (hzs : z.cells.size = 1) (v : Value) (xs : List Value) (hrow : Row w e v xs) (x : Value) (m : Nat) (news : List Value) (hs : Src P 1 tx x m news w)
    (h63 : xs.length + m ≤ maxLen) (hbytes : (xs.length + m) * bytes ≤ 140737488355328) :
    ∃ A' c' w', (Builtin.append_ #[t, tx] ty #[v, x]).run P w = .ok (.slice A' (xs.length + m) c') w' ∧ Row w' e (.slice A' (xs.length + m) c') (xs ++ news) ∧ w.grownBy w' v.ownBlock ∧
      ((Value.slice A' (xs.length + m) c').ownBlock = v.ownBlock ∨ (Value.slice A' (xs.length + m) c').ownBlock = some w.heap.size) := by
  have hsmall : ((xs.length + m : Nat) : Int) ≤ 9223372036854775807 := by simp only [maxLen] at h63; omega
  have hs' : Src P i.size tx x m news w := by rw [hsize]; exact hs
  have hnl : news.length = m := by simpa using hs.newsLen
  have hlen : (xs ++ news).length = xs.length + m := by rw [List.length_append, hnl]
  have hgrown : ∀ old, Row (w.drew.alloc (.cells ((xs ++ news).toArray ++ Builtin.zeroCells z.cells (grownCap w (xs.length + m) old e - (xs.length + m))) e)) e
      (.slice (some ⟨w.heap.size, 0, none⟩) (xs.length + m) (grownCap w (xs.length + m) old e)) (xs ++ news) := fun old => by
    have hge := grownCap_ge w (xs.length + m) old e
    refine .inr ⟨w.heap.size, grownCap w (xs.length + m) old e, _, by rw [hlen], heap_alloc_new w.drew _, by rw [hlen]; exact hge, ?_, grownCap_le_maxLen w (xs.length + m) old e h63, ?_⟩
    · simp only [Array.size_append, List.size_toArray, size_zeroCells, hzs, hlen]; omega
    · simp only [Array.toList_append]
      exact List.take_left' rfl
  subst hby
  rcases hrow with ⟨rfl, rfl⟩ | ⟨g, cap, cur, rfl, hg, hnc, hcs, hcm, htake⟩
  · by_cases hm : m = 0
    · subst hm
      have hn0 : news = [] := List.eq_nil_of_length_eq_zero hnl
      subst hn0
      refine ⟨none, 0, w, ?_, Row.nil, ⟨rfl, rfl, rfl, Nat.le_refl _, fun _ _ _ => rfl⟩, .inl rfl⟩
      have hc := hs'.cells
      have hl := hs'.len
      rcases hs'.kind with ⟨e', hk⟩ | hk <;> simp [Builtin.append_, run_underlying ht, run_underlying hk, sizeOf, typeInfo, hi, hl, hc]
    · have hr := run_append_grow_src (P := P) w t tx ty e i z ht hi hz none 0 0 [] (run_firstCells_none w.drew i.size 0 0 0) x m news hs' (by omega) hsmall (growslice_fits (by simp; omega) hbytes)
      exact ⟨_, _, _, hr, hgrown 0, ⟨rfl, rfl, rfl, by simp, fun k hk _ => Below.heap_alloc w.drew _ k hk⟩, .inr rfl⟩
  · by_cases hroom : xs.length + m ≤ cap
    · have hfit : xs.length + news.length ≤ cur.size := by omega
      have hcell : ∀ j, j < news.length → (w.cell? ⟨g, 0 + xs.length * i.size + j, none⟩).isSome = true := fun j hj => by
        rw [cell_of_row w g _ cur e (0, 0) hg, hsize, Array.getElem?_eq_getElem (by omega)]; rfl
      have hr := run_append_room_src (P := P) w t tx ty e i ht hi g 0 xs.length cap x m news hs' hroom hcell (fun j _ => frozen_of_row w g _ cur e hg)
      rw [hsize, Nat.mul_one, Nat.zero_add] at hr
      obtain ⟨cur', h1, h2, h3⟩ := setCells_block g e news xs.length w cur hg hfit
      refine ⟨_, _, _, hr, .inr ⟨g, cap, cur', by rw [hlen], h1, by rw [hlen]; exact hroom, by omega, hcm, ?_⟩, ⟨?_, ?_, ?_, ?_, ?_⟩, .inl rfl⟩
      · rw [h3, htake, ← List.append_assoc]
        exact List.take_left' rfl
      · exact (setCells_rest g news xs.length w).1
      · exact (setCells_rest g news xs.length w).2.1
      · exact (setCells_rest g news xs.length w).2.2.1
      · exact (setCells_rest g news xs.length w).2.2.2
      · intro k hk hne
        exact World.heap_setCells_other w g xs.length news hk (fun e => hne (by subst e; rfl))
    · have hold : (Builtin.firstCells i.size xs.length (.slice (some ⟨g, 0, none⟩) xs.length cap)).run P w.drew = .ok xs.toArray w.drew := by
        rw [hsize]
        refine run_firstCells_some w.drew 1 xs.length ⟨g, 0, none⟩ xs.length cap xs (by simp) fun j u hu => ?_
        rw [add_plain, Nat.zero_add]
        show w.cell? _ = _
        rw [cell_block hg, ← hu, ← htake, List.getElem?_take, if_pos (List.getElem?_eq_some_iff.1 hu).1]
        simp
      have hr := run_append_grow_src (P := P) w t tx ty e i z ht hi hz (some ⟨g, 0, none⟩) xs.length cap xs hold x m news hs' (by omega) hsmall (growslice_fits (by omega) hbytes)
      exact ⟨_, _, _, hr, hgrown cap, ⟨rfl, rfl, rfl, by simp, fun k hk _ => Below.heap_alloc w.drew _ k hk⟩, .inr rfl⟩

theorem app_row {P : Program} {w : World} {ops : Array Oper} {rest : List Oper} {o : Oper} {a : Act} {Q : Exit → Act → World → Prop} (hgd : o.guard = none) (s x : Operand) (t tx : TypeId)
    (ho : o.op = .call { callee := .builtin .append, args := #[s, x], argTypes := #[t, tx] })
    (e : TypeId) (i : TypeInfo) (z : Value) (bytes : Nat) (ht : P.underlying t = some (.slice e)) (hi : P.info? e = some i) (hz : i.zero = some z)
    (hsize : i.size = 1) (hby : i.bytes = bytes) (hzs : z.cells.size = 1)
    (v : Value) (xs : List Value) (hs : a.eval s = v) (hrow : Row w e v xs)
    (xv : Value) (m : Nat) (news : List Value) (hx : a.eval x = xv) (hsrc : Src P 1 tx xv m news w)
    (h63 : xs.length + m ≤ maxLen) (hbytes : (xs.length + m) * bytes ≤ 140737488355328)
    (h : ∀ A' c' w', Row w' e (.slice A' (xs.length + m) c') (xs ++ news) → w.grownBy w' v.ownBlock → ((Value.slice A' (xs.length + m) c').ownBlock = v.ownBlock ∨ (Value.slice A' (xs.length + m) c').ownBlock = some w.heap.size) →
      wpList P ops Q rest (a.put o.dst (.slice A' (xs.length + m) c')) w') : wpList P ops Q (o :: rest) a w := by
  refine wpList_plain hgd fun K hK => ?_
  obtain ⟨A', c', w', hr, h2, h3, h4⟩ := run_app_row (P := P) (w := w) t tx o.type e i z bytes ht hi hz hsize hby hzs v xs hrow xv m news hsrc h63 hbytes
  unfold Oper.wp
  simp [execOp, ho, resolve, invoke, builtin, hs, hx, hr, Result.andThen]
  exact hK _ _ (h A' c' w' h2 h3 h4)

/-- The end of a writer in a chain. -/
theorem chainF {F : World → Prop} {b : Bool} {K : Act → World → Prop} {a : Act} {w : World} (hF : b = true → F w) (hK : K a w) : chainPost (fun w' => ∃ u : HoldW F, w' = u.w) b K .normal a w :=
  chainPost_normal (fun hb => ⟨⟨w, hF hb⟩, rfl⟩) hK
theorem chainSkip {S : World → Prop} {K : Act → World → Prop} {a : Act} {w : World} (hK : K a w) : chainPost S false K .normal a w :=
  chainPost_normal (fun h => by cases h) hK
end Go.Proofs.Ythnbhcfpfbimgaa
