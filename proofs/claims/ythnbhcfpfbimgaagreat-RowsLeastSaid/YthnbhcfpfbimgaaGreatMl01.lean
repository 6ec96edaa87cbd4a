/- Texts put together: RowZ Tree RwBase RwPlain. -/
import Derived.Laws.Tables
import Derived.Test.YthnbhcfpfbimgaaGreatMl00
/- Rows whose elements are some cells each: a slice value that lies at the head of a block of them: kept, cut, appended to. No program in sight. -/
namespace Go.Proofs.YthnbhcfpfbimgaaGreat
open Go.RowKit

/-- The slice value v lies at the head of a block of element type e, z cells an element; it has n elements, and xs are their cells. -/
def RowZ (w : World) (e : TypeId) (z : Nat) (v : Value) (n : Nat) (xs : List Value) : Prop :=
  (v = .slice none 0 0 ∧ n = 0 ∧ xs = []) ∨
  ∃ g cap cur, v = .slice (some ⟨g, 0, none⟩) n cap ∧ w.heap[g]? = some (.cells cur e (0, 0)) ∧ n ≤ cap ∧ cap * z ≤ cur.size ∧ cap ≤ maxLen ∧ xs.length = n * z ∧ cur.toList.take (n * z) = xs

section
variable {w w' : World} {e : TypeId} {z n : Nat} {v : Value} {xs : List Value}
theorem RowZ.nil : RowZ w e z (.slice none 0 0) 0 [] := .inl ⟨rfl, rfl, rfl⟩
theorem RowZ.form (h : RowZ w e z v n xs) : ∃ A c, v = .slice A n c ∧ n ≤ c ∧ c ≤ maxLen := by
  rcases h with ⟨rfl, rfl, rfl⟩ | ⟨g, cap, cur, rfl, _, h1, _, h3, _⟩
  · exact ⟨none, 0, rfl, Nat.le_refl _, Nat.zero_le _⟩
  · exact ⟨_, cap, rfl, h1, h3⟩
theorem RowZ.len (h : RowZ w e z v n xs) : xs.length = n * z := by
  rcases h with ⟨rfl, rfl, rfl⟩ | ⟨g, cap, cur, _, _, _, _, _, h5, _⟩
  · simp
  · exact h5
theorem RowZ.lt (h : RowZ w e z v n xs) : ∀ g, v.ownBlock = some g → g < w.heap.size := by
  intro g hg
  rcases h with ⟨rfl, _⟩ | ⟨g', cap, cur, rfl, hh, _⟩
  · simp [Value.ownBlock] at hg
  · simp [Value.ownBlock] at hg
    subst hg
    exact (Array.getElem?_eq_some_iff.1 hh).1
theorem RowZ.keep (h : RowZ w e z v n xs) (hk : ∀ g, v.ownBlock = some g → w'.heap[g]? = w.heap[g]?) : RowZ w' e z v n xs := by
  rcases h with h0 | ⟨g, cap, cur, rfl, hh, r⟩
  · exact .inl h0
  · exact .inr ⟨g, cap, cur, rfl, (hk g rfl).trans hh, r⟩
theorem RowZ.below (h : RowZ w e z v n xs) (hb : Below w.heap.size w w') : RowZ w' e z v n xs := h.keep fun g hg => hb.block g (h.lt g hg)
theorem RowZ.dr (h : RowZ w e z v n xs) (hd : Dr w w') : RowZ w' e z v n xs := h.below (hd.below _)
theorem RowZ.block (h : RowZ w e z v n xs) {g : Nat} (hg : v.ownBlock = some g) : ∃ cur, w.heap[g]? = some (.cells cur e (0, 0)) := by
  rcases h with ⟨rfl, _⟩ | ⟨g', cap, cur, rfl, hh, _⟩
  · simp [Value.ownBlock] at hg
  · simp [Value.ownBlock] at hg
    subst hg
    exact ⟨cur, hh⟩
theorem RowZ.ne_type (h : RowZ w e z v n xs) {g : Nat} {t : TypeId} {cs : Array Value} (hg : w.heap[g]? = some (.cells cs t (0, 0))) (hne : e ≠ t) : v.ownBlock ≠ some g := by
  intro he
  obtain ⟨cur, hc⟩ := h.block he
  exact blocks_ne hc hg hne rfl
theorem RowZ.cell {g c : Nat} {k : Nat} (h : RowZ w e z (.slice (some ⟨g, 0, none⟩) k c) n xs) {j : Nat} (hj : j < xs.length) : w.cell? ⟨g, j, none⟩ = xs[j]? := by
  rcases h with ⟨h0, _⟩ | ⟨g', cap, cur, h0, hh, _, _, _, hl, ht⟩
  · cases h0
  · simp only [Value.slice.injEq, Option.some.injEq, Addr.mk.injEq, and_true] at h0
    obtain ⟨rfl, _, _⟩ := h0
    rw [cell_block hh, ← ht, List.getElem?_take, if_pos (by omega)]
    simp
theorem RowZ.free {g c : Nat} {k : Nat} (h : RowZ w e z (.slice (some ⟨g, 0, none⟩) k c) n xs) (j : Nat) : w.frozen? ⟨g, j, none⟩ = false := by
  rcases h with ⟨h0, _⟩ | ⟨g', cap, cur, h0, hh, _⟩
  · cases h0
  · simp only [Value.slice.injEq, Option.some.injEq, Addr.mk.injEq, and_true] at h0
    obtain ⟨rfl, _, _⟩ := h0
    exact frozen_of_row w g j cur e hh
theorem RowZ.addr {A : Option Addr} {k c : Nat} (h : RowZ w e z (.slice A k c) n xs) (hp : 0 < n) : ∃ g, A = some ⟨g, 0, none⟩ := by
  rcases h with ⟨_, h0, _⟩ | ⟨g', cap, cur, h0, _⟩
  · omega
  · simp only [Value.slice.injEq] at h0
    exact ⟨g', h0.1⟩
/-- 's[:k]': the first elements, whatever the room behind them. -/
theorem RowZ.cut {A : Option Addr} {m c k c' : Nat} (h : RowZ w e z (.slice A m c) n xs) (hk : k ≤ n) (hc : k ≤ c') (hc' : c' ≤ c) (hn : A = none → c' = 0) : RowZ w e z (.slice A k c') k (xs.take (k * z)) := by
  have hl : (xs.take (k * z)).length = k * z := by
    rw [List.length_take, h.len]
    have := Nat.mul_le_mul_right z hk
    omega
  rcases h with ⟨h0, rfl, rfl⟩ | ⟨g', cap, cur, h0, hh, h1, h2, h3, h4, h5⟩
  · simp only [Value.slice.injEq] at h0
    obtain rfl : k = 0 := by omega
    rw [h0.1, hn h0.1]
    exact .inl ⟨rfl, rfl, by simp⟩
  · simp only [Value.slice.injEq] at h0
    obtain ⟨rfl, rfl, rfl⟩ := h0
    refine .inr ⟨g', c', cur, rfl, hh, hc, Nat.le_trans (Nat.mul_le_mul_right z hc') h2, by omega, hl, ?_⟩
    rw [← h5, List.take_take]
    congr 1
    have := Nat.mul_le_mul_right z hk
    omega
theorem RowZ.far (h : RowZ w e z v n xs) {p : Addr} (hp : v.ownBlock ≠ some p.block) (u : Value) : RowZ (w.setCell p u) e z v n xs :=
  h.keep fun g hg => Below.heap_setCell w p u g (fun he => hp (by rw [hg, he]))
theorem RowZ.laid (w : World) (e : TypeId) (z n : Nat) (cs : List Value) (hl : cs.length = n * z) (hm : n ≤ maxLen) : RowZ (w.alloc (.cells cs.toArray e)) e z (.slice (some ⟨w.heap.size, 0, none⟩) n n) n cs :=
  .inr ⟨w.heap.size, n, cs.toArray, rfl, heap_alloc_new w _, Nat.le_refl _, by simp [hl], hm, hl, by rw [← hl]; simp⟩
end

theorem run_app_rowz {P : Program} {w : World} (t tx ty e : TypeId) (i : TypeInfo) (z : Value) (sz bytes : Nat) (ht : P.underlying t = some (.slice e)) (hi : P.info? e = some i) (hz : i.zero = some z)
    (hsize : i.size = sz) (hby : i.bytes = bytes) (hzs : z.cells.size = sz) (v : Value) (n : Nat) (xs : List Value) (hrow : RowZ w e sz v n xs) (x : Value) (m : Nat) (news : List Value) (hs : Src P sz tx x m news w)
    (h63 : n + m ≤ maxLen) (hbytes : (n + m) * bytes ≤ 140737488355328) :
    ∃ A' c' w', (Builtin.append_ #[t, tx] ty #[v, x]).run P w = .ok (.slice A' (n + m) c') w' ∧ RowZ w' e sz (.slice A' (n + m) c') (n + m) (xs ++ news) ∧ w.grownBy w' v.ownBlock ∧
      ((Value.slice A' (n + m) c').ownBlock = v.ownBlock ∨ (Value.slice A' (n + m) c').ownBlock = some w.heap.size) := by
  have hsmall : ((n + m : Nat) : Int) ≤ 9223372036854775807 := by simp only [maxLen] at h63; omega
  have hs' : Src P i.size tx x m news w := by rw [hsize]; exact hs
  have hnl : news.length = m * sz := hs.newsLen
  have hxl := hrow.len
  have hlen : (xs ++ news).length = (n + m) * sz := by rw [List.length_append, hnl, hxl, Nat.add_mul]
  have hgrown : ∀ old, RowZ (w.drew.alloc (.cells ((xs ++ news).toArray ++ Builtin.zeroCells z.cells (grownCap w (n + m) old e - (n + m))) e)) e sz
      (.slice (some ⟨w.heap.size, 0, none⟩) (n + m) (grownCap w (n + m) old e)) (n + m) (xs ++ news) := fun old => by
    have hge := grownCap_ge w (n + m) old e
    refine .inr ⟨w.heap.size, grownCap w (n + m) old e, _, rfl, heap_alloc_new w.drew _, hge, ?_, grownCap_le_maxLen w (n + m) old e h63, hlen, ?_⟩
    · simp only [Array.size_append, List.size_toArray, size_zeroCells, hzs, hlen]
      rw [← Nat.add_mul, Nat.add_sub_cancel' hge]
      exact Nat.le_refl _
    · simp only [Array.toList_append]
      exact List.take_left' hlen
  subst hby
  rcases hrow with ⟨rfl, rfl, rfl⟩ | ⟨g, cap, cur, rfl, hg, hnc, hcs, hcm, hxl', htake⟩
  · by_cases hm : m = 0
    · subst hm
      have hn0 : news = [] := List.eq_nil_of_length_eq_zero (by simpa using hnl)
      subst hn0
      refine ⟨none, 0, w, ?_, RowZ.nil, ⟨rfl, rfl, rfl, Nat.le_refl _, fun _ _ _ => rfl⟩, .inl rfl⟩
      have hc := hs'.cells
      have hl := hs'.len
      rcases hs'.kind with ⟨e', hk⟩ | hk <;> simp [Builtin.append_, run_underlying ht, run_underlying hk, sizeOf, typeInfo, hi, hl, hc]
    · have hr := run_append_grow_src (P := P) w t tx ty e i z ht hi hz none 0 0 [] (run_firstCells_none w.drew i.size 0 0 0) x m news hs' (by omega) hsmall (growslice_fits (by omega) hbytes)
      exact ⟨_, _, _, hr, hgrown 0, ⟨rfl, rfl, rfl, by simp, fun k hk _ => Below.heap_alloc w.drew _ k hk⟩, .inr rfl⟩
  · by_cases hroom : n + m ≤ cap
    · have hmul : (n + m) * sz ≤ cap * sz := Nat.mul_le_mul_right sz hroom
      have hfit : n * sz + news.length ≤ cur.size := by rw [hnl, ← Nat.add_mul]; omega
      have hcell : ∀ j, j < news.length → (w.cell? ⟨g, 0 + n * i.size + j, none⟩).isSome = true := fun j hj => by
        rw [cell_of_row w g _ cur e (0, 0) hg, hsize, Array.getElem?_eq_getElem (by omega)]; rfl
      have hr := run_append_room_src (P := P) w t tx ty e i ht hi g 0 n cap x m news hs' hroom hcell (fun j _ => frozen_of_row w g _ cur e hg)
      rw [hsize, Nat.zero_add] at hr
      obtain ⟨cur', h1, h2, h3⟩ := setCells_block g e news (n * sz) w cur hg hfit
      refine ⟨_, _, _, hr, .inr ⟨g, cap, cur', rfl, h1, hroom, by omega, hcm, hlen, ?_⟩, ⟨?_, ?_, ?_, ?_, ?_⟩, .inl rfl⟩
      · rw [h3, htake, ← List.append_assoc]
        exact List.take_left' hlen
      · exact (setCells_rest g news (n * sz) w).1
      · exact (setCells_rest g news (n * sz) w).2.1
      · exact (setCells_rest g news (n * sz) w).2.2.1
      · exact (setCells_rest g news (n * sz) w).2.2.2
      · intro k hk hne
        exact World.heap_setCells_other w g (n * sz) news hk (fun e => hne (by subst e; rfl))
    · have hold : (Builtin.firstCells i.size n (.slice (some ⟨g, 0, none⟩) n cap)).run P w.drew = .ok xs.toArray w.drew := by
        rw [hsize]
        refine run_firstCells_some w.drew sz n ⟨g, 0, none⟩ n cap xs hxl' fun j u hu => ?_
        rw [add_plain, Nat.zero_add]
        show w.cell? _ = _
        rw [cell_block hg, ← hu, ← htake, List.getElem?_take, if_pos (by have := (List.getElem?_eq_some_iff.1 hu).1; omega)]
        simp
      have hr := run_append_grow_src (P := P) w t tx ty e i z ht hi hz (some ⟨g, 0, none⟩) n cap xs hold x m news hs' (by omega) hsmall (growslice_fits (by omega) hbytes)
      exact ⟨_, _, _, hr, hgrown cap, ⟨rfl, rfl, rfl, by simp, fun k hk _ => Below.heap_alloc w.drew _ k hk⟩, .inr rfl⟩

theorem app_rowz {P : Program} {w : World} {ops : Array Oper} {rest : List Oper} {o : Oper} {a : Act} {Q : Exit → Act → World → Prop} (hgd : o.guard = none) (s x : Operand) (t tx : TypeId)
    (ho : o.op = .call { callee := .builtin .append, args := #[s, x], argTypes := #[t, tx] })
    (e : TypeId) (i : TypeInfo) (z : Value) (sz bytes : Nat) (ht : P.underlying t = some (.slice e)) (hi : P.info? e = some i) (hz : i.zero = some z)
    (hsize : i.size = sz) (hby : i.bytes = bytes) (hzs : z.cells.size = sz)
    (v : Value) (n : Nat) (xs : List Value) (hs : a.eval s = v) (hrow : RowZ w e sz v n xs)
    (xv : Value) (m : Nat) (news : List Value) (hx : a.eval x = xv) (hsrc : Src P sz tx xv m news w)
    (h63 : n + m ≤ maxLen) (hbytes : (n + m) * bytes ≤ 140737488355328)
    (h : ∀ A' c' w', RowZ w' e sz (.slice A' (n + m) c') (n + m) (xs ++ news) → w.grownBy w' v.ownBlock → ((Value.slice A' (n + m) c').ownBlock = v.ownBlock ∨ (Value.slice A' (n + m) c').ownBlock = some w.heap.size) →
      wpList P ops Q rest (a.put o.dst (.slice A' (n + m) c')) w') : wpList P ops Q (o :: rest) a w := by
  refine wpList_plain hgd fun K hK => ?_
  obtain ⟨A', c', w', hr, h2, h3, h4⟩ := run_app_rowz (P := P) (w := w) t tx o.type e i z sz bytes ht hi hz hsize hby hzs v n xs hrow xv m news hsrc h63 hbytes
  unfold Oper.wp
  simp [execOp, ho, resolve, invoke, builtin, hs, hx, hr, Result.andThen]
  exact hK _ _ (h A' c' w' h2 h3 h4)
end Go.Proofs.YthnbhcfpfbimgaaGreat
/- A region that draws its order, of operations that read and of some that write in more than one order: the reads first, then the writers in each order that they may take. No program in sight. -/
namespace Go.Proofs.YthnbhcfpfbimgaaGreat

/-- The orders: at each place the operations that may come next, with what follows each; 'take': one that only reads is taken first. -/
inductive WT where
  | done
  | step (k : Nat) (b : Bool) (next alt : WT)
  | take (k : Nat) (next : WT)

def WT.keys : WT → List Nat
  | .done => []
  | .step k _ _ alt => k :: alt.keys
  | .take _ _ => []
/-- All writers with their flags. -/
def WT.all : WT → List (Nat × Bool)
  | .done => []
  | .step k b next alt => (k, b) :: (next.all ++ alt.all)
  | .take _ next => next.all
def WT.takes : WT → List Nat
  | .done => []
  | .step _ _ next alt => next.takes ++ alt.takes
  | .take k next => k :: next.takes
def WT.isTake : WT → Bool
  | .take _ _ => true
  | _ => false

section
variable {P : Program} {ops : Array Oper} {Q : Exit → Act → World → Prop} {md : Region.Mode} {S : World → Prop} {need : Nat → Bool}

/-- The writers, in each order. -/
def wpTree (P : Program) (ops : Array Oper) (Q : Exit → Act → World → Prop) (S : World → Prop) : WT → Bool → Act → World → Prop
  | .done, top, a, w => top = true → Q .normal a w
  | .step k b next alt, _, a, w => (∀ o, ops[k]? = some o → wpList P ops (chainPost S b (wpTree P ops Q S next true)) [o] a w) ∧ wpTree P ops Q S alt false a w
  | .take k next, _, a, w => ∀ o, ops[k]? = some o → if Region.wanted o (yielded ops a.tmps) then held P o a S (fun a' => wpTree P ops Q S next true a' w) else wpTree P ops Q S next true (a.put o.dst undef) w
theorem wpTree_end {a : Act} {w : World} (h : Q .normal a w) : wpTree P ops Q S .done true a w := fun _ => h
theorem wpTree_step {k : Nat} {b : Bool} {next : WT} {top : Bool} {a : Act} {w : World} {o : Oper} (ho : ops[k]? = some o)
    (h : ∀ K : Act → World → Prop, (∀ a w, wpTree P ops Q S next true a w → K a w) → wpList P ops (chainPost S b K) [o] a w) : wpTree P ops Q S (.step k b next .done) top a w :=
  ⟨fun o' ho' => by rw [ho] at ho'; cases ho'; exact h _ fun _ _ h => h, fun h => by cases h⟩
theorem wpTree_both {k : Nat} {b : Bool} {next alt : WT} {top : Bool} {a : Act} {w : World} {o : Oper} (ho : ops[k]? = some o)
    (h : ∀ K : Act → World → Prop, (∀ a w, wpTree P ops Q S next true a w → K a w) → wpList P ops (chainPost S b K) [o] a w) (h2 : wpTree P ops Q S alt false a w) : wpTree P ops Q S (.step k b next alt) top a w :=
  ⟨fun o' ho' => by rw [ho] at ho'; cases ho'; exact h _ fun _ _ h => h, h2⟩

theorem wpTree_take {k : Nat} {next : WT} {top : Bool} {a : Act} {w : World} {o : Oper} (ho : ops[k]? = some o)
    (h : ∀ K : Act → Prop, (∀ a, wpTree P ops Q S next true a w → K a) → if Region.wanted o (yielded ops a.tmps) then held P o a S K else K (a.put o.dst undef)) : wpTree P ops Q S (.take k next) top a w :=
  fun o' ho' => by rw [ho] at ho'; cases ho'; exact h _ fun _ h => h

/-- The Bool over the orders: at each place just these may come next. n is the number of operations still to come. -/
def okB (md : Region.Mode) (ops : Array Oper) : WT → Bool → Nat → Array Bool → Bool
  | .done, top, n, listed => !top || (n == 0 && Region.ready md ops listed == [])
  | .step k b next alt, top, n, listed => (!top || Region.ready md ops listed == k :: alt.keys) && (b || !next.isTake) && !alt.isTake && (match n with
      | 0 => false
      | m + 1 => (ops[k]?).isSome && okB md ops next true m (listed.setIfInBounds k true)) && okB md ops alt false n listed
  | .take k next, _, n, listed => (match n with
      | 0 => false
      | m + 1 => (Region.ready md ops listed).contains k && Region.free md ops listed k && (ops[k]?).isSome && okB md ops next true m (listed.setIfInBounds k true))

theorem tree_any {l : List Oper} (hsel : Region.noSelect l.toArray = true) (hpan : ∀ c a w o v, Q (.panic c) (Act.put a (Oper.dst o) v) w → Q (.panic c) a w) : ∀ (t : WT) (top : Bool) (n : Nat) (listed : Array Bool) (a : Act) (w : World),
    (∀ k b, (k, b) ∈ t.all → need k = true → b = true) → (∀ i ∈ t.takes, ∀ j oj, l.toArray[j]? = some oj → need j = false → ∃ e ∈ oj.after, Region.binds md e = true ∧ e.on = i) → (t.isTake = true → S w) →
    okB md l.toArray t top n listed = true → wpTree P l.toArray Q S t top a w →
    ((top = true ∨ t.isTake = true) → wpAnyN P md l.toArray Q S need n listed a w) ∧
    ∀ i ∈ t.keys, ∃ m, n = m + 1 ∧ wpOp P l.toArray Q i (fun a' w' => (need i = true → S w') ∧ wpAnyN P md l.toArray Q S need m (listed.setIfInBounds i true) a' w') a w
  | .done, top, n, listed, a, w, _, _, _, hB, h => by
    refine ⟨fun ht => ?_, fun i hi => by cases hi⟩
    obtain rfl : top = true := by
      rcases ht with ht | ht
      · exact ht
      · cases ht
    simp only [okB, Bool.not_true, Bool.false_or, Bool.and_eq_true, beq_iff_eq] at hB
    obtain ⟨hn, hr⟩ := hB
    subst hn
    exact ⟨hr, h rfl⟩
  | .step k b next alt, top, n, listed, a, w, hf, ht, _, hB, h => by
    match n, hB with
    | 0, hB => simp [okB] at hB
    | m + 1, hB =>
      simp only [okB, Bool.and_eq_true, Bool.or_eq_true, Bool.not_eq_true', beq_iff_eq] at hB
      obtain ⟨⟨⟨⟨hr, hbt⟩, hat⟩, ⟨hs, hn⟩⟩, ha⟩ := hB
      obtain ⟨o, ho⟩ := Option.isSome_iff_exists.1 hs
      have h2 : ∀ i ∈ (WT.step k b next alt).keys, ∃ m', m + 1 = m' + 1 ∧ wpOp P l.toArray Q i (fun a' w' => (need i = true → S w') ∧ wpAnyN P md l.toArray Q S need m' (listed.setIfInBounds i true) a' w') a w := fun i hi => by
        rcases List.mem_cons.1 hi with hi | hi
        · subst hi
          refine ⟨m, rfl, wpOp_mono (fun a' w' h' => ⟨fun hn => h'.1 (hf i b (by simp [WT.all]) hn), ?_⟩) (chain_list (by simpa using ho) (h.1 o ho))⟩
          refine (tree_any hsel hpan next true m _ a' w' (fun k' b' hk => hf k' b' (by simp [WT.all, hk])) (fun i hi => ht i (by simp [WT.takes, hi])) (fun htk => h'.1 ?_) hn h'.2).1 (.inl rfl)
          rcases hbt with hb | hb
          · exact hb
          · rw [htk] at hb; cases hb
        · exact (tree_any hsel hpan alt false (m + 1) listed a w (fun k' b' hk => hf k' b' (by simp [WT.all, hk])) (fun i hi => ht i (by simp [WT.takes, hi])) (fun h => by rw [hat] at h; cases h) ha h.2).2 i hi
      refine ⟨fun htop => ?_, h2⟩
      obtain rfl : top = true := by
        rcases htop with h | h
        · exact h
        · cases h
      have hr : Region.ready md l.toArray listed = k :: alt.keys := by
        rcases hr with h | h
        · cases h
        · exact h
      refine ⟨fun h0 => ?_, fun i hi => ?_⟩
      · rw [hr] at h0; cases h0
      · rw [hr] at hi
        obtain ⟨m', hm, hw⟩ := h2 i hi
        obtain rfl : m = m' := by omega
        exact hw
  | .take k next, top, n, listed, a, w, hf, ht, hS, hB, h => by
    match n, hB with
    | 0, hB => simp [okB] at hB
    | m + 1, hB =>
      simp only [okB, Bool.and_eq_true] at hB
      obtain ⟨⟨⟨hr, hfr⟩, hs⟩, hn⟩ := hB
      obtain ⟨o, ho⟩ := Option.isSome_iff_exists.1 hs
      refine ⟨fun _ => ?_, fun i hi => by cases hi⟩
      have hSw := hS rfl
      have key : ∃ v, YieldsIf P l.toArray S o v a ∧ wpTree P l.toArray Q S next true (a.put o.dst v) w := by
        have h' := h o ho
        split at h'
        · rename_i hw
          obtain ⟨v, h1, h2⟩ := h'
          exact ⟨v, .inl ⟨hw, h1⟩, h2⟩
        · rename_i hw
          exact ⟨undef, .inr ⟨by simpa using hw, rfl⟩, h'⟩
      obtain ⟨v, hy, hK⟩ := key
      exact wpAnyN_first ho (Region.noSelect_spec hsel) (fun j oj hj hnj => ht k (by simp [WT.takes]) j oj hj hnj) (fun c a w h => hpan c a w o v h) _ listed a w (Region.free_spec ho hfr) (by simpa using hr) hy hSw
        ((tree_any hsel hpan next true m _ _ w (fun k' b' hk => hf k' b' (by simpa [WT.all] using hk)) (fun i hi => ht i (by simp [WT.takes, hi])) (fun _ => hSw) hn hK).1 (.inl rfl))

theorem reads_tree {l : List Oper} (t : WT) (m : Nat) (hsel : Region.noSelect l.toArray = true) (hpan : ∀ c a w o v, Q (.panic c) (Act.put a (Oper.dst o) v) w → Q (.panic c) a w)
    (hn2 : ∀ k b, (k, b) ∈ t.all → need k = true → b = true) (ht : ∀ i ∈ t.takes, ∀ j oj, l.toArray[j]? = some oj → need j = false → ∃ e ∈ oj.after, Region.binds md e = true ∧ e.on = i) :
    ∀ (rs : List Nat) (listed : Array Bool) (a : Act) (w : World), (∀ i ∈ rs, ∀ j oj, l.toArray[j]? = some oj → need j = false → ∃ e ∈ oj.after, Region.binds md e = true ∧ e.on = i) →
    readsB md l.toArray rs listed = true → okB md l.toArray t true m (rs.foldl (fun l k => l.setIfInBounds k true) listed) = true → S w →
    wpHeld P l.toArray S (fun a' => wpTree P l.toArray Q S t true a' w) (picks l rs) a → wpAnyN P md l.toArray Q S need (rs.length + m) listed a w
  | [], listed, a, w, hneed, hB, hW, hS, h => by
    rw [List.length_nil, Nat.zero_add]
    exact (tree_any hsel hpan t true m listed a w hn2 ht (fun _ => hS) hW h).1 (.inl rfl)
  | k :: rs, listed, a, w, hneed, hB, hW, hS, h => by
    simp only [readsB, Bool.and_eq_true] at hB
    obtain ⟨⟨⟨hr, hf⟩, hs⟩, hB'⟩ := hB
    obtain ⟨o, ho⟩ := Option.isSome_iff_exists.1 hs
    have ho' : l[k]? = some o := by simpa using ho
    simp only [picks, List.filterMap_cons, ho'] at h
    rw [show (k :: rs).length + m = rs.length + m + 1 from by simp; omega]
    have key : ∃ v, YieldsIf P l.toArray S o v a ∧ wpHeld P l.toArray S (fun a' => wpTree P l.toArray Q S t true a' w) (picks l rs) (a.put o.dst v) := by
      unfold wpHeld at h
      split at h
      · rename_i hw
        obtain ⟨v, h1, h2⟩ := h
        exact ⟨v, .inl ⟨hw, h1⟩, h2⟩
      · rename_i hw
        exact ⟨undef, .inr ⟨by simpa using hw, rfl⟩, h⟩
    obtain ⟨v, hy, hK⟩ := key
    exact wpAnyN_first ho (Region.noSelect_spec hsel) (fun j oj hj hnj => hneed k (by simp) j oj hj hnj) (fun c a w h => hpan c a w o v h) _ listed a w (Region.free_spec ho hf) (by simpa using hr) hy hS
      (reads_tree t m hsel hpan hn2 ht rs _ _ w (fun i hi => hneed i (by simp [hi])) hB' hW hS hK)
end

def treeB (md : Region.Mode) (ops : Array Oper) (rs : List Nat) (t : WT) : Bool :=
  Region.noSelect ops && readsB md ops rs (Array.replicate ops.size false) &&
    okB md ops t true (ops.size - rs.length) (rs.foldl (fun l k => l.setIfInBounds k true) (Array.replicate ops.size false)) && needB md ops (rs ++ t.takes) t.all && (rs.length + (ops.size - rs.length) == ops.size)

theorem wp_region_tree {P : Program} {id : Nat} {Q : Exit → Act → World → Prop} {a : Act} {w : World} {l : List Oper} (rs : List Nat) (t : WT) (F : World → Prop) (hm : P.follows .mixedOrders = true)
    (hB : treeB .any l.toArray rs t = true) (hpan0 : ∀ c a w d v, Q (.panic c) (Act.put a (some d) v) w → Q (.panic c) a w) (hF : F w.drew)
    (h : Nonempty (HoldW F) → wpHeld P l.toArray (fun w' => ∃ u : HoldW F, w' = u.w) (fun a' => wpTree P l.toArray Q (fun w' => ∃ u : HoldW F, w' = u.w) t true a' w.drew) (picks l rs) a) :
    (Code.region id l.toArray true).wp P Q a w := by
  have hpan : ∀ c a w o v, Q (.panic c) (Act.put a (Oper.dst o) v) w → Q (.panic c) a w := fun c a w o v h => by
    cases hd : o.dst with
    | none => rw [hd] at h; exact h
    | some d => rw [hd] at h; exact hpan0 c a w d v h
  simp only [treeB, Bool.and_eq_true, beq_iff_eq] at hB
  obtain ⟨⟨⟨⟨h1, h2⟩, h3⟩, h4⟩, h5⟩ := hB
  refine wp_region_any hm ?_
  have hne : Nonempty (HoldW F) := ⟨⟨_, hF⟩⟩
  have hmem : ∀ k b, (k, b) ∈ t.all → b = true ∨ ∀ o, l.toArray[k]? = some o → ∀ i ∈ rs ++ t.takes, ∃ e ∈ o.after, Region.binds .any e = true ∧ e.on = i := fun k b hk => by
    have h4' := List.all_eq_true.1 h4 (k, b) hk
    simp only [Bool.or_eq_true] at h4'
    refine h4'.imp (fun h => h) fun h o ho i hi => ?_
    rw [ho] at h
    have := List.all_eq_true.1 h i hi
    obtain ⟨e, he, hb⟩ := Array.any_eq_true'.1 this
    simp only [Bool.and_eq_true, beq_iff_eq] at hb
    exact ⟨e, he, hb⟩
  have hed : ∀ i ∈ rs ++ t.takes, ∀ j oj, l.toArray[j]? = some oj → (!(t.all.any fun x => x.1 == j && !x.2)) = false → ∃ e ∈ oj.after, Region.binds .any e = true ∧ e.on = i := fun i hi j oj hj hnj => by
    simp only [Bool.not_eq_false', List.any_eq_true] at hnj
    obtain ⟨⟨k, b⟩, hk, hb⟩ := hnj
    simp only [Bool.and_eq_true, beq_iff_eq, Bool.not_eq_true'] at hb
    obtain ⟨rfl, rfl⟩ := hb
    rcases hmem k false hk with h | h
    · cases h
    · exact h oj hj i hi
  have key := reads_tree (S := fun w' => ∃ u : HoldW F, w' = u.w) (need := fun k => !(t.all.any fun x => x.1 == k && !x.2)) t (l.toArray.size - rs.length) h1 hpan (fun k b hk hb => ?_) (fun i hi => hed i (List.mem_append_right _ hi)) rs _ _ _ (fun i hi => hed i (List.mem_append_left _ hi)) h2 h3 ⟨⟨_, hF⟩, rfl⟩ (h hne)
  · rw [h5] at key; exact wpAny_of_need _ _ _ _ key
  · simp only [Bool.not_eq_true', List.any_eq_false] at hb
    have := hb (k, b) hk
    simpa using this
end Go.Proofs.YthnbhcfpfbimgaaGreat
/- Small words on blocks and rows, without a program's types but int. -/
namespace Go.Proofs.YthnbhcfpfbimgaaGreat
open Go.RowKit

theorem blk_lt {w : World} {g : Nat} {o : Obj} (h : w.heap[g]? = some o) : g < w.heap.size := (Array.getElem?_eq_some_iff.1 h).1
theorem heap_at (w : World) (o : Obj) (k : Nat) : (w.alloc o).heap[k]? = if k = w.heap.size then some o else w.heap[k]? := by
  split
  · rename_i h; rw [h]; exact heap_alloc_new w o
  · rename_i h
    by_cases hk : k < w.heap.size
    · exact Below.heap_alloc w o k hk
    · rw [Array.getElem?_eq_none (by rw [World.size_alloc]; omega), Array.getElem?_eq_none (by omega)]
theorem RowZ.set {w : World} {e : TypeId} {z n g k c : Nat} {xs : List Value} (h : RowZ w e z (.slice (some ⟨g, 0, none⟩) k c) n xs) (j : Nat) (u : Value) : RowZ (w.setCell ⟨g, j, none⟩ u) e z (.slice (some ⟨g, 0, none⟩) k c) n (xs.set j u) := by
  rcases h with ⟨h0, _⟩ | ⟨g', cap, cur, h0, hh, h1, h2, h3, h4, h5⟩
  · cases h0
  · simp only [Value.slice.injEq, Option.some.injEq, Addr.mk.injEq, and_true] at h0
    obtain ⟨rfl, rfl, rfl⟩ := h0
    refine .inr ⟨g, c, _, rfl, heap_setCell_same w g j cur e u hh, h1, by simpa using h2, h3, by rw [List.length_set]; exact h4, ?_⟩
    have : (cur.setIfInBounds j u).toList = cur.toList.set j u := by simp
    rw [this, List.take_set, h5]
def intsV (l : List Nat) : List Value := l.map fun (x : Nat) => Value.int .i64 x
theorem intsV_len (l : List Nat) : (intsV l).length = l.length := by simp [intsV]
theorem intsV_get {l : List Nat} {i : Nat} (h : i < l.length) : (intsV l)[i]? = some (.int .i64 (l.getD i 0 : Nat)) := by
  simp [intsV, List.getD_eq_getElem?_getD, h]

/-- All is as it was, but for the blocks of S and new ones. -/
structure Kp (S : Nat → Prop) (w w' : World) : Prop where
  os : w'.os = w.os
  tape : w'.tape = w.tape
  output : w'.output = w.output
  size : w.heap.size ≤ w'.heap.size
  block : ∀ k, k < w.heap.size → ¬ S k → w'.heap[k]? = w.heap[k]?
section
variable {S S' : Nat → Prop} {w w' w2 : World}
theorem Kp.refl (S : Nat → Prop) (w : World) : Kp S w w := ⟨rfl, rfl, rfl, Nat.le_refl _, fun _ _ _ => rfl⟩
theorem Kp.drew (h : Kp S w w') : Kp S w w'.drew := ⟨h.os, h.tape, h.output, h.size, h.block⟩
theorem Kp.alloc (h : Kp S w w') (o : Obj) : Kp S w (w'.alloc o) :=
  ⟨h.os, h.tape, h.output, by have := h.size; rw [World.size_alloc]; omega, fun k hk hs => (Below.heap_alloc w' o k (Nat.lt_of_lt_of_le hk h.size)).trans (h.block k hk hs)⟩
theorem Kp.setCell (h : Kp S w w') {a : Addr} (ha : S a.block ∨ w.heap.size ≤ a.block) (v : Value) : Kp S w (w'.setCell a v) :=
  ⟨h.os, h.tape, h.output, by have := h.size; simp; omega, fun k hk hs => (Below.heap_setCell w' a v k (fun e => by rcases ha with h1 | h1; (· exact hs (e ▸ h1)); (· omega))).trans (h.block k hk hs)⟩
theorem Kp.grown (h : Kp S w w') {own : Option Nat} (hg : w'.grownBy w2 own) (ho : ∀ b, own = some b → S b ∨ w.heap.size ≤ b) : Kp S w w2 :=
  ⟨hg.os.trans h.os, hg.tape.trans h.tape, hg.output.trans h.output, Nat.le_trans h.size hg.size, fun k hk hs =>
    (hg.block k (Nat.lt_of_lt_of_le hk h.size) (fun e => by rcases ho k e.symm with h1 | h1; (· exact hs h1); (· omega))).trans (h.block k hk hs)⟩
/-- Two steps; the second one may turn what the first one made. -/
theorem Kp.trans (h : Kp S w w') (h2 : Kp S' w' w2) (hs : ∀ b, S' b → S b ∨ w.heap.size ≤ b) : Kp S w w2 :=
  ⟨h2.os.trans h.os, h2.tape.trans h.tape, h2.output.trans h.output, Nat.le_trans h.size h2.size, fun k hk hk2 =>
    (h2.block k (Nat.lt_of_lt_of_le hk h.size) (fun hs' => by rcases hs k hs' with h1 | h1; (· exact hk2 h1); (· omega))).trans (h.block k hk hk2)⟩
theorem Kp.below {B : Nat} (h : Kp S w w') (hB : B ≤ w.heap.size) (hS : ∀ k, S k → B ≤ k) : Below B w w' :=
  ⟨h.os, h.tape, h.output, h.size, fun k hk => h.block k (Nat.lt_of_lt_of_le hk hB) (fun hs => by have := hS k hs; omega)⟩
theorem Kp.of_below (h : Below w.heap.size w w') : Kp S w w' := ⟨h.os, h.tape, h.output, h.size, fun k hk _ => h.block k hk⟩
theorem Kp.mono (h : Kp S w w') (hs : ∀ b, S b → S' b) : Kp S' w w' := ⟨h.os, h.tape, h.output, h.size, fun k hk hn => h.block k hk fun e => hn (hs k e)⟩
end
/-- A slice that is only read from now on: in blocks below B, or of its own kind. -/
structure SlAt (w : World) (B : Nat) (e : TypeId) (z : Nat) (v : Value) (n : Nat) (xs : List Value) : Prop where
  ex : ∃ A c, v = .slice A n c ∧ n ≤ c ∧ c ≤ maxLen ∧ xs.length = n * z ∧ (0 < n → ∃ b off, A = some ⟨b, off, none⟩ ∧ (b < B ∨ ∃ cs, w.heap[b]? = some (.cells cs e (0, 0))) ∧ b < w.heap.size ∧ ∀ (i : Nat) (u : Value), xs[i]? = some u → w.cell? ⟨b, off + i, none⟩ = some u)
theorem SlAt.keep {w w' : World} {B : Nat} {e : TypeId} {z n : Nat} {v : Value} {xs : List Value} (h : SlAt w B e z v n xs) (hs : w.heap.size ≤ w'.heap.size)
    (hk : ∀ b, b < w.heap.size → (b < B ∨ ∃ cs, w.heap[b]? = some (.cells cs e (0, 0))) → w'.heap[b]? = w.heap[b]?) : SlAt w' B e z v n xs := by
  obtain ⟨A, c, h1, h2, h3, h4, h5⟩ := h.ex
  refine ⟨A, c, h1, h2, h3, h4, fun hn => ?_⟩
  obtain ⟨b, off, h6, h7, h8, h9⟩ := h5 hn
  have he := hk b h8 h7
  refine ⟨b, off, h6, ?_, by omega, fun i u hu => (World.cell?_of_block he).trans (h9 i u hu)⟩
  rcases h7 with h7 | ⟨cs, h7⟩
  · exact .inl h7
  · exact .inr ⟨cs, he.trans h7⟩
theorem SlAt.below {w w' : World} {B : Nat} {e : TypeId} {z n : Nat} {v : Value} {xs : List Value} (h : SlAt w B e z v n xs) (hb : Below w.heap.size w w') : SlAt w' B e z v n xs := h.keep hb.size fun b hlt _ => hb.block b hlt
theorem SlAt.nil (w : World) (B : Nat) (e : TypeId) (z : Nat) : SlAt w B e z (.slice none 0 0) 0 [] := ⟨⟨none, 0, rfl, Nat.le_refl _, Nat.zero_le _, by simp, fun h => by omega⟩⟩
theorem SlAt.of_row {w : World} {B : Nat} {e : TypeId} {z n : Nat} {v : Value} {xs : List Value} (h : RowZ w e z v n xs) : SlAt w B e z v n xs := by
  have hl := h.len
  obtain ⟨A, c, rfl, h1, h2⟩ := RowZ.form h
  refine ⟨A, c, rfl, h1, h2, hl, fun hn => ?_⟩
  obtain ⟨g, rfl⟩ := RowZ.addr h hn
  obtain ⟨cur, hc⟩ := RowZ.block h (g := g) rfl
  exact ⟨g, 0, rfl, .inr ⟨cur, hc⟩, blk_lt hc, fun i u hu => by rw [Nat.zero_add, RowZ.cell h (List.getElem?_eq_some_iff.1 hu).1]; exact hu⟩
theorem SlAt.src {P : Program} {w : World} {B : Nat} {e tx e' : TypeId} {z n : Nat} {v : Value} {xs : List Value} (hk : P.underlying tx = some (.slice e')) (h : SlAt w B e z v n xs) (h1 : ∀ u ∈ xs, u.oneCell' = true) : Src P z tx v n xs w := by
  obtain ⟨A, c, rfl, _, _, hl, h5⟩ := h.ex
  by_cases hn : 0 < n
  · obtain ⟨b, off, rfl, _, _, h9⟩ := h5 hn
    exact Src.ofSlice w hk _ n c xs hl (fun j u hu => by rw [add_plain]; exact h9 j u hu) h1
  · obtain rfl : n = 0 := by omega
    obtain rfl : xs = [] := List.eq_nil_of_length_eq_zero (by simpa using hl)
    cases A with
    | none => exact Src.ofNil w hk c
    | some a => exact Src.ofSlice w hk a 0 c [] (by simp) (fun j u hu => by simp at hu) h1
end Go.Proofs.YthnbhcfpfbimgaaGreat
/- The plain model of a table of rows. No program in sight. -/
namespace Go.Proofs.YthnbhcfpfbimgaaGreat.Rw

abbrev W64 := BitVec 64
/-- An element's eight words. -/
structure El where
  e0 : Int
  e1 : Int
  e2 : Int
  e3 : Int
  e4 : Int
  e5 : Int
  e6 : Int
  e7 : Int
deriving DecidableEq
structure At where
  var : Int
  el : El
deriving DecidableEq
structure Fld where
  name : ByteArray
  at_ : At
structure Lk where
  field : ByteArray
  why : W64
structure Row where
  bound : Bool
  fields : List Fld
  tail : Int
  why : W64
  lacks : List Lk
structure Eqn where
  a : At
  b : At
  why : W64
/-- What undoes a change. -/
inductive U where
  | cutRows (n : Nat)
  | cutOwn (n : Nat)
  | unstick
  | lacksBack (i : Nat) (was : List Lk)
  | rowBack (i : Nat) (x : Row)
  | cutEqs (n : Nat)
structure T where
  undo : List U
  times : List Nat
  rows : List Row
  own : List Nat
  eqs : List Eqn
  stuck : Bool
  why : W64
def T.new : T := ⟨[], [], [], [], [], false, 0⟩
def row0 : Row := ⟨false, [], -1, 0, []⟩
/-- A change undone. -/
def U.app : U → T → T
  | .cutRows n, s => { s with rows := s.rows.take n }
  | .cutOwn n, s => { s with own := s.own.take n }
  | .unstick, s => { s with stuck := false, why := 0 }
  | .lacksBack i was, s => { s with rows := s.rows.modify i fun x => { x with lacks := was } }
  | .rowBack i x, s => { s with rows := s.rows.set i x }
  | .cutEqs n, s => { s with eqs := s.eqs.take n }
def T.did (s : T) (u : U) : T := { s with undo := s.undo ++ [u] }
def T.tick (s : T) : T := { s with times := s.times ++ [s.undo.length] }
def T.fresh (s : T) : T := ({ s with rows := s.rows ++ [row0] } : T).did (.cutRows s.rows.length)
def T.var (s : T) : T := ({ s.tick.fresh with own := s.own ++ [s.rows.length] } : T).did (.cutOwn s.own.length)
def T.stick (s : T) (why : W64) : T := if s.stuck then s else ({ s with stuck := true, why := why } : T).did .unstick
/-- A row as far as it is known. -/
structure Sp where
  fields : List Fld
  fin : Int
  why : W64
def findF (fs : List Fld) (f : ByteArray) : Option Nat := fs.findIdx? fun x => x.name.toList == f.toList
def hasF (fs : List Fld) (f : ByteArray) : Bool := fs.any fun x => x.name.toList == f.toList
/-- From a row on; m: how many may come. -/
def spread (rows : List Row) : Nat → Sp → Sp
  | 0, s => s
  | m + 1, s => if s.fin < 0 then s else match rows[s.fin.toNat]? with
    | none => s
    | some x => if x.bound then spread rows m ⟨s.fields ++ x.fields, x.tail, s.why ||| x.why⟩ else s
def T.spreads (s : T) (fs : List Fld) (at_ : Int) : Sp := spread s.rows (s.rows.length + 1) ⟨fs, at_, 0⟩
def T.lacks (s : T) (at_ : Int) (f : ByteArray) (why : W64) : Bool × T :=
  let p := s.spreads [] at_
  if hasF p.fields f then (false, s.stick (why ||| p.why))
  else if p.fin < 0 then (true, s)
  else
    let was := (s.rows.getD p.fin.toNat row0).lacks
    if was.any fun l => l.field.toList == f.toList then (true, s)
    else (true, ({ s with rows := s.rows.modify p.fin.toNat fun x => { x with lacks := was ++ [⟨f, why ||| p.why⟩] } } : T).did (.lacksBack p.fin.toNat was))
/-- The first lack that meets a field. -/
def clash (ls : List Lk) (fs : List Fld) : Option Lk := ls.find? fun l => fs.any fun f => f.name.toList == l.field.toList
def T.lackAll (s : T) (tail : Int) : List (ByteArray × W64) → Bool × T
  | [] => (true, s)
  | l :: r => match s.lacks tail l.1 l.2 with
    | (false, s') => (false, s')
    | (true, s') => s'.lackAll tail r
def T.bind (s : T) (i : Nat) (fs : List Fld) (tail : Int) (why : W64) : Bool × T :=
  let x := s.rows.getD i row0
  match clash x.lacks fs with
  | some l => (false, s.stick (why ||| l.why))
  | none =>
    let s1 := ({ s with rows := s.rows.set i { x with bound := true, fields := fs, tail := tail, why := why } } : T).did (.rowBack i x)
    if tail < 0 then (true, s1)
    else s1.lackAll tail ((x.lacks.map fun l => (l.field, l.why ||| why)) ++ fs.map fun f => (f.name, why))
/-- A term's fields, one by one. -/
def T.termFields (s : T) (at_ : Int) (why : W64) (fs : List Fld) : Nat → Bool × T
  | 0 => (true, s)
  | m + 1 => match s.termFields at_ why fs m with
    | (false, s') => (false, s')
    | (true, s') => match fs[m]? with
      | none => (true, s')
      | some f => if hasF (fs.take m) f.name then (false, s'.stick why)
        else if at_ < 0 then (true, s')
        else s'.lacks at_ f.name why
structure Term where
  fields : List Fld
  tail : Int
def T.at_ (s : T) (tail : Int) : Int := if tail < 0 then -1 else (s.own.getD tail.toNat 0 : Nat)
def T.term (s : T) (x : Term) (why : W64) : Option Sp × T :=
  match s.termFields (s.at_ x.tail) why x.fields x.fields.length with
  | (false, s') => (none, s')
  | (true, s') => (some (s'.spreads x.fields (s.at_ x.tail)), s')
def T.pair (s : T) (a b : At) (why : W64) : T := ({ s with eqs := s.eqs ++ [⟨a, b, why⟩] } : T).did (.cutEqs s.eqs.length)
def T.pairs (s : T) (b : List Fld) (why : W64) : List Fld → T
  | [] => s
  | f :: r => T.pairs (match b.find? fun g => g.name.toList == f.name.toList with
    | some g => s.pair f.at_ g.at_ why
    | none => s) b why r
def without (a b : List Fld) : List Fld := a.filter fun f => !hasF b f.name
def T.meet (s : T) (a b : Sp) (why : W64) : Bool × T :=
  let s1 := s.pairs b.fields why a.fields
  let more := without b.fields a.fields
  let less := without a.fields b.fields
  if a.fin = b.fin then (if more.length + less.length > 0 then (false, s1.stick why) else (true, s1))
  else if a.fin < 0 then (if more = [] then (match s1.bind b.fin.toNat less (-1) why with
      | (true, s2) => (true, s2)
      | (false, s2) => (false, s2.stick why)) else (false, s1.stick why))
  else if b.fin < 0 then (if less = [] then (match s1.bind a.fin.toNat more (-1) why with
      | (true, s2) => (true, s2)
      | (false, s2) => (false, s2.stick why)) else (false, s1.stick why))
  else match s1.fresh.bind a.fin.toNat more (s1.rows.length : Nat) why with
    | (false, s2) => (false, s2)
    | (true, s2) => s2.bind b.fin.toNat less (s1.rows.length : Nat) why
def T.equal (s : T) (a b : Term) (why : W64) : Bool × T :=
  match s.term a why with
  | (none, s1) => (false, s1)
  | (some _, s1) => match s1.term b why with
    | (none, s2) => (false, s2)
    | (some y, s2) => match s2.term a why with
      | (none, s3) => s3.meet ⟨[], 0, 0⟩ y (why ||| y.why)
      | (some x, s3) => s3.meet x y (why ||| x.why ||| y.why)
/-- All changes from one on undone. -/
def clearTo (s : T) : Nat → T
  | 0 => s
  | m + 1 => match s.undo.getLast? with
    | none => s
    | some u => clearTo { u.app s with undo := s.undo.dropLast } m
def T.clear (s : T) (n : Nat) : T := clearTo s (s.undo.length - n)
def T.there (s : T) (tail : Int) : Bool := decide (tail < (s.own.length : Int))
def T.equate (s : T) (a b : Term) (why : W64) : Bool × T :=
  if s.stuck || !s.there a.tail || !s.there b.tail then (false, s)
  else match s.tick.equal a b why with
    | (true, s2) => (true, s2)
    | (false, s2) => (false, (s2.clear s.undo.length).stick s2.why)
def T.lacksOf (s : T) (v : Int) (f : ByteArray) (why : W64) : Bool × T :=
  if s.stuck || decide (v < 0) || !s.there v then (false, s)
  else s.tick.lacks (s.own.getD v.toNat 0 : Nat) f why
end Go.Proofs.YthnbhcfpfbimgaaGreat.Rw
