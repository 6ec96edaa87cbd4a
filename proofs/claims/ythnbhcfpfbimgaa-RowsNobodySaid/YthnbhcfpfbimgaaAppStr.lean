/- append of a string's bytes to a row of the call's own; a row of bytes read back as a string. -/
import Derived.Test.YthnbhcfpfbimgaaWords
import Derived.Deep.AppendSrc
import Derived.Deep.Upon
import Derived.Laws.IdiomStrings
import Derived.Laws.BytesArg
namespace Go.Proofs.Ythnbhcfpfbimgaa
open Go.RowKit

theorem setCells_block (g : Nat) (t : TypeId) : ∀ (vs : List Value) (o : Nat) (w : World) (cur : Array Value), w.heap[g]? = some (.cells cur t (0, 0)) → o + vs.length ≤ cur.size →
    ∃ cur' : Array Value, (w.setCells g o vs).heap[g]? = some (.cells cur' t (0, 0)) ∧ cur'.size = cur.size ∧ cur'.toList = cur.toList.take o ++ (vs ++ cur.toList.drop (o + vs.length))
  | [], o, w, cur, hg, _ => ⟨cur, hg, rfl, by simp⟩
  | v :: r, o, w, cur, hg, hle => by
    simp only [List.length_cons] at hle
    obtain ⟨cur', h1, h2, h3⟩ := setCells_block g t r (o + 1) _ _ (heap_setCell_same w g o cur t v hg) (by simp; omega)
    refine ⟨cur', h1, by simpa using h2, ?_⟩
    rw [h3]
    have ho : o < cur.toList.length := by simp; omega
    rw [show (cur.setIfInBounds o v).toList = cur.toList.set o v from by simp]
    rw [List.take_succ_eq_append_getElem (by simp; omega), List.take_set_of_le (by omega), List.getElem_set_self]
    rw [List.drop_set_of_lt (by omega)]
    simp [List.append_assoc, Nat.add_assoc, Nat.add_comm 1]

theorem setCells_rest (g : Nat) : ∀ (vs : List Value) (o : Nat) (w : World), (w.setCells g o vs).os = w.os ∧ (w.setCells g o vs).tape = w.tape ∧ (w.setCells g o vs).output = w.output ∧ w.heap.size ≤ (w.setCells g o vs).heap.size
  | [], _, _ => ⟨rfl, rfl, rfl, Nat.le_refl _⟩
  | v :: r, o, w => by
    have h := setCells_rest g r (o + 1) (w.setCell ⟨g, o, none⟩ v)
    simpa [World.setCells, World.setCell] using h

theorem own_grown {w : World} {base : Nat} {e : TypeId} {z : Value} {n m old : Nat} {xs news : List Value} (hzs : z.cells.size = 1) (hx : xs.length = n) (hn : news.length = m) (hb : base ≤ w.heap.size) (h63 : n + m ≤ maxLen) :
    (w.drew.alloc (.cells ((xs ++ news).toArray ++ Builtin.zeroCells z.cells (grownCap w (n + m) old e - (n + m))) e)).ownsRow base e 1 (.slice (some ⟨w.heap.size, 0, none⟩) (n + m) (grownCap w (n + m) old e)) (n + m) (xs ++ news) := by
  have hge := grownCap_ge w (n + m) old e
  have hcm : grownCap w (n + m) old e ≤ maxLen := grownCap_le_maxLen w (n + m) old e h63
  refine ⟨by simp; omega, .inr ⟨w.heap.size, _, _, rfl, hb, heap_alloc_new w.drew _, hge, hcm, ?_, ?_⟩⟩
  · simp only [Array.size_append, List.size_toArray, List.length_append, size_zeroCells, hzs, hx, hn]; omega
  · simp only [Array.toList_append]
    exact List.take_left' (by simp; omega)

theorem run_app_src {P : Program} {w : World} (base : Nat) (t tx ty e : TypeId) (i : TypeInfo) (z : Value) (bytes : Nat) (ht : P.underlying t = some (.slice e)) (hi : P.info? e = some i) (hz : i.zero = some z)
    (hsize : i.size = 1) (hby : i.bytes = bytes) (hzs : z.cells.size = 1) (v : Value) (n : Nat) (xs : List Value) (hown : w.ownsRow base e 1 v n xs) (x : Value) (m : Nat) (news : List Value) (hs : Src P 1 tx x m news w)
    (h63 : n + m ≤ maxLen) (hbytes : (n + m) * bytes ≤ 140737488355328) (hbase : base ≤ w.heap.size) :
    ∃ A' c' w', (Builtin.append_ #[t, tx] ty #[v, x]).run P w = .ok (.slice A' (n + m) c') w' ∧ w'.ownsRow base e 1 (.slice A' (n + m) c') (n + m) (xs ++ news) ∧ w.grownBy w' v.ownBlock := by
  have hsmall : ((n + m : Nat) : Int) ≤ 9223372036854775807 := by simp only [maxLen] at h63; omega
  have hs' : Src P i.size tx x m news w := by rw [hsize]; exact hs
  have hnl : news.length = m := by simpa using hs.newsLen
  have hxl : xs.length = n := by simpa using hown.1
  subst hby
  rcases hown.2 with ⟨rfl, rfl⟩ | ⟨g, cap, cur, rfl, hbg, hg, hnc, hcm, hcs, htake⟩
  · have hx0 : xs = [] := List.eq_nil_of_length_eq_zero hxl
    subst hx0
    by_cases hm : m = 0
    · subst hm
      have hn0 : news = [] := List.eq_nil_of_length_eq_zero hnl
      subst hn0
      refine ⟨none, 0, w, ?_, World.ownsRow_nil w base e 1, ⟨rfl, rfl, rfl, Nat.le_refl _, fun _ _ _ => rfl⟩⟩
      have hc := hs'.cells
      have hl := hs'.len
      rcases hs'.kind with ⟨e', hk⟩ | hk <;> simp [Builtin.append_, run_underlying ht, run_underlying hk, sizeOf, typeInfo, hi, hl, hc]
    · have hr := run_append_grow_src (P := P) w t tx ty e i z ht hi hz none 0 0 [] (run_firstCells_none w.drew i.size 0 0 0) x m news hs' (by omega) hsmall (growslice_fits (by omega) hbytes)
      exact ⟨_, _, _, hr, own_grown hzs rfl hnl hbase h63, ⟨rfl, rfl, rfl, by simp, fun k hk _ => Below.heap_alloc w.drew _ k hk⟩⟩
  · by_cases hroom : n + m ≤ cap
    · have hfit : n + news.length ≤ cur.size := by omega
      have hcell : ∀ j, j < news.length → (w.cell? ⟨g, 0 + n * i.size + j, none⟩).isSome = true := fun j hj => by
        rw [cell_of_row w g _ cur e (0, 0) hg, hsize, Array.getElem?_eq_getElem (by omega)]; rfl
      have hr := run_append_room_src (P := P) w t tx ty e i ht hi g 0 n cap x m news hs' hroom hcell (fun j _ => frozen_of_row w g _ cur e hg)
      rw [hsize, Nat.mul_one, Nat.zero_add] at hr
      obtain ⟨cur', h1, h2, h3⟩ := setCells_block g e news n w cur hg hfit
      refine ⟨_, _, _, hr, ⟨by simp; omega, .inr ⟨g, cap, cur', rfl, hbg, h1, hroom, hcm, by omega, ?_⟩⟩, ⟨?_, ?_, ?_, ?_, ?_⟩⟩
      · simp only [Nat.mul_one] at htake ⊢
        rw [h3, htake, ← List.append_assoc]
        exact List.take_left' (by simp; omega)
      · exact (setCells_rest g news n w).1
      · exact (setCells_rest g news n w).2.1
      · exact (setCells_rest g news n w).2.2.1
      · exact (setCells_rest g news n w).2.2.2
      · intro k hk hne
        exact World.heap_setCells_other w g n news hk (fun e => hne (by subst e; rfl))
    · have holds : ∀ j u, xs[j]? = some u → w.cell? ((⟨g, 0, none⟩ : Addr).add j) = some u := hown.cells (g := g) rfl
      have hold : (Builtin.firstCells i.size n (.slice (some ⟨g, 0, none⟩) n cap)).run P w.drew = .ok xs.toArray w.drew := by
        rw [hsize]; exact run_firstCells_some w.drew 1 n ⟨g, 0, none⟩ n cap xs hown.1 holds
      have hr := run_append_grow_src (P := P) w t tx ty e i z ht hi hz (some ⟨g, 0, none⟩) n cap xs hold x m news hs' (by omega) hsmall (growslice_fits (by omega) hbytes)
      exact ⟨_, _, _, hr, own_grown hzs hxl hnl hbase h63, ⟨rfl, rfl, rfl, by simp, fun k hk _ => Below.heap_alloc w.drew _ k hk⟩⟩

theorem app_src {P : Program} {w : World} {ops : Array Oper} {rest : List Oper} {o : Oper} {a : Act} {Q : Exit → Act → World → Prop} (hgd : o.guard = none) (s x : Operand) (t tx : TypeId)
    (ho : o.op = .call { callee := .builtin .append, args := #[s, x], argTypes := #[t, tx] })
    (base : Nat) (e : TypeId) (i : TypeInfo) (z : Value) (bytes : Nat) (ht : P.underlying t = some (.slice e)) (hi : P.info? e = some i) (hz : i.zero = some z)
    (hsize : i.size = 1) (hby : i.bytes = bytes) (hzs : z.cells.size = 1)
    (v : Value) (n : Nat) (xs : List Value) (hs : a.eval s = v) (hown : w.ownsRow base e 1 v n xs)
    (xv : Value) (m : Nat) (news : List Value) (hx : a.eval x = xv) (hsrc : Src P 1 tx xv m news w)
    (h63 : n + m ≤ maxLen) (hbytes : (n + m) * bytes ≤ 140737488355328) (hbase : base ≤ w.heap.size)
    (h : ∀ A' c' w', w'.ownsRow base e 1 (.slice A' (n + m) c') (n + m) (xs ++ news) → w.grownBy w' v.ownBlock → wpList P ops Q rest (a.put o.dst (.slice A' (n + m) c')) w') : wpList P ops Q (o :: rest) a w := by
  refine wpList_plain hgd fun K hK => ?_
  obtain ⟨A', c', w', hr, h2, h3⟩ := run_app_src (P := P) (w := w) base t tx o.type e i z bytes ht hi hz hsize hby hzs v n xs hown xv m news hsrc h63 hbytes hbase
  unfold Oper.wp
  simp [execOp, ho, resolve, invoke, builtin, hs, hx, hr, Result.andThen]
  exact hK _ _ (h A' c' w' h2 h3)
end Go.Proofs.Ythnbhcfpfbimgaa
