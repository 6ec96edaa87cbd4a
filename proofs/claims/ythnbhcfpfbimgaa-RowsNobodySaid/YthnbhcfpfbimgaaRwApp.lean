/- append to a slice that is full: a new row, and nothing else turns. -/
import Derived.Test.YthnbhcfpfbimgaaRwSpreads
namespace Go.Proofs.Ythnbhcfpfbimgaa
open Go.RowKit

theorem run_app_full {P : Program} {w : World} (t tx ty e : TypeId) (i : TypeInfo) (z : Value) (sz bytes : Nat) (ht : P.underlying t = some (.slice e)) (hi : P.info? e = some i) (hz : i.zero = some z)
    (hsize : i.size = sz) (hby : i.bytes = bytes) (hzs : z.cells.size = sz) (A : Option Addr) (n : Nat) (xs : List Value) (hxl : xs.length = n * sz)
    (hc : 0 < n → ∃ b off, A = some ⟨b, off, none⟩ ∧ ∀ (j : Nat) u, xs[j]? = some u → w.cell? ⟨b, off + j, none⟩ = some u) (x : Value) (m : Nat) (news : List Value) (hs : Src P sz tx x m news w) (hm : 0 < m)
    (h63 : n + m ≤ maxLen) (hbytes : (n + m) * bytes ≤ 140737488355328) :
    ∃ c' w', (Builtin.append_ #[t, tx] ty #[.slice A n n, x]).run P w = .ok (.slice (some ⟨w.heap.size, 0, none⟩) (n + m) c') w' ∧ RowZ w' e sz (.slice (some ⟨w.heap.size, 0, none⟩) (n + m) c') (n + m) (xs ++ news) ∧ Below w.heap.size w w' := by
  have hsmall : ((n + m : Nat) : Int) ≤ 9223372036854775807 := by simp only [maxLen] at h63; omega
  have hs' : Src P i.size tx x m news w := by rw [hsize]; exact hs
  have hnl : news.length = m * sz := hs.newsLen
  have hlen : (xs ++ news).length = (n + m) * sz := by rw [List.length_append, hnl, hxl, Nat.add_mul]
  have hgrown : ∀ old, RowZ (w.drew.alloc (.cells ((xs ++ news).toArray ++ Builtin.zeroCells z.cells (grownCap w (n + m) old e - (n + m))) e)) e sz
      (.slice (some ⟨w.heap.size, 0, none⟩) (n + m) (grownCap w (n + m) old e)) (n + m) (xs ++ news) := fun old => by
    have hge := grownCap_ge w (n + m) old e
    refine .inr ⟨w.heap.size, grownCap w (n + m) old e, _, rfl, heap_alloc_new w.drew _, hge, ?_, grownCap_le_maxLen w (n + m) old e h63, hlen, ?_⟩
    · simp only [Array.size_append, List.size_toArray, size_zeroCells, hzs, hlen]
      rw [← Nat.add_mul, Nat.add_sub_cancel' hge]
      exact Nat.le_refl _
    · simp only [Array.toList_append]
      exact List.take_left' hlen
  subst hby
  have hold : (Builtin.firstCells i.size n (.slice A n n)).run P w.drew = .ok xs.toArray w.drew := by
    rw [hsize]
    cases A with
    | none =>
      have hn : n = 0 := by
        by_cases h : 0 < n
        · obtain ⟨_, _, h, _⟩ := hc h; cases h
        · omega
      subst hn
      have hx0 : xs = [] := List.eq_nil_of_length_eq_zero (by simpa using hxl)
      subst hx0
      exact run_firstCells_none w.drew sz 0 0 0
    | some a =>
      refine run_firstCells_some w.drew sz n a n n xs hxl fun j u hu => ?_
      have hn : 0 < n := by
        have hj := (List.getElem?_eq_some_iff.1 hu).1
        rw [hxl] at hj
        exact Nat.pos_of_ne_zero fun e => by subst e; simp at hj
      obtain ⟨b, off, h1, h2⟩ := hc hn
      cases h1
      rw [add_plain]
      exact h2 j u hu
  have hr := run_append_grow_src (P := P) w t tx ty e i z ht hi hz A n n xs hold x m news hs' (by omega) hsmall (growslice_fits (by omega) hbytes)
  exact ⟨_, _, hr, hgrown n, (below_drewN (Below.refl w.heap.size w) 1).alloc (Nat.le_refl _) _⟩
theorem app_full {P : Program} {w : World} {ops : Array Oper} {rest : List Oper} {o : Oper} {a : Act} {Q : Exit → Act → World → Prop} (hgd : o.guard = none) (s x : Operand) (t tx : TypeId)
    (ho : o.op = .call { callee := .builtin .append, args := #[s, x], argTypes := #[t, tx] })
    (e : TypeId) (i : TypeInfo) (z : Value) (sz bytes : Nat) (ht : P.underlying t = some (.slice e)) (hi : P.info? e = some i) (hz : i.zero = some z)
    (hsize : i.size = sz) (hby : i.bytes = bytes) (hzs : z.cells.size = sz)
    (A : Option Addr) (n : Nat) (xs : List Value) (hs : a.eval s = .slice A n n) (hxl : xs.length = n * sz)
    (hc : 0 < n → ∃ b off, A = some ⟨b, off, none⟩ ∧ ∀ (j : Nat) u, xs[j]? = some u → w.cell? ⟨b, off + j, none⟩ = some u)
    (xv : Value) (m : Nat) (news : List Value) (hx : a.eval x = xv) (hsrc : Src P sz tx xv m news w) (hm : 0 < m)
    (h63 : n + m ≤ maxLen) (hbytes : (n + m) * bytes ≤ 140737488355328)
    (h : ∀ c' w', RowZ w' e sz (.slice (some ⟨w.heap.size, 0, none⟩) (n + m) c') (n + m) (xs ++ news) → Below w.heap.size w w' →
      wpList P ops Q rest (a.put o.dst (.slice (some ⟨w.heap.size, 0, none⟩) (n + m) c')) w') : wpList P ops Q (o :: rest) a w := by
  refine wpList_plain hgd fun K hK => ?_
  obtain ⟨c', w', hr, h2, h3⟩ := run_app_full (P := P) (w := w) t tx o.type e i z sz bytes ht hi hz hsize hby hzs A n xs hxl hc xv m news hsrc hm h63 hbytes
  unfold Oper.wp
  simp [execOp, ho, resolve, invoke, builtin, hs, hx, hr, Result.andThen]
  exact hK _ _ (h c' w' h2 h3)
end Go.Proofs.Ythnbhcfpfbimgaa
