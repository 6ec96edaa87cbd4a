/- Plain: a term's fields one by one; memory: blocks of other types are kept by a table's steps. -/
import Derived.Test.YthnbhcfpfbimgaaRwBindW
namespace Go.Proofs.Ythnbhcfpfbimgaa
namespace Rw
theorem termFields_succ {s sk : T} {a : Int} {y : W64} {fs : List Fld} {k : Nat} {f : Fld} (h : s.termFields a y fs k = (true, sk)) (hf : fs[k]? = some f) :
    s.termFields a y fs (k + 1) = if hasF (fs.take k) f.name then (false, sk.stick y) else if a < 0 then (true, sk) else sk.lacks a f.name y := by
  simp only [T.termFields, h, hf]
theorem termFields_false {s s' : T} {a : Int} {y : W64} {fs : List Fld} {k : Nat} (h : s.termFields a y fs k = (false, s')) : ∀ d, s.termFields a y fs (k + d) = (false, s')
  | 0 => h
  | d + 1 => by
    have := termFields_false h d
    rw [← Nat.add_assoc]
    simp only [T.termFields, this]
theorem term_false {s s' : T} {x : Term} {y : W64} {k : Nat} (hk : k ≤ x.fields.length) (h : s.termFields (s.at_ x.tail) y x.fields k = (false, s')) : s.term x y = (none, s') := by
  have := termFields_false h (x.fields.length - k)
  rw [show k + (x.fields.length - k) = x.fields.length by omega] at this
  simp only [T.term, this]
theorem term_true {s s' : T} {x : Term} {y : W64} (h : s.termFields (s.at_ x.tail) y x.fields x.fields.length = (true, s')) : s.term x y = (some (s'.spreads x.fields (s.at_ x.tail)), s') := by
  simp only [T.term, h]
/-- Where a term stands. -/
structure TfS (s : T) (a : Int) (y : W64) (fs : List Fld) (n k : Nat) (sk : T) : Prop where
  run : s.termFields a y fs k = (true, sk)
  nx : Nx s sk
  sz : Sz sk (n + k)
theorem TfS.start {s : T} {a : Int} {y : W64} {fs : List Fld} {n : Nat} (h : Sz s n) : TfS s a y fs n 0 s := ⟨rfl, Nx.refl _, h⟩
theorem TfS.skip {s sk : T} {a : Int} {y : W64} {fs : List Fld} {n k : Nat} {f : Fld} (h : TfS s a y fs n k sk) (hf : fs[k]? = some f) (hh : hasF (fs.take k) f.name = false) (ha : a < 0) : TfS s a y fs n (k + 1) sk :=
  ⟨by rw [termFields_succ h.run hf, hh, if_neg (by simp), if_pos ha], h.nx, h.sz.mono (by omega)⟩
theorem TfS.step {s sk sk' : T} {a : Int} {y : W64} {fs : List Fld} {n k : Nat} {f : Fld} (h : TfS s a y fs n k sk) (hf : fs[k]? = some f) (hh : hasF (fs.take k) f.name = false) (ha : ¬ a < 0) (hl : sk.lacks a f.name y = (true, sk')) : TfS s a y fs n (k + 1) sk' := by
  obtain ⟨h1, h2⟩ := lacks_nx sk a f.name y h.sz
  rw [hl] at h1 h2
  exact ⟨by rw [termFields_succ h.run hf, hh, if_neg (by simp), if_neg ha, hl], h.nx.trans h1, h2⟩
theorem TfS.stop {s sk sk' : T} {a : Int} {y : W64} {fs : List Fld} {n k : Nat} {f : Fld} (h : TfS s a y fs n k sk) (hf : fs[k]? = some f) (hh : hasF (fs.take k) f.name = false) (ha : ¬ a < 0) (hl : sk.lacks a f.name y = (false, sk')) : s.termFields a y fs (k + 1) = (false, sk') := by
  rw [termFields_succ h.run hf, hh, if_neg (by simp), if_neg ha, hl]
theorem TfS.twice {s sk : T} {a : Int} {y : W64} {fs : List Fld} {n k : Nat} {f : Fld} (h : TfS s a y fs n k sk) (hf : fs[k]? = some f) (hh : hasF (fs.take k) f.name = true) : s.termFields a y fs (k + 1) = (false, sk.stick y) := by
  rw [termFields_succ h.run hf, hh, if_pos rfl]
/-- All of a term's steps. -/
theorem termFields_nx (s : T) (a : Int) (y : W64) (fs : List Fld) {n : Nat} (h : Sz s n) : ∀ k, Nx s (s.termFields a y fs k).2 ∧ Sz (s.termFields a y fs k).2 (n + k + 1)
  | 0 => ⟨Nx.refl _, h.mono (by omega)⟩
  | k + 1 => by
    have ih := termFields_nx s a y fs h k
    rcases hr : s.termFields a y fs k with ⟨b, sk⟩
    rw [hr] at ih
    cases b with
    | false => rw [termFields_false hr 1]; exact ⟨ih.1, ih.2.mono (by omega)⟩
    | true =>
      cases hf : fs[k]? with
      | none => simp only [T.termFields, hr, hf]; exact ⟨ih.1, ih.2.mono (by omega)⟩
      | some f =>
        rw [termFields_succ hr hf]
        split
        · exact ⟨ih.1.trans (Nx.stick _ _), (ih.2.stick _).mono (by omega)⟩
        split
        · exact ⟨ih.1, ih.2.mono (by omega)⟩
        · obtain ⟨h1, h2⟩ := lacks_nx sk a f.name y ih.2
          exact ⟨ih.1.trans h1, h2.mono (by omega)⟩
theorem term_nx (s : T) (x : Term) (y : W64) {n : Nat} (h : Sz s n) : Nx s (s.term x y).2 ∧ Sz (s.term x y).2 (n + x.fields.length + 1) := by
  have ht := termFields_nx s (s.at_ x.tail) y x.fields h x.fields.length
  rcases hr : s.termFields (s.at_ x.tail) y x.fields x.fields.length with ⟨b, sk⟩
  rw [hr] at ht
  cases b with
  | false => rw [term_false (Nat.le_refl _) hr]; exact ht
  | true => rw [term_true hr]; exact ht
end Rw
open Go.RowKit
open Rw (El At Fld Lk Eqn U T W64 Sp Wf tot Sz Nx)
theorem fdsV_take (fs : List Fld) (k : Nat) : fdsV (fs.take k) = (fdsV fs).take (k * 10) := by
  induction fs generalizing k with
  | nil => simp [fdsV]
  | cons f l ih =>
    cases k with
    | zero => simp [fdsV]
    | succ k =>
      have := ih k
      simp only [fdsV] at this
      simp only [fdsV, List.take_succ_cons, List.flatMap_cons, this]
      rw [show (k + 1) * 10 = (fdV f).length + k * 10 by rw [fdV_len]; omega, List.take_length_add_append]
theorem SlAt.takeF {w : World} {B n c k : Nat} {A : Option Addr} {fs : List Fld} (h : SlAt w B 60 10 (.slice A n c) n (fdsV fs)) (hl : fs.length = n) (hk : k ≤ n) : SlAt w B 60 10 (.slice A k c) (fs.take k).length (fdsV (fs.take k)) := by
  obtain ⟨A', c', e, h1, h2, h3, h4⟩ := h.ex
  cases e
  rw [show (fs.take k).length = k by simp; omega, fdsV_take]
  refine ⟨⟨A, c, rfl, by omega, h2, by rw [List.length_take, h3]; omega, fun hp => ?_⟩⟩
  obtain ⟨b, off, h5, h6, h7, h8⟩ := h4 (by omega)
  exact ⟨b, off, h5, h6, h7, fun i u hu => h8 i u (by rw [List.getElem?_take] at hu; by_cases hc : i < k * 10 <;> simp [hc] at hu; exact hu)⟩
/-- A type that none of the table's blocks has. -/
def Apart5 (t : TypeId) : Prop := t ≠ 83 ∧ t ≠ 1 ∧ t ≠ 3 ∧ t ≠ 134 ∧ t ≠ 52
theorem TbX.not_onT {w : World} {B P b : Nat} {g : Bl} {s : T} {vu vt vr vo ve : Value} {vs : List (Value × Value)} {fs : List Value} {cs : Array Value} {t : TypeId} (h : TbX w B P g s vu vt vr vo ve vs fs) (hb : w.heap[b]? = some (.cells cs t (0, 0))) (ht : Apart5 t) : ¬ OnB P g b := by
  obtain ⟨b1, b2, b3, b4, b5⟩ := h.bl
  obtain ⟨t1, t2, t3, t4, t5⟩ := ht
  rintro (e | e | e | e | e | e)
  · subst e; have := h.self.symm.trans hb; injection this with this; injection this with _ this; exact t1 this.symm
  · exact RowZ.ne_type h.undo hb (fun e => t2 e.symm) (b1.trans e)
  · exact RowZ.ne_type h.times hb (fun e => t3 e.symm) (b2.trans e)
  · exact RowZ.ne_type h.rows hb (fun e => t4 e.symm) (b3.trans e)
  · exact RowZ.ne_type h.own hb (fun e => t3 e.symm) (b4.trans e)
  · exact RowZ.ne_type h.eqs hb (fun e => t5 e.symm) (b5.trans e)
/-- Blocks of other types are kept. -/
structure KeptT (w w' : World) : Prop where
  size : w.heap.size ≤ w'.heap.size
  block : ∀ (b : Nat) cs t, w.heap[b]? = some (.cells cs t (0, 0)) → Apart5 t → w'.heap[b]? = some (.cells cs t (0, 0))
theorem KeptT.below {w w' : World} (h : Below w.heap.size w w') : KeptT w w' := ⟨h.size, fun b _ _ hb _ => (h.block b (blk_lt hb)).trans hb⟩
theorem KeptT.trans {w w' w2 : World} (h : KeptT w w') (k : KeptT w' w2) : KeptT w w2 := ⟨Nat.le_trans h.size k.size, fun b cs t hb ht => k.block b cs t (h.block b cs t hb ht) ht⟩
theorem Sg.stepT {w w1 w2 : World} {B P : Nat} {g g1 : Bl} {s1 s2 : T} (h : Sg w B P g w1 g1 s1) (h2 : Stp w1 B P g1 s2 w2) : ∃ g2, Sg w B P g w2 g2 s2 ∧ Kept w1 B g1 w2 g2 ∧ KeptT w1 w2 := by
  obtain ⟨g2, a, b, c⟩ := h2.ex
  obtain ⟨h3, h4⟩ := h.stepG a b c
  refine ⟨g2, h3, h4, b.size, fun q cs t hq ht => ?_⟩
  obtain ⟨_, _, _, _, _, _, _, hx⟩ := h.tb
  exact (b.block q (blk_lt hq) (hx.not_onT hq ht)).trans hq
end Go.Proofs.Ythnbhcfpfbimgaa
