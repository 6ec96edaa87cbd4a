/- Texts put together: RwTerm0 RwTerm. -/
import Derived.Test.YthnbhcfpfbimgaaGreatMl09
/- Plain: a term's fields one by one; memory: blocks of other types are kept by a table's steps. -/
namespace Go.Proofs.YthnbhcfpfbimgaaGreat
namespace Rw
theorem termFields_succ {s sk : T} {a : Int} {y : W64} {fs : List Fld} {k : Nat} {f : Fld} (h : s.termFields a y fs k = (true, sk)) (hf : fs[k]? = some f) :
    s.termFields a y fs (k + 1) = if hasF (fs.take k) f.name then (false, sk.stick y) else if a < 0 then (true, sk) else sk.lacks a f.name y := by
  simp only [T.termFields, h, hf]
theorem termFields_false {s s' : T} {a : Int} {y : W64} {fs : List Fld} {k : Nat} (h : s.termFields a y fs k = (false, s')) : ∀ d, s.termFields a y fs (k + d) = (false, s')
  | 0 => h
  | d + 1 => by
    have := termFields_false h d
    rw [← Nat.add_assoc]
    simp only [T.termFields, this]
theorem term_false {s s' : T} {x : Term} {y : W64} {k : Nat} (hk : k ≤ x.fields.length) (h : s.termFields (s.at_ x.tail) y x.fields k = (false, s')) : s.term x y = (none, s') := by
  have := termFields_false h (x.fields.length - k)
  rw [show k + (x.fields.length - k) = x.fields.length by omega] at this
  simp only [T.term, this]
theorem term_true {s s' : T} {x : Term} {y : W64} (h : s.termFields (s.at_ x.tail) y x.fields x.fields.length = (true, s')) : s.term x y = (some (s'.spreads x.fields (s.at_ x.tail)), s') := by
  simp only [T.term, h]
/-- Where a term stands. -/
structure TfS (s : T) (a : Int) (y : W64) (fs : List Fld) (n k : Nat) (sk : T) : Prop where
  run : s.termFields a y fs k = (true, sk)
  nx : Nx s sk
  sz : Sz sk (n + k)
theorem TfS.start {s : T} {a : Int} {y : W64} {fs : List Fld} {n : Nat} (h : Sz s n) : TfS s a y fs n 0 s := ⟨rfl, Nx.refl _, h⟩
theorem TfS.skip {s sk : T} {a : Int} {y : W64} {fs : List Fld} {n k : Nat} {f : Fld} (h : TfS s a y fs n k sk) (hf : fs[k]? = some f) (hh : hasF (fs.take k) f.name = false) (ha : a < 0) : TfS s a y fs n (k + 1) sk :=
  ⟨by rw [termFields_succ h.run hf, hh, if_neg (by simp), if_pos ha], h.nx, h.sz.mono (by omega)⟩
theorem TfS.step {s sk sk' : T} {a : Int} {y : W64} {fs : List Fld} {n k : Nat} {f : Fld} (h : TfS s a y fs n k sk) (hf : fs[k]? = some f) (hh : hasF (fs.take k) f.name = false) (ha : ¬ a < 0) (hl : sk.lacks a f.name y = (true, sk')) : TfS s a y fs n (k + 1) sk' := by
  obtain ⟨h1, h2⟩ := lacks_nx sk a f.name y h.sz
  rw [hl] at h1 h2
  exact ⟨by rw [termFields_succ h.run hf, hh, if_neg (by simp), if_neg ha, hl], h.nx.trans h1, h2⟩
theorem TfS.stop {s sk sk' : T} {a : Int} {y : W64} {fs : List Fld} {n k : Nat} {f : Fld} (h : TfS s a y fs n k sk) (hf : fs[k]? = some f) (hh : hasF (fs.take k) f.name = false) (ha : ¬ a < 0) (hl : sk.lacks a f.name y = (false, sk')) : s.termFields a y fs (k + 1) = (false, sk') := by
  rw [termFields_succ h.run hf, hh, if_neg (by simp), if_neg ha, hl]
theorem TfS.twice {s sk : T} {a : Int} {y : W64} {fs : List Fld} {n k : Nat} {f : Fld} (h : TfS s a y fs n k sk) (hf : fs[k]? = some f) (hh : hasF (fs.take k) f.name = true) : s.termFields a y fs (k + 1) = (false, sk.stick y) := by
  rw [termFields_succ h.run hf, hh, if_pos rfl]
/-- All of a term's steps. -/
theorem termFields_nx (s : T) (a : Int) (y : W64) (fs : List Fld) {n : Nat} (h : Sz s n) : ∀ k, Nx s (s.termFields a y fs k).2 ∧ Sz (s.termFields a y fs k).2 (n + k + 1)
  | 0 => ⟨Nx.refl _, h.mono (by omega)⟩
  | k + 1 => by
    have ih := termFields_nx s a y fs h k
    rcases hr : s.termFields a y fs k with ⟨b, sk⟩
    rw [hr] at ih
    cases b with
    | false => rw [termFields_false hr 1]; exact ⟨ih.1, ih.2.mono (by omega)⟩
    | true =>
      cases hf : fs[k]? with
      | none => simp only [T.termFields, hr, hf]; exact ⟨ih.1, ih.2.mono (by omega)⟩
      | some f =>
        rw [termFields_succ hr hf]
        split
        · exact ⟨ih.1.trans (Nx.stick _ _), (ih.2.stick _).mono (by omega)⟩
        split
        · exact ⟨ih.1, ih.2.mono (by omega)⟩
        · obtain ⟨h1, h2⟩ := lacks_nx sk a f.name y ih.2
          exact ⟨ih.1.trans h1, h2.mono (by omega)⟩
theorem term_nx (s : T) (x : Term) (y : W64) {n : Nat} (h : Sz s n) : Nx s (s.term x y).2 ∧ Sz (s.term x y).2 (n + x.fields.length + 1) := by
  have ht := termFields_nx s (s.at_ x.tail) y x.fields h x.fields.length
  rcases hr : s.termFields (s.at_ x.tail) y x.fields x.fields.length with ⟨b, sk⟩
  rw [hr] at ht
  cases b with
  | false => rw [term_false (Nat.le_refl _) hr]; exact ht
  | true => rw [term_true hr]; exact ht
end Rw
open Go.RowKit
open Rw (El At Fld Lk Eqn U T W64 Sp Wf tot Sz Nx)
theorem fdsV_take (fs : List Fld) (k : Nat) : fdsV (fs.take k) = (fdsV fs).take (k * 10) := by
  induction fs generalizing k with
  | nil => simp [fdsV]
  | cons f l ih =>
    cases k with
    | zero => simp [fdsV]
    | succ k =>
      have := ih k
      simp only [fdsV] at this
      simp only [fdsV, List.take_succ_cons, List.flatMap_cons, this]
      rw [show (k + 1) * 10 = (fdV f).length + k * 10 by rw [fdV_len]; omega, List.take_length_add_append]
theorem SlAt.takeF {w : World} {B n c k : Nat} {A : Option Addr} {fs : List Fld} (h : SlAt w B 59 10 (.slice A n c) n (fdsV fs)) (hl : fs.length = n) (hk : k ≤ n) : SlAt w B 59 10 (.slice A k c) (fs.take k).length (fdsV (fs.take k)) := by
  obtain ⟨A', c', e, h1, h2, h3, h4⟩ := h.ex
  cases e
  rw [show (fs.take k).length = k by simp; omega, fdsV_take]
  refine ⟨⟨A, c, rfl, by omega, h2, by rw [List.length_take, h3]; omega, fun hp => ?_⟩⟩
  obtain ⟨b, off, h5, h6, h7, h8⟩ := h4 (by omega)
  exact ⟨b, off, h5, h6, h7, fun i u hu => h8 i u (by rw [List.getElem?_take] at hu; by_cases hc : i < k * 10 <;> simp [hc] at hu; exact hu)⟩
/-- A type that none of the table's blocks has. -/
def Apart5 (t : TypeId) : Prop := t ≠ 95 ∧ t ≠ 1 ∧ t ≠ 3 ∧ t ≠ 133 ∧ t ≠ 52
theorem TbX.not_onT {w : World} {B P b : Nat} {g : Bl} {s : T} {vu vt vr vo ve : Value} {vs : List (Value × Value)} {fs : List Value} {cs : Array Value} {t : TypeId} (h : TbX w B P g s vu vt vr vo ve vs fs) (hb : w.heap[b]? = some (.cells cs t (0, 0))) (ht : Apart5 t) : ¬ OnB P g b := by
  obtain ⟨b1, b2, b3, b4, b5⟩ := h.bl
  obtain ⟨t1, t2, t3, t4, t5⟩ := ht
  rintro (e | e | e | e | e | e)
  · subst e; have := h.self.symm.trans hb; injection this with this; injection this with _ this; exact t1 this.symm
  · exact RowZ.ne_type h.undo hb (fun e => t2 e.symm) (b1.trans e)
  · exact RowZ.ne_type h.times hb (fun e => t3 e.symm) (b2.trans e)
  · exact RowZ.ne_type h.rows hb (fun e => t4 e.symm) (b3.trans e)
  · exact RowZ.ne_type h.own hb (fun e => t3 e.symm) (b4.trans e)
  · exact RowZ.ne_type h.eqs hb (fun e => t5 e.symm) (b5.trans e)
/-- Blocks of other types are kept. -/
structure KeptT (w w' : World) : Prop where
  size : w.heap.size ≤ w'.heap.size
  block : ∀ (b : Nat) cs t, w.heap[b]? = some (.cells cs t (0, 0)) → Apart5 t → w'.heap[b]? = some (.cells cs t (0, 0))
theorem KeptT.below {w w' : World} (h : Below w.heap.size w w') : KeptT w w' := ⟨h.size, fun b _ _ hb _ => (h.block b (blk_lt hb)).trans hb⟩
theorem KeptT.trans {w w' w2 : World} (h : KeptT w w') (k : KeptT w' w2) : KeptT w w2 := ⟨Nat.le_trans h.size k.size, fun b cs t hb ht => k.block b cs t (h.block b cs t hb ht) ht⟩
theorem Sg.stepT {w w1 w2 : World} {B P : Nat} {g g1 : Bl} {s1 s2 : T} (h : Sg w B P g w1 g1 s1) (h2 : Stp w1 B P g1 s2 w2) : ∃ g2, Sg w B P g w2 g2 s2 ∧ Kept w1 B g1 w2 g2 ∧ KeptT w1 w2 := by
  obtain ⟨g2, a, b, c⟩ := h2.ex
  obtain ⟨h3, h4⟩ := h.stepG a b c
  refine ⟨g2, h3, h4, b.size, fun q cs t hq ht => ?_⟩
  obtain ⟨_, _, _, _, _, _, _, hx⟩ := h.tb
  exact (b.block q (blk_lt hq) (hx.not_onT hq ht)).trans hq
end Go.Proofs.YthnbhcfpfbimgaaGreat
/- The walk of term: a row term as it is known. -/
namespace Go.Proofs.YthnbhcfpfbimgaaGreat
open Go.RowKit
open Rw (El At Fld Lk Eqn U T W64 Sp Wf tot Sz Nx)
structure RetT (w : World) (B P : Nat) (g : Bl) (r : Option Sp × T) (e : Ending) (w' : World) : Prop where
  ex : ∃ v, e = .returned (.tuple #[.agg (spC v (r.1.getD ⟨[], 0, 0⟩).fin (r.1.getD ⟨[], 0, 0⟩).why), .bool r.1.isSome]) ∧ SlAt w' B 59 10 v (r.1.getD ⟨[], 0, 0⟩).fields.length (fdsV (r.1.getD ⟨[], 0, 0⟩).fields)
  stp : Stp w B P g r.2 w'
theorem TbX.ownCell {w : World} {B P : Nat} {g : Bl} {s : T} {vu vt vr vo ve : Value} {vs : List (Value × Value)} {fs : List Value} (h : TbX w B P g s vu vt vr vo ve vs fs) {k o : Nat} (hk : s.own[k]? = some o) :
    ∃ b c, vo = .slice (some ⟨b, 0, none⟩) s.own.length c ∧ w.cell? ⟨b, k, none⟩ = some (.int .i64 (o : Nat)) := by
  have hl := (List.getElem?_eq_some_iff.1 hk).1
  obtain ⟨A, c, rfl, _, _⟩ := RowZ.form h.own
  obtain ⟨b, rfl⟩ := RowZ.addr h.own (by omega)
  refine ⟨b, c, rfl, ?_⟩
  rw [RowZ.cell h.own (by rw [intsV_len]; exact hl), intsV_get hl]
  rw [List.getD_eq_getElem?_getD, hk]
  rfl
/-- What a term's walk keeps. -/
structure TmM (w0 : World) (B P : Nat) (g : Bl) (fs : List Fld) (v : Value) (tail : Int) (wr : World) (g1 : Bl) (s1 : T) : Prop where
  sg : Sg w0 B P g wr g1 s1
  bx : wr.heap[w0.heap.size]? = some (.cells #[v, .int .i64 tail] 69 (0, 0))
  rs : wr.heap[w0.heap.size + 1]? = some (.cells #[.slice none 0 0, .int .i64 0, .int .u64 0] 99 (0, 0))
  fl : SlAt wr B 59 10 v fs.length (fdsV fs)
section
variable {w0 wr w2 : World} {B P : Nat} {g g1 g2 : Bl} {fs : List Fld} {v : Value} {tail : Int} {s1 s2 : T}
theorem TmM.kept (h : TmM w0 B P g fs v tail wr g1 s1) (hs : Sg w0 B P g w2 g2 s2) (hk : Kept wr B g1 w2 g2) (ht : KeptT wr w2) : TmM w0 B P g fs v tail w2 g2 s2 :=
  ⟨hs, ht.block _ _ _ h.bx (by unfold Apart5; decide), ht.block _ _ _ h.rs (by unfold Apart5; decide), hk.fields h.fl⟩
theorem TmM.below (h : TmM w0 B P g fs v tail wr g1 s1) (hb : Below wr.heap.size wr w2) : TmM w0 B P g fs v tail w2 g1 s1 :=
  h.kept (h.sg.below hb).1 (h.sg.below hb).2 (KeptT.below hb)
theorem TmM.step (h : TmM w0 B P g fs v tail wr g1 s1) (hb : Stp wr B P g1 s2 w2) : ∃ g2, TmM w0 B P g fs v tail w2 g2 s2 := by
  obtain ⟨g2, h1, h2, h3⟩ := h.sg.stepT hb
  exact ⟨g2, h.kept h1 h2 h3⟩
theorem TmM.cells (h : TmM w0 B P g fs v tail wr g1 s1) : wr.cell? ⟨w0.heap.size, 0, none⟩ = some v ∧ wr.cell? ⟨w0.heap.size, 1, none⟩ = some (.int .i64 tail) := by
  rw [cell_block h.bx, cell_block h.bx]; exact ⟨rfl, rfl⟩
theorem TmM.res (h : TmM w0 B P g fs v tail wr g1 s1) : wr.cell? ⟨w0.heap.size + 1, 0, none⟩ = some (.slice none 0 0) ∧ wr.cell? ⟨w0.heap.size + 1, 1, none⟩ = some (.int .i64 0) ∧ wr.cell? ⟨w0.heap.size + 1, 2, none⟩ = some (.int .u64 0) ∧
    wr.frozen? ⟨w0.heap.size + 1, 0, none⟩ = false ∧ wr.frozen? ⟨w0.heap.size + 1, 1, none⟩ = false ∧ wr.frozen? ⟨w0.heap.size + 1, 2, none⟩ = false := by
  rw [cell_block h.rs, cell_block h.rs, cell_block h.rs]
  exact ⟨rfl, rfl, rfl, frozen_of_row _ _ _ _ _ h.rs, frozen_of_row _ _ _ _ _ h.rs, frozen_of_row _ _ _ _ _ h.rs⟩
/-- The result is laid. -/
theorem TmM.laid (h : TmM w0 B P g fs v tail wr g1 s1) (hge : B ≤ w0.heap.size) (v' : Value) (fin : Int) (y : W64) {n : Nat} {xs : List Value} (hv : SlAt wr B 59 10 v' n xs) :
    (((wr.setCell ⟨w0.heap.size + 1, 0, none⟩ v').setCell ⟨w0.heap.size + 1, 1, none⟩ (.int .i64 fin)).setCell ⟨w0.heap.size + 1, 2, none⟩ (.int .u64 (y.toNat : Nat))).heap[w0.heap.size + 1]? = some (.cells (spC v' fin y) 99 (0, 0)) ∧
    Stp w0 B P g s1 (((wr.setCell ⟨w0.heap.size + 1, 0, none⟩ v').setCell ⟨w0.heap.size + 1, 1, none⟩ (.int .i64 fin)).setCell ⟨w0.heap.size + 1, 2, none⟩ (.int .u64 (y.toNat : Nat))) ∧
    SlAt (((wr.setCell ⟨w0.heap.size + 1, 0, none⟩ v').setCell ⟨w0.heap.size + 1, 1, none⟩ (.int .i64 fin)).setCell ⟨w0.heap.size + 1, 2, none⟩ (.int .u64 (y.toNat : Nat))) B 59 10 v' n xs := by
  have hset : ∀ q, q ≠ w0.heap.size + 1 → (((wr.setCell ⟨w0.heap.size + 1, 0, none⟩ v').setCell ⟨w0.heap.size + 1, 1, none⟩ (.int .i64 fin)).setCell ⟨w0.heap.size + 1, 2, none⟩ (.int .u64 (y.toNat : Nat))).heap[q]? = wr.heap[q]? := fun q hq =>
    ((Below.heap_setCell _ _ _ _ hq).trans (Below.heap_setCell _ _ _ _ hq)).trans (Below.heap_setCell _ _ _ _ hq)
  obtain ⟨vu, vt, vr, vo, ve, vs, fu, hx⟩ := h.sg.tb
  have hoff := hx.not_onT h.rs (by unfold Apart5; decide)
  have hS : ∀ j : Nat, (fun k => k = w0.heap.size + 1) (⟨w0.heap.size + 1, j, none⟩ : Addr).block := fun _ => rfl
  have hkp : Kp (fun k => k = w0.heap.size + 1) wr (((wr.setCell ⟨w0.heap.size + 1, 0, none⟩ v').setCell ⟨w0.heap.size + 1, 1, none⟩ (.int .i64 fin)).setCell ⟨w0.heap.size + 1, 2, none⟩ (.int .u64 (y.toNat : Nat))) :=
    (((Kp.refl (fun k => k = w0.heap.size + 1) wr).setCell (a := ⟨w0.heap.size + 1, 0, none⟩) (.inl (hS 0)) v').setCell (a := ⟨w0.heap.size + 1, 1, none⟩) (.inl (hS 1)) _).setCell (a := ⟨w0.heap.size + 1, 2, none⟩) (.inl (hS 2)) _
  have hkq : Kp (OnB P g) w0 (((wr.setCell ⟨w0.heap.size + 1, 0, none⟩ v').setCell ⟨w0.heap.size + 1, 1, none⟩ (.int .i64 fin)).setCell ⟨w0.heap.size + 1, 2, none⟩ (.int .u64 (y.toNat : Nat))) :=
    h.sg.kp.trans hkp fun b hb => .inr (by omega)
  refine ⟨?_, ?_, ?_⟩
  · rw [heap_setCell_same _ _ 2 _ _ _ (heap_setCell_same _ _ 1 _ _ _ (heap_setCell_same _ _ 0 _ _ _ h.rs))]
    rfl
  · refine ⟨g1, ⟨vu, vt, vr, vo, ve, vs, fu, ?_⟩, hkq, h.sg.gn⟩
    have hk2 : ∀ q, OnB P g1 q → (((wr.setCell ⟨w0.heap.size + 1, 0, none⟩ v').setCell ⟨w0.heap.size + 1, 1, none⟩ (.int .i64 fin)).setCell ⟨w0.heap.size + 1, 2, none⟩ (.int .u64 (y.toNat : Nat))).heap[q]? = wr.heap[q]? := fun q hq => hset q (fun e => by subst e; exact hoff hq)
    obtain ⟨b1, b2, b3, b4, b5⟩ := hx.bl
    have hll : ∀ b, b < wr.heap.size → Leans wr B g1 b → (((wr.setCell ⟨w0.heap.size + 1, 0, none⟩ v').setCell ⟨w0.heap.size + 1, 1, none⟩ (.int .i64 fin)).setCell ⟨w0.heap.size + 1, 2, none⟩ (.int .u64 (y.toNat : Nat))).heap[b]? = wr.heap[b]? := fun b _ hl => hset b (fun e => by
      subst e
      rcases hl with hl | ⟨t, cs, hc, ht⟩
      · omega
      · have := hc.symm.trans h.rs
        injection this with this
        injection this with _ this
        subst this
        rcases ht with e | e | e | e | ⟨e, _⟩ | ⟨e, _⟩ <;> exact absurd e (by decide))
    have hrest := hx.rest (w' := (((wr.setCell ⟨w0.heap.size + 1, 0, none⟩ v').setCell ⟨w0.heap.size + 1, 1, none⟩ (.int .i64 fin)).setCell ⟨w0.heap.size + 1, 2, none⟩ (.int .u64 (y.toNat : Nat)))) (g' := g1) hkp.size hll (fun _ _ => id) (fun _ _ => id) (fun _ _ => id)
    exact ⟨(hk2 P (.inl rfl)).trans hx.self, hx.bl, RowZ.keep hx.undo fun b hb => hk2 b (.inr (.inl (by rw [← b1]; exact hb))), RowZ.keep hx.times fun b hb => hk2 b (.inr (.inr (.inl (by rw [← b2]; exact hb)))), RowZ.keep hx.rows fun b hb => hk2 b (.inr (.inr (.inr (.inl (by rw [← b3]; exact hb))))),
      RowZ.keep hx.own fun b hb => hk2 b (.inr (.inr (.inr (.inr (.inl (by rw [← b4]; exact hb)))))), RowZ.keep hx.eqs fun b hb => hk2 b (.inr (.inr (.inr (.inr (.inr (by rw [← b5]; exact hb)))))), hx.vsl, hrest.1, hrest.2, hx.ge, hx.apart⟩
  · refine hv.keep hkp.size fun b _ hl => hset b (fun e => ?_)
    subst e
    rcases hl with hl | ⟨cs, hc⟩
    · omega
    · have := hc.symm.trans h.rs
      injection this with this
      injection this with _ this
      exact absurd this (by decide)
end
structure CutTm (w0 : World) (B P : Nat) (g : Bl) (fs : List Fld) (v : Value) (tail : Int) (wr : World) (s1 : T) : Prop where
  ex : ∃ g1, TmM w0 B P g fs v tail wr g1 s1
structure LoTm (w0 : World) (B P : Nat) (g : Bl) (s : T) (at_ : Int) (y : W64) (n : Nat) (fs : List Fld) (v : Value) (tail : Int) (kv : Value) (wr : World) : Prop where
  ex : ∃ k gk sk, k ≤ fs.length ∧ kv = .int .i64 (k : Nat) ∧ TmM w0 B P g fs v tail wr gk sk ∧ Rw.TfS s at_ y fs n k sk
set_option maxRecDepth 100000 in
set_option maxHeartbeats 4000000 in
theorem term_any (P B n : Nat) (g : Bl) (s : T) (x : Rw.Term) (v : Value) (y : W64) (w : World) (h : Tb w B P g s) (hwf : Wf s.rows) (hB : B ≤ w.heap.size) (hv : SlAt w B 59 10 v x.fields.length (fdsV x.fields)) (ht : x.tail < s.own.length) (ho : ∀ o ∈ s.own, o < s.rows.length) (hz : Sz s n) (hn : n + x.fields.length + x.fields.length ≤ 800000000) :
    Calls Tryz.prog 71 #[.pointer (some ⟨P, 0, none⟩), .agg #[v, .int .i64 x.tail], whyV y] w fun e w' => RetT w B P g (s.term x y) e w' := by
  obtain ⟨fs, tail⟩ := x
  dsimp only at *
  obtain ⟨hb2, e0, e1, hs2⟩ := boxes2' w (.cells #[v, .int .i64 tail] 69) (.cells #[.slice none 0 0, .int .i64 0, .int .u64 0] 99)
  have hM : TmM w B P g fs v tail ((w.alloc (.cells #[v, .int .i64 tail] 69)).alloc (.cells #[.slice none 0 0, .int .i64 0, .int .u64 0] 99)) g s :=
    ⟨((Sg.refl h hB).below hb2).1, e0, e1, hv.below hb2⟩
  obtain ⟨A1, c1, rfl, h1a, h1b, _⟩ := hv.ex
  obtain ⟨r0, r1, r2, rf0, rf1, rf2⟩ := hM.res
  obtain ⟨k0, k1⟩ := hM.cells
  have HM := hide hM
  clear hM hb2 e0 e1 hs2 hv h
  have hat : s.at_ tail < s.rows.length ∧ (tail < 0 → s.at_ tail = -1) ∧ (¬ tail < 0 → s.own[tail.toNat]? = some (s.at_ tail).toNat ∧ 0 ≤ s.at_ tail) := by
    unfold Rw.T.at_
    split
    · rename_i h; exact ⟨by omega, fun _ => rfl, fun h' => absurd h h'⟩
    · rename_i h
      obtain ⟨o, hq⟩ : ∃ o, s.own[tail.toNat]? = some o := ⟨s.own[tail.toNat], List.getElem?_eq_getElem (by omega)⟩
      rw [List.getD_eq_getElem?_getD, hq]
      have := ho o (List.mem_iff_getElem?.2 ⟨_, hq⟩)
      exact ⟨by simp; omega, fun h' => absurd h' h, fun _ => ⟨by simp, by simp⟩⟩
  have hT0 := Rw.TfS.start (a := s.at_ tail) (y := y) (fs := fs) hz
  have hter : ∀ k, k ≤ fs.length → ∀ s', s.termFields (s.at_ tail) y fs k = (false, s') → s.term ⟨fs, tail⟩ y = (none, s') := fun k hk s' h => Rw.term_false (x := ⟨fs, tail⟩) hk h
  have htrue : ∀ s', s.termFields (s.at_ tail) y fs fs.length = (true, s') → s.term ⟨fs, tail⟩ y = (some (s'.spreads fs (s.at_ tail)), s') := fun s' h => Rw.term_true (x := ⟨fs, tail⟩) h
  generalize s.at_ tail = at_ at *
  have HT := hide (And.intro hT0 (And.intro hter htrue))
  obtain ⟨res, hres⟩ : ∃ res, res = s.term ⟨fs, tail⟩ y := ⟨_, rfl⟩
  rw [← hres]
  have HRes := hide hres
  clear hT0 hter htrue hres
  have hfl : fs.length ≤ 400000000 := by omega
  unfold whyV at *
  go_enter Tryz.func71, Tryz.ntmps71
  go_upto_if 13 with (fail)
  generalize hW : (w.alloc (.cells #[.slice A1 fs.length c1, .int .i64 tail] 69)).alloc (.cells #[.slice none 0 0, .int .i64 0, .int .u64 0] 99) = W at *
  go_cut [8] (fun p wx => p = .int .i64 at_ ∧ CutTm w B P g fs (.slice A1 fs.length c1) tail wx s)
  case first =>
    by_cases ht0 : tail < 0
    · have e := hat.2.1 ht0
      have hd0 : decide (0 ≤ tail) = false := by simp; omega
      clear hat
      go_wp2_with fail
      go_meet
      rw [e]
      exact ⟨rfl, ⟨g, HM.out⟩⟩
    · have hd0 : decide (0 ≤ tail) = true := by simp; omega
      obtain ⟨hoc, hpos⟩ := hat.2.2 ht0
      obtain ⟨vu, vt, vr, vo, ve, vs, fu, hx⟩ := HM.out.sg.tb
      obtain ⟨bo, co, rfl, hcell⟩ := hx.ownCell hoc
      have c3 := hx.cells.2.2.2.1
      have ht1 : tail < (s.own.length : Int) := ht
      have ht2 : 0 ≤ tail := by omega
      have ho1 : ((at_.toNat : Nat) : Int) = at_ := by omega
      rw [ho1] at hcell
      have HX := hide hx
      clear hat hx hoc hpos ho1
      go_wp2_with fail
      go_quiet (fail)
      go_wp2_with fail
      go_meet
      exact ⟨rfl, ⟨g, HM.out.below (below_drewN (Below.refl _ _) nq)⟩⟩
  case rest =>
    obtain ⟨rfl, ⟨g1, hM1⟩⟩ := hcut
    obtain ⟨m0, m1⟩ := hM1.cells
    have HM1 := hide hM1
    have hatl := hat.1
    clear hM1 hat k0 k1 r0 r1 r2 rf0 rf1 rf2 HM hW
    go_wp2_with fail
    go_loopw [25] (fun kv wr => LoTm w B P g s at_ y n fs (.slice A1 fs.length c1) tail kv wr) (fun kv _ => fs.length - (intOf kv).toNat)
    case atStart => exact ⟨0, g1, s, Nat.zero_le _, rfl, HM1.out, HT.out.1⟩
    case round =>
      obtain ⟨k, gk, sk, hk, rfl, hM, hT⟩ := hrel
      by_cases hlt : k < fs.length
      · obtain ⟨z, hf⟩ : ∃ z, fs[k]? = some z := ⟨fs[k], List.getElem?_eq_getElem hlt⟩
        obtain ⟨A', c', e1, _, _, _, hc⟩ := hM.fl.ex
        cases e1
        obtain ⟨b1, off, rfl, _, _, hcell⟩ := hc (by omega)
        have z0 := hcell (k * 10 + 0) (.string z.name) ((fdsV_get hf (by omega)).trans rfl)
        rw [show off + (k * 10 + 0) = off + k * 10 by omega] at z0
        have z1 := hcell (k * 10 + 1) (.int .i64 z.at_.var) ((fdsV_get hf (by omega)).trans rfl)
        rw [show off + (k * 10 + 1) = off + k * 10 + 1 by omega] at z1
        have z2 := hcell (k * 10 + 2) (.int .u64 z.at_.el.e0) ((fdsV_get hf (by omega)).trans rfl)
        rw [show off + (k * 10 + 2) = off + k * 10 + 2 by omega] at z2
        have z3 := hcell (k * 10 + 3) (.int .u64 z.at_.el.e1) ((fdsV_get hf (by omega)).trans rfl)
        rw [show off + (k * 10 + 3) = off + k * 10 + 3 by omega] at z3
        have z4 := hcell (k * 10 + 4) (.int .u64 z.at_.el.e2) ((fdsV_get hf (by omega)).trans rfl)
        rw [show off + (k * 10 + 4) = off + k * 10 + 4 by omega] at z4
        have z5 := hcell (k * 10 + 5) (.int .u64 z.at_.el.e3) ((fdsV_get hf (by omega)).trans rfl)
        rw [show off + (k * 10 + 5) = off + k * 10 + 5 by omega] at z5
        have z6 := hcell (k * 10 + 6) (.int .u64 z.at_.el.e4) ((fdsV_get hf (by omega)).trans rfl)
        rw [show off + (k * 10 + 6) = off + k * 10 + 6 by omega] at z6
        have z7 := hcell (k * 10 + 7) (.int .u64 z.at_.el.e5) ((fdsV_get hf (by omega)).trans rfl)
        rw [show off + (k * 10 + 7) = off + k * 10 + 7 by omega] at z7
        have z8 := hcell (k * 10 + 8) (.int .u64 z.at_.el.e6) ((fdsV_get hf (by omega)).trans rfl)
        rw [show off + (k * 10 + 8) = off + k * 10 + 8 by omega] at z8
        have z9 := hcell (k * 10 + 9) (.int .u64 z.at_.el.e7) ((fdsV_get hf (by omega)).trans rfl)
        rw [show off + (k * 10 + 9) = off + k * 10 + 9 by omega] at z9
        have hq0 : (k : Int) < fs.length := by omega
        have hq1 : (0 : Int) ≤ k := by omega
        have hM8 := hM.below (below_laid wr (.cells #[.string z.name, .int .i64 z.at_.var, .int .u64 z.at_.el.e0, .int .u64 z.at_.el.e1, .int .u64 z.at_.el.e2, .int .u64 z.at_.el.e3, .int .u64 z.at_.el.e4, .int .u64 z.at_.el.e5, .int .u64 z.at_.el.e6, .int .u64 z.at_.el.e7] 59))
        have e8 := heap_alloc_new wr (.cells #[.string z.name, .int .i64 z.at_.var, .int .u64 z.at_.el.e0, .int .u64 z.at_.el.e1, .int .u64 z.at_.el.e2, .int .u64 z.at_.el.e3, .int .u64 z.at_.el.e4, .int .u64 z.at_.el.e5, .int .u64 z.at_.el.e6, .int .u64 z.at_.el.e7] 59)
        have HN := hide (And.intro hM8 (And.intro hT (And.intro hf e8)))
        clear hM hM8 hT hf hcell hc e8
        go_upto_region 7 with (fail)
        generalize hU : wr.alloc (.cells #[.string z.name, .int .i64 z.at_.var, .int .u64 z.at_.el.e0, .int .u64 z.at_.el.e1, .int .u64 z.at_.el.e2, .int .u64 z.at_.el.e3, .int .u64 z.at_.el.e4, .int .u64 z.at_.el.e5, .int .u64 z.at_.el.e6, .int .u64 z.at_.el.e7] 59) = U at *
        have hu0 : ∀ u : Calm U.heap.size U, u.w.cell? ⟨w.heap.size, 0, none⟩ = some (.slice (some ⟨b1, off, none⟩) fs.length c1) := fun u => (HN.out.1.below u.below).cells.1
        have hu1 : ∀ u : Calm U.heap.size U, u.w.cell? ⟨wr.heap.size, 0, none⟩ = some (.string z.name) := fun u => by rw [cell_block ((u.below.block _ (blk_lt HN.out.2.2.2)).trans HN.out.2.2.2)]; rfl
        have hkc : (k : Int) ≤ c1 := by omega
        have HFd : Hid (∀ u : Calm U.heap.size U, Calls Tryz.prog 33 #[.agg #[.slice (some ⟨b1, off, none⟩) k c1, .int .i64 0, .int .u64 0], .string z.name] u.w fun e w' => e = .returned (.int .i64 (Rw.findI (fs.take k) z.name)) ∧ Below u.w.heap.size u.w w') :=
          hide fun u => find_any B (fs.take k) (.slice (some ⟨b1, off, none⟩) k c1) 0 0 z.name u.w ((HN.out.1.below u.below).fl.takeF rfl (Nat.le_of_lt hlt))
        cases hq : Rw.hasF (fs.take k) z.name with
        | true =>
          have hpos : ¬ Rw.findI (fs.take k) z.name < 0 := by rw [Rw.hasF_iff, hq]; simp
          have HTw := hide (HN.out.2.1.twice HN.out.2.2.1 hq)
          clear hq
          generalize Rw.findI (fs.take k) z.name = fi at *
          refine wp_region_calm U.heap.size (by kernel_rfl) (by kernel_rfl) ?_
          repeat (go_big_quiet_step ((go_at_call 33; exact calm_call (Nat.le_refl _) (HFd.out _))))
          refine wpQuiet_nil ?_
          rintro _ ⟨u, rfl⟩
          have HV := hide (HN.out.1.below u.below)
          clear hu0 hu1 HFd
          generalize u.w = V at *
          have HSt := hide (stick_any P B gk sk y V HV.out.sg.tb HV.out.sg.ge (by have := HN.out.2.1.sz.undo; omega))
          unfold whyV at HSt
          go_wp2_with (go_at_call 52; refine (HSt.out).mono ?_; rintro e w3 ⟨rfl, hs3⟩; obtain ⟨g3, hM3⟩ := HV.out.step hs3; obtain ⟨r0, r1, r2, rf0, rf1, rf2⟩ := hM3.res; have H3 := hide hM3; clear hs3 hM3)
          have z123 : (((w3.setCell ⟨w.heap.size + 1, 0, none⟩ (.slice none 0 0)).setCell ⟨w.heap.size + 1, 1, none⟩ (.int .i64 0)).setCell ⟨w.heap.size + 1, 2, none⟩ (.int .u64 0)).heap[w.heap.size + 1]? = some (.cells (spC (.slice none 0 0) 0 0) 99 (0, 0)) ∧ Stp w B P g (sk.stick y) (((w3.setCell ⟨w.heap.size + 1, 0, none⟩ (.slice none 0 0)).setCell ⟨w.heap.size + 1, 1, none⟩ (.int .i64 0)).setCell ⟨w.heap.size + 1, 2, none⟩ (.int .u64 0)) ∧ _ := H3.out.laid hB (.slice none 0 0) 0 0 (SlAt.nil _ B 59 10)
          obtain ⟨z1, z2, z3⟩ := z123
          generalize ((w3.setCell ⟨w.heap.size + 1, 0, none⟩ (.slice none 0 0)).setCell ⟨w.heap.size + 1, 1, none⟩ (.int .i64 0)).setCell ⟨w.heap.size + 1, 2, none⟩ (.int .u64 0) = Y at *
          have y0 : Y.cell? ⟨w.heap.size + 1, 0, none⟩ = some (.slice none 0 0) := by rw [cell_block z1]; rfl
          have y1 : Y.cell? ⟨w.heap.size + 1, 1, none⟩ = some (.int .i64 0) := by rw [cell_block z1]; rfl
          have y2 : Y.cell? ⟨w.heap.size + 1, 2, none⟩ = some (.int .u64 0) := by rw [cell_block z1]; rfl
          refine bodyPost_ret (v := .tuple #[.agg (spC (.slice none 0 0) 0 0), .bool false]) (by simp [results, Tryz.results71, go_sem, y0, y1, y2, spC]) rfl ?_
          rw [HRes.out, HT.out.2.1 (k + 1) hlt _ HTw.out]
          exact ⟨⟨_, rfl, SlAt.nil _ _ _ _⟩, z2⟩
        | false =>
          have hneg : Rw.findI (fs.take k) z.name < 0 := by rw [Rw.hasF_iff]; exact hq
          have HQ := hide hq
          clear hq
          generalize Rw.findI (fs.take k) z.name = fi at *
          by_cases ha0 : at_ < 0
          · have hd0 : decide (0 ≤ at_) = false := by simp; omega
            have hsk := HN.out.2.1.skip HN.out.2.2.1 HQ.out ha0
            have HSk := hide hsk
            clear hsk
            refine wp_region_calm U.heap.size (by kernel_rfl) (by kernel_rfl) ?_
            repeat (go_big_quiet_step ((go_at_call 33; exact calm_call (Nat.le_refl _) (HFd.out _))))
            refine wpQuiet_nil ?_
            rintro _ ⟨u, rfl⟩
            have HV := hide (HN.out.1.below u.below)
            clear hu0 hu1 HFd
            generalize u.w = V at *
            go_wp2_with fail
            exact ⟨⟨k + 1, gk, sk, by omega, rfl, HV.out, HSk.out⟩, by simp [intOf]; omega⟩
          · have hd0 : decide (0 ≤ at_) = true := by simp; omega
            rcases hlk : sk.lacks at_ z.name y with ⟨b, s'⟩
            have hsz := HN.out.2.1.sz
            have hbn : n + k ≤ 1000000000 := by omega
            have hwk := HN.out.2.1.nx.wf hwf
            have hatk : at_ < (sk.rows.length : Int) := by rw [HN.out.2.1.nx.len]; exact hatl
            have HC : Hid (∀ V, TmM w B P g fs (.slice (some ⟨b1, off, none⟩) fs.length c1) tail V gk sk → Calls Tryz.prog 74 #[.pointer (some ⟨P, 0, none⟩), .int .i64 at_, .string z.name, .int .u64 (y.toNat : Nat)] V fun e w' => RetS (.bool b) V B P gk s' e w') := hide fun V hV => by
              have := lacks_any P B gk sk at_ z.name y V hV.sg.tb hwk hV.sg.ge hatk (Nat.le_trans hsz.tot hbn) (Nat.le_trans hsz.undo hbn) (fun k r hr => Nat.le_trans (hsz.lacks k r hr) hbn)
              rw [hlk] at this
              exact this
            clear hsz hwk hatk hbn
            have HLk := hide hlk
            clear hlk
            refine wp_region_calm U.heap.size (by kernel_rfl) (by kernel_rfl) ?_
            repeat (go_big_quiet_step ((go_at_call 33; exact calm_call (Nat.le_refl _) (HFd.out _))))
            refine wpQuiet_nil ?_
            rintro _ ⟨u, rfl⟩
            have HV := hide (HN.out.1.below u.below)
            have e8 := (u.below.block _ (blk_lt HN.out.2.2.2)).trans HN.out.2.2.2
            have l8 : u.w.cell? ⟨wr.heap.size, 0, none⟩ = some (.string z.name) := by rw [cell_block e8]; rfl
            clear hu0 hu1 HFd e8
            generalize u.w = V at *
            cases b
            · go_wp2_with (go_at_call 74; refine (HC.out _ HV.out).mono ?_; rintro e w3 ⟨rfl, hs3⟩; obtain ⟨g3, hM3⟩ := HV.out.step hs3; obtain ⟨r0, r1, r2, rf0, rf1, rf2⟩ := hM3.res; have H3 := hide hM3; clear hs3 hM3)
              have z123 : (((w3.setCell ⟨w.heap.size + 1, 0, none⟩ (.slice none 0 0)).setCell ⟨w.heap.size + 1, 1, none⟩ (.int .i64 0)).setCell ⟨w.heap.size + 1, 2, none⟩ (.int .u64 0)).heap[w.heap.size + 1]? = some (.cells (spC (.slice none 0 0) 0 0) 99 (0, 0)) ∧ Stp w B P g s' (((w3.setCell ⟨w.heap.size + 1, 0, none⟩ (.slice none 0 0)).setCell ⟨w.heap.size + 1, 1, none⟩ (.int .i64 0)).setCell ⟨w.heap.size + 1, 2, none⟩ (.int .u64 0)) ∧ _ := H3.out.laid hB (.slice none 0 0) 0 0 (SlAt.nil _ B 59 10)
              obtain ⟨z1, z2, z3⟩ := z123
              generalize ((w3.setCell ⟨w.heap.size + 1, 0, none⟩ (.slice none 0 0)).setCell ⟨w.heap.size + 1, 1, none⟩ (.int .i64 0)).setCell ⟨w.heap.size + 1, 2, none⟩ (.int .u64 0) = Y at *
              have y0 : Y.cell? ⟨w.heap.size + 1, 0, none⟩ = some (.slice none 0 0) := by rw [cell_block z1]; rfl
              have y1 : Y.cell? ⟨w.heap.size + 1, 1, none⟩ = some (.int .i64 0) := by rw [cell_block z1]; rfl
              have y2 : Y.cell? ⟨w.heap.size + 1, 2, none⟩ = some (.int .u64 0) := by rw [cell_block z1]; rfl
              refine bodyPost_ret (v := .tuple #[.agg (spC (.slice none 0 0) 0 0), .bool false]) (by simp [results, Tryz.results71, go_sem, y0, y1, y2, spC]) rfl ?_
              rw [HRes.out, HT.out.2.1 (k + 1) hlt _ (HN.out.2.1.stop HN.out.2.2.1 HQ.out (Int.not_lt.2 ha0) HLk.out)]
              exact ⟨⟨_, rfl, SlAt.nil _ _ _ _⟩, z2⟩
            · go_wp2_with (go_at_call 74; refine (HC.out _ HV.out).mono ?_; rintro e w3 ⟨rfl, hs3⟩; obtain ⟨g3, hM3⟩ := HV.out.step hs3; have H3 := hide hM3; clear hs3 hM3)
              exact ⟨⟨k + 1, g3, s', by omega, rfl, H3.out, HN.out.2.1.step HN.out.2.2.1 HQ.out (Int.not_lt.2 ha0) HLk.out⟩, by simp [intOf]; omega⟩
      · obtain rfl : k = fs.length := by omega
        obtain ⟨m0', m1'⟩ := hM.cells
        have hwk := hT.nx.wf hwf
        have hatk : at_ < (sk.rows.length : Int) := by rw [hT.nx.len]; exact hatl
        have HSp := hide (spreads_any P B gk sk fs (.slice A1 fs.length c1) at_ wr hM.sg.tb hwk hM.fl hatk (by have := hT.sz.tot; omega))
        have HN := hide (And.intro hM hT)
        clear hM hT hwk hatk m0 m1
        go_wp2_with (go_at_call 31; refine (HSp.out).mono ?_; rintro e w3 ⟨⟨vS, rfl, hsl, hb3⟩⟩; obtain ⟨AS, cS, rfl, _⟩ := hsl.ex; have hM3 := HN.out.1.below hb3; obtain ⟨r0, r1, r2, rf0, rf1, rf2⟩ := hM3.res; have H3 := hide (And.intro hM3 hsl); unfold spC; clear hsl hb3 hM3)
        obtain ⟨z1, z2, z3⟩ := H3.out.1.laid hB (.slice AS (sk.spreads fs at_).fields.length cS) (sk.spreads fs at_).fin (sk.spreads fs at_).why H3.out.2
        rw [HRes.out, HT.out.2.2 _ HN.out.2.run]
        generalize sk.spreads fs at_ = sp at *
        generalize ((w3.setCell ⟨w.heap.size + 1, 0, none⟩ (.slice AS sp.fields.length cS)).setCell ⟨w.heap.size + 1, 1, none⟩ (.int .i64 sp.fin)).setCell ⟨w.heap.size + 1, 2, none⟩ (.int .u64 (sp.why.toNat : Nat)) = Y at *
        have y0 : Y.cell? ⟨w.heap.size + 1, 0, none⟩ = some (.slice AS sp.fields.length cS) := by rw [cell_block z1]; rfl
        have y1 : Y.cell? ⟨w.heap.size + 1, 1, none⟩ = some (.int .i64 sp.fin) := by rw [cell_block z1]; rfl
        have y2 : Y.cell? ⟨w.heap.size + 1, 2, none⟩ = some (.int .u64 (sp.why.toNat : Nat)) := by rw [cell_block z1]; rfl
        refine bodyPost_ret (v := .tuple #[.agg (spC (.slice AS sp.fields.length cS) sp.fin sp.why), .bool true]) (by simp [results, Tryz.results71, go_sem, y0, y1, y2, spC]) rfl ?_
        exact ⟨⟨_, rfl, z3⟩, z2⟩
end Go.Proofs.YthnbhcfpfbimgaaGreat
