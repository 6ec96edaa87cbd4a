/- Texts put together: RiHolds RiWhy0 RiBase. -/
import Derived.Test.YthnbhcfpfbimgaaMw37
/- Plain: an assertion that holds, holds of a solution. No walk. -/
namespace Go.Proofs.Ythnbhcfpfbimgaa
namespace Hd
open Rw (El At Fld T Asr W64 Val tv sem Off NoDup findN Mod Cl Tr RowEq Holds Acc)
theorem getV_app (a b : List Vl) (f : ByteArray) : getV (a ++ b) f = (getV a f).or (getV b f) := by
  induction a with
  | nil => simp [getV]
  | cons x a ih =>
    rw [List.cons_append, getV_cons, getV_cons, ih]
    split <;> rfl
theorem gather_get : ∀ {l out o : List Vl}, gather out l = some o → (l.Pairwise fun a b => a.name ≠ b.name) ∧ (∀ x ∈ l, getV out x.name = none) ∧ ∀ f, getV o f = (getV out f).or (getV l f)
  | [], out, o, h => by
    simp only [gather] at h
    injection h with h
    subst h
    exact ⟨.nil, fun x hx => (by cases hx), fun f => by simp [getV]⟩
  | x :: r, out, o, h => by
    simp only [gather] at h
    split at h
    · cases h
    · next hn =>
      have hn : getV out x.name = none := by
        cases hg : getV out x.name with
        | none => rfl
        | some e => rw [hg] at hn; exact absurd rfl hn
      obtain ⟨h1, h2, h3⟩ := gather_get h
      have h4 : ∀ y ∈ r, x.name ≠ y.name ∧ getV out y.name = none := fun y hy => by
        have := h2 y hy
        rw [getV_with] at this
        split at this
        · cases this
        · next hne => exact ⟨hne, this⟩
      refine ⟨List.pairwise_cons.2 ⟨fun y hy => (h4 y hy).1, h1⟩, fun y hy => ?_, fun f => ?_⟩
      · rcases List.mem_cons.1 hy with rfl | hy
        · exact hn
        · exact (h4 y hy).2
      · rw [h3 f, getV_with, getV_cons]
        by_cases he : x.name = f
        · subst he
          rw [if_pos rfl, if_pos rfl, hn]
          rfl
        · rw [if_neg he, if_neg he]
def etaL (L : List El) (a : At) : El := (atomV L a).getD elZ
def valR (R : List (List Vl)) (k : Nat) : Val El := getV (R.getD k [])
theorem fieldsV_get (L : List El) : ∀ {fs : List Fld} {l : List Vl}, fieldsV L fs = some l → (l.map (·.name) = fs.map (·.name)) ∧ ∀ f, getV l f = (findN fs f).map fun g => etaL L g.at_
  | [], l, h => by simp only [fieldsV] at h; injection h with h; subst h; exact ⟨rfl, fun f => by simp [getV, findN]⟩
  | x :: fs, l, h => by
    simp only [fieldsV] at h
    cases h1 : atomV L x.at_ with
    | none => rw [h1] at h; cases h
    | some e =>
      cases h2 : fieldsV L fs with
      | none => rw [h1, h2] at h; cases h
      | some m =>
        rw [h1, h2] at h
        injection h with h
        subst h
        obtain ⟨k1, k2⟩ := fieldsV_get L h2
        refine ⟨by simp [k1], fun f => ?_⟩
        rw [getV_cons, k2 f]
        by_cases he : x.name = f
        · subst he
          rw [if_pos rfl]
          simp [findN, etaL, h1]
        · rw [if_neg he]
          have : (x.name.toList == f.toList) = false := by
            cases hb : (x.name.toList == f.toList)
            · rfl
            · exact absurd (name_eq.1 hb) he
          simp [findN, this]
theorem rowH_sem {L : List El} {R : List (List Vl)} {t : Rw.Term} {o : List Vl} (h : rowH L R t = some o) : t.tail < R.length ∧ NoDup t.fields ∧ Off t.fields (getV (tailV R t.tail)) ∧ ∀ f, getV o f = sem (etaL L) t.fields (getV (tailV R t.tail)) f := by
  unfold rowH at h
  split at h
  · cases h
  · next hlt =>
    cases hf : fieldsV L t.fields with
    | none => rw [hf] at h; cases h
    | some l =>
      rw [hf] at h
      obtain ⟨h1, _, h3⟩ := gather_get h
      obtain ⟨k1, k2⟩ := fieldsV_get L hf
      obtain ⟨p1, p2, p3⟩ := List.pairwise_append.1 h1
      have hoff : Off t.fields (getV (tailV R t.tail)) := fun g hg => by
        rw [getV_none]
        intro x hx
        have : g.name ∈ l.map (·.name) := by rw [k1]; exact List.mem_map.2 ⟨g, hg, rfl⟩
        obtain ⟨y, hy, he⟩ := List.mem_map.1 this
        rw [← he]
        exact p3 x hx y hy
      have hdup : NoDup t.fields := by
        have h4 : (l.map (·.name)).Pairwise (· ≠ ·) := List.pairwise_map.2 p2
        rw [k1] at h4
        exact List.pairwise_map.1 h4
      refine ⟨by omega, hdup, hoff, fun f => ?_⟩
      rw [h3 f, getV_app, k2 f]
      have h0 : getV [] f = none := rfl
      rw [h0]
      show (getV (tailV R t.tail) f).or _ = _
      cases hn : findN t.fields f with
      | none =>
        rw [Rw.sem_not (η := etaL L) (Rw.findN_none.1 hn)]
        simp
      | some g =>
        rw [Rw.sem_has (η := etaL L) hn]
        have hg : g.name = f ∧ g ∈ t.fields := ⟨name_eq.1 (by simpa using List.find?_some hn), List.mem_of_find?_eq_some hn⟩
        rw [← hg.1, hoff g hg.2]
        rfl
theorem at_tv {s : T} {n : Nat} (ho : s.own = List.range n) {t : Int} (h : t < n) (R : List (List Vl)) : tv (valR R) (s.at_ t) = getV (tailV R t) := by
  unfold Rw.T.at_ tailV
  by_cases hn : t < 0
  · rw [if_pos hn, if_pos hn, Rw.tv_neg (by omega)]
    rfl
  · rw [if_neg hn, if_neg hn, Rw.tv_nat, ho]
    have : (List.range n).getD t.toNat 0 = t.toNat := by rw [List.getD_eq_getElem?_getD, List.getElem?_range (by omega)]; rfl
    rw [this]
    rfl
/-- An assertion that holds, holds of the rows of values. -/
theorem one_holds {L : List El} {R : List (List Vl)} {x : As} {a : Asr} {s : T} (ho : s.own = List.range R.length) (ha : asr x = some a) (hacc : Acc s.own.length a) (h : oneV L R x = true) : Holds (etaL L) (valR R) s a := by
  unfold asr at ha
  unfold oneV at h
  rw [ho, List.length_range] at hacc
  by_cases h9 : x.op = 9
  · rw [if_pos h9] at ha
    injection ha with ha
    subst ha
    rw [if_neg (by omega)] at h
    cases hl : rowH L R x.a with
    | none => rw [hl] at h; cases h
    | some l =>
      cases hm : rowH L R x.b with
      | none => rw [hl, hm] at h; cases h
      | some m =>
        rw [hl, hm] at h
        have hlm := sameV_iff.1 h
        subst hlm
        obtain ⟨a1, a2, a3, a4⟩ := rowH_sem hl
        obtain ⟨b1, b2, b3, b4⟩ := rowH_sem hm
        refine ⟨a2, b2, ?_, ?_, ?_⟩
        · rw [at_tv ho a1]; exact a3
        · rw [at_tv ho b1]; exact b3
        · rw [at_tv ho a1, at_tv ho b1]
          funext f
          rw [← a4, ← b4]
  · rw [if_neg h9] at ha
    split at ha
    · next h10 =>
      injection ha with ha
      subst ha
      rw [if_pos h10] at h
      obtain ⟨h0, h1⟩ := hacc
      show tv (valR R) (s.at_ x.var) x.field = none
      rw [at_tv ho h1]
      unfold tailV
      rw [if_neg (by omega)]
      cases hg : getV (R.getD x.var.toNat []) x.field with
      | none => rfl
      | some e => rw [hg] at h; cases h
    · cases ha
/-- Before all assertions each row of values is a solution. -/
theorem begun_mod {E : Type} (η : At → E) (W : W64 → Prop) (val : Nat → Val E) (n : Nat) : Mod η W (Rw.begunT n) val := by
  have hb := Rw.begunT_beg n
  refine ⟨fun i r hr hb' => ?_, fun i r hr l hl => ?_, fun e he => ?_, fun h => ?_⟩
  · rw [hb.row hr] at hb'; cases hb'
  · rw [hb.row hr] at hl; cases hl
  · rw [hb.eqs] at he; cases he
  · rw [hb.stuck] at h; cases h
theorem feedL_mem (inn : W64) : ∀ {l : List As} {i : Nat} {p : Asr × W64}, p ∈ feedL inn i l → ∃ j x, l[j]? = some x ∧ inn.getLsbD (i + j) = true ∧ asr x = some p.1 ∧ p.2 = 1#64 <<< (i + j)
  | [], _, p, h => by cases h
  | y :: l, i, p, h => by
    simp only [feedL] at h
    rcases List.mem_append.1 h with h | h
    · split at h
      · next hb =>
        split at h
        · next a ha =>
          obtain rfl := List.mem_singleton.1 h
          exact ⟨0, y, rfl, by simpa using hb, ha, rfl⟩
        · cases h
      · cases h
    · obtain ⟨j, x, h1, h2, h3, h4⟩ := feedL_mem inn h
      exact ⟨j + 1, x, by simpa using h1, by rw [show i + (j + 1) = i + 1 + j by omega]; exact h2, h3, by rw [show i + (j + 1) = i + 1 + j by omega]; exact h4⟩
theorem mem_feedL (inn : W64) : ∀ {l : List As} {i j : Nat} {x : As} {a : Asr}, l[j]? = some x → inn.getLsbD (i + j) = true → asr x = some a → (a, 1#64 <<< (i + j)) ∈ feedL inn i l
  | [], _, j, _, _, h, _, _ => by simp at h
  | y :: l, i, 0, x, a, h, hb, ha => by
    simp at h
    subst h
    simp only [feedL]
    rw [show inn.getLsbD i = true from by simpa using hb, if_pos rfl, ha]
    exact List.mem_append_left _ (by simp)
  | y :: l, i, j + 1, x, a, h, hb, ha => by
    simp only [feedL]
    refine List.mem_append_right _ ?_
    rw [show i + (j + 1) = i + 1 + j by omega] at hb ⊢
    exact mem_feedL inn (by simpa using h) hb ha
/-- Reasons within a set. -/
def Sub (y : W64) : W64 → Prop := fun x => ∀ i, x.getLsbD i = true → y.getLsbD i = true
theorem sub_cl (y : W64) : Cl (Sub y) := by
  refine ⟨fun i h => by simp at h, fun a b => ⟨fun h => ⟨fun i hi => h i (by simp [hi]), fun i hi => h i (by simp [hi])⟩, fun h i hi => ?_⟩⟩
  rw [BitVec.getLsbD_or, Bool.or_eq_true] at hi
  rcases hi with hi | hi
  · exact h.1 i hi
  · exact h.2 i hi
theorem sub_bit {y : W64} {k : Nat} (hk : k < 64) (h : Sub y (1#64 <<< k)) : y.getLsbD k = true := h k (by simp [hk])
end Hd
end Go.Proofs.Ythnbhcfpfbimgaa
/- Plain: the reasons that a table tells. No walk. -/
namespace Go.Proofs.Ythnbhcfpfbimgaa
namespace Hd
open Rw (El At Fld T Asr W64 Val tv Mod Cl Tr Holds Acc)
theorem asr_op {x : As} {a : Asr} (h : asr x = some a) : x.op = 9 ∨ x.op = 10 := by
  unfold asr at h
  split at h
  · next h9 => exact .inl h9
  · split at h
    · next h10 => exact .inr h10
    · cases h
/-- Rows of values under which the assertions of some reasons hold are a solution for these reasons. -/
theorem fed_mod {L : List El} {R : List (List Vl)} {as_ : List As} (y : W64) (h64 : as_.length ≤ 64) (h : ∀ (j : Nat) x, as_[j]? = some x → y.getLsbD j = true → x.op ≠ 8 → oneV L R x = true) (inn : W64) :
    ∃ val', (∀ i, i < R.length → val' i = valR R i) ∧ Mod (etaL L) (Sub y) (fedT R.length as_ inn) val' := by
  have hb := Rw.begunT_beg R.length
  obtain ⟨val', h1, h2⟩ := Rw.feed_sound (η := etaL L) (sub_cl y) (feedL inn 0 as_) hb.gd (val := valR R) (begun_mod _ _ _ _) (fun p hp hacc hw => by
    obtain ⟨j, x, hx, _, ha, hy⟩ := feedL_mem inn hp
    rw [Nat.zero_add] at hy
    rw [hy] at hw
    have hj := (List.getElem?_eq_some_iff.1 hx).1
    exact one_holds hb.own ha hacc (h j x hx (sub_bit (by omega) hw) (by rcases asr_op ha with e | e <;> omega)))
  exact ⟨val', fun i hi => h1 i (by rw [hb.rows, List.length_replicate]; exact hi), h2⟩
theorem why_eq {L : List El} {R : List (List Vl)} {as_ : List As} (h64 : as_.length ≤ 64) {e : Rw.Eqn} (he : e ∈ (fedT R.length as_ allW).eqs) (h : ∀ (j : Nat) x, as_[j]? = some x → e.why.getLsbD j = true → x.op ≠ 8 → oneV L R x = true) : etaL L e.a = etaL L e.b := by
  obtain ⟨val', _, hm⟩ := fed_mod e.why h64 h allW
  exact hm.eqs e he fun i hi => hi
/-- The reason of a stuck table leaves a table stuck by itself. -/
theorem stuck_too (n : Nat) {as_ : List As} (h64 : as_.length ≤ 64) (hs : (fedT n as_ allW).stuck = true) : (fedT n as_ (fedT n as_ allW).why).stuck = true := by
  have hb := Rw.begunT_beg n
  cases hn : (fedT n as_ (fedT n as_ allW).why).stuck
  · exfalso
    generalize hy : (fedT n as_ allW).why = y at *
    have hg2 := (Rw.feed_gd (feedL y 0 as_) hb.gd).1
    have hm := Rw.canon_mod (fun _ : At => ()) hg2.ow hg2.inv hn (fun _ _ => rfl)
    have hc := Rw.feed_complete (feedL y 0 as_) hb.gd hn
    obtain ⟨val', _, h2⟩ := Rw.feed_sound (η := fun _ : At => ()) (sub_cl y) (feedL allW 0 as_) hb.gd (val := Rw.canon (fun _ : At => ()) (fedT n as_ y)) (begun_mod _ _ _ _) (fun p hp hacc hw => by
      obtain ⟨j, x, hx, _, ha, hyj⟩ := feedL_mem allW hp
      rw [Nat.zero_add] at hyj
      rw [hyj] at hw
      have hj := (List.getElem?_eq_some_iff.1 hx).1
      have hbit := sub_bit (by omega) hw
      have hmem := mem_feedL y (i := 0) hx (by rw [Nat.zero_add]; exact hbit) ha
      rw [Nat.zero_add, ← hyj] at hmem
      exact hc p hmem hacc Unit _ _ hm)
    exact h2.stuck hs (by
      have e : (Rw.T.feed (Rw.begunT n) (feedL allW 0 as_)).why = y := hy
      rw [e]
      exact fun i hi => hi)
  · rfl
end Hd
end Go.Proofs.Ythnbhcfpfbimgaa
/- What a law of chapter 22 is given. (Printed by riwhy.py.) -/
namespace Go.Proofs.Ythnbhcfpfbimgaa
open Go.RowKit
open Rw (El At Fld T W64 Gd Sz Ow Nm tot)
open Hd (elZ atomV oneV etaL)
/-- All that a problem and an assignment are, and that they stay. -/
structure ArW (W0 : World) (B p : Nat) (vl vv vs wl wrs : Value) (n : Nat) (l : List Vr) (as_ : List As) (L : List El) (R : List (List Vl)) (wr : World) : Prop where
  kp : Kpt W0 wr
  lats : Lats wr B vl n
  vars : Vars wr B vv l
  asr : Asrs wr B vs as_
  labs : Lbs wr B wl L
  rows : Rws wr B wrs R
  base : B ≤ wr.heap.size
  lt : p + 1 < wr.heap.size
  p0 : wr.cell? ⟨p, 0, none⟩ = some vl
  p1 : wr.cell? ⟨p, 1, none⟩ = some vv
  p2 : wr.cell? ⟨p, 2, none⟩ = some vs
  q0 : wr.cell? ⟨p + 1, 0, none⟩ = some wl
  q1 : wr.cell? ⟨p + 1, 1, none⟩ = some wrs
theorem ArW.step {W0 : World} {B p : Nat} {vl vv vs wl wrs : Value} {n : Nat} {l : List Vr} {as_ : List As} {L : List El} {R : List (List Vl)} {wr w' : World} (h : ArW W0 B p vl vv vs wl wrs n l as_ L R wr) (hb : Below wr.heap.size wr w') : ArW W0 B p vl vv vs wl wrs n l as_ L R w' := by
  have hl0 : p < wr.heap.size := by have := h.lt; omega
  have hl1 := h.lt
  exact ⟨h.kp.step hb, h.lats.below hb, h.vars.below hb, h.asr.below hb, h.labs.below hb, h.rows.below hb, Nat.le_trans h.base hb.size, Nat.lt_of_lt_of_le h.lt hb.size, (World.cell?_of_block (hb.block _ hl0)).trans h.p0, (World.cell?_of_block (hb.block _ hl0)).trans h.p1, (World.cell?_of_block (hb.block _ hl0)).trans h.p2, (World.cell?_of_block (hb.block _ hl1)).trans h.q0, (World.cell?_of_block (hb.block _ hl1)).trans h.q1⟩
/-- Behind the guard of a law: whether all is right. -/
structure GdW (W0 : World) (B p : Nat) (vl vv vs wl wrs : Value) (n : Nat) (l : List Vr) (as_ : List As) (L : List El) (R : List (List Vl)) (v : Value) (wr : World) : Prop where
  ex : ∃ b, v = .bool b ∧ (b = false → POk l as_ ∧ AsnOk l.length L R)
  ar : ArW W0 B p vl vv vs wl wrs n l as_ L R wr
theorem ArW.new {B : Nat} {vl vv vs wl wrs : Value} {n : Nat} {l : List Vr} {as_ : List As} {L : List El} {R : List (List Vl)} {w : World} (h1 : Lats w B vl n) (h2 : Vars w B vv l) (h3 : Asrs w B vs as_) (h4 : Lbs w B wl L) (h5 : Rws w B wrs R) (hB : B ≤ w.heap.size) : ArW w B w.heap.size vl vv vs wl wrs n l as_ L R ((w.alloc (.cells #[vl, vv, vs] 28)).alloc (.cells #[wl, wrs] 32)) := by
  have hb : Below w.heap.size w ((w.alloc (.cells #[vl, vv, vs] 28)).alloc (.cells #[wl, wrs] 32)) := below_next (below_laid w _) (below_laid _ _)
  have hA := heap_below (heap_alloc_last w (.cells #[vl, vv, vs] 28)) (below_laid _ (.cells #[wl, wrs] 32))
  have hA2 := heap_two w (.cells #[vl, vv, vs] 28) (.cells #[wl, wrs] 32)
  exact ⟨⟨hb⟩, h1.below hb, h2.below hb, h3.below hb, h4.below hb, h5.below hb, Nat.le_trans hB hb.size, by rw [World.size_alloc, World.size_alloc]; omega, by rw [cell_block hA]; rfl, by rw [cell_block hA]; rfl, by rw [cell_block hA]; rfl, by rw [cell_block hA2]; rfl, by rw [cell_block hA2]; rfl⟩
theorem eqn_info : (Try.prog.info? 52).map (·.size) = some 19 := by kernel_rfl
theorem eqn_ranges {w : World} {b : Nat} {e : Rw.Eqn} {zy : Int} (h : w.heap[b]? = some (.cells #[.int .i64 e.a.var, .int .u64 e.a.el.e0, .int .u64 e.a.el.e1, .int .u64 e.a.el.e2, .int .u64 e.a.el.e3, .int .u64 e.a.el.e4, .int .u64 e.a.el.e5, .int .u64 e.a.el.e6, .int .u64 e.a.el.e7, .int .i64 e.b.var, .int .u64 e.b.el.e0, .int .u64 e.b.el.e1, .int .u64 e.b.el.e2, .int .u64 e.b.el.e3, .int .u64 e.b.el.e4, .int .u64 e.b.el.e5, .int .u64 e.b.el.e6, .int .u64 e.b.el.e7, .int .u64 zy] 52 (0, 0))) : w.rangeAt b 0 [.int .i64 e.a.var, .int .u64 e.a.el.e0, .int .u64 e.a.el.e1, .int .u64 e.a.el.e2, .int .u64 e.a.el.e3, .int .u64 e.a.el.e4, .int .u64 e.a.el.e5, .int .u64 e.a.el.e6, .int .u64 e.a.el.e7] ∧ w.rangeAt b 9 [.int .i64 e.b.var, .int .u64 e.b.el.e0, .int .u64 e.b.el.e1, .int .u64 e.b.el.e2, .int .u64 e.b.el.e3, .int .u64 e.b.el.e4, .int .u64 e.b.el.e5, .int .u64 e.b.el.e6, .int .u64 e.b.el.e7] := by
  refine ⟨range_block h 0 _ fun j u hu => ?_, range_block h 9 _ fun j u hu => ?_⟩ <;>
  · have hj := (List.getElem?_eq_some_iff.1 hu).1
    simp only [List.length_cons, List.length_nil] at hj
    match j, hu, hj with
    | 0, hu, _ => exact hu
    | 1, hu, _ => exact hu
    | 2, hu, _ => exact hu
    | 3, hu, _ => exact hu
    | 4, hu, _ => exact hu
    | 5, hu, _ => exact hu
    | 6, hu, _ => exact hu
    | 7, hu, _ => exact hu
    | 8, hu, _ => exact hu
/-- A table beside all that. -/
structure TaW (W0 : World) (B p : Nat) (vl vv vs wl wrs : Value) (n : Nat) (l : List Vr) (as_ : List As) (L : List El) (R : List (List Vl)) (W3 : World) (B3 P3 : Nat) (s : T) (wr : World) : Prop where
  ar : ArW W0 B p vl vv vs wl wrs n l as_ L R wr
  tb : TbS W3 B3 P3 s wr
theorem POk.nine {l : List Vr} {as_ : List As} (h : POk l as_) : ∀ x ∈ as_, x.op = 9 → x.a.fields.length ≤ 100 ∧ x.b.fields.length ≤ 100 := fun x hx h9 => by
  obtain ⟨a, b⟩ := (h.ok x hx).rows h9
  have := a.few
  have := b.few
  omega
end Go.Proofs.Ythnbhcfpfbimgaa
