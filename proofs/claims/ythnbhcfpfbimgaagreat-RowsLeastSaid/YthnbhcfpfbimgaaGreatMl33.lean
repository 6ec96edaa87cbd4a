/- Texts put together: RiPlain RwBack RwClear. -/
import Derived.Test.YthnbhcfpfbimgaaGreatMl28
import Derived.Test.YthnbhcfpfbimgaaGreatMl32
import Derived.Test.YthnbhcfpfbimgaaGreatMl20
import Derived.Test.YthnbhcfpfbimgaaGreatMl29
/- Plain: what a problem's assertions leave of a table. No walk. -/
namespace Go.Proofs.YthnbhcfpfbimgaaGreat
namespace Rw
def begunT : Nat → T
  | 0 => T.new
  | n + 1 => (begunT n).var
structure Beg (n : Nat) (s : T) : Prop where
  rows : s.rows = List.replicate n row0
  own : s.own = List.range n
  eqs : s.eqs = []
  stuck : s.stuck = false
  why : s.why = 0
  undo : s.undo.length = 2 * n
  times : s.times.length = n
theorem begunT_beg : ∀ n, Beg n (begunT n)
  | 0 => ⟨rfl, rfl, rfl, rfl, rfl, rfl, rfl⟩
  | n + 1 => by
    have h := begunT_beg n
    refine ⟨?_, ?_, ?_, ?_, ?_, ?_, ?_⟩
    · show (begunT n).rows ++ [row0] = _
      rw [h.rows, List.replicate_succ']
    · show (begunT n).own ++ [(begunT n).rows.length] = _
      rw [h.own, h.rows, List.length_replicate, List.range_succ]
    · exact h.eqs
    · exact h.stuck
    · exact h.why
    · show ((begunT n).undo ++ [_] ++ [_]).length = _
      have := h.undo
      simp; omega
    · show ((begunT n).times ++ [_]).length = _
      have := h.times
      simp; omega
theorem Beg.row {n : Nat} {s : T} (h : Beg n s) {i : Nat} {r : Row} (hr : s.rows[i]? = some r) : r = row0 := by
  rw [h.rows] at hr
  exact List.eq_of_mem_replicate (List.mem_of_getElem? hr)
theorem Beg.gd {n : Nat} {s : T} (h : Beg n s) : Gd s := by
  refine ⟨⟨⟨fun i r hr hb => ?_⟩, fun i r hr => ?_, fun o ho => ?_⟩, fun i r hr hb => ?_, fun _ => h.why, ⟨2 * n, ?_⟩⟩
  · rw [h.row hr] at hb; cases hb
  · rw [h.row hr]; decide
  · rw [h.own] at ho
    rw [h.rows, List.length_replicate]
    exact List.mem_range.1 ho
  · rw [h.row hr] at hb; cases hb
  · have ht : tot (List.replicate n row0) = 0 := by
      unfold tot
      rw [List.map_replicate, List.sum_replicate_nat]
      simp [row0]
    refine ⟨by rw [h.rows, ht]; omega, fun k r hr => by rw [h.row hr]; simp [row0], by rw [h.undo]; omega, by rw [h.rows, List.length_replicate]; omega, by rw [h.own, List.length_range]; omega, by rw [h.eqs]; simp, by rw [h.times]; omega⟩
theorem Beg.sz {n : Nat} {s : T} (h : Beg n s) : Sz s (2 * n) := by
  have ht : tot (List.replicate n row0) = 0 := by
    unfold tot
    rw [List.map_replicate, List.sum_replicate_nat]
    simp [row0]
  exact ⟨by rw [h.rows, ht]; omega, fun k r hr => by rw [h.row hr]; simp [row0], by rw [h.undo]; omega, by rw [h.rows, List.length_replicate]; omega, by rw [h.own, List.length_range]; omega, by rw [h.eqs]; simp, by rw [h.times]; omega⟩
theorem Beg.nm {n : Nat} {s : T} (h : Beg n s) (U : List ByteArray) : Nm U s := by
  refine ⟨fun i r hr g hg => ?_, fun i r hr => ?_, fun i r hr l hl => ?_⟩
  · rw [h.row hr] at hg; cases hg
  · rw [h.row hr]; simp [row0]
  · rw [h.row hr] at hl; cases hl
end Rw
open Rw (T Asr W64 Gd Sz Nm NmA)
/-- An assertion, as the table has it. -/
def asr (x : As) : Option Asr := if x.op = 9 then some (.eq x.a x.b) else if x.op = 10 then some (.lk x.var x.field) else none
def handA (s : T) (x : As) (y : W64) : T := match asr x with
  | some a => s.hand a y
  | none => s
/-- The assertions whose places are in a set, with their sets. -/
def feedL (inn : W64) : Nat → List As → List (Asr × W64)
  | _, [] => []
  | i, x :: r => (if inn.getLsbD i then (match asr x with
    | some a => [(a, 1#64 <<< i)]
    | none => []) else []) ++ feedL inn (i + 1) r
theorem feedL_snoc (inn : W64) (x : As) : ∀ (l : List As) (i : Nat), feedL inn i (l ++ [x]) = feedL inn i l ++ (if inn.getLsbD (i + l.length) then (match asr x with
    | some a => [(a, 1#64 <<< (i + l.length))]
    | none => []) else [])
  | [], i => by simp [feedL]
  | y :: l, i => by
    simp only [List.cons_append, feedL, feedL_snoc inn x l (i + 1), List.append_assoc, List.length_cons]
    rw [show i + 1 + l.length = i + (l.length + 1) by omega]
def fedT (n : Nat) (as_ : List As) (inn : W64) : T := (Rw.begunT n).feed (feedL inn 0 as_)
theorem fedT_snoc (n : Nat) (l : List As) (x : As) (inn : W64) : fedT n (l ++ [x]) inn = if inn.getLsbD l.length then handA (fedT n l inn) x (1#64 <<< l.length) else fedT n l inn := by
  unfold fedT
  rw [feedL_snoc, Rw.feed_app, Nat.zero_add]
  unfold handA
  split
  · cases asr x <;> rfl
  · rfl
/-- All names of fields. -/
def namesU (l : List As) : List ByteArray := l.flatMap fun x => x.field :: (if x.op = 9 then x.a.fields.map (·.name) ++ x.b.fields.map (·.name) else [])
theorem namesU_len : ∀ {l : List As}, (∀ x ∈ l, x.op = 9 → x.a.fields.length ≤ 100 ∧ x.b.fields.length ≤ 100) → (namesU l).length ≤ 201 * l.length
  | [], _ => by simp [namesU]
  | x :: l, h2 => by
    have ih := namesU_len (l := l) (fun y hy => h2 y (by simp [hy]))
    have h3 := h2 x (by simp)
    simp only [namesU, List.flatMap_cons, List.length_append, List.length_cons] at ih ⊢
    by_cases h9 : x.op = 9
    · obtain ⟨a, b⟩ := h3 h9
      simp only [h9, if_pos, List.length_append, List.length_map]
      omega
    · simp only [h9, if_false, List.length_nil]
      omega
theorem asr_nm {l : List As} {x : As} (hx : x ∈ l) {a : Asr} (ha : asr x = some a) (h2 : x.op = 9 → x.a.fields.length ≤ 100 ∧ x.b.fields.length ≤ 100) : NmA (namesU l) 100 a := by
  unfold asr at ha
  split at ha
  · next h9 =>
    have hm : ∀ f, f ∈ x.field :: (x.a.fields.map (·.name) ++ x.b.fields.map (·.name)) → f ∈ namesU l := fun f hf => List.mem_flatMap.2 ⟨x, hx, by rw [if_pos h9]; exact hf⟩
    injection ha with ha
    subst ha
    exact ⟨fun g hg => hm _ (by simp; exact .inr (.inl ⟨g, hg, rfl⟩)), fun g hg => hm _ (by simp; exact .inr (.inr ⟨g, hg, rfl⟩)), (h2 h9).1, (h2 h9).2⟩
  · split at ha
    · injection ha with ha
      subst ha
      exact List.mem_flatMap.2 ⟨x, hx, by simp⟩
    · cases ha
/-- What is left of a table is sound, and not great. -/
structure FdOk (n : Nat) (U : List ByteArray) (k : Nat) (s : T) : Prop where
  gd : Gd s
  own : s.own = List.range n
  nm : Nm U s
  sz : Sz s (2 * n + k * (7 * U.length + 309))
theorem FdOk.begun (n : Nat) (U : List ByteArray) : FdOk n U 0 (Rw.begunT n) :=
  ⟨(Rw.begunT_beg n).gd, (Rw.begunT_beg n).own, (Rw.begunT_beg n).nm U, (Rw.begunT_beg n).sz.mono (by omega)⟩
theorem FdOk.hand {n k : Nat} {U : List ByteArray} {s : T} (h : FdOk n U k s) {x : As} {y : W64} (hx : ∀ a, asr x = some a → NmA U 100 a) : FdOk n U (k + 1) (handA s x y) := by
  have e : (k + 1) * (7 * U.length + 309) = k * (7 * U.length + 309) + (7 * U.length + 309) := Nat.succ_mul _ _
  unfold handA
  split
  · next a ha =>
    obtain ⟨h1, h2⟩ := Rw.Nm.hand h.nm h.gd (hx a ha) y h.sz
    exact ⟨(Rw.hand_gd h.gd a y).1, by rw [(Rw.hand_gd h.gd a y).2]; exact h.own, h1, h2.mono (by omega)⟩
  · exact ⟨h.gd, h.own, h.nm, h.sz.mono (by omega)⟩
theorem FdOk.mono {n k m : Nat} {U : List ByteArray} {s : T} (h : FdOk n U k s) (hk : k ≤ m) : FdOk n U m s :=
  ⟨h.gd, h.own, h.nm, h.sz.mono (by have := Nat.mul_le_mul_right (7 * U.length + 309) hk; omega)⟩
end Go.Proofs.YthnbhcfpfbimgaaGreat
/- The walks of the closures that undo. -/
namespace Go.Proofs.YthnbhcfpfbimgaaGreat
open Go.RowKit
open Rw (El At Fld Lk Eqn U T W64 Sp Wf tot Sz Nx Ow)
/-- A row put back whole. -/
theorem TbX.putRow {w : World} {B P b c k : Nat} {g : Bl} {s : T} {vu vt vo ve v1 v2 u1 u2 : Value} {vs : List (Value × Value)} {fu : List Value} {x r : Rw.Row} (h : TbX w B P g s vu vt (.slice (some ⟨b, 0, none⟩) s.rows.length c) vo ve vs fu)
    (hr : s.rows[k]? = some r) (hv : vs[k]? = some (u1, u2)) (hx : RowAt w B x (v1, v2)) :
    TbX (((((w.setCell ⟨b, k * 5, none⟩ (.bool x.bound)).setCell ⟨b, k * 5 + 1, none⟩ v1).setCell ⟨b, k * 5 + 2, none⟩ (.int .i64 x.tail)).setCell ⟨b, k * 5 + 3, none⟩ (whyV x.why)).setCell ⟨b, k * 5 + 4, none⟩ v2) B P g { s with rows := s.rows.set k x } vu vt (.slice (some ⟨b, 0, none⟩) s.rows.length c) vo ve (vs.set k (v1, v2)) fu ∧
    Kp (OnB P g) w (((((w.setCell ⟨b, k * 5, none⟩ (.bool x.bound)).setCell ⟨b, k * 5 + 1, none⟩ v1).setCell ⟨b, k * 5 + 2, none⟩ (.int .i64 x.tail)).setCell ⟨b, k * 5 + 3, none⟩ (whyV x.why)).setCell ⟨b, k * 5 + 4, none⟩ v2) := by
  have hk := (List.getElem?_eq_some_iff.1 hr).1
  have hkv : k < vs.length := by rw [h.vsl]; exact hk
  have hra := h.rowAt k r _ hr hv
  have h1 := h.setRow hr hv (show 0 < 5 by omega) (r' := { r with bound := x.bound }) (v' := (u1, u2)) (u := .bool x.bound) rfl (fun i hi => by
    match i, hi with
    | 0, hi => exact absurd rfl hi
    | 1, _ => rfl
    | 2, _ => rfl
    | 3, _ => rfl
    | 4, _ => rfl
    | i + 5, _ => rfl) ⟨hra.fields, hra.lacks⟩
  have e1 : (s.rows.set k { r with bound := x.bound })[k]? = some { r with bound := x.bound } := List.getElem?_set_self hk
  have f1 : (vs.set k (u1, u2))[k]? = some (u1, u2) := List.getElem?_set_self hkv
  have hK1 := Kept.mk' ⟨_, _, _, _, _, _, _, h⟩ h1.2 (Gn.refl _ _)
  have ra1 := h1.1.rowAt k _ _ e1 f1
  have hl1 : (s.rows.set k { r with bound := x.bound }).length = s.rows.length := List.length_set
  have h2 := TbX.setRow (b := b) (c := c) (s := { s with rows := s.rows.set k { r with bound := x.bound } }) (by have := h1.1; simpa only [hl1] using this) e1 f1 (show 1 < 5 by omega) (r' := { r with bound := x.bound, fields := x.fields }) (v' := (v1, u2)) (u := v1) rfl (fun i hi => by
    match i, hi with
    | 0, _ => rfl
    | 1, hi => exact absurd rfl hi
    | 2, _ => rfl
    | 3, _ => rfl
    | 4, _ => rfl
    | i + 5, _ => rfl) ⟨hK1.fields hx.fields, ra1.lacks⟩
  have hK2 := Kept.mk' ⟨_, _, _, _, _, _, _, h1.1⟩ h2.2 (Gn.refl _ _)
  simp only [List.set_set, hl1] at h2
  have e2 : (s.rows.set k { r with bound := x.bound, fields := x.fields })[k]? = some { r with bound := x.bound, fields := x.fields } := List.getElem?_set_self hk
  have f2 : (vs.set k (v1, u2))[k]? = some (v1, u2) := List.getElem?_set_self hkv
  have ra2 := h2.1.rowAt k _ _ e2 f2
  have hl2 : (s.rows.set k { r with bound := x.bound, fields := x.fields }).length = s.rows.length := List.length_set
  have h3 := TbX.setRow (b := b) (c := c) (s := { s with rows := s.rows.set k { r with bound := x.bound, fields := x.fields } }) (by have := h2.1; simpa only [hl2] using this) e2 f2 (show 2 < 5 by omega) (r' := { r with bound := x.bound, fields := x.fields, tail := x.tail }) (v' := (v1, u2)) (u := .int .i64 x.tail) rfl (fun i hi => by
    match i, hi with
    | 0, _ => rfl
    | 1, _ => rfl
    | 2, hi => exact absurd rfl hi
    | 3, _ => rfl
    | 4, _ => rfl
    | i + 5, _ => rfl) ⟨ra2.fields, ra2.lacks⟩
  have hK3 := Kept.mk' ⟨_, _, _, _, _, _, _, h2.1⟩ h3.2 (Gn.refl _ _)
  simp only [List.set_set, hl2] at h3
  have e3 : (s.rows.set k { r with bound := x.bound, fields := x.fields, tail := x.tail })[k]? = some { r with bound := x.bound, fields := x.fields, tail := x.tail } := List.getElem?_set_self hk
  have ra3 := h3.1.rowAt k _ _ e3 f2
  have hl3 : (s.rows.set k { r with bound := x.bound, fields := x.fields, tail := x.tail }).length = s.rows.length := List.length_set
  have h4 := TbX.setRow (b := b) (c := c) (s := { s with rows := s.rows.set k { r with bound := x.bound, fields := x.fields, tail := x.tail } }) (by have := h3.1; simpa only [hl3] using this) e3 f2 (show 3 < 5 by omega) (r' := { r with bound := x.bound, fields := x.fields, tail := x.tail, why := x.why }) (v' := (v1, u2)) (u := whyV x.why) rfl (fun i hi => by
    match i, hi with
    | 0, _ => rfl
    | 1, _ => rfl
    | 2, _ => rfl
    | 3, hi => exact absurd rfl hi
    | 4, _ => rfl
    | i + 5, _ => rfl) ⟨ra3.fields, ra3.lacks⟩
  have hK4 := Kept.mk' ⟨_, _, _, _, _, _, _, h3.1⟩ h4.2 (Gn.refl _ _)
  simp only [List.set_set, hl3] at h4
  have e4 : (s.rows.set k { r with bound := x.bound, fields := x.fields, tail := x.tail, why := x.why })[k]? = some { r with bound := x.bound, fields := x.fields, tail := x.tail, why := x.why } := List.getElem?_set_self hk
  have ra4 := h4.1.rowAt k _ _ e4 f2
  have hl4 : (s.rows.set k { r with bound := x.bound, fields := x.fields, tail := x.tail, why := x.why }).length = s.rows.length := List.length_set
  have h5 := TbX.setRow (b := b) (c := c) (s := { s with rows := s.rows.set k { r with bound := x.bound, fields := x.fields, tail := x.tail, why := x.why } }) (by have := h4.1; simpa only [hl4] using this) e4 f2 (show 4 < 5 by omega) (r' := x) (v' := (v1, v2)) (u := v2) rfl (fun i hi => by
    match i, hi with
    | 0, _ => rfl
    | 1, _ => rfl
    | 2, _ => rfl
    | 3, _ => rfl
    | 4, hi => exact absurd rfl hi
    | i + 5, _ => rfl) ⟨ra4.fields, hK4.lacks (hK3.lacks (hK2.lacks (hK1.lacks hx.lacks)))⟩
  simp only [List.set_set, hl4] at h5
  simp only [Nat.add_zero] at *
  exact ⟨h5.1, (((h1.2.trans h2.2 fun b hb => .inl hb).trans h3.2 fun b hb => .inl hb).trans h4.2 fun b hb => .inl hb).trans h5.2 fun b hb => .inl hb⟩
theorem ownBlock_cut (A : Option Addr) (n c m c' : Nat) : (Value.slice A n c).ownBlock = (Value.slice A m c').ownBlock := by cases A <;> rfl
theorem slice_nil_cap {w : World} {e : TypeId} {z n c : Nat} {xs : List Value} (h : RowZ w e z (.slice none n c) n xs) : c = 0 := by
  rcases h with ⟨h0, _⟩ | ⟨g, cap, cur, h0, _⟩
  · simp at h0; exact h0.2
  · simp at h0
theorem rowsV_take : ∀ (n : Nat) (rs : List Rw.Row) (vs : List (Value × Value)), vs.length = rs.length → (rowsV rs vs).take (n * 5) = rowsV (rs.take n) (vs.take n)
  | 0, rs, vs, _ => by simp [rowsV]
  | n + 1, [], [], _ => by simp [rowsV]
  | n + 1, r :: rs, v :: vs, h => by
    have ih := rowsV_take n rs vs (by simpa using h)
    simp only [rowsV] at ih
    simp only [rowsV, List.take_succ_cons, List.zip_cons_cons, List.flatMap_cons]
    rw [show (n + 1) * 5 = (rowV r v).length + n * 5 by show (n + 1) * 5 = 5 + n * 5; omega, List.take_length_add_append, ih]
  | _ + 1, [], _ :: _, h => by simp at h
  | _ + 1, _ :: _, [], h => by simp at h
theorem intsV_take (n : Nat) (l : List Nat) : (intsV l).take (n * 1) = intsV (l.take n) := by simp [intsV, List.map_take]
theorem eqnsV_take : ∀ (n : Nat) (l : List Eqn), (eqnsV l).take (n * 19) = eqnsV (l.take n)
  | 0, l => by simp [eqnsV]
  | n + 1, [] => by simp [eqnsV]
  | n + 1, e :: l => by
    have ih := eqnsV_take n l
    simp only [eqnsV] at ih
    simp only [eqnsV, List.take_succ_cons, List.flatMap_cons]
    rw [show (n + 1) * 19 = (eqnV e).length + n * 19 by show (n + 1) * 19 = 19 + n * 19; omega, List.take_length_add_append, ih]
/-- A block of the table's own turned, the rest as it was. -/
theorem stp_set {w w' : World} {B P : Nat} {g g' : Bl} {s' : T} (h : Tb w' B P g' s') (hk : Kp (OnB P g) w w') (hg : Gn w g g') : Stp w B P g s' w'.drew := by
  obtain ⟨vu, vt, vr, vo, ve, vs, fs, hx⟩ := h
  exact ⟨g', ⟨vu, vt, vr, vo, ve, vs, fs, hx.drew⟩, hk.drew, hg⟩
set_option maxRecDepth 100000 in
set_option maxHeartbeats 1000000 in
theorem freshBack_any (P B n bt bn : Nat) (g : Bl) (s : T) (w : World) (h : Tb w B P g s) (hB : B ≤ w.heap.size) (hn : n ≤ s.rows.length) (hbt : PBox w P bt) (hbn : w.heap[bn]? = some (.cells #[.int .i64 (n : Nat)] 3 (0, 0))) :
    Calls Tryz.prog 70 #[.pointer (some ⟨bt, 0, none⟩), .pointer (some ⟨bn, 0, none⟩)] w fun e w' => RetS (.tuple #[]) w B P g { s with rows := s.rows.take n } e w' := by
  obtain ⟨vu, vt, vr, vo, ve, vs, fs, hx⟩ := h
  obtain ⟨A, c, rfl, hc, hm⟩ := RowZ.form hx.rows
  have c2 := hx.cells.2.2.1
  have f2 := hx.free 2
  have c1 := hbt.cell
  have c0 : w.cell? ⟨bn, 0, none⟩ = some (.int .i64 (n : Nat)) := by rw [cell_block hbn]; rfl
  have hn0 : (0 : Int) ≤ (n : Nat) := by omega
  have hn1 : ((n : Nat) : Int) ≤ c := by omega
  have hrow := hx.rows.cut (k := n) (c' := c) hn (by omega) (Nat.le_refl _) (fun e => by subst e; exact slice_nil_cap hx.rows)
  have hlt : (s.rows.take n).length = n := by simp; omega
  have hrv := rowsV_take n s.rows vs hx.vsl
  have hnew := hx.newR (w' := w) (rs' := s.rows.take n) (vs' := vs.take n) (v' := .slice A n c) (Nat.le_refl _) (fun _ _ _ => rfl) (by rw [hlt, ← hrv]; exact hrow) (by simp [hx.vsl]) (fun k r v h1 h2 => by
    rw [List.getElem?_take] at h1 h2
    split at h1
    · rename_i hk; rw [if_pos hk] at h2; exact hx.rowAt k r v h1 h2
    · cases h1) (.inl (ownBlock_cut _ _ _ _ _)) hB
  have hkp : Kp (OnB P g) w (w.setCell ⟨P, 2, none⟩ (.slice A n c)) := (Kp.refl _ w).setCell (.inl (.inl rfl)) _
  have HH := hide (And.intro hnew (And.intro hkp (show g.r = (Value.slice A n c).ownBlock from hx.bl.2.2.1.symm.trans (ownBlock_cut _ _ _ _ _))))
  clear hx hbt hbn hrow hrv hnew hkp
  go_enter Tryz.func70, Tryz.ntmps70
  go_wp2_with fail
  go_still_tail 9, (by kernel_rfl)
  change wpList _ _ _ _ _ w.drew
  go_wp2_with fail
  go_end0
  exact ⟨rfl, stp_set ⟨_, _, _, _, _, _, _, HH.out.1⟩ HH.out.2.1 ⟨.inl rfl, .inl rfl, .inl HH.out.2.2.symm, .inl rfl, .inl rfl⟩⟩
set_option maxRecDepth 100000 in
set_option maxHeartbeats 1000000 in
theorem varBack_any (P B n bt bn : Nat) (g : Bl) (s : T) (w : World) (h : Tb w B P g s) (hB : B ≤ w.heap.size) (hn : n ≤ s.own.length) (hbt : PBox w P bt) (hbn : w.heap[bn]? = some (.cells #[.int .i64 (n : Nat)] 3 (0, 0))) :
    Calls Tryz.prog 48 #[.pointer (some ⟨bt, 0, none⟩), .pointer (some ⟨bn, 0, none⟩)] w fun e w' => RetS (.tuple #[]) w B P g { s with own := s.own.take n } e w' := by
  obtain ⟨vu, vt, vr, vo, ve, vs, fs, hx⟩ := h
  obtain ⟨A, c, rfl, hc, hm⟩ := RowZ.form hx.own
  have c3 := hx.cells.2.2.2.1
  have f3 := hx.free 3
  have c1 := hbt.cell
  have c0 : w.cell? ⟨bn, 0, none⟩ = some (.int .i64 (n : Nat)) := by rw [cell_block hbn]; rfl
  have hn0 : (0 : Int) ≤ (n : Nat) := by omega
  have hn1 : ((n : Nat) : Int) ≤ c := by omega
  have hrow := hx.own.cut (k := n) (c' := c) hn (by omega) (Nat.le_refl _) (fun e => by subst e; exact slice_nil_cap hx.own)
  have hlt : (s.own.take n).length = n := by simp; omega
  have hnew := hx.newO (w' := w) (l' := s.own.take n) (v' := .slice A n c) (Nat.le_refl _) (fun _ _ _ => rfl) (by rw [hlt, ← intsV_take]; exact hrow) (.inl (ownBlock_cut _ _ _ _ _)) hB
  have hkp : Kp (OnB P g) w (w.setCell ⟨P, 3, none⟩ (.slice A n c)) := (Kp.refl _ w).setCell (.inl (.inl rfl)) _
  have HH := hide (And.intro hnew (And.intro hkp (show g.o = (Value.slice A n c).ownBlock from hx.bl.2.2.2.1.symm.trans (ownBlock_cut _ _ _ _ _))))
  clear hx hbt hbn hrow hnew hkp
  go_enter Tryz.func48, Tryz.ntmps48
  go_wp2_with fail
  go_still_tail 9, (by kernel_rfl)
  change wpList _ _ _ _ _ w.drew
  go_wp2_with fail
  go_end0
  exact ⟨rfl, stp_set ⟨_, _, _, _, _, _, _, HH.out.1⟩ HH.out.2.1 ⟨.inl rfl, .inl rfl, .inl rfl, .inl HH.out.2.2.symm, .inl rfl⟩⟩
set_option maxRecDepth 100000 in
set_option maxHeartbeats 1000000 in
theorem pairBack_any (P B n bt bn : Nat) (g : Bl) (s : T) (w : World) (h : Tb w B P g s) (hB : B ≤ w.heap.size) (hn : n ≤ s.eqs.length) (hbt : PBox w P bt) (hbn : w.heap[bn]? = some (.cells #[.int .i64 (n : Nat)] 3 (0, 0))) :
    Calls Tryz.prog 98 #[.pointer (some ⟨bt, 0, none⟩), .pointer (some ⟨bn, 0, none⟩)] w fun e w' => RetS (.tuple #[]) w B P g { s with eqs := s.eqs.take n } e w' := by
  obtain ⟨vu, vt, vr, vo, ve, vs, fs, hx⟩ := h
  obtain ⟨A, c, rfl, hc, hm⟩ := RowZ.form hx.eqs
  have c4 := hx.cells.2.2.2.2.1
  have f4 := hx.free 4
  have c1 := hbt.cell
  have c0 : w.cell? ⟨bn, 0, none⟩ = some (.int .i64 (n : Nat)) := by rw [cell_block hbn]; rfl
  have hn0 : (0 : Int) ≤ (n : Nat) := by omega
  have hn1 : ((n : Nat) : Int) ≤ c := by omega
  have hrow := hx.eqs.cut (k := n) (c' := c) hn (by omega) (Nat.le_refl _) (fun e => by subst e; exact slice_nil_cap hx.eqs)
  have hlt : (s.eqs.take n).length = n := by simp; omega
  have hnew := hx.newE (w' := w) (es' := s.eqs.take n) (v' := .slice A n c) (Nat.le_refl _) (fun _ _ _ => rfl) (by rw [hlt, ← eqnsV_take]; exact hrow) (.inl (ownBlock_cut _ _ _ _ _)) hB
  have hkp : Kp (OnB P g) w (w.setCell ⟨P, 4, none⟩ (.slice A n c)) := (Kp.refl _ w).setCell (.inl (.inl rfl)) _
  have HH := hide (And.intro hnew (And.intro hkp (show g.e = (Value.slice A n c).ownBlock from hx.bl.2.2.2.2.symm.trans (ownBlock_cut _ _ _ _ _))))
  clear hx hbt hbn hrow hnew hkp
  go_enter Tryz.func98, Tryz.ntmps98
  go_wp2_with fail
  go_still_tail 9, (by kernel_rfl)
  change wpList _ _ _ _ _ w.drew
  go_wp2_with fail
  go_end0
  exact ⟨rfl, stp_set ⟨_, _, _, _, _, _, _, HH.out.1⟩ HH.out.2.1 ⟨.inl rfl, .inl rfl, .inl rfl, .inl rfl, .inl HH.out.2.2.symm⟩⟩
set_option maxRecDepth 100000 in
set_option maxHeartbeats 1000000 in
theorem lacksBack_any (P B i bw bt bn : Nat) (g : Bl) (s : T) (was : List Lk) (v : Value) (w : World) (h : Tb w B P g s) (hi : i < s.rows.length) (hbw : w.heap[bw]? = some (.cells #[v] 131 (0, 0))) (hv : SlAt w B 166 2 v was.length (lksV was)) (hbt : PBox w P bt) (hbn : w.heap[bn]? = some (.cells #[.int .i64 (i : Nat)] 3 (0, 0))) :
    Calls Tryz.prog 90 #[.pointer (some ⟨bw, 0, none⟩), .pointer (some ⟨bt, 0, none⟩), .pointer (some ⟨bn, 0, none⟩)] w fun e w' => RetS (.tuple #[]) w B P g { s with rows := s.rows.modify i fun x => { x with lacks := was } } e w' := by
  obtain ⟨vu, vt, vr, vo, ve, vs, fs, hx⟩ := h
  obtain ⟨r, hr⟩ : ∃ r, s.rows[i]? = some r := ⟨s.rows[i], List.getElem?_eq_getElem hi⟩
  obtain ⟨br, cr, u1, u2, rfl, hvk, hra, t0, t1, t2, t3, t4, tf, htl, htB, htP⟩ := hx.rowCells hr
  have tf4 := tf (i * 5 + 4)
  obtain ⟨A, c, rfl, _⟩ := hv.ex
  have c2 := hx.cells.2.2.1
  have cw : w.cell? ⟨bw, 0, none⟩ = some (.slice A was.length c) := by rw [cell_block hbw]; rfl
  have c1 := hbt.cell
  have c0 : w.cell? ⟨bn, 0, none⟩ = some (.int .i64 (i : Nat)) := by rw [cell_block hbn]; rfl
  have hn0 : (0 : Int) ≤ (i : Nat) := by omega
  have hn1 : ((i : Nat) : Int) < s.rows.length := by omega
  have hset := hx.setRow hr hvk (show 4 < 5 by omega) (r' := { r with lacks := was }) (v' := (u1, .slice A was.length c)) (u := .slice A was.length c) rfl (fun i hi => by
    match i, hi with
    | 0, _ => rfl
    | 1, _ => rfl
    | 2, _ => rfl
    | 3, _ => rfl
    | 4, hi => exact absurd rfl hi
    | i + 5, _ => rfl) ⟨hra.fields, hv⟩
  have HH := hide hset
  clear hx hbt hbn hbw hv hset hra tf htl htB htP t0 t1 t2 t3
  go_enter Tryz.func90, Tryz.ntmps90
  go_wp2_with fail
  go_still_tail 8, (by kernel_rfl)
  change wpList _ _ _ _ _ w.drew
  go_wp2_with fail
  go_end0
  rw [modify_set _ _ _ _ hr]
  exact ⟨rfl, stp_set ⟨_, _, _, _, _, _, _, HH.out.1⟩ HH.out.2 (Gn.refl _ _)⟩
set_option maxRecDepth 100000 in
set_option maxHeartbeats 1000000 in
theorem rowBack_any (P B i bx bt bn : Nat) (g : Bl) (s : T) (x : Rw.Row) (v : Value × Value) (w : World) (h : Tb w B P g s) (hi : i < s.rows.length) (hbx : w.heap[bx]? = some (.cells (rowV x v).toArray 133 (0, 0))) (hv : RowAt w B x v) (hbt : PBox w P bt) (hbn : w.heap[bn]? = some (.cells #[.int .i64 (i : Nat)] 3 (0, 0))) :
    Calls Tryz.prog 99 #[.pointer (some ⟨bx, 0, none⟩), .pointer (some ⟨bt, 0, none⟩), .pointer (some ⟨bn, 0, none⟩)] w fun e w' => RetS (.tuple #[]) w B P g { s with rows := s.rows.set i x } e w' := by
  obtain ⟨vu, vt, vr, vo, ve, vs, fs, hx⟩ := h
  obtain ⟨v1, v2⟩ := v
  obtain ⟨r, hr⟩ : ∃ r, s.rows[i]? = some r := ⟨s.rows[i], List.getElem?_eq_getElem hi⟩
  obtain ⟨br, cr, u1, u2, rfl, hvk, hra, t0, t1, t2, t3, t4, tf, htl, htB, htP⟩ := hx.rowCells hr
  have tf0 := tf (i * 5)
  have tf1 := tf (i * 5 + 1)
  have tf2 := tf (i * 5 + 2)
  have tf3 := tf (i * 5 + 3)
  have tf4 := tf (i * 5 + 4)
  obtain ⟨A1, d1, e1, _⟩ := hv.fields.ex
  obtain ⟨A2, d2, e2, _⟩ := hv.lacks.ex
  dsimp only at e1 e2
  subst e1
  subst e2
  have c2 := hx.cells.2.2.1
  have x0 : w.cell? ⟨bx, 0, none⟩ = some (.bool x.bound) := by rw [cell_block hbx]; rfl
  have x1 : w.cell? ⟨bx, 1, none⟩ = some (.slice A1 x.fields.length d1) := by rw [cell_block hbx]; rfl
  have x2 : w.cell? ⟨bx, 2, none⟩ = some (.int .i64 x.tail) := by rw [cell_block hbx]; rfl
  have x3 : w.cell? ⟨bx, 3, none⟩ = some (.int .u64 (x.why.toNat : Nat)) := by rw [cell_block hbx]; rfl
  have x4 : w.cell? ⟨bx, 4, none⟩ = some (.slice A2 x.lacks.length d2) := by rw [cell_block hbx]; rfl
  have c1 := hbt.cell
  have c0 : w.cell? ⟨bn, 0, none⟩ = some (.int .i64 (i : Nat)) := by rw [cell_block hbn]; rfl
  have hn0 : (0 : Int) ≤ (i : Nat) := by omega
  have hn1 : ((i : Nat) : Int) < s.rows.length := by omega
  have hset := hx.putRow hr hvk hv
  unfold whyV at hset
  have HH := hide hset
  clear hx hbt hbn hbx hv hset hra tf htl htB htP
  go_enter Tryz.func99, Tryz.ntmps99
  go_wp2_with fail
  go_still_tail 7, (by kernel_rfl)
  change wpList _ _ _ _ _ w.drew
  go_wp2_with fail
  go_end0
  exact ⟨rfl, stp_set ⟨_, _, _, _, _, _, _, HH.out.1⟩ HH.out.2 (Gn.refl _ _)⟩
end Go.Proofs.YthnbhcfpfbimgaaGreat
/- The walk of clear: all changes from one on are undone. -/
namespace Go.Proofs.YthnbhcfpfbimgaaGreat
open Go.RowKit
open Rw (El At Fld Lk Eqn U T W64 Sp Wf tot Sz Nx Ow OkL)
set_option maxRecDepth 100000 in
set_option maxHeartbeats 1000000 in
theorem stickBack_any (P B bt : Nat) (g : Bl) (s : T) (w : World) (h : Tb w B P g s) (hbt : PBox w P bt) (hbP : bt ≠ P) :
    Calls Tryz.prog 73 #[.pointer (some ⟨bt, 0, none⟩)] w fun e w' => RetS (.tuple #[]) w B P g { s with stuck := false, why := 0 } e w' := by
  obtain ⟨vu, vt, vr, vo, ve, vs, fs, hx⟩ := h
  obtain ⟨_, _, _, _, _, c5, c6⟩ := hx.cells
  have f5 := hx.free 5
  have f6 := hx.free 6
  have k0 := hbt.cell
  have hnew := hx.setWhy false 0
  have hkp : Kp (OnB P g) w ((w.setCell ⟨P, 5, none⟩ (.bool false)).setCell ⟨P, 6, none⟩ (whyV 0)) := ((Kp.refl _ _).setCell (.inl (.inl rfl)) _).setCell (.inl (.inl rfl)) _
  have hst : Stp w B P g { s with stuck := false, why := 0 } ((w.setCell ⟨P, 5, none⟩ (.bool false)).setCell ⟨P, 6, none⟩ (whyV 0)).drew := stp_set ⟨_, _, _, _, _, _, _, hnew⟩ hkp (Gn.refl _ _)
  have HH := hide hst
  clear hx hnew hkp hst hbt
  unfold whyV at c6
  go_enter Tryz.func73, Tryz.ntmps73
  go_upto_region 0 with (fail)
  have f6' : (w.drew.setCell ⟨P, 5, none⟩ (.bool false)).frozen? ⟨P, 6, none⟩ = false := by simpa using f6
  have k5 : (w.drew.setCell ⟨P, 5, none⟩ (.bool false)).cell? ⟨bt, 0, none⟩ = some (.pointer (some ⟨P, 0, none⟩)) := (World.cell?_of_block (Below.heap_setCell _ _ _ _ hbP)).trans k0
  have k6 : ((w.drew.setCell ⟨P, 5, none⟩ (.bool false)).setCell ⟨P, 6, none⟩ (.int .u64 0)).cell? ⟨bt, 0, none⟩ = some (.pointer (some ⟨P, 0, none⟩)) := (World.cell?_of_block (Below.heap_setCell _ _ _ _ hbP)).trans k5
  refine wp_region_chain [0, 1, 2, 3] [(4, true), (5, true), (6, true), (7, true)] (fun w' => w'.cell? ⟨bt, 0, none⟩ = some (.pointer (some ⟨P, 0, none⟩))) (by kernel_rfl) (by kernel_rfl) (fun _ _ _ _ _ h => h) k0 ?_
  intro hne
  simp only [picks, picksW, List.filterMap_cons, List.filterMap_nil, List.getElem?_cons_zero, List.getElem?_cons_succ, Option.map_some]
  have hu0 : ∀ u : HoldW (fun w' => w'.cell? ⟨bt, 0, none⟩ = some (.pointer (some ⟨P, 0, none⟩))), u.w.cell? ⟨bt, 0, none⟩ = some (.pointer (some ⟨P, 0, none⟩)) := fun u => u.ok
  repeat (refine wpHeld_step (fun K hK => ?_); go_simp; refine hK _ ?_; clear hK K)
  refine wpHeld_nil ?_
  clear hu0 hne
  refine wpChain_cons fun K hK => ?_
  go_wp2_with fail
  refine chainF (fun _ => k5) (hK _ _ ?_)
  clear hK K
  refine wpChain_cons fun K hK => ?_
  go_wp2_with fail
  refine chainF (fun _ => k5) (hK _ _ ?_)
  clear hK K
  refine wpChain_cons fun K hK => ?_
  go_wp2_with fail
  refine chainF (fun _ => k5) (hK _ _ ?_)
  clear hK K
  refine wpChain_cons fun K hK => ?_
  go_wp2_with fail
  refine chainF (fun _ => k6) (hK _ _ ?_)
  clear hK K
  refine wpChain_nil ?_
  go_wp2_with fail
  go_end0
  exact ⟨rfl, HH.out⟩
theorem ibox_ne {w : World} {B P : Nat} {g : Bl} {s : T} (h : Tb w B P g s) {b : Nat} (hb : PBox w P b) : b ≠ P := by
  obtain ⟨_, _, _, _, _, _, _, hx⟩ := h
  exact blocks_ne hb hx.self (by decide)
/-- Whatever a closure undoes. -/
theorem back_any (P B : Nat) (g : Bl) (s : T) (w : World) (h : Tb w B P g s) (hB : B ≤ w.heap.size) {f : Value} {u : U} (hf : FuncIs w B P g f u) (hv : u.valid s.core) :
    ∃ k caps, f = .func (.func k) #[] caps ∧ (∀ w', (callFunc k caps).run Tryz.prog w' = .ok (.enter k caps) w') ∧ Calls Tryz.prog k caps w fun e w' => RetS (.tuple #[]) w B P g (u.app s) e w' := by
  match u, hf, hv with
  | .cutRows n, ⟨bt, bn, hfe, h1, h2, _, _⟩, hv => exact ⟨_, _, hfe, fun _ => by kernel_rfl, freshBack_any P B n bt bn g s w h hB hv h1 h2⟩
  | .cutOwn n, ⟨bt, bn, hfe, h1, h2, _, _⟩, hv => exact ⟨_, _, hfe, fun _ => by kernel_rfl, varBack_any P B n bt bn g s w h hB hv h1 h2⟩
  | .unstick, ⟨bt, hfe, h1⟩, _ => exact ⟨_, _, hfe, fun _ => by kernel_rfl, stickBack_any P B bt g s w h h1 (ibox_ne h h1)⟩
  | .lacksBack i was, ⟨bw, bt, bn, v, hfe, h0, hl, h1, h2, _, _⟩, hv => exact ⟨_, _, hfe, fun _ => by kernel_rfl, lacksBack_any P B i bw bt bn g s was v w h hv h0 hl h1 h2⟩
  | .rowBack i x, ⟨bx, bt, bn, v, hfe, h0, hl, _, h1, h2, _, _⟩, hv => exact ⟨_, _, hfe, fun _ => by kernel_rfl, rowBack_any P B i bx bt bn g s x v w h hv h0 hl h1 h2⟩
  | .cutEqs n, ⟨bt, bn, hfe, h1, h2, _, _⟩, hv => exact ⟨_, _, hfe, fun _ => by kernel_rfl, pairBack_any P B n bt bn g s w h hB hv h1 h2⟩
theorem okL_at {us : List U} {c : Rw.Core} (h : OkL us c) {k : Nat} {u : U} (hu : us[k]? = some u) : u.valid ((us.drop (k + 1)).foldr U.appC c) := by
  obtain ⟨hk, he⟩ := List.getElem?_eq_some_iff.1 hu
  have hs : us = us.take k ++ (u :: us.drop (k + 1)) := by rw [← he, ← List.drop_eq_getElem_cons hk, List.take_append_drop]
  rw [hs] at h
  have h2 : OkL (u :: us.drop (k + 1)) c := ((Rw.okL_app _ _ _).1 h).1
  exact h2.2
/-- Where clear stands: k steps are left. -/
structure LoCl (w0 : World) (B P : Nat) (g : Bl) (s : T) (base us : List U) (kv : Value) (wr : World) : Prop where
  ex : ∃ k gk sk, k ≤ us.length ∧ kv = .int .i64 ((base.length : Int) + (k : Nat) - 1) ∧ Sg w0 B P g wr gk sk ∧ sk.undo = s.undo ∧ sk.times = s.times ∧ sk.core = (us.drop k).foldr U.appC s.core
structure RetC (w : World) (B P : Nat) (g : Bl) (s : T) (base us : List U) (e : Ending) (w' : World) : Prop where
  ret : e = .returned (.tuple #[])
  ex : ∃ s', Stp w B P g s' w' ∧ s'.core = us.foldr U.appC s.core ∧ s'.undo = base ∧ s'.times = s.times
set_option maxRecDepth 100000 in
set_option maxHeartbeats 1000000 in
theorem clear_any (P B : Nat) (g : Bl) (s : T) (base us : List U) (w : World) (h : Tb w B P g s) (hB : B ≤ w.heap.size) (hu : s.undo = base ++ us) (hok : OkL us s.core) (hn : s.undo.length ≤ 1000000000) :
    Calls Tryz.prog 51 #[.pointer (some ⟨P, 0, none⟩), .int .i64 (base.length : Nat)] w fun e w' => RetC w B P g s base us e w' := by
  have hS := Sg.refl h hB
  have hul : s.undo.length = base.length + us.length := by rw [hu]; simp
  obtain ⟨vu, vt, vr, vo, ve, vs, fs, hx⟩ := h
  obtain ⟨A, c, rfl, _⟩ := RowZ.form hx.undo
  have c0 := hx.cells.1
  have HS := hide (And.intro hS (And.intro hu hok))
  clear hx hS hu hok
  go_enter Tryz.func51, Tryz.ntmps51
  go_wp2_with fail
  go_loopw [4] (fun kv wr => LoCl w B P g s base us kv wr) (fun kv _ => (intOf kv + 1).toNat)
  case atStart => exact ⟨us.length, g, s, Nat.le_refl _, rfl, HS.out.1, rfl, rfl, by rw [List.drop_length]; rfl⟩
  case round =>
    obtain ⟨k, gk, sk, hk, rfl, hS, hku, hkt, hkc⟩ := hrel
    obtain ⟨vu, vt, vr, vo, ve, vs, fs, hx⟩ := hS.tb
    obtain ⟨A', c', rfl, hac, hacm⟩ := RowZ.form hx.undo
    have c1 := hx.cells.1
    have f0 := hx.free 0
    have hsl : sk.undo.length = base.length + us.length := by rw [hku]; exact hul
    rw [hsl] at c1 hac
    by_cases hlt : 0 < k
    · obtain ⟨j, rfl⟩ : ∃ j, k = j + 1 := ⟨k - 1, by omega⟩
      obtain ⟨u, huj⟩ : ∃ u, us[j]? = some u := ⟨us[j], List.getElem?_eq_getElem (by omega)⟩
      have hundo : sk.undo[base.length + j]? = some u := by rw [hku, HS.out.2.1, List.getElem?_append_right (by omega), Nat.add_sub_cancel_left]; exact huj
      have hfl : fs.length = base.length + us.length := (RowZ.n_len hx.undo).trans hsl
      obtain ⟨f, hff⟩ : ∃ f, fs[base.length + j]? = some f := ⟨fs[base.length + j]'(by omega), List.getElem?_eq_getElem _⟩
      have hfi := hx.funcs _ f u hff hundo
      have hv := okL_at HS.out.2.2 huj
      rw [← hkc] at hv
      obtain ⟨kf, caps, rfl, hent, hcall⟩ := back_any P B gk sk wr ⟨_, _, _, _, _, _, _, hx⟩ hS.ge hfi hv
      obtain ⟨gu, rfl⟩ := RowZ.addr hx.undo (by omega)
      have c2 : wr.cell? ⟨gu, base.length + j, none⟩ = some (.func (.func kf) #[] caps) := by rw [RowZ.cell hx.undo (by omega)]; exact hff
      have happ := Rw.app_core u sk
      have hdrop : (us.drop j).foldr U.appC s.core = u.appC ((us.drop (j + 1)).foldr U.appC s.core) := by
        obtain ⟨hj, he⟩ := List.getElem?_eq_some_iff.1 huj
        rw [List.drop_eq_getElem_cons hj, he]; rfl
      have HC := hide (And.intro hcall (And.intro hS (And.intro happ (And.intro hdrop (And.intro hku (And.intro hkt hkc))))))
      have i0 : ((base.length : Int) + ((j + 1 : Nat) : Int) - 1) = ((base.length + j : Nat) : Int) := by omega
      have i1 : (0 : Int) ≤ ((base.length + j : Nat) : Int) := by omega
      have i2 : ((base.length + j : Nat) : Int) < ((base.length + us.length : Nat) : Int) := by omega
      rw [i0]
      have i3 : ¬ ((base.length + j : Nat) : Int) < (base.length : Int) := by omega
      clear hcall hS hx happ hdrop hku hkt hkc hfi hv hundo hfl hff huj hac i0
      generalize hbj : base.length + j = bj at *
      go_wp2_with fail
      refine HC.out.1.mono ?_
      rintro e w' ⟨rfl, hS2⟩
      obtain ⟨g2, hS3, _⟩ := HC.out.2.1.step hS2
      have H3 := hide hS3
      clear hS2 hS3 c1 c2 f0
      go_wp2_with fail
      obtain ⟨_, _, ⟨a1, a2, a3⟩, hd, q1, q2, q3⟩ := HC.out
      refine ⟨⟨j, g2, u.app sk, by omega, ?_, H3.out, a2.trans q1, a3.trans q2, by rw [hd, ← q3]; exact a1⟩, ?_⟩
      · rw [← hbj]; congr 1
      · simp [intOf]
    · obtain rfl : k = 0 := by omega
      have i3 : (base.length : Int) + ((0 : Nat) : Int) - 1 < (base.length : Int) := by omega
      have hlen : (sk.undo.take base.length).length = base.length := by simp; omega
      have hrow := hx.undo.cut (k := base.length) (c' := c') (by rw [hsl]; omega) (by omega) (Nat.le_refl _) (fun e => by subst e; exact slice_nil_cap hx.undo)
      rw [Nat.mul_one] at hrow
      have hnew := hx.newU (w' := wr) (us' := sk.undo.take base.length) (fs' := fs.take base.length) (v' := .slice A' base.length c') (Nat.le_refl _) (fun _ _ _ => rfl) (by rw [hlen]; exact hrow) (fun i f u h1 h2 => by
        rw [List.getElem?_take] at h1 h2
        split at h1
        · rename_i hk; rw [if_pos hk] at h2; exact hx.funcs i f u h1 h2
        · cases h1) (.inl (ownBlock_cut _ _ _ _ _)) hS.ge
      have hkp : Kp (OnB P gk) wr (wr.setCell ⟨P, 0, none⟩ (.slice A' base.length c')) := (Kp.refl _ wr).setCell (.inl (.inl rfl)) _
      obtain ⟨hS4, _⟩ := hS.stepG ⟨_, _, _, _, _, _, _, hnew⟩ hkp ⟨.inl ((ownBlock_cut _ _ _ _ _).trans hx.bl.1), .inl rfl, .inl rfl, .inl rfl, .inl rfl⟩
      have htk : sk.undo.take base.length = base := by rw [hku, HS.out.2.1, List.take_left]
      have H4 := hide (And.intro hS4 (And.intro htk (And.intro hkt hkc)))
      have j0 : (0 : Int) ≤ (base.length : Nat) := by omega
      have j1 : ((base.length : Nat) : Int) ≤ c' := by omega
      clear hS hx hku hkt hkc hrow hnew hkp hS4 htk hlen hsl hac
      go_wp2_with fail
      go_end0
      exact ⟨rfl, _, H4.out.1.stp, H4.out.2.2.2, H4.out.2.1, H4.out.2.2.1⟩
end Go.Proofs.YthnbhcfpfbimgaaGreat
