/- Texts put together: RwFind RwWithout RwWf. -/
import Derived.Test.YthnbhcfpfbimgaaGreatMl04
/- The walk of find: a field's place. -/
namespace Go.Proofs.YthnbhcfpfbimgaaGreat
open Go.RowKit
open Rw (El At Fld Lk Eqn U T W64)

theorem flat_get {α : Type} {c : Nat} (f : α → List Value) (hc : ∀ x, (f x).length = c) : ∀ (l : List α) (k j : Nat) (x : α), l[k]? = some x → j < c → (l.flatMap f)[k * c + j]? = (f x)[j]?
  | [], k, j, x, h, _ => by simp at h
  | a :: l, 0, j, x, h, hj => by
    simp at h; subst h
    rw [List.flatMap_cons, List.getElem?_append_left (by rw [hc]; omega)]
    simp
  | a :: l, k + 1, j, x, h, hj => by
    have hk := flat_get f hc l k j x (by simpa using h) hj
    rw [List.flatMap_cons, List.getElem?_append_right (by rw [hc, Nat.add_mul]; omega), hc, show (k + 1) * c + j - c = k * c + j by rw [Nat.add_mul]; omega]
    exact hk
theorem fdsV_get {l : List Fld} {k j : Nat} {f : Fld} (h : l[k]? = some f) (hj : j < 10) : (fdsV l)[k * 10 + j]? = (fdV f)[j]? := flat_get fdV fdV_len l k j f h hj
theorem lksV_get {l : List Lk} {k j : Nat} {f : Lk} (h : l[k]? = some f) (hj : j < 2) : (lksV l)[k * 2 + j]? = (lkV f)[j]? := flat_get lkV (fun _ => rfl) l k j f h hj
namespace Rw
def findI (fs : List Fld) (f : ByteArray) : Int := match findF fs f with
  | some i => i
  | none => -1
theorem findI_hit {fs : List Fld} {f : ByteArray} {k : Nat} {x : Fld} (h : ∀ (j : Nat) y, j < k → fs[j]? = some y → (y.name.toList == f.toList) = false) (hx : fs[k]? = some x) (he : (x.name.toList == f.toList) = true) : findI fs f = k := by
  have : findF fs f = some k := by
    unfold findF
    rw [List.findIdx?_eq_some_iff_getElem]
    obtain ⟨hk, hxe⟩ := List.getElem?_eq_some_iff.1 hx
    exact ⟨hk, by rw [hxe]; exact he, fun j hj => by simp [h j _ hj (List.getElem?_eq_getElem (by omega))]⟩
  unfold findI
  rw [this]
theorem findI_none {fs : List Fld} {f : ByteArray} (h : ∀ (j : Nat) y, fs[j]? = some y → (y.name.toList == f.toList) = false) : findI fs f = -1 := by
  have : findF fs f = none := by
    unfold findF
    rw [List.findIdx?_eq_none_iff]
    intro x hx
    obtain ⟨j, hj⟩ := List.mem_iff_getElem?.1 hx
    exact h j x hj
  unfold findI
  rw [this]
end Rw
def spC (v : Value) (fin : Int) (y : W64) : Array Value := #[v, .int .i64 fin, .int .u64 (y.toNat : Nat)]
set_option maxRecDepth 100000 in
set_option maxHeartbeats 1000000 in
theorem find_any (B : Nat) (fs : List Fld) (v : Value) (fin : Int) (y : W64) (f : ByteArray) (w : World) (hv : SlAt w B 59 10 v fs.length (fdsV fs)) :
    Calls Tryz.prog 33 #[.agg (spC v fin y), .string f] w fun e w' => e = .returned (.int .i64 (Rw.findI fs f)) ∧ Below w.heap.size w w' := by
  obtain ⟨A, c, rfl, h1, h2, h3, _⟩ := hv.ex
  have hba := below_laid w (.cells (spC (.slice A fs.length c) fin y) 99)
  have k0 : (w.alloc (.cells (spC (.slice A fs.length c) fin y) 99)).cell? ⟨w.heap.size, 0, none⟩ = some (.slice A fs.length c) := by rw [cell_block (heap_alloc_new w _)]; rfl
  have hlt : w.heap.size < (w.alloc (.cells (spC (.slice A fs.length c) fin y) 99)).heap.size := by rw [World.size_alloc]; omega
  have HX := hide (And.intro (hv.below hba) hba)
  clear hv hba
  have hmx : fs.length ≤ 9223372036854775807 := by unfold maxLen at h2; omega
  unfold spC at *
  go_enter Tryz.func33, Tryz.ntmps33
  go_wp2_with fail
  generalize w.alloc (.cells #[.slice A fs.length c, .int .i64 fin, .int .u64 (y.toNat : Nat)] 99) = W at *
  go_loopw [9] (fun i wr => ∃ k : Nat, k ≤ fs.length ∧ i = .int .i64 k ∧ (∀ (j : Nat) x, j < k → fs[j]? = some x → (x.name.toList == f.toList) = false) ∧ Below W.heap.size W wr) (fun i _ => fs.length - (intOf i).toNat)
  case atStart => exact ⟨0, Nat.zero_le _, rfl, fun j x hj => by omega, Below.refl _ _⟩
  case round =>
    obtain ⟨k, hk, rfl, heq, hd⟩ := hrel
    have k1 := (hd.cell (p := ⟨w.heap.size, 0, none⟩) hlt).trans k0
    by_cases hl : k < fs.length
    · obtain ⟨x, hx⟩ : ∃ x, fs[k]? = some x := ⟨fs[k], List.getElem?_eq_getElem hl⟩
      obtain ⟨A', c', e1, _, _, _, hc⟩ := (HX.out.1.below hd).ex
      cases e1
      obtain ⟨b, off, rfl, _, _, hcell⟩ := hc (by omega)
      have hcx := hcell (k * 10 + 0) (.string x.name) ((fdsV_get hx (by omega)).trans rfl)
      rw [show off + (k * 10 + 0) = off + k * 10 by omega] at hcx
      have hk0 : (k : Int) < fs.length := by omega
      have hk1 : (0 : Int) ≤ k := by omega
      have HE := hide (And.intro heq (And.intro hx hd))
      clear heq hx hd hcell hc
      cases hq : x.name.toList == f.toList
      · have HQ := hide hq
        go_wp2_with fail
        refine ⟨⟨k + 1, by omega, rfl, fun j z hj hz => ?_, HE.out.2.2⟩, by simp [intOf]; omega⟩
        rcases Nat.lt_or_ge j k with h | h
        · exact HE.out.1 j z h hz
        · obtain rfl : j = k := by omega
          rw [HE.out.2.1] at hz
          cases hz
          exact HQ.out
      · have HQ := hide hq
        go_wp2_with fail
        go_ret
        exact ⟨by rw [Rw.findI_hit HE.out.1 HE.out.2.1 HQ.out]; rfl, HX.out.2.trans (HE.out.2.2.mono (Nat.le_of_lt hlt))⟩
    · obtain rfl : k = fs.length := by omega
      have hF : Rw.findI fs f = -1 := Rw.findI_none fun j x hx => heq j x (List.getElem?_eq_some_iff.1 hx).1 hx
      have HE := hide (And.intro hF hd)
      clear hF heq hd
      go_wp2_with fail
      go_ret
      exact ⟨by rw [HE.out.1]; rfl, HX.out.2.trans (HE.out.2.mono (Nat.le_of_lt hlt))⟩
end Go.Proofs.YthnbhcfpfbimgaaGreat
/- The walk of without: the fields of one row that another one has not. -/
namespace Go.Proofs.YthnbhcfpfbimgaaGreat
open Go.RowKit
open Rw (El At Fld Lk Eqn U T W64)

theorem info_fd : (Tryz.prog.info? 59).map (fun i => (i.zero, i.size, i.bytes)) = some (some (.agg #[.string ByteArray.empty, .int .i64 0, .int .u64 0, .int .u64 0, .int .u64 0, .int .u64 0, .int .u64 0, .int .u64 0, .int .u64 0, .int .u64 0]), 10, 88) := by kernel_rfl
theorem fd_news {w : World} {g : Nat} {x : Fld} (h : w.heap[g]? = some (.cells #[.string x.name, .int .i64 x.at_.var, .int .u64 x.at_.el.e0, .int .u64 x.at_.el.e1, .int .u64 x.at_.el.e2, .int .u64 x.at_.el.e3, .int .u64 x.at_.el.e4, .int .u64 x.at_.el.e5, .int .u64 x.at_.el.e6, .int .u64 x.at_.el.e7] 59 (0, 0))) :
    Src Tryz.prog 10 54 (.slice (some ⟨g, 0, none⟩) 1 1) 1 [.string x.name, .int .i64 x.at_.var, .int .u64 x.at_.el.e0, .int .u64 x.at_.el.e1, .int .u64 x.at_.el.e2, .int .u64 x.at_.el.e3, .int .u64 x.at_.el.e4, .int .u64 x.at_.el.e5, .int .u64 x.at_.el.e6, .int .u64 x.at_.el.e7] w :=
  Src.ofSlice _ Tryz.underlying54 ⟨g, 0, none⟩ 1 1 _ rfl (World.news_of_block (cs := #[.string x.name, .int .i64 x.at_.var, .int .u64 x.at_.el.e0, .int .u64 x.at_.el.e1, .int .u64 x.at_.el.e2, .int .u64 x.at_.el.e3, .int .u64 x.at_.el.e4, .int .u64 x.at_.el.e5, .int .u64 x.at_.el.e6, .int .u64 x.at_.el.e7]) (t := 59) (fr := (0, 0)) h) (by simp [Value.oneCell'])
theorem fdsV_snoc (l : List Fld) (e : Fld) : fdsV (l ++ [e]) = fdsV l ++ fdV e := by simp [fdsV]
namespace Rw
theorem hasF_iff {fs : List Fld} {f : ByteArray} : (findI fs f < 0) = (hasF fs f = false) := by
  unfold findI findF hasF
  cases h : fs.findIdx? fun x => x.name.toList == f.toList with
  | none =>
    rw [List.findIdx?_eq_none_iff] at h
    simp only [List.any_eq_false, eq_iff_iff]
    exact ⟨fun _ x hx => by simp [h x hx], fun _ => by omega⟩
  | some i =>
    rw [List.findIdx?_eq_some_iff_getElem] at h
    obtain ⟨hi, h1, _⟩ := h
    simp only [eq_iff_iff]
    refine ⟨fun h => by omega, fun h => ?_⟩
    rw [List.any_eq_false] at h
    exact absurd h1 (h _ (List.getElem_mem hi))
theorem without_snoc {a b : List Fld} {k : Nat} {x : Fld} (hx : a[k]? = some x) : without (a.take (k + 1)) b = without (a.take k) b ++ if hasF b x.name then [] else [x] := by
  unfold without
  rw [List.take_add_one, hx]
  simp only [Option.toList_some, List.filter_append, List.filter_cons, List.filter_nil]
  cases hasF b x.name <;> rfl
end Rw
theorem boxes2' (w : World) (o1 o2 : Obj) : Below w.heap.size w ((w.alloc o1).alloc o2) ∧
    ((w.alloc o1).alloc o2).heap[w.heap.size]? = some o1 ∧ ((w.alloc o1).alloc o2).heap[w.heap.size + 1]? = some o2 ∧ ((w.alloc o1).alloc o2).heap.size = w.heap.size + 2 := by
  refine ⟨(below_laid w _).alloc (by simp) _, ?_, ?_, by simp⟩
  · rw [heap_at, if_neg (by rw [World.size_alloc]; omega), heap_at, if_pos rfl]
  · rw [heap_at, if_pos (by rw [World.size_alloc])]
/-- The fields so far, in a row of one's own. -/
structure Wo (W wr : World) (v : Value) (l : List Fld) : Prop where
  row : RowZ wr 59 10 v l.length (fdsV l)
  own : ∀ g, v.ownBlock = some g → W.heap.size ≤ g
  below : Below W.heap.size W wr
structure RetF (w : World) (B : Nat) (l : List Fld) (e : Ending) (w' : World) : Prop where
  ex : ∃ v, e = .returned v ∧ SlAt w' B 59 10 v l.length (fdsV l) ∧ Below w.heap.size w w'
set_option maxRecDepth 100000 in
set_option maxHeartbeats 4000000 in
theorem without_any (B : Nat) (a b : List Fld) (va vb : Value) (fa fb : Int) (ya yb : W64) (w : World) (ha : SlAt w B 59 10 va a.length (fdsV a)) (hb : SlAt w B 59 10 vb b.length (fdsV b)) (hn : a.length ≤ 1000000000) :
    Calls Tryz.prog 88 #[.agg (spC va fa ya), .agg (spC vb fb yb)] w fun e w' => RetF w B (Rw.without a b) e w' := by
  obtain ⟨i1, hj, hy0, hy1, hy2⟩ := info_parts info_fd
  obtain ⟨Aa, ca, rfl, h1, h2, _, _⟩ := ha.ex
  obtain ⟨hb3, e0, e1, hs3⟩ := boxes2' w (.cells (spC (.slice Aa a.length ca) fa ya) 99) (.cells (spC vb fb yb) 99)
  have k0 : ((w.alloc (.cells (spC (.slice Aa a.length ca) fa ya) 99)).alloc (.cells (spC vb fb yb) 99)).cell? ⟨w.heap.size, 0, none⟩ = some (.slice Aa a.length ca) := by rw [cell_block e0]; rfl
  have HX := hide (And.intro (ha.below hb3) (And.intro (hb.below hb3) (And.intro hb3 (And.intro e1 hs3))))
  clear ha hb hb3 e0 e1 hs3
  unfold spC at *
  go_enter Tryz.func88, Tryz.ntmps88
  go_wp2_with fail
  generalize (w.alloc (.cells #[.slice Aa a.length ca, .int .i64 fa, .int .u64 (ya.toNat : Nat)] 99)).alloc (.cells #[vb, .int .i64 fb, .int .u64 (yb.toNat : Nat)] 99) = W at *
  go_loopw [11, 5] (fun i v wr => ∃ k : Nat, k ≤ a.length ∧ i = .int .i64 k ∧ Wo W wr v (Rw.without (a.take k) b)) (fun i _ _ => a.length - (intOf i).toNat)
  case atStart => exact ⟨0, Nat.zero_le _, rfl, RowZ.nil, fun g hg => (by cases hg), Below.refl _ _⟩
  case round =>
    obtain ⟨k, hk, rfl, hw⟩ := hrel
    obtain ⟨hr, ho, hd⟩ := hw
    obtain ⟨Ar, cr, rfl, hrc, hrm⟩ := RowZ.form hr
    have hlw : (Rw.without (a.take k) b).length ≤ k := by unfold Rw.without; exact Nat.le_trans (List.length_filter_le _ _) (by simp; omega)
    by_cases hl : k < a.length
    · obtain ⟨x, hx⟩ : ∃ x, a[k]? = some x := ⟨a[k], List.getElem?_eq_getElem hl⟩
      obtain ⟨A', c', e1, _, _, _, hc⟩ := (HX.out.1.below hd).ex
      cases e1
      obtain ⟨b0, off, rfl, _, _, hcell⟩ := hc (by omega)
      have c0 := hcell (k * 10 + 0) (.string x.name) ((fdsV_get hx (by omega)).trans rfl)
      rw [show off + (k * 10 + 0) = off + k * 10 by omega] at c0
      have c1 := hcell (k * 10 + 1) (.int .i64 x.at_.var) ((fdsV_get hx (by omega)).trans rfl)
      rw [show off + (k * 10 + 1) = off + k * 10 + 1 by omega] at c1
      have c2 := hcell (k * 10 + 2) (.int .u64 x.at_.el.e0) ((fdsV_get hx (by omega)).trans rfl)
      rw [show off + (k * 10 + 2) = off + k * 10 + 2 by omega] at c2
      have c3 := hcell (k * 10 + 3) (.int .u64 x.at_.el.e1) ((fdsV_get hx (by omega)).trans rfl)
      rw [show off + (k * 10 + 3) = off + k * 10 + 3 by omega] at c3
      have c4 := hcell (k * 10 + 4) (.int .u64 x.at_.el.e2) ((fdsV_get hx (by omega)).trans rfl)
      rw [show off + (k * 10 + 4) = off + k * 10 + 4 by omega] at c4
      have c5 := hcell (k * 10 + 5) (.int .u64 x.at_.el.e3) ((fdsV_get hx (by omega)).trans rfl)
      rw [show off + (k * 10 + 5) = off + k * 10 + 5 by omega] at c5
      have c6 := hcell (k * 10 + 6) (.int .u64 x.at_.el.e4) ((fdsV_get hx (by omega)).trans rfl)
      rw [show off + (k * 10 + 6) = off + k * 10 + 6 by omega] at c6
      have c7 := hcell (k * 10 + 7) (.int .u64 x.at_.el.e5) ((fdsV_get hx (by omega)).trans rfl)
      rw [show off + (k * 10 + 7) = off + k * 10 + 7 by omega] at c7
      have c8 := hcell (k * 10 + 8) (.int .u64 x.at_.el.e6) ((fdsV_get hx (by omega)).trans rfl)
      rw [show off + (k * 10 + 8) = off + k * 10 + 8 by omega] at c8
      have c9 := hcell (k * 10 + 9) (.int .u64 x.at_.el.e7) ((fdsV_get hx (by omega)).trans rfl)
      rw [show off + (k * 10 + 9) = off + k * 10 + 9 by omega] at c9
      have hk0 : (k : Int) < a.length := by omega
      have hk1 : (0 : Int) ≤ k := by omega
      have hba := below_laid wr (.cells #[.string x.name, .int .i64 x.at_.var, .int .u64 x.at_.el.e0, .int .u64 x.at_.el.e1, .int .u64 x.at_.el.e2, .int .u64 x.at_.el.e3, .int .u64 x.at_.el.e4, .int .u64 x.at_.el.e5, .int .u64 x.at_.el.e6, .int .u64 x.at_.el.e7] 59)
      have hd2 := hd.alloc (o := .cells #[.string x.name, .int .i64 x.at_.var, .int .u64 x.at_.el.e0, .int .u64 x.at_.el.e1, .int .u64 x.at_.el.e2, .int .u64 x.at_.el.e3, .int .u64 x.at_.el.e4, .int .u64 x.at_.el.e5, .int .u64 x.at_.el.e6, .int .u64 x.at_.el.e7] 59) hd.size
      have g1 := (hd2.block _ (blk_lt HX.out.2.2.2.1)).trans HX.out.2.2.2.1
      have d0 : (wr.alloc (.cells #[.string x.name, .int .i64 x.at_.var, .int .u64 x.at_.el.e0, .int .u64 x.at_.el.e1, .int .u64 x.at_.el.e2, .int .u64 x.at_.el.e3, .int .u64 x.at_.el.e4, .int .u64 x.at_.el.e5, .int .u64 x.at_.el.e6, .int .u64 x.at_.el.e7] 59)).cell? ⟨w.heap.size + 1, 0, none⟩ = some vb := by rw [cell_block g1]; rfl
      have d1 : (wr.alloc (.cells #[.string x.name, .int .i64 x.at_.var, .int .u64 x.at_.el.e0, .int .u64 x.at_.el.e1, .int .u64 x.at_.el.e2, .int .u64 x.at_.el.e3, .int .u64 x.at_.el.e4, .int .u64 x.at_.el.e5, .int .u64 x.at_.el.e6, .int .u64 x.at_.el.e7] 59)).cell? ⟨w.heap.size + 1, 1, none⟩ = some (.int .i64 fb) := by rw [cell_block g1]; rfl
      have d2 : (wr.alloc (.cells #[.string x.name, .int .i64 x.at_.var, .int .u64 x.at_.el.e0, .int .u64 x.at_.el.e1, .int .u64 x.at_.el.e2, .int .u64 x.at_.el.e3, .int .u64 x.at_.el.e4, .int .u64 x.at_.el.e5, .int .u64 x.at_.el.e6, .int .u64 x.at_.el.e7] 59)).cell? ⟨w.heap.size + 1, 2, none⟩ = some (.int .u64 (yb.toNat : Nat)) := by rw [cell_block g1]; rfl
      have HC := hide (find_any B b vb fb yb x.name _ (HX.out.2.1.below hd2))
      have HR := hide (And.intro hr (And.intro ho (And.intro hd2 (And.intro hx hba))))
      have hkm : k + 1 ≤ 1000000001 := by omega
      clear hr ho hd2 hx hba hd hcell hc g1
      cases hq : Rw.hasF b x.name with
      | false =>
        have hneg : Rw.findI b x.name < 0 := by rw [Rw.hasF_iff]; exact hq
        have HQ := hide hq
        clear hq
        generalize Rw.findI b x.name = fi at hneg HC
        go_wp2_with (first | (go_at_call 33; refine (HC.out).mono ?_; rintro e w5 ⟨rfl, h5⟩; have H5 := hide h5; have q5 : w5.heap[wr.heap.size]? = some (.cells #[.string x.name, .int .i64 x.at_.var, .int .u64 x.at_.el.e0, .int .u64 x.at_.el.e1, .int .u64 x.at_.el.e2, .int .u64 x.at_.el.e3, .int .u64 x.at_.el.e4, .int .u64 x.at_.el.e5, .int .u64 x.at_.el.e6, .int .u64 x.at_.el.e7] 59 (0, 0)) := (h5.block _ (by rw [World.size_alloc]; omega)).trans (heap_alloc_new wr _); have m0 : w5.cell? ⟨wr.heap.size, 0, none⟩ = some (.string x.name) := (by rw [cell_block q5]; rfl); have m1 : w5.cell? ⟨wr.heap.size, 1, none⟩ = some (.int .i64 x.at_.var) := (by rw [cell_block q5]; rfl); have m2 : w5.cell? ⟨wr.heap.size, 2, none⟩ = some (.int .u64 x.at_.el.e0) := (by rw [cell_block q5]; rfl); have m3 : w5.cell? ⟨wr.heap.size, 3, none⟩ = some (.int .u64 x.at_.el.e1) := (by rw [cell_block q5]; rfl); have m4 : w5.cell? ⟨wr.heap.size, 4, none⟩ = some (.int .u64 x.at_.el.e2) := (by rw [cell_block q5]; rfl); have m5 : w5.cell? ⟨wr.heap.size, 5, none⟩ = some (.int .u64 x.at_.el.e3) := (by rw [cell_block q5]; rfl); have m6 : w5.cell? ⟨wr.heap.size, 6, none⟩ = some (.int .u64 x.at_.el.e4) := (by rw [cell_block q5]; rfl); have m7 : w5.cell? ⟨wr.heap.size, 7, none⟩ = some (.int .u64 x.at_.el.e5) := (by rw [cell_block q5]; rfl); have m8 : w5.cell? ⟨wr.heap.size, 8, none⟩ = some (.int .u64 x.at_.el.e6) := (by rw [cell_block q5]; rfl); have m9 : w5.cell? ⟨wr.heap.size, 9, none⟩ = some (.int .u64 x.at_.el.e7) := (by rw [cell_block q5]; rfl); have Q5 := hide q5; clear h5 q5) | (at_builtin; go_must (refine app_rowz rfl (.tmp 20) (.tmp 22) 54 54 rfl 59 i1 _ 10 88 Tryz.underlying54 hj hy0 hy1 hy2 rfl (.slice Ar (Rw.without (a.take k) b).length cr) (Rw.without (a.take k) b).length (fdsV (Rw.without (a.take k) b)) rfl (((HR.out.1.below HR.out.2.2.2.2).below H5.out).below (below_laid w5 _)) _ 1 [.string x.name, .int .i64 x.at_.var, .int .u64 x.at_.el.e0, .int .u64 x.at_.el.e1, .int .u64 x.at_.el.e2, .int .u64 x.at_.el.e3, .int .u64 x.at_.el.e4, .int .u64 x.at_.el.e5, .int .u64 x.at_.el.e6, .int .u64 x.at_.el.e7] rfl (fd_news (heap_alloc_new w5 _)) (by unfold maxLen; omega) (by omega) ?_); intro A' c' w' hr hg hob; have HG := hide (And.intro hr (And.intro hg hob)); clear hr hg hob))
        have hbl : Below W.heap.size W w5 := HR.out.2.2.1.trans (H5.out.mono HR.out.2.2.1.size)
        have hbl2 := hbl.alloc hbl.size (.cells #[.string x.name, .int .i64 x.at_.var, .int .u64 x.at_.el.e0, .int .u64 x.at_.el.e1, .int .u64 x.at_.el.e2, .int .u64 x.at_.el.e3, .int .u64 x.at_.el.e4, .int .u64 x.at_.el.e5, .int .u64 x.at_.el.e6, .int .u64 x.at_.el.e7] 59)
        refine ⟨⟨k + 1, by omega, rfl, ?_⟩, by simp [intOf]; omega⟩
        rw [Rw.without_snoc HR.out.2.2.2.1, HQ.out, if_neg (by simp)]
        refine ⟨?_, fun q hq => ?_, hbl2.grown HG.out.2.1 hbl2.size HR.out.2.1⟩
        · rw [List.length_append, fdsV_snoc]; exact HG.out.1
        · rcases HG.out.2.2 with e | e
          · rw [e] at hq; exact HR.out.2.1 q hq
          · rw [e] at hq; injection hq with hq; rw [← hq]; exact hbl2.size
      | true =>
        have hneg : ¬ Rw.findI b x.name < 0 := by rw [Rw.hasF_iff, hq]; simp
        have HQ := hide hq
        clear hq
        generalize Rw.findI b x.name = fi at hneg HC
        go_wp2_with (go_at_call 33; refine (HC.out).mono ?_; rintro e w5 ⟨rfl, h5⟩; have H5 := hide h5; clear h5)
        refine ⟨⟨k + 1, by omega, rfl, ?_⟩, by simp [intOf]; omega⟩
        rw [Rw.without_snoc HR.out.2.2.2.1, HQ.out, if_pos rfl, List.append_nil]
        exact ⟨(HR.out.1.below HR.out.2.2.2.2).below H5.out, HR.out.2.1, HR.out.2.2.1.trans (H5.out.mono HR.out.2.2.1.size)⟩
    · obtain rfl : k = a.length := by omega
      rw [List.take_length] at hr hlw
      have HR := hide (And.intro hr (And.intro ho hd))
      clear hr ho hd
      go_wp2_with fail
      go_ret
      refine ⟨⟨_, rfl, ?_, HX.out.2.2.1.trans (HR.out.2.2.mono (by have := HX.out.2.2.2.2; omega))⟩⟩
      exact SlAt.of_row (by rw [List.take_length]; exact HR.out.1)
end Go.Proofs.YthnbhcfpfbimgaaGreat
/- Plain facts on rows: bound rows lead onwards. -/
namespace Go.Proofs.YthnbhcfpfbimgaaGreat
namespace Rw

def tot (l : List Row) : Nat := (l.map fun x => x.fields.length).sum
theorem tot_drop (l : List Row) : ∀ {i t : Nat}, i ≤ t → tot (l.drop t) ≤ tot (l.drop i) := fun {i t} h => by
  obtain ⟨d, rfl⟩ : ∃ d, t = i + d := ⟨t - i, by omega⟩
  clear h
  induction d with
  | zero => exact Nat.le_refl _
  | succ d ih =>
    refine Nat.le_trans ?_ ih
    rw [show i + (d + 1) = (i + d) + 1 by omega, ← List.drop_drop (i := 1) (j := i + d)]
    cases h : l.drop (i + d) with
    | nil => simp [tot]
    | cons a r => simp [tot]
theorem tot_at {l : List Row} {i : Nat} {x : Row} (h : l[i]? = some x) : tot (l.drop i) = x.fields.length + tot (l.drop (i + 1)) := by
  obtain ⟨hi, hx⟩ := List.getElem?_eq_some_iff.1 h
  rw [List.drop_eq_getElem_cons hi, hx]
  simp [tot]
/-- The bound rows lead to later ones, and the own rows are there. -/
structure Wf (rows : List Row) : Prop where
  tail : ∀ (i : Nat) r, rows[i]? = some r → r.bound = true → r.tail < 0 ∨ ((i : Int) < r.tail ∧ r.tail < rows.length)
/-- One step of spread. -/
theorem spread_bound {rows : List Row} {m : Nat} {s : Sp} {x : Row} (h0 : 0 ≤ s.fin) (hx : rows[s.fin.toNat]? = some x) (hb : x.bound = true) : spread rows (m + 1) s = spread rows m ⟨s.fields ++ x.fields, x.tail, s.why ||| x.why⟩ := by
  rw [spread, if_neg (by omega), hx]
  simp [hb]
theorem spread_free {rows : List Row} {m : Nat} {s : Sp} {x : Row} (hx : rows[s.fin.toNat]? = some x) (hb : x.bound = false) : spread rows m s = s := by
  cases m with
  | zero => rfl
  | succ m =>
    rw [spread, hx]
    simp [hb]
theorem spread_neg {rows : List Row} {m : Nat} {s : Sp} (h : s.fin < 0) : spread rows m s = s := by
  cases m with
  | zero => rfl
  | succ m => rw [spread, if_pos h]
/-- Where a spread stands: all is in sight. -/
structure Go (rows : List Row) (N m : Nat) (s R : Sp) : Prop where
  res : spread rows m s = R
  fin : s.fin < 0 ∨ (s.fin < rows.length ∧ rows.length - s.fin.toNat < m)
  len : s.fields.length + (if s.fin < 0 then 0 else tot (rows.drop s.fin.toNat)) ≤ N
theorem Go.step {rows : List Row} {N m : Nat} {s R : Sp} {x : Row} (h : Go rows N m s R) (hw : Wf rows) (h0 : 0 ≤ s.fin) (hx : rows[s.fin.toNat]? = some x) (hb : x.bound = true) : Go rows N (m - 1) ⟨s.fields ++ x.fields, x.tail, s.why ||| x.why⟩ R ∧ m - 1 < m := by
  obtain ⟨h1, h2, h3⟩ := h
  have ht := hw.tail _ _ hx hb
  have hm : 0 < m := by omega
  obtain ⟨k, rfl⟩ : ∃ k, m = k + 1 := ⟨m - 1, by omega⟩
  refine ⟨⟨?_, ?_, ?_⟩, by omega⟩
  · rw [← h1, spread_bound h0 hx hb]; rfl
  · rcases ht with ht | ht
    · exact .inl ht
    · exact .inr ⟨ht.2, by show rows.length - x.tail.toNat < k + 1 - 1; omega⟩
  · rw [if_neg (by omega), tot_at hx] at h3
    show (s.fields ++ x.fields).length + (if x.tail < 0 then 0 else tot (rows.drop x.tail.toNat)) ≤ N
    rw [List.length_append]
    split
    · omega
    · have := tot_drop rows (i := s.fin.toNat + 1) (t := x.tail.toNat) (by omega)
      omega
theorem Go.start {rows : List Row} {fs : List Fld} {at_ : Int} {N : Nat} (ha : at_ < rows.length) (hN : fs.length + tot rows ≤ N) : Go rows N (rows.length + 1) ⟨fs, at_, 0⟩ (spread rows (rows.length + 1) ⟨fs, at_, 0⟩) := by
  refine ⟨rfl, ?_, ?_⟩
  · by_cases h : at_ < 0
    · exact .inl h
    · exact .inr ⟨ha, by show rows.length - at_.toNat < rows.length + 1; omega⟩
  · show fs.length + (if at_ < 0 then 0 else tot (rows.drop at_.toNat)) ≤ N
    split
    · omega
    · have := tot_drop rows (i := 0) (t := at_.toNat) (by omega)
      rw [List.drop_zero] at this
      omega
end Rw
open Rw (W64)
theorem or_why (x y : W64) : IntKind.u64.wrap (((BitVec.ofInt 64 ((x.toNat : Nat) : Int)) ||| (BitVec.ofInt 64 ((y.toNat : Nat) : Int))).toNat : Int) = (((x ||| y).toNat : Nat) : Int) := by
  have h : ∀ z : W64, BitVec.ofInt 64 ((z.toNat : Nat) : Int) = z := fun z => by
    rw [BitVec.ofInt_natCast]
    exact BitVec.ofNat_toNat 64 z |>.trans (by simp)
  rw [h, h]
  have : (x ||| y).toNat < 2 ^ 64 := (x ||| y).isLt
  generalize (x ||| y).toNat = n at *
  simp [IntKind.wrap, IntKind.bits, IntKind.signed]
  omega
theorem bits_or (x y : W64) : bits BinOp.or IntKind.u64 ((x.toNat : Nat) : Int) ((y.toNat : Nat) : Int) = (((x ||| y).toNat : Nat) : Int) := or_why x y
end Go.Proofs.YthnbhcfpfbimgaaGreat
