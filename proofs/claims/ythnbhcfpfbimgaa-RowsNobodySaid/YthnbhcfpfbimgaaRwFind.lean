/- The walk of find: a field's place. -/
import Derived.Test.YthnbhcfpfbimgaaRwPair
namespace Go.Proofs.Ythnbhcfpfbimgaa
open Go.RowKit
open Rw (El At Fld Lk Eqn U T W64)

theorem flat_get {α : Type} {c : Nat} (f : α → List Value) (hc : ∀ x, (f x).length = c) : ∀ (l : List α) (k j : Nat) (x : α), l[k]? = some x → j < c → (l.flatMap f)[k * c + j]? = (f x)[j]?
  | [], k, j, x, h, _ => by simp at h
  | a :: l, 0, j, x, h, hj => by
    simp at h; subst h
    rw [List.flatMap_cons, List.getElem?_append_left (by rw [hc]; omega)]
    simp
  | a :: l, k + 1, j, x, h, hj => by
    have hk := flat_get f hc l k j x (by simpa using h) hj
    rw [List.flatMap_cons, List.getElem?_append_right (by rw [hc, Nat.add_mul]; omega), hc, show (k + 1) * c + j - c = k * c + j by rw [Nat.add_mul]; omega]
    exact hk
theorem fdsV_get {l : List Fld} {k j : Nat} {f : Fld} (h : l[k]? = some f) (hj : j < 10) : (fdsV l)[k * 10 + j]? = (fdV f)[j]? := flat_get fdV fdV_len l k j f h hj
theorem lksV_get {l : List Lk} {k j : Nat} {f : Lk} (h : l[k]? = some f) (hj : j < 2) : (lksV l)[k * 2 + j]? = (lkV f)[j]? := flat_get lkV (fun _ => rfl) l k j f h hj
namespace Rw
def findI (fs : List Fld) (f : ByteArray) : Int := match findF fs f with
  | some i => i
  | none => -1
theorem findI_hit {fs : List Fld} {f : ByteArray} {k : Nat} {x : Fld} (h : ∀ (j : Nat) y, j < k → fs[j]? = some y → (y.name.toList == f.toList) = false) (hx : fs[k]? = some x) (he : (x.name.toList == f.toList) = true) : findI fs f = k := by
  have : findF fs f = some k := by
    unfold findF
    rw [List.findIdx?_eq_some_iff_getElem]
    obtain ⟨hk, hxe⟩ := List.getElem?_eq_some_iff.1 hx
    exact ⟨hk, by rw [hxe]; exact he, fun j hj => by simp [h j _ hj (List.getElem?_eq_getElem (by omega))]⟩
  unfold findI
  rw [this]
theorem findI_none {fs : List Fld} {f : ByteArray} (h : ∀ (j : Nat) y, fs[j]? = some y → (y.name.toList == f.toList) = false) : findI fs f = -1 := by
  have : findF fs f = none := by
    unfold findF
    rw [List.findIdx?_eq_none_iff]
    intro x hx
    obtain ⟨j, hj⟩ := List.mem_iff_getElem?.1 hx
    exact h j x hj
  unfold findI
  rw [this]
end Rw
def spC (v : Value) (fin : Int) (y : W64) : Array Value := #[v, .int .i64 fin, .int .u64 (y.toNat : Nat)]
set_option maxRecDepth 100000 in
set_option maxHeartbeats 1000000000 in
theorem find_any (B : Nat) (fs : List Fld) (v : Value) (fin : Int) (y : W64) (f : ByteArray) (w : World) (hv : SlAt w B 60 10 v fs.length (fdsV fs)) :
    Calls Try.prog 38 #[.agg (spC v fin y), .string f] w fun e w' => e = .returned (.int .i64 (Rw.findI fs f)) ∧ Below w.heap.size w w' := by
  obtain ⟨A, c, rfl, h1, h2, h3, _⟩ := hv.ex
  have hba := below_laid w (.cells (spC (.slice A fs.length c) fin y) 101)
  have k0 : (w.alloc (.cells (spC (.slice A fs.length c) fin y) 101)).cell? ⟨w.heap.size, 0, none⟩ = some (.slice A fs.length c) := by rw [cell_block (heap_alloc_new w _)]; rfl
  have hlt : w.heap.size < (w.alloc (.cells (spC (.slice A fs.length c) fin y) 101)).heap.size := by rw [World.size_alloc]; omega
  have HX := hide (And.intro (hv.below hba) hba)
  clear hv hba
  have hmx : fs.length ≤ 9223372036854775807 := by unfold maxLen at h2; omega
  unfold spC at *
  go_enter Try.func38, Try.ntmps38
  go_wp2_with fail
  generalize w.alloc (.cells #[.slice A fs.length c, .int .i64 fin, .int .u64 (y.toNat : Nat)] 101) = W at *
  go_loopw [9] (fun i wr => ∃ k : Nat, k ≤ fs.length ∧ i = .int .i64 k ∧ (∀ (j : Nat) x, j < k → fs[j]? = some x → (x.name.toList == f.toList) = false) ∧ Below W.heap.size W wr) (fun i _ => fs.length - (intOf i).toNat)
  case atStart => exact ⟨0, Nat.zero_le _, rfl, fun j x hj => by omega, Below.refl _ _⟩
  case round =>
    obtain ⟨k, hk, rfl, heq, hd⟩ := hrel
    have k1 := (hd.cell (p := ⟨w.heap.size, 0, none⟩) hlt).trans k0
    by_cases hl : k < fs.length
    · obtain ⟨x, hx⟩ : ∃ x, fs[k]? = some x := ⟨fs[k], List.getElem?_eq_getElem hl⟩
      obtain ⟨A', c', e1, _, _, _, hc⟩ := (HX.out.1.below hd).ex
      cases e1
      obtain ⟨b, off, rfl, _, _, hcell⟩ := hc (by omega)
      have hcx := hcell (k * 10 + 0) (.string x.name) ((fdsV_get hx (by omega)).trans rfl)
      rw [show off + (k * 10 + 0) = off + k * 10 by omega] at hcx
      have hk0 : (k : Int) < fs.length := by omega
      have hk1 : (0 : Int) ≤ k := by omega
      have HE := hide (And.intro heq (And.intro hx hd))
      clear heq hx hd hcell hc
      cases hq : x.name.toList == f.toList
      · have HQ := hide hq
        go_wp2_with fail
        refine ⟨⟨k + 1, by omega, rfl, fun j z hj hz => ?_, HE.out.2.2⟩, by simp [intOf]; omega⟩
        rcases Nat.lt_or_ge j k with h | h
        · exact HE.out.1 j z h hz
        · obtain rfl : j = k := by omega
          rw [HE.out.2.1] at hz
          cases hz
          exact HQ.out
      · have HQ := hide hq
        go_wp2_with fail
        go_ret
        exact ⟨by rw [Rw.findI_hit HE.out.1 HE.out.2.1 HQ.out]; rfl, HX.out.2.trans (HE.out.2.2.mono (Nat.le_of_lt hlt))⟩
    · obtain rfl : k = fs.length := by omega
      have hF : Rw.findI fs f = -1 := Rw.findI_none fun j x hx => heq j x (List.getElem?_eq_some_iff.1 hx).1 hx
      have HE := hide (And.intro hF hd)
      clear hF heq hd
      go_wp2_with fail
      go_ret
      exact ⟨by rw [HE.out.1]; rfl, HX.out.2.trans (HE.out.2.mono (Nat.le_of_lt hlt))⟩
end Go.Proofs.Ythnbhcfpfbimgaa
