/- The walks of In and Ints: a number in a list, two lists alike. -/
import Derived.Test.YtgmppddlgbkjmaaKnMem
import Derived.BigQuiet
import Derived.Deep.DeepCutAuto
namespace Go.Proofs.Ytgmppddlgbkjmaa
open Go.RowKit

namespace Kn
def inB (l : List Nat) (j : Int) : Bool := l.any fun x => decide ((x : Int) = j)
theorem inB_iff (l : List Nat) (k : Nat) : inB l k = true ↔ k ∈ l := by
  simp only [inB, List.any_eq_true, decide_eq_true_eq]
  constructor
  · rintro ⟨x, hx, he⟩
    obtain rfl : x = k := by omega
    exact hx
  · intro h
    exact ⟨k, h, rfl⟩
end Kn
/-- An element of a list of numbers, in memory. -/
theorem Has.int {w : World} {B n : Nat} {A : Option Addr} {l : List Nat} (h : Has w B A n (intsV l)) {k : Nat} (hk : k < n) : ∃ b off x, A = some ⟨b, off, none⟩ ∧ b < B ∧ l[k]? = some x ∧ w.cell? ⟨b, off + k, none⟩ = some (.int .i64 (x : Nat)) := by
  obtain ⟨b, off, u, h1, h2, h3, h4⟩ := h.at_ hk
  have hl : k < l.length := by have := h.1; rw [intsV_len] at this; omega
  have : (intsV l)[k]? = some (.int .i64 (l[k] : Nat)) := by simp [intsV, hl]
  rw [this] at h3
  injection h3 with h3
  exact ⟨b, off, l[k], h1, h2, List.getElem?_eq_getElem hl, by rw [h4, h3]⟩
theorem any_split {l : List Nat} {p : Nat → Bool} : l.any p = true ↔ ∃ (k : Nat) (x : Nat), l[k]? = some x ∧ p x = true := by
  rw [List.any_eq_true]
  constructor
  · rintro ⟨x, hx, hp⟩
    obtain ⟨k, hk⟩ := List.mem_iff_getElem?.1 hx
    exact ⟨k, x, hk, hp⟩
  · rintro ⟨k, x, hk, hp⟩
    exact ⟨x, List.mem_of_getElem? hk, hp⟩
set_option maxHeartbeats 800000 in
theorem in_any (n c B : Nat) (A : Option Addr) (l : List Nat) (j : Int) (w : World) (h : Has w B A n (intsV l)) (hn : n ≤ 1000000) :
    Calls Try.prog 15 #[.slice A n c, .int .i64 j] w fun e w' => e = .returned (.bool (Kn.inB l j)) ∧ w = w' := by
  have hl : l.length = n := by have := h.1; rw [intsV_len] at this; exact this
  have H := hide h
  have HL := hide hl
  clear h hl
  go_enter Try.func15, Try.ntmps15
  go_wp2_with fail
  go_loop [5] (fun v => ∃ k : Nat, k ≤ n ∧ v = .int .i64 (k : Nat) ∧ ∀ (i x : Nat), i < k → l[i]? = some x → (x : Int) ≠ j) (fun v => n - (intOf v).toNat)
  case atStart => exact ⟨0, Nat.zero_le _, rfl, fun i x hi => by omega⟩
  case round =>
    obtain ⟨k, hk, rfl, hno⟩ := hrel
    have HN := hide hno
    clear hno
    by_cases hlt : k < n
    · obtain ⟨b, off, x, rfl, _, hx, hc⟩ := H.out.int hlt
      have k0 : (0 : Int) ≤ k := by omega
      have k1 : (k : Int) < n := by omega
      have HX := hide hx
      clear hx
      by_cases he : (x : Int) = j
      · subst he
        go_wp2_with fail
        go_ret
        exact ⟨ret_bool ⟨fun _ => any_split.2 ⟨k, x, HX.out, by simp⟩, fun _ => rfl⟩, rfl⟩
      · have he2 : ((x : Int) == j) = false := by simp [he]
        have HE := hide he
        clear he
        go_wp2_with fail
        refine ⟨⟨k + 1, by omega, by congr 1, fun i y hi hy => ?_⟩, by simp only [intOf]; omega⟩
        by_cases hik : i = k
        · subst hik
          have := HX.out
          rw [this] at hy
          injection hy with hy
          rw [← hy]; exact HE.out
        · exact HN.out i y (by omega) hy
    · obtain rfl : k = n := by omega
      have k1 : ¬ (k : Int) < k := by omega
      go_wp2_with fail
      go_ret
      refine ⟨ret_bool ⟨fun h => absurd h (by decide), fun h => ?_⟩, rfl⟩
      obtain ⟨i, x, hx, hp⟩ := any_split.1 h
      exact absurd (of_decide_eq_true hp) (HN.out i x (by have := (List.getElem?_eq_some_iff.1 hx).1; have := HL.out; omega) hx)
theorem list_eq {l m : List Nat} (hl : l.length = m.length) (h : ∀ (i x y : Nat), l[i]? = some x → m[i]? = some y → x = y) : l = m := by
  refine List.ext_getElem hl fun i h1 h2 => h i _ _ (List.getElem?_eq_getElem h1) (List.getElem?_eq_getElem h2)
set_option maxHeartbeats 800000 in
theorem ints_any (n c n2 c2 B : Nat) (A A2 : Option Addr) (l m : List Nat) (w : World) (h : Has w B A n (intsV l)) (h2 : Has w B A2 n2 (intsV m)) (hn : n ≤ 1000000) (hn2 : n2 ≤ 1000000) :
    Calls Try.prog 9 #[.slice A n c, .slice A2 n2 c2] w fun e w' => e = .returned (.bool (decide (l = m))) ∧ Dr w w' := by
  have hl : l.length = n := by have := h.1; rw [intsV_len] at this; exact this
  have hl2 : m.length = n2 := by have := h2.1; rw [intsV_len] at this; exact this
  by_cases hne : n = n2
  · subst hne
    have H := hide h
    have H2 := hide h2
    have HL := hide (And.intro hl hl2)
    clear h h2 hl hl2
    go_enter Try.func9, Try.ntmps9
    go_wp2_with fail
    go_loopw [5] (fun v wr => ∃ k : Nat, k ≤ n ∧ v = .int .i64 (k : Nat) ∧ (∀ (i x y : Nat), i < k → l[i]? = some x → m[i]? = some y → x = y) ∧ Dr w wr) (fun v _ => n - (intOf v).toNat)
    case atStart => exact ⟨0, Nat.zero_le _, rfl, fun i x y hi => by omega, Dr.refl _⟩
    case round =>
      obtain ⟨k, hk, rfl, hno, hd⟩ := hrel
      by_cases hlt : k < n
      · obtain ⟨b, off, x, rfl, _, hx, hc⟩ := (H.out.below (hd.below B)).int hlt
        obtain ⟨b2, off2, y, rfl, _, hy, hc2⟩ := (H2.out.below (hd.below B)).int hlt
        have k0 : (0 : Int) ≤ k := by omega
        have k1 : (k : Int) < n := by omega
        have HX := hide (And.intro hx (And.intro hy (And.intro hno hd)))
        clear hx hy hno hd
        go_wp2_with fail
        go_quiet (fail)
        have HD := hide (HX.out.2.2.2.drewN nq)
        generalize wr.drewN nq = W at *
        by_cases he : (x : Int) = y
        · rw [he]
          go_wp2_with fail
          refine ⟨⟨k + 1, by omega, by congr 1, fun i u v hi hu hv => ?_, HD.out⟩, by simp only [intOf]; omega⟩
          by_cases hik : i = k
          · subst hik
            have h1 := HX.out.1
            have h2 := HX.out.2.1
            rw [h1] at hu
            rw [h2] at hv
            injection hu with hu
            injection hv with hv
            omega
          · exact HX.out.2.2.1 i u v (by omega) hu hv
        · have he2 : ((x : Int) != y) = true := by simp; omega
          have HE := hide he
          clear he
          go_wp2_with fail
          go_ret
          refine ⟨ret_bool ⟨fun h => absurd h (by decide), fun h => ?_⟩, HD.out⟩
          have := of_decide_eq_true h
          subst this
          have h1 := HX.out.1
          have h2 := HX.out.2.1
          rw [h1] at h2
          injection h2 with h2
          exact absurd (by rw [h2]) HE.out
      · obtain rfl : k = n := by omega
        have k1 : ¬ (k : Int) < k := by omega
        have HX := hide (And.intro hno hd)
        clear hno hd
        go_wp2_with fail
        go_ret
        refine ⟨ret_bool ⟨fun _ => decide_eq_true ?_, fun _ => rfl⟩, HX.out.2⟩
        have hl := HL.out
        exact list_eq (by omega) fun i x y hx hy => HX.out.1 i x y (by have := (List.getElem?_eq_some_iff.1 hx).1; omega) hx hy
  · have hne2 : ((n : Int) != n2) = true := by simp; omega
    have HNE := hide (And.intro hne (And.intro hl hl2))
    clear hne hl hl2 h h2
    go_enter Try.func9, Try.ntmps9
    go_wp2_with fail
    go_ret
    refine ⟨ret_bool ⟨fun h => absurd h (by decide), fun h => ?_⟩, Dr.refl _⟩
    have := of_decide_eq_true h
    subst this
    exact absurd (HNE.out.2.1.symm.trans HNE.out.2.2) HNE.out.1
end Go.Proofs.Ytgmppddlgbkjmaa
