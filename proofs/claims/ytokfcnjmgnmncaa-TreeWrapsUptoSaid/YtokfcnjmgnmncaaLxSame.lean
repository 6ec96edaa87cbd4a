/- The walks of the comparisons of pieces. -/
import Derived.Test.YtokfcnjmgnmncaaLxText2
import Derived.BigQuiet
import Derived.Laws.StructEq
namespace Go.Proofs.Ytokfcnjmgnmncaa
open Go.RowKit
namespace Lx

def eqT (t u : T) : Bool := decide (t.kind = u.kind ∧ t.text.toList = u.text.toList ∧ t.pos = u.pos)
def same : List T → List T → Bool
  | [], [] => true
  | t :: l, u :: m => eqT t u && same l m
  | _, _ => false
theorem same_iff : ∀ (l m : List T), same l m = true ↔ l.length = m.length ∧ ∀ (j : Nat) t u, l[j]? = some t → m[j]? = some u → eqT t u = true
  | [], [] => by simp [same]
  | [], u :: m => by simp [same]
  | t :: l, [] => by simp [same]
  | t :: l, u :: m => by
    simp only [same, Bool.and_eq_true, same_iff l m, List.length_cons, Nat.add_right_cancel_iff]
    constructor
    · rintro ⟨h1, h2, h3⟩
      refine ⟨h2, fun j x y hx hy => ?_⟩
      match j with
      | 0 => simp at hx hy; subst hx; subst hy; exact h1
      | j + 1 => exact h3 j x y (by simpa using hx) (by simpa using hy)
    · rintro ⟨h2, h3⟩
      exact ⟨h3 0 t u rfl rfl, h2, fun j x y hx hy => h3 (j + 1) x y (by simpa using hx) (by simpa using hy)⟩
end Lx

@[go_sem] theorem guardTok : Try.prog.eqGuardType Try.prog.depth 35 = false := by kernel_rfl
@[go_sem] theorem eqTok (a d : Int) (b e : ByteArray) (c f : Int) (w : World) : (Op.equalIn 10000 35 (.agg #[.int .u8 a, .string b, .int .i64 c]) (.agg #[.int .u8 d, .string e, .int .i64 f])).run Try.prog w = .ok (a == d && (b.toList == e.toList && c == f)) w := by
  have hS : Try.prog.underlying 35 = some (.struct (Try.prog.fieldsOf 35)) := by kernel_rfl
  have hp : Try.prog.stoodInHeld 35 = false := by kernel_rfl
  have u1 := Try.underlying5
  have u2 := Try.underlying9
  have u3 := Try.underlying3
  rw [show (10000 : Nat) = 9999 + 1 from rfl, run_equalIn_agg w 9999 35 _ _ hS hp]
  simp only [Program.fieldsOf, Try.underlying35]
  go_simp
  by_cases h1 : a = d <;> by_cases h2 : b.toList = e.toList <;> by_cases h3 : c = f <;> simp [h1, h2, h3]

set_option maxHeartbeats 800000 in
theorem rsame_any (n c n2 c2 B : Nat) (A A2 : Option Addr) (l m : List Lx.T) (w : World) (h : HasT w B A n l) (h2 : HasT w B A2 n2 m) (hn : n ≤ 1000000) (hn2 : n2 ≤ 1000000) :
    Calls Try.prog 13 #[.slice A n c, .slice A2 n2 c2] w fun e w' => e = .returned (.bool (Lx.same l m)) ∧ Dr w w' := by
  have hgt := guardTok
  have hl := h.1
  have hl2 := h2.1
  by_cases hne : n = n2
  · subst hne
    have H1 := hide h
    have H2 := hide h2
    clear h h2
    go_enter Try.func13, Try.ntmps13
    go_wp2_with fail
    go_loopw [5] (fun i wr => ∃ k : Nat, k ≤ n ∧ i = .int .i64 k ∧ (∀ (j : Nat) t u, j < k → l[j]? = some t → m[j]? = some u → Lx.eqT t u = true) ∧ Dr w wr) (fun i _ => n - (intOf i).toNat)
    case atStart => exact ⟨0, Nat.zero_le _, rfl, fun j t u hj => by omega, Dr.refl _⟩
    case round =>
      obtain ⟨k, hk, rfl, heq, hd⟩ := hrel
      by_cases hlt : k < n
      · obtain ⟨t, ht⟩ : ∃ t, l[k]? = some t := ⟨l[k]'(by omega), List.getElem?_eq_getElem _⟩
        obtain ⟨u, hu⟩ : ∃ u, m[k]? = some u := ⟨m[k]'(by omega), List.getElem?_eq_getElem _⟩
        obtain ⟨b, off, rfl, hbB, hcell⟩ := (H1.out.below (hd.below B)).2 (by omega)
        obtain ⟨b2, off2, rfl, hbB2, hcell2⟩ := (H2.out.below (hd.below B)).2 (by omega)
        obtain ⟨d0, d1, d2⟩ := hcell k t ht
        obtain ⟨e0, e1, e2⟩ := hcell2 k u hu
        have hk0 : (k : Int) < n := by omega
        have hk1 : (0 : Int) ≤ k := by omega
        have HT := hide (And.intro ht hu)
        have HE := hide heq
        have HD := hide hd
        have HL := hide (And.intro hl hl2)
        clear hcell hcell2 ht hu heq hd hl hl2
        have hbad : Lx.eqT t u = false → Lx.same l m = false := fun hb => by
          cases hs : Lx.same l m
          · rfl
          · rw [((Lx.same_iff l m).1 hs).2 k t u HT.out.1 HT.out.2] at hb; cases hb
        have HBad := hide hbad
        clear hbad
        by_cases a1 : (t.kind : Int) = u.kind <;> by_cases a2 : t.text.toList = u.text.toList <;> by_cases a3 : t.pos = u.pos
        all_goals
          go_wp2_with fail
          go_quiet (fail)
          go_wp2_with fail
          first
            | (go_ret; exact ⟨ret_bool (by rw [HBad.out (by simp only [Lx.eqT, decide_eq_false_iff_not]; rintro ⟨h1, h2, h3⟩; first | exact a2 h2 | exact a3 h3 | omega)]), HD.out.drewN _⟩)
            | (refine ⟨⟨k + 1, by omega, rfl, fun j x y hj hx hy => ?_, HD.out.drewN _⟩, by simp [intOf]; omega⟩
               rcases Nat.lt_or_ge j k with h | h
               · exact HE.out j x y h hx hy
               · obtain rfl : j = k := by omega
                 rw [HT.out.1] at hx
                 rw [HT.out.2] at hy
                 simp only [Option.some.injEq] at hx hy
                 subst hx
                 subst hy
                 simp only [Lx.eqT, decide_eq_true_eq]
                 exact ⟨by omega, a2, a3⟩)
      · obtain rfl : k = n := by omega
        have hs : Lx.same l m = true := (Lx.same_iff l m).2 ⟨by omega, fun j t u h1 h2 => heq j t u (by have := (List.getElem?_eq_some_iff.1 h1).1; omega) h1 h2⟩
        have HD := hide hd
        have HS := hide hs
        clear heq hd hs
        go_wp2_with fail
        go_ret
        exact ⟨ret_bool (by rw [HS.out]), HD.out⟩
  · have hs : Lx.same l m = false := by
      cases hs : Lx.same l m
      · rfl
      · have := ((Lx.same_iff l m).1 hs).1; omega
    have HS := hide hs
    have hne2 : (n : Int) ≠ n2 := by omega
    clear hs h h2
    go_enter Try.func13, Try.ntmps13
    go_wp2_with fail
    go_ret
    exact ⟨ret_bool (by rw [HS.out]), Dr.refl _⟩
end Go.Proofs.Ytokfcnjmgnmncaa
