/- The walks of the comparisons of pieces by kind and text. -/
import Derived.Test.YtokfcnjmgnmncaaLxRightR
namespace Go.Proofs.Ytokfcnjmgnmncaa
open Go.RowKit
namespace Lx

def eqK (t u : T) : Bool := decide (t.kind = u.kind ∧ t.text.toList = u.text.toList)
def like : List T → List T → Bool
  | [], [] => true
  | t :: l, u :: m => eqK t u && like l m
  | _, _ => false
theorem like_iff : ∀ (l m : List T), like l m = true ↔ l.length = m.length ∧ ∀ (j : Nat) t u, l[j]? = some t → m[j]? = some u → eqK t u = true
  | [], [] => by simp [like]
  | [], u :: m => by simp [like]
  | t :: l, [] => by simp [like]
  | t :: l, u :: m => by
    simp only [like, Bool.and_eq_true, like_iff l m, List.length_cons, Nat.add_right_cancel_iff]
    constructor
    · rintro ⟨h1, h2, h3⟩
      refine ⟨h2, fun j x y hx hy => ?_⟩
      match j with
      | 0 => simp at hx hy; subst hx; subst hy; exact h1
      | j + 1 => exact h3 j x y (by simpa using hx) (by simpa using hy)
    · rintro ⟨h2, h3⟩
      exact ⟨h3 0 t u rfl rfl, h2, fun j x y hx hy => h3 (j + 1) x y (by simpa using hx) (by simpa using hy)⟩
end Lx
end Go.Proofs.Ytokfcnjmgnmncaa
