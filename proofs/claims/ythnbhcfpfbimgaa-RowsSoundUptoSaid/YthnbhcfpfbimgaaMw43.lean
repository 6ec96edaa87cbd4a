/- Texts put together: RjSound. -/
import Derived.Test.YthnbhcfpfbimgaaMw42
import Derived.Test.YthnbhcfpfbimgaaMw40
/- RowsSound's walk, for the row. -/
namespace Go.Proofs.Ythnbhcfpfbimgaa
open Go.RowKit
open Rw (El)
theorem sound_row (vl vv vs : Value) (n : Nat) (l : List Vr) (as_ : List As) (wl wrs : Value) (L : List El) (R : List (List Vl)) (w : World) (h1 : Lats w w.heap.size vl n) (h2 : Vars w w.heap.size vv l) (h3 : Asrs w w.heap.size vs as_) (h4 : Lbs w w.heap.size wl L) (h5 : Rws w w.heap.size wrs R) (hfew : ∀ r ∈ R, r.length ≤ 1048576) :
    Calls Try.prog 3 #[.agg #[vl, vv, vs], .agg #[wl, wrs]] w fun e w' => e = .returned (.bool true) ∧ Below w.heap.size w w' :=
  sound_any w.heap.size vl vv vs wl wrs n l as_ L R w h1 h2 h3 h4 h5 (Nat.le_refl _) hfew
end Go.Proofs.Ythnbhcfpfbimgaa
