/-
  No cell of these rows narrows 'for every input' (looked for: loops, veiled, ifaces, maps, wideKeys, modest, calm, conditions, laid).
  DERIVED. THE GIVEN ROWS OF THIS SEAT. 4 by the template 'for every input the law returns true; each argument reads behind the call as it read before'; 0 by the template 'total and deterministic' (their statements: YtpcikoegokddfaaTotals.lean).
  GIVEN WITH THE SEED: the statements are not yours to turn. If you find one false, say at which input.
  Laid BY PROGRAM, IN A SANDBOX (cutbox-rows.mjs): the forced cells as the released guide's own fill.sh prints them over the translation c568e5aa96b9a8b5… (all of the seat's roots in one cut). By AI agents, Wed Nov 11 2026. No macro, syntax, notation, axiom, sorry.
-/
import Derived.Test.YtpcikoegokddfaaChecked
import GoSem.Claim
import GoSem.ClaimJoined
import GoSem.ClaimMapViews
import Derived.JoinedTies
import Derived.KernelRfl
namespace Go.Proofs.Ytpcikoegokddfaa
/- THE CELL 'sum', in the pinned program and in every row, IS THE sha256 OF THE DUMP (.gsa) THAT YtpcikoegokddfaaProg.lean LOADS. Nothing in Lean hashes anything: it is a label: what it is worth is what the hold of that sum in a sandbox is worth. -/
noncomputable def Try.pinned : Pinned := { name := "ytpcikoegokddfaa", sum := "c568e5aa96b9a8b560989729e939a39c9fdc896e6180449cd9c41ec9f3e981ab", checked := Try.checked }
namespace Rows
def none {H : Type} : Left H := { results := [], args := [] }

/-- 'clearancelaw02.NameRight': WHATEVER THE INPUT: true; the input reads as it did. -/
def nameRightSpec : ChangeSpec := { name := "nameRight", fn := fun _ => fun
  | [d1, d2] => { results := [.lit (.bool true)], args := [d1, d2] }
  | _ => none }
def nameRightRow : OpenClaim := { program := "ytpcikoegokddfaa", sum := "c568e5aa96b9a8b560989729e939a39c9fdc896e6180449cd9c41ec9f3e981ab", func := "clearance/clearancelaw02.NameRight", spec := "nameRight", unfollowed := true, recurses := true, apart := false }
def NameRightSaid : Prop := nameRightRow.holds Try.pinned (OpenSpec.ofChange nameRightSpec)

/-- ITS FALSE NEIGHBOUR: 'it returns false'. Refute it at one input. -/
def nameRightWrong : ChangeSpec := { name := "nameRight", fn := fun _ => fun
  | [d1, d2] => { results := [.lit (.bool false)], args := [d1, d2] }
  | _ => none }
def NameRightWrongFalsely : Prop := nameRightRow.holds Try.pinned (OpenSpec.ofChange nameRightWrong)

/-- 'clearancelaw02.NameFinds': WHATEVER THE INPUT: true; the input reads as it did. -/
def nameFindsSpec : ChangeSpec := { name := "nameFinds", fn := fun _ => fun
  | [d1, d2, d3] => { results := [.lit (.bool true)], args := [d1, d2, d3] }
  | _ => none }
def nameFindsRow : OpenClaim := { program := "ytpcikoegokddfaa", sum := "c568e5aa96b9a8b560989729e939a39c9fdc896e6180449cd9c41ec9f3e981ab", func := "clearance/clearancelaw02.NameFinds", spec := "nameFinds", unfollowed := true, recurses := true, apart := false }
def NameFindsSaid : Prop := nameFindsRow.holds Try.pinned (OpenSpec.ofChange nameFindsSpec)

/-- ITS FALSE NEIGHBOUR: 'it returns false'. Refute it at one input. -/
def nameFindsWrong : ChangeSpec := { name := "nameFinds", fn := fun _ => fun
  | [d1, d2, d3] => { results := [.lit (.bool false)], args := [d1, d2, d3] }
  | _ => none }
def NameFindsWrongFalsely : Prop := nameFindsRow.holds Try.pinned (OpenSpec.ofChange nameFindsWrong)

/-- 'clearancelaw02.NameOrder': WHATEVER THE INPUT: true; the input reads as it did. -/
def nameOrderSpec : ChangeSpec := { name := "nameOrder", fn := fun _ => fun
  | [d1, d2, d3] => { results := [.lit (.bool true)], args := [d1, d2, d3] }
  | _ => none }
def nameOrderRow : OpenClaim := { program := "ytpcikoegokddfaa", sum := "c568e5aa96b9a8b560989729e939a39c9fdc896e6180449cd9c41ec9f3e981ab", func := "clearance/clearancelaw02.NameOrder", spec := "nameOrder", unfollowed := true, recurses := true, apart := false }
def NameOrderSaid : Prop := nameOrderRow.holds Try.pinned (OpenSpec.ofChange nameOrderSpec)

/-- ITS FALSE NEIGHBOUR: 'it returns false'. Refute it at one input. -/
def nameOrderWrong : ChangeSpec := { name := "nameOrder", fn := fun _ => fun
  | [d1, d2, d3] => { results := [.lit (.bool false)], args := [d1, d2, d3] }
  | _ => none }
def NameOrderWrongFalsely : Prop := nameOrderRow.holds Try.pinned (OpenSpec.ofChange nameOrderWrong)

/-- 'clearancelaw02.NameSorts': WHATEVER THE INPUT: true; the input reads as it did. -/
def nameSortsSpec : ChangeSpec := { name := "nameSorts", fn := fun _ => fun
  | [d1, d2] => { results := [.lit (.bool true)], args := [d1, d2] }
  | _ => none }
def nameSortsRow : OpenClaim := { program := "ytpcikoegokddfaa", sum := "c568e5aa96b9a8b560989729e939a39c9fdc896e6180449cd9c41ec9f3e981ab", func := "clearance/clearancelaw02.NameSorts", spec := "nameSorts", unfollowed := true, recurses := true, apart := false }
def NameSortsSaid : Prop := nameSortsRow.holds Try.pinned (OpenSpec.ofChange nameSortsSpec)

/-- ITS FALSE NEIGHBOUR: 'it returns false'. Refute it at one input. -/
def nameSortsWrong : ChangeSpec := { name := "nameSorts", fn := fun _ => fun
  | [d1, d2] => { results := [.lit (.bool false)], args := [d1, d2] }
  | _ => none }
def NameSortsWrongFalsely : Prop := nameSortsRow.holds Try.pinned (OpenSpec.ofChange nameSortsWrong)

/- THE SECOND FORM. 'bulk': how many values and letters a reading holds, each counted each time it is reached (what is shared counts as often as it is met; a slice's spare places count too). A statement '..UptoSaid' is the law's where the arguments, and the package variables that the reading takes, are together of bulk at most 1048576: NARROWER than '..Said'. Prove '..Said' where nothing that the law and all that it calls make is longer than what came in: it says more and counts as full. Else prove '..UptoSaid'. A law counts once. -/
mutual
def uptoBulk {H : Type} : DataW H → Nat
  | .lit (.string bytes) => bytes.length + 1
  | .lit _ => 1
  | .nil => 1
  | .ptr d => uptoBulk d + 1
  | .slice elems spare => uptoBulkAll elems + uptoBulkAll spare + 1
  | .agg parts => uptoBulkAll parts + 1
  | .iface _ d => uptoBulk d + 1
  | .map entries => uptoBulkEntries entries + 1
  | .held _ => 1
def uptoBulkAll {H : Type} : List (DataW H) → Nat
  | [] => 0
  | d :: r => uptoBulk d + uptoBulkAll r
def uptoBulkEntries {H : Type} : List (Lit × DataW H) → Nat
  | [] => 0
  | x :: r => uptoBulkEntry x + uptoBulkEntries r
def uptoBulkEntry {H : Type} : Lit × DataW H → Nat
  | (.string bytes, d) => bytes.length + uptoBulk d + 1
  | (_, d) => uptoBulk d + 1
 end
def uptoSmall : (H : Type) → List (DataW H) → Bool := fun _ ds => decide (uptoBulkAll ds ≤ 1048576)
def OpenSpec.upto (s : _root_.Go.ChangeSpec) : _root_.Go.OpenSpec := { _root_.Go.OpenSpec.ofChange s with cond := some uptoSmall }

/-- 'clearancelaw02.NameRight', WHERE WHAT IT READS IS OF BULK AT MOST 1048576: true; the input reads as it did. -/
def nameRightUptoRow : OpenClaim := { program := "ytpcikoegokddfaa", sum := "c568e5aa96b9a8b560989729e939a39c9fdc896e6180449cd9c41ec9f3e981ab", func := "clearance/clearancelaw02.NameRight", spec := "nameRight", unfollowed := true, recurses := true, apart := false, narrowed := true }
def NameRightUptoSaid : Prop := nameRightUptoRow.holds Try.pinned (OpenSpec.upto nameRightSpec)

/-- 'clearancelaw02.NameFinds', WHERE WHAT IT READS IS OF BULK AT MOST 1048576: true; the input reads as it did. -/
def nameFindsUptoRow : OpenClaim := { program := "ytpcikoegokddfaa", sum := "c568e5aa96b9a8b560989729e939a39c9fdc896e6180449cd9c41ec9f3e981ab", func := "clearance/clearancelaw02.NameFinds", spec := "nameFinds", unfollowed := true, recurses := true, apart := false, narrowed := true }
def NameFindsUptoSaid : Prop := nameFindsUptoRow.holds Try.pinned (OpenSpec.upto nameFindsSpec)

/-- 'clearancelaw02.NameOrder', WHERE WHAT IT READS IS OF BULK AT MOST 1048576: true; the input reads as it did. -/
def nameOrderUptoRow : OpenClaim := { program := "ytpcikoegokddfaa", sum := "c568e5aa96b9a8b560989729e939a39c9fdc896e6180449cd9c41ec9f3e981ab", func := "clearance/clearancelaw02.NameOrder", spec := "nameOrder", unfollowed := true, recurses := true, apart := false, narrowed := true }
def NameOrderUptoSaid : Prop := nameOrderUptoRow.holds Try.pinned (OpenSpec.upto nameOrderSpec)

/-- 'clearancelaw02.NameSorts', WHERE WHAT IT READS IS OF BULK AT MOST 1048576: true; the input reads as it did. -/
def nameSortsUptoRow : OpenClaim := { program := "ytpcikoegokddfaa", sum := "c568e5aa96b9a8b560989729e939a39c9fdc896e6180449cd9c41ec9f3e981ab", func := "clearance/clearancelaw02.NameSorts", spec := "nameSorts", unfollowed := true, recurses := true, apart := false, narrowed := true }
def NameSortsUptoSaid : Prop := nameSortsUptoRow.holds Try.pinned (OpenSpec.upto nameSortsSpec)

end Rows
end Go.Proofs.Ytpcikoegokddfaa
