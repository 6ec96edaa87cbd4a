/-
  No cell of these rows narrows 'for every input' (looked for: loops, veiled, ifaces, maps, wideKeys, modest, calm, conditions, laid).
  DERIVED. THE GIVEN ROWS OF THIS SEAT. 3 by the template 'for every input the law returns true; each argument reads behind the call as it read before'; 0 by the template 'total and deterministic' (their statements: YthnbhcfpfbimgaaTotals.lean).
  GIVEN WITH THE SEED: the statements are not yours to turn. If you find one false, say at which input.
  Laid BY PROGRAM, IN A SANDBOX (cutbox-rows.mjs): the forced cells as the released guide's own fill.sh prints them over the translation 7f7965bc899500e1… (all of the seat's roots in one cut). By AI agents, Wed Nov 11 2026. No macro, syntax, notation, axiom, sorry.
-/
import Derived.Test.YthnbhcfpfbimgaaChecked
import GoSem.Claim
import GoSem.ClaimJoined
import GoSem.ClaimMapViews
import Derived.JoinedTies
import Derived.KernelRfl
namespace Go.Proofs.Ythnbhcfpfbimgaa
/- THE CELL 'sum', in the pinned program and in every row, IS THE sha256 OF THE DUMP (.gsa) THAT YthnbhcfpfbimgaaProg.lean LOADS. Nothing in Lean hashes anything: it is a label: what it is worth is what the hold of that sum in a sandbox is worth. -/
noncomputable def Try.pinned : Pinned := { name := "ythnbhcfpfbimgaa", sum := "7f7965bc899500e1ea10e3f8d52fcab65092ddf2d3af2d893a5dbbb62eeef8eb", checked := Try.checked }
namespace Rows
def none {H : Type} : Left H := { results := [], args := [] }

/-- 'clearancelaw22.RowsSound': WHATEVER THE INPUT: true; the input reads as it did. -/
def rowsSoundSpec : ChangeSpec := { name := "rowsSound", fn := fun _ => fun
  | [d1, d2] => { results := [.lit (.bool true)], args := [d1, d2] }
  | _ => none }
def rowsSoundRow : OpenClaim := { program := "ythnbhcfpfbimgaa", sum := "7f7965bc899500e1ea10e3f8d52fcab65092ddf2d3af2d893a5dbbb62eeef8eb", func := "clearance/clearancelaw22.RowsSound", spec := "rowsSound", unfollowed := true, recurses := true, apart := false }
def RowsSoundSaid : Prop := rowsSoundRow.holds Try.pinned (OpenSpec.ofChange rowsSoundSpec)

/-- ITS FALSE NEIGHBOUR: 'it returns false'. Refute it at one input. -/
def rowsSoundWrong : ChangeSpec := { name := "rowsSound", fn := fun _ => fun
  | [d1, d2] => { results := [.lit (.bool false)], args := [d1, d2] }
  | _ => none }
def RowsSoundWrongFalsely : Prop := rowsSoundRow.holds Try.pinned (OpenSpec.ofChange rowsSoundWrong)

/-- 'clearancelaw22.RowsWhy': WHATEVER THE INPUT: true; the input reads as it did. -/
def rowsWhySpec : ChangeSpec := { name := "rowsWhy", fn := fun _ => fun
  | [d1, d2] => { results := [.lit (.bool true)], args := [d1, d2] }
  | _ => none }
def rowsWhyRow : OpenClaim := { program := "ythnbhcfpfbimgaa", sum := "7f7965bc899500e1ea10e3f8d52fcab65092ddf2d3af2d893a5dbbb62eeef8eb", func := "clearance/clearancelaw22.RowsWhy", spec := "rowsWhy", unfollowed := true, recurses := true, apart := false }
def RowsWhySaid : Prop := rowsWhyRow.holds Try.pinned (OpenSpec.ofChange rowsWhySpec)

/-- ITS FALSE NEIGHBOUR: 'it returns false'. Refute it at one input. -/
def rowsWhyWrong : ChangeSpec := { name := "rowsWhy", fn := fun _ => fun
  | [d1, d2] => { results := [.lit (.bool false)], args := [d1, d2] }
  | _ => none }
def RowsWhyWrongFalsely : Prop := rowsWhyRow.holds Try.pinned (OpenSpec.ofChange rowsWhyWrong)

/-- 'clearancelaw22.RowsNobody': WHATEVER THE INPUT: true; the input reads as it did. -/
def rowsNobodySpec : ChangeSpec := { name := "rowsNobody", fn := fun _ => fun
  | [d1, d2, d3] => { results := [.lit (.bool true)], args := [d1, d2, d3] }
  | _ => none }
def rowsNobodyRow : OpenClaim := { program := "ythnbhcfpfbimgaa", sum := "7f7965bc899500e1ea10e3f8d52fcab65092ddf2d3af2d893a5dbbb62eeef8eb", func := "clearance/clearancelaw22.RowsNobody", spec := "rowsNobody", unfollowed := true, recurses := true, apart := false }
def RowsNobodySaid : Prop := rowsNobodyRow.holds Try.pinned (OpenSpec.ofChange rowsNobodySpec)

/-- ITS FALSE NEIGHBOUR: 'it returns false'. Refute it at one input. -/
def rowsNobodyWrong : ChangeSpec := { name := "rowsNobody", fn := fun _ => fun
  | [d1, d2, d3] => { results := [.lit (.bool false)], args := [d1, d2, d3] }
  | _ => none }
def RowsNobodyWrongFalsely : Prop := rowsNobodyRow.holds Try.pinned (OpenSpec.ofChange rowsNobodyWrong)

/- THE SECOND FORM. 'bulk': how many values and letters a reading holds, each counted each time it is reached (what is shared counts as often as it is met; a slice's spare places count too). A statement '..UptoSaid' is the law's where the arguments, and the package variables that the reading takes, are together of bulk at most 1048576: NARROWER than '..Said'. Prove '..Said' where nothing that the law and all that it calls make is longer than what came in: it says more and counts as full. Else prove '..UptoSaid'. A law counts once. -/
mutual
def uptoBulk {H : Type} : DataW H → Nat
  | .lit (.string bytes) => bytes.length + 1
  | .lit _ => 1
  | .nil => 1
  | .ptr d => uptoBulk d + 1
  | .slice elems spare => uptoBulkAll elems + uptoBulkAll spare + 1
  | .agg parts => uptoBulkAll parts + 1
  | .iface _ d => uptoBulk d + 1
  | .map entries => uptoBulkEntries entries + 1
  | .held _ => 1
def uptoBulkAll {H : Type} : List (DataW H) → Nat
  | [] => 0
  | d :: r => uptoBulk d + uptoBulkAll r
def uptoBulkEntries {H : Type} : List (Lit × DataW H) → Nat
  | [] => 0
  | x :: r => uptoBulkEntry x + uptoBulkEntries r
def uptoBulkEntry {H : Type} : Lit × DataW H → Nat
  | (.string bytes, d) => bytes.length + uptoBulk d + 1
  | (_, d) => uptoBulk d + 1
 end
def uptoSmall : (H : Type) → List (DataW H) → Bool := fun _ ds => decide (uptoBulkAll ds ≤ 1048576)
def OpenSpec.upto (s : _root_.Go.ChangeSpec) : _root_.Go.OpenSpec := { _root_.Go.OpenSpec.ofChange s with cond := some uptoSmall }

/-- 'clearancelaw22.RowsSound', WHERE WHAT IT READS IS OF BULK AT MOST 1048576: true; the input reads as it did. -/
def rowsSoundUptoRow : OpenClaim := { program := "ythnbhcfpfbimgaa", sum := "7f7965bc899500e1ea10e3f8d52fcab65092ddf2d3af2d893a5dbbb62eeef8eb", func := "clearance/clearancelaw22.RowsSound", spec := "rowsSound", unfollowed := true, recurses := true, apart := false, narrowed := true }
def RowsSoundUptoSaid : Prop := rowsSoundUptoRow.holds Try.pinned (OpenSpec.upto rowsSoundSpec)

/-- 'clearancelaw22.RowsWhy', WHERE WHAT IT READS IS OF BULK AT MOST 1048576: true; the input reads as it did. -/
def rowsWhyUptoRow : OpenClaim := { program := "ythnbhcfpfbimgaa", sum := "7f7965bc899500e1ea10e3f8d52fcab65092ddf2d3af2d893a5dbbb62eeef8eb", func := "clearance/clearancelaw22.RowsWhy", spec := "rowsWhy", unfollowed := true, recurses := true, apart := false, narrowed := true }
def RowsWhyUptoSaid : Prop := rowsWhyUptoRow.holds Try.pinned (OpenSpec.upto rowsWhySpec)

/-- 'clearancelaw22.RowsNobody', WHERE WHAT IT READS IS OF BULK AT MOST 1048576: true; the input reads as it did. -/
def rowsNobodyUptoRow : OpenClaim := { program := "ythnbhcfpfbimgaa", sum := "7f7965bc899500e1ea10e3f8d52fcab65092ddf2d3af2d893a5dbbb62eeef8eb", func := "clearance/clearancelaw22.RowsNobody", spec := "rowsNobody", unfollowed := true, recurses := true, apart := false, narrowed := true }
def RowsNobodyUptoSaid : Prop := rowsNobodyUptoRow.holds Try.pinned (OpenSpec.upto rowsNobodySpec)

end Rows
end Go.Proofs.Ythnbhcfpfbimgaa
