/-
  No cell of these rows narrows 'for every input' (looked for: loops, veiled, ifaces, maps, wideKeys, modest, calm, conditions, laid).
  DERIVED. THE GIVEN ROWS OF THIS SEAT. 4 by the template 'for every input the law returns true; each argument reads behind the call as it read before'; 0 by the template 'total and deterministic' (their statements: YtgmppddlgbkjmaaTotals.lean).
  GIVEN WITH THE SEED: the statements are not yours to turn. If you find one false, say at which input.
  Laid BY PROGRAM, IN A SANDBOX (cutbox-rows.mjs): the forced cells as the released guide's own fill.sh prints them over the translation 318c8b31ed86e454… (all of the seat's roots in one cut). By AI agents, Wed Nov 11 2026. No macro, syntax, notation, axiom, sorry.
-/
import Derived.Test.YtgmppddlgbkjmaaChecked
import GoSem.Claim
import GoSem.ClaimJoined
import GoSem.ClaimMapViews
import Derived.JoinedTies
import Derived.KernelRfl
namespace Go.Proofs.Ytgmppddlgbkjmaa
/- THE CELL 'sum', in the pinned program and in every row, IS THE sha256 OF THE DUMP (.gsa) THAT YtgmppddlgbkjmaaProg.lean LOADS. Nothing in Lean hashes anything: it is a label: what it is worth is what the hold of that sum in a sandbox is worth. -/
noncomputable def Try.pinned : Pinned := { name := "ytgmppddlgbkjmaa", sum := "318c8b31ed86e4542dde9e0a4024daa563f538699ab281cbce147b133902c1a2", checked := Try.checked }
namespace Rows
def none {H : Type} : Left H := { results := [], args := [] }

/-- 'clearancelaw23.KnotOf': WHATEVER THE INPUT: true; the input reads as it did. -/
def knotOfSpec : ChangeSpec := { name := "knotOf", fn := fun _ => fun
  | [d] => { results := [.lit (.bool true)], args := [d] }
  | _ => none }
def knotOfRow : OpenClaim := { program := "ytgmppddlgbkjmaa", sum := "318c8b31ed86e4542dde9e0a4024daa563f538699ab281cbce147b133902c1a2", func := "clearance/clearancelaw23.KnotOf", spec := "knotOf", unfollowed := true, recurses := true, apart := false }
def KnotOfSaid : Prop := knotOfRow.holds Try.pinned (OpenSpec.ofChange knotOfSpec)

/-- ITS FALSE NEIGHBOUR: 'it returns false'. Refute it at one input. -/
def knotOfWrong : ChangeSpec := { name := "knotOf", fn := fun _ => fun
  | [d] => { results := [.lit (.bool false)], args := [d] }
  | _ => none }
def KnotOfWrongFalsely : Prop := knotOfRow.holds Try.pinned (OpenSpec.ofChange knotOfWrong)

/-- 'clearancelaw23.KnotOrder': WHATEVER THE INPUT: true; the input reads as it did. -/
def knotOrderSpec : ChangeSpec := { name := "knotOrder", fn := fun _ => fun
  | [d] => { results := [.lit (.bool true)], args := [d] }
  | _ => none }
def knotOrderRow : OpenClaim := { program := "ytgmppddlgbkjmaa", sum := "318c8b31ed86e4542dde9e0a4024daa563f538699ab281cbce147b133902c1a2", func := "clearance/clearancelaw23.KnotOrder", spec := "knotOrder", unfollowed := true, recurses := true, apart := false }
def KnotOrderSaid : Prop := knotOrderRow.holds Try.pinned (OpenSpec.ofChange knotOrderSpec)

/-- ITS FALSE NEIGHBOUR: 'it returns false'. Refute it at one input. -/
def knotOrderWrong : ChangeSpec := { name := "knotOrder", fn := fun _ => fun
  | [d] => { results := [.lit (.bool false)], args := [d] }
  | _ => none }
def KnotOrderWrongFalsely : Prop := knotOrderRow.holds Try.pinned (OpenSpec.ofChange knotOrderWrong)

/-- 'clearancelaw23.KnotRing': WHATEVER THE INPUT: true; the input reads as it did. -/
def knotRingSpec : ChangeSpec := { name := "knotRing", fn := fun _ => fun
  | [d] => { results := [.lit (.bool true)], args := [d] }
  | _ => none }
def knotRingRow : OpenClaim := { program := "ytgmppddlgbkjmaa", sum := "318c8b31ed86e4542dde9e0a4024daa563f538699ab281cbce147b133902c1a2", func := "clearance/clearancelaw23.KnotRing", spec := "knotRing", unfollowed := true, recurses := true, apart := false }
def KnotRingSaid : Prop := knotRingRow.holds Try.pinned (OpenSpec.ofChange knotRingSpec)

/-- ITS FALSE NEIGHBOUR: 'it returns false'. Refute it at one input. -/
def knotRingWrong : ChangeSpec := { name := "knotRing", fn := fun _ => fun
  | [d] => { results := [.lit (.bool false)], args := [d] }
  | _ => none }
def KnotRingWrongFalsely : Prop := knotRingRow.holds Try.pinned (OpenSpec.ofChange knotRingWrong)

/-- 'clearancelaw23.KnotLeads': WHATEVER THE INPUT: true; the input reads as it did. -/
def knotLeadsSpec : ChangeSpec := { name := "knotLeads", fn := fun _ => fun
  | [d1, d2, d3] => { results := [.lit (.bool true)], args := [d1, d2, d3] }
  | _ => none }
def knotLeadsRow : OpenClaim := { program := "ytgmppddlgbkjmaa", sum := "318c8b31ed86e4542dde9e0a4024daa563f538699ab281cbce147b133902c1a2", func := "clearance/clearancelaw23.KnotLeads", spec := "knotLeads", unfollowed := true, recurses := true, apart := false }
def KnotLeadsSaid : Prop := knotLeadsRow.holds Try.pinned (OpenSpec.ofChange knotLeadsSpec)

/-- ITS FALSE NEIGHBOUR: 'it returns false'. Refute it at one input. -/
def knotLeadsWrong : ChangeSpec := { name := "knotLeads", fn := fun _ => fun
  | [d1, d2, d3] => { results := [.lit (.bool false)], args := [d1, d2, d3] }
  | _ => none }
def KnotLeadsWrongFalsely : Prop := knotLeadsRow.holds Try.pinned (OpenSpec.ofChange knotLeadsWrong)

/- THE SECOND FORM. 'bulk': how many values and letters a reading holds, each counted each time it is reached (what is shared counts as often as it is met; a slice's spare places count too). A statement '..UptoSaid' is the law's where the arguments, and the package variables that the reading takes, are together of bulk at most 1048576: NARROWER than '..Said'. Prove '..Said' where nothing that the law and all that it calls make is longer than what came in: it says more and counts as full. Else prove '..UptoSaid'. A law counts once. -/
mutual
def uptoBulk {H : Type} : DataW H → Nat
  | .lit (.string bytes) => bytes.length + 1
  | .lit _ => 1
  | .nil => 1
  | .ptr d => uptoBulk d + 1
  | .slice elems spare => uptoBulkAll elems + uptoBulkAll spare + 1
  | .agg parts => uptoBulkAll parts + 1
  | .iface _ d => uptoBulk d + 1
  | .map entries => uptoBulkEntries entries + 1
  | .held _ => 1
def uptoBulkAll {H : Type} : List (DataW H) → Nat
  | [] => 0
  | d :: r => uptoBulk d + uptoBulkAll r
def uptoBulkEntries {H : Type} : List (Lit × DataW H) → Nat
  | [] => 0
  | x :: r => uptoBulkEntry x + uptoBulkEntries r
def uptoBulkEntry {H : Type} : Lit × DataW H → Nat
  | (.string bytes, d) => bytes.length + uptoBulk d + 1
  | (_, d) => uptoBulk d + 1
 end
def uptoSmall : (H : Type) → List (DataW H) → Bool := fun _ ds => decide (uptoBulkAll ds ≤ 1048576)
def OpenSpec.upto (s : _root_.Go.ChangeSpec) : _root_.Go.OpenSpec := { _root_.Go.OpenSpec.ofChange s with cond := some uptoSmall }

/-- 'clearancelaw23.KnotOf', WHERE WHAT IT READS IS OF BULK AT MOST 1048576: true; the input reads as it did. -/
def knotOfUptoRow : OpenClaim := { program := "ytgmppddlgbkjmaa", sum := "318c8b31ed86e4542dde9e0a4024daa563f538699ab281cbce147b133902c1a2", func := "clearance/clearancelaw23.KnotOf", spec := "knotOf", unfollowed := true, recurses := true, apart := false, narrowed := true }
def KnotOfUptoSaid : Prop := knotOfUptoRow.holds Try.pinned (OpenSpec.upto knotOfSpec)

/-- 'clearancelaw23.KnotOrder', WHERE WHAT IT READS IS OF BULK AT MOST 1048576: true; the input reads as it did. -/
def knotOrderUptoRow : OpenClaim := { program := "ytgmppddlgbkjmaa", sum := "318c8b31ed86e4542dde9e0a4024daa563f538699ab281cbce147b133902c1a2", func := "clearance/clearancelaw23.KnotOrder", spec := "knotOrder", unfollowed := true, recurses := true, apart := false, narrowed := true }
def KnotOrderUptoSaid : Prop := knotOrderUptoRow.holds Try.pinned (OpenSpec.upto knotOrderSpec)

/-- 'clearancelaw23.KnotRing', WHERE WHAT IT READS IS OF BULK AT MOST 1048576: true; the input reads as it did. -/
def knotRingUptoRow : OpenClaim := { program := "ytgmppddlgbkjmaa", sum := "318c8b31ed86e4542dde9e0a4024daa563f538699ab281cbce147b133902c1a2", func := "clearance/clearancelaw23.KnotRing", spec := "knotRing", unfollowed := true, recurses := true, apart := false, narrowed := true }
def KnotRingUptoSaid : Prop := knotRingUptoRow.holds Try.pinned (OpenSpec.upto knotRingSpec)

/-- 'clearancelaw23.KnotLeads', WHERE WHAT IT READS IS OF BULK AT MOST 1048576: true; the input reads as it did. -/
def knotLeadsUptoRow : OpenClaim := { program := "ytgmppddlgbkjmaa", sum := "318c8b31ed86e4542dde9e0a4024daa563f538699ab281cbce147b133902c1a2", func := "clearance/clearancelaw23.KnotLeads", spec := "knotLeads", unfollowed := true, recurses := true, apart := false, narrowed := true }
def KnotLeadsUptoSaid : Prop := knotLeadsUptoRow.holds Try.pinned (OpenSpec.upto knotLeadsSpec)

end Rows
end Go.Proofs.Ytgmppddlgbkjmaa
