/- The walks of what might be a piece. -/
import Derived.Test.YtokfcnjmgnmncaaLxAlive
namespace Go.Proofs.Ytokfcnjmgnmncaa
open Go.RowKit

/-- Might a piece be a line's? -/
def Lx.ok (t : Lx.T) : Bool := if t.kind = 97 then Nm.right t.text else (decide (t.text.size = 1) && (decide (Nm.byte t.text 0 = t.kind) && Lx.sg t.kind))

end Go.Proofs.Ytokfcnjmgnmncaa
