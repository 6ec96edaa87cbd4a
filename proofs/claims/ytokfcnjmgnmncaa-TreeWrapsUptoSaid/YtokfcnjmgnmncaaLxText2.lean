/- The walk of lex.Text. -/
import Derived.Test.YtokfcnjmgnmncaaLxTok
namespace Go.Proofs.Ytokfcnjmgnmncaa
open Go.RowKit

def bytesV (l : List UInt8) : List Value := l.map fun b => Value.int .u8 b.toNat
theorem byteCells_eq (s : ByteArray) : byteCells s = bytesV s.data.toList := rfl
theorem bytesV_len (l : List UInt8) : (bytesV l).length = l.length := by simp [bytesV]
theorem info_u8 : (Try.prog.info? 5).map (fun i => (i.zero, i.size, i.bytes)) = some (some (.int .u8 0), 1, 1) := by kernel_rfl
/-- A row of bytes read back as a string. -/
theorem conv_row {w : World} {A : Option Addr} {c n : Nat} {l : List UInt8} (h : Row w 5 (.slice A n c) (bytesV l)) (hn : l.length = n) :
    (convert 49 9 (.slice A n c)).run Try.prog w = .ok (.string ⟨l.toArray⟩) w := by
  subst hn
  by_cases h0 : l = []
  · subst h0
    cases A with
    | none => exact run_convert_bytes_nil w 49 5 Try.underlying49 Try.underlying5 0 c 9 Try.underlying9
    | some a => exact run_convert_bytes_back w 49 9 5 a c [] Try.underlying49 Try.underlying5 Try.underlying9 fun j hj => by simp at hj
  · obtain ⟨g, rfl⟩ := h.addr (by rw [bytesV_len]; exact List.length_pos_iff.2 h0)
    refine run_convert_bytes_back w 49 9 5 ⟨g, 0, none⟩ c l Try.underlying49 Try.underlying5 Try.underlying9 fun j hj => ?_
    rw [add_plain, Nat.zero_add, h.cell (by rw [bytesV_len]; exact hj)]
    simp [bytesV, hj]

end Go.Proofs.Ytokfcnjmgnmncaa
