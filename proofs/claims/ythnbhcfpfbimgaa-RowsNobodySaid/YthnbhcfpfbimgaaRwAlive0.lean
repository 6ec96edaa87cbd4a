/- Plain: the chapter's example. -/
import Derived.Test.YthnbhcfpfbimgaaRwFields
namespace Go.Proofs.Ythnbhcfpfbimgaa
namespace Rw
def rowB (n i : Nat) (r : Row) : Bool := (!r.bound || decide (r.tail < 0) || (decide ((i : Int) < r.tail) && decide (r.tail < n))) && decide (-1 ≤ r.tail)
def owB (s : T) : Bool := ((List.range s.rows.length).all fun i => match s.rows[i]? with | some r => rowB s.rows.length i r | none => true) && s.own.all fun o => decide (o < s.rows.length)
theorem ow_of {s : T} (h : owB s = true) : Ow s := by
  simp only [owB, Bool.and_eq_true, List.all_eq_true, List.mem_range] at h
  obtain ⟨h1, h2⟩ := h
  have key : ∀ (i : Nat) r, s.rows[i]? = some r → rowB s.rows.length i r = true := fun i r hr => by
    have := h1 i (List.getElem?_eq_some_iff.1 hr).1
    rw [hr] at this
    exact this
  refine ⟨⟨fun i r hr hb => ?_⟩, fun i r hr => ?_, fun o ho => by simpa using h2 o ho⟩
  · have := key i r hr
    simp [rowB, hb] at this
    omega
  · have := key i r hr
    simp [rowB] at this
    omega
def szB (s : T) (n : Nat) : Bool := decide (tot s.rows ≤ n) && s.rows.all (fun r => decide (r.lacks.length ≤ n)) && decide (s.undo.length ≤ n) && decide (s.rows.length ≤ n) && decide (s.own.length ≤ n) && decide (s.eqs.length ≤ n) && decide (s.times.length ≤ n)
theorem sz_of {s : T} {n : Nat} (h : szB s n = true) : Sz s n := by
  simp only [szB, Bool.and_eq_true, decide_eq_true_eq, List.all_eq_true] at h
  obtain ⟨⟨⟨⟨⟨⟨h1, h2⟩, h3⟩, h4⟩, h5⟩, h6⟩, h7⟩ := h
  exact ⟨h1, fun k r hr => h2 r (List.mem_iff_getElem?.2 ⟨k, hr⟩), h3, h4, h5, h6, h7⟩
def fF : Fld := ⟨⟨#[102]⟩, ⟨3, ⟨0, 0, 0, 0, 0, 0, 0, 0⟩⟩⟩
def gF : Fld := ⟨⟨#[103]⟩, ⟨4, ⟨0, 0, 0, 0, 0, 0, 0, 0⟩⟩⟩
def s2 : T := T.new.var.var
def s3 : T := (s2.tick.equal ⟨[fF], 0⟩ ⟨[gF], 1⟩ 1).2
theorem s2_ow : owB s2 = true := by decide +kernel
theorem s2_sz : szB s2 100 = true := by decide +kernel
theorem s3_is : (s2.tick.equal ⟨[fF], 0⟩ ⟨[gF], 1⟩ 1).1 = true := by decide +kernel
theorem s3_eqs : s3.eqs.length = 0 := by decide +kernel
theorem s3_own : s3.own = [0, 1] := by decide +kernel
theorem s3_ow : owB s3 = true := by decide +kernel
theorem s3_tot : tot s3.rows ≤ 100 := by decide +kernel
theorem s3_len : (s3.spreads [] 0).fields.length = 1 := by decide +kernel
theorem s3_fin : (s3.spreads [] 0).fin = 2 := by decide +kernel
theorem s3_fields : (s3.spreads [] 0).fields = [gF] := by kernel_rfl
end Rw
end Go.Proofs.Ythnbhcfpfbimgaa
