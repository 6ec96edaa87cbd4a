/- The walks of New, Len, Stuck, Mark, Undo (nil), Eqs. -/
import Derived.Test.YthnbhcfpfbimgaaRwEquate
namespace Go.Proofs.Ythnbhcfpfbimgaa
open Go.RowKit
open Rw (El At Fld Lk Eqn U T W64 Sp Wf tot Sz Nx Ow)
def zeroTb : Array Value := #[.slice none 0 0, .slice none 0 0, .slice none 0 0, .slice none 0 0, .slice none 0 0, .bool false, .int .u64 0]
def bl0 : Bl := ⟨none, none, none, none, none⟩
/-- A new table in its block. -/
theorem tb_new {w : World} {B P : Nat} (h : w.heap[P]? = some (.cells zeroTb 83 (0, 0))) (hB : B ≤ P) : Tb w B P bl0 Rw.T.new :=
  ⟨.slice none 0 0, .slice none 0 0, .slice none 0 0, .slice none 0 0, .slice none 0 0, [], [], h, ⟨rfl, rfl, rfl, rfl, rfl⟩, RowZ.nil, RowZ.nil, RowZ.nil, RowZ.nil, RowZ.nil, rfl, fun k r v hr => by simp [Rw.T.new] at hr, fun k f u hf => by simp at hf,
    ⟨hB, fun b hb => by simp [bl0] at hb, fun b hb => by simp [bl0] at hb, fun b hb => by simp [bl0] at hb, fun b hb => by simp [bl0] at hb, fun b hb => by simp [bl0] at hb⟩, fun b hb => by simp [bl0] at hb⟩
theorem new_any (w : World) : Calls Try.prog 33 #[] w fun e w' => e = .returned (.pointer (some ⟨w.heap.size, 0, none⟩)) ∧ w' = w.alloc (.cells zeroTb 83) := by
  unfold zeroTb
  go_enter Try.func33, Try.ntmps33
  go_wp2_with fail
  go_ret
  exact ⟨rfl, rfl⟩
theorem len_nil (w : World) : Calls Try.prog 15 #[.pointer none] w fun e w' => e = .returned (.int .i64 0) ∧ w = w' := by
  go_enter Try.func15, Try.ntmps15
  go_wp2_with fail
  go_ret
  exact ⟨rfl, rfl⟩
theorem len_any (P B : Nat) (g : Bl) (s : T) (w : World) (h : Tb w B P g s) : Calls Try.prog 15 #[.pointer (some ⟨P, 0, none⟩)] w fun e w' => e = .returned (.int .i64 (s.own.length : Nat)) ∧ w = w' := by
  obtain ⟨vu, vt, vr, vo, ve, vs, fs, hx⟩ := h
  obtain ⟨Ao, co, rfl, hco, hcom⟩ := RowZ.form hx.own
  have c3 := hx.cells.2.2.2.1
  clear hx
  go_enter Try.func15, Try.ntmps15
  go_wp2_with fail
  go_ret
  exact ⟨rfl, rfl⟩
theorem mark_nil (w : World) : Calls Try.prog 25 #[.pointer none] w fun e w' => e = .returned (.int .i64 0) ∧ w = w' := by
  go_enter Try.func25, Try.ntmps25
  go_wp2_with fail
  go_ret
  exact ⟨rfl, rfl⟩
theorem mark_any (P B : Nat) (g : Bl) (s : T) (w : World) (h : Tb w B P g s) : Calls Try.prog 25 #[.pointer (some ⟨P, 0, none⟩)] w fun e w' => e = .returned (.int .i64 (s.times.length : Nat)) ∧ w = w' := by
  obtain ⟨vu, vt, vr, vo, ve, vs, fs, hx⟩ := h
  obtain ⟨Ao, co, rfl, hco, hcom⟩ := RowZ.form hx.times
  have c1 := hx.cells.2.1
  clear hx
  go_enter Try.func25, Try.ntmps25
  go_wp2_with fail
  go_ret
  exact ⟨rfl, rfl⟩
theorem undo_nil (m : Int) (w : World) : Calls Try.prog 26 #[.pointer none, .int .i64 m] w fun e w' => e = .returned (.bool false) ∧ w = w' := by
  go_enter Try.func26, Try.ntmps26
  go_wp2_with fail
  go_ret
  exact ⟨rfl, rfl⟩
theorem stuck_nil (w : World) : Calls Try.prog 14 #[.pointer none] w fun e w' => e = .returned (.tuple #[.int .u64 0, .bool false]) ∧ w = w' := by
  go_enter Try.func14, Try.ntmps14
  go_wp2_with fail
  go_ret2
  exact ⟨rfl, rfl⟩
theorem stuck_tb (P B : Nat) (g : Bl) (s : T) (w : World) (h : Tb w B P g s) : Calls Try.prog 14 #[.pointer (some ⟨P, 0, none⟩)] w fun e w' => e = .returned (.tuple #[whyV s.why, .bool s.stuck]) ∧ Below w.heap.size w w' := by
  obtain ⟨vu, vt, vr, vo, ve, vs, fs, hx⟩ := h
  obtain ⟨c0, c1, c2, c3, c4, c5, c6⟩ := hx.cells
  clear hx c0 c1 c2 c3 c4
  unfold whyV at *
  go_enter Try.func14, Try.ntmps14
  go_wp2_with fail
  go_quiet (fail)
  go_wp2_with fail
  go_ret2
  exact ⟨rfl, below_drewN (Below.refl _ _) nq⟩
theorem eqs_nil (w : World) : Calls Try.prog 16 #[.pointer none] w fun e w' => e = .returned (.slice none 0 0) ∧ w = w' := by
  go_enter Try.func16, Try.ntmps16
  go_wp2_with fail
  go_ret
  exact ⟨rfl, rfl⟩
structure RetQ (w : World) (l : List Eqn) (e : Ending) (w' : World) : Prop where
  ex : ∃ v, e = .returned v ∧ RowZ w' 52 19 v l.length (eqnsV l) ∧ Below w.heap.size w w'
theorem eqnsV_one (l : List Eqn) : ∀ u ∈ eqnsV l, u.oneCell' = true := fun u hu => by
  simp only [eqnsV, List.mem_flatMap] at hu
  obtain ⟨f, _, hf⟩ := hu
  simp only [eqnV, atV, elV, whyV, List.mem_append, List.mem_cons, List.not_mem_nil, or_false] at hf
  rcases hf with (hf | hf) | rfl
  · rcases hf with rfl | rfl | rfl | rfl | rfl | rfl | rfl | rfl | rfl <;> rfl
  · rcases hf with rfl | rfl | rfl | rfl | rfl | rfl | rfl | rfl | rfl <;> rfl
  · rfl
set_option maxRecDepth 100000 in
set_option maxHeartbeats 1000000 in
theorem eqs_any (P B : Nat) (g : Bl) (s : T) (w : World) (h : Tb w B P g s) (hn : s.eqs.length ≤ 1000000000) : Calls Try.prog 16 #[.pointer (some ⟨P, 0, none⟩)] w fun e w' => RetQ w s.eqs e w' := by
  obtain ⟨i1, hj, hy0, hy1, hy2⟩ := info_parts info_eq
  obtain ⟨vu, vt, vr, vo, ve, vs, fs, hx⟩ := h
  obtain ⟨Ae, ce, rfl, hce, hcem⟩ := RowZ.form hx.eqs
  have hb := below_laid w (.cells #[] 52)
  have hx2 := hx.below hb
  have c4 : (w.alloc (.cells #[] 52)).cell? ⟨P, 4, none⟩ = some (.slice Ae s.eqs.length ce) := hx2.cells.2.2.2.2.1
  have hrow0 : RowZ (w.alloc (.cells #[] 52)) 52 19 (.slice (some ⟨w.heap.size, 0, none⟩) 0 0) 0 [] := RowZ.laid w 52 19 0 [] rfl (Nat.zero_le _)
  have HX := hide (And.intro hrow0 (And.intro hx2 hb))
  clear hx hx2 hb hrow0
  go_enter Try.func16, Try.ntmps16
  go_wp2_with (at_builtin; go_must (refine app_rowz rfl (.tmp 5) (.tmp 9) 45 45 rfl 52 i1 _ 19 152 Try.underlying45 hj hy0 hy1 hy2 rfl (.slice (some ⟨w.heap.size, 0, none⟩) 0 0) 0 [] rfl HX.out.1 (.slice Ae s.eqs.length ce) s.eqs.length (eqnsV s.eqs) rfl (SlAt.src (B := 0) Try.underlying45 (SlAt.of_row HX.out.2.1.eqs) (eqnsV_one s.eqs)) (by unfold maxLen; omega) (by omega) ?_); intro A' c' w' hr hg hob; go_must (simp only [Nat.zero_add, List.nil_append] at hr hob ⊢); have HG := hide (And.intro hr (And.intro hg hob)); clear hr hg hob)
  go_ret
  exact ⟨_, rfl, HG.out.1, HX.out.2.2.grown HG.out.2.1 (by simp) (fun k hk => by simp [Value.ownBlock] at hk; omega)⟩
end Go.Proofs.Ythnbhcfpfbimgaa
