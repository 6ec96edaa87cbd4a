/- The walk of tick: one time more. -/
import Derived.Test.YthnbhcfpfbimgaaRwDid
namespace Go.Proofs.Ythnbhcfpfbimgaa
open Go.RowKit
open Rw (El At Fld Lk Eqn U T W64)

theorem int_news {w : World} {b : Nat} {z : Int} (h : w.heap[b]? = some (.cells #[.int .i64 z] 3 (0, 0))) : Src Try.prog 1 78 (.slice (some ⟨b, 0, none⟩) 1 1) 1 [.int .i64 z] w :=
  Src.ofSlice _ Try.underlying78 ⟨b, 0, none⟩ 1 1 _ rfl (World.news_of_block (cs := #[.int .i64 z]) (t := 3) (fr := (0, 0)) h) (by simp [Value.oneCell'])
theorem TbX.drew {w : World} {B P : Nat} {g : Bl} {s : T} {vu vt vr vo ve : Value} {vs : List (Value × Value)} {fs : List Value} (h : TbX w B P g s vu vt vr vo ve vs fs) : TbX w.drew B P g s vu vt vr vo ve vs fs := h.below (below_drewN (Below.refl _ _) 1)
set_option maxRecDepth 100000 in
set_option maxHeartbeats 1000000000 in
theorem tick_any (P B : Nat) (g : Bl) (s : T) (w : World) (h : Tb w B P g s) (hB : B ≤ w.heap.size) (hn : s.times.length ≤ 1000000000) :
    Calls Try.prog 45 #[.pointer (some ⟨P, 0, none⟩)] w fun e w' => RetS (.tuple #[]) w B P g s.tick e w' := by
  obtain ⟨i1, hj, hy0, hy1, hy2⟩ := info_parts info_int
  obtain ⟨vu, vt, vr, vo, ve, vs, fs, hx⟩ := h
  obtain ⟨Au, cu, rfl, hcu, hcm⟩ := RowZ.form hx.undo
  obtain ⟨At, ct, rfl, hct, hctm⟩ := RowZ.form hx.times
  obtain ⟨c0, c1, _⟩ := hx.cells
  have hlt := hx.lt
  have HX := hide hx
  have HB := hide hB
  clear hx hB
  go_enter Try.func45, Try.ntmps45
  go_upto_region 0 with (fail)
  refine wp_region_chain [0, 1, 2, 3, 4, 5, 6, 7, 8, 9] [(10, true), (11, true), (12, false), (13, false), (14, false)] (fun w' => w'.cell? ⟨P, 0, none⟩ = some (.slice Au s.undo.length cu) ∧ w'.cell? ⟨P, 1, none⟩ = some (.slice At s.times.length ct)) (by kernel_rfl) (by kernel_rfl) (fun _ _ _ _ _ h => h) ⟨c0, c1⟩ ?_
  intro hne
  simp only [picks, picksW, List.filterMap_cons, List.filterMap_nil, List.getElem?_cons_zero, List.getElem?_cons_succ, Option.map_some]
  have hu0 : ∀ u : HoldW (fun w' => w'.cell? ⟨P, 0, none⟩ = some (.slice Au s.undo.length cu) ∧ w'.cell? ⟨P, 1, none⟩ = some (.slice At s.times.length ct)), u.w.cell? ⟨P, 0, none⟩ = some (.slice Au s.undo.length cu) := fun u => u.ok.1
  have hu1 : ∀ u : HoldW (fun w' => w'.cell? ⟨P, 0, none⟩ = some (.slice Au s.undo.length cu) ∧ w'.cell? ⟨P, 1, none⟩ = some (.slice At s.times.length ct)), u.w.cell? ⟨P, 1, none⟩ = some (.slice At s.times.length ct) := fun u => u.ok.2
  repeat (refine wpHeld_step (fun K hK => ?_); go_simp; refine hK _ ?_; clear hK K)
  refine wpHeld_nil ?_
  clear hu0 hu1 hne
  refine wpChain_cons fun K hK => ?_
  go_wp2_with fail
  have hba : Below w.drew.heap.size w.drew (w.drew.alloc (.cells #[.int .i64 (s.undo.length : Nat)] 3)) := below_laid w.drew _
  refine chainF (fun _ => ⟨(hba.cell (p := ⟨P, 0, none⟩) hlt).trans c0, (hba.cell (p := ⟨P, 1, none⟩) hlt).trans c1⟩) (hK _ _ ?_)
  clear hK K
  have hxa := HX.out.drew.below hba
  have HA := hide (And.intro hxa hba)
  clear hxa hba
  refine wpChain_cons fun K hK => ?_
  refine app_rowz rfl (.tmp 6) (.tmp 12) 78 78 rfl 3 i1 _ 1 8 Try.underlying78 hj hy0 hy1 hy2 rfl (.slice At s.times.length ct) s.times.length (intsV s.times) rfl HA.out.1.times _ 1 [.int .i64 (s.undo.length : Nat)] rfl (int_news (heap_alloc_new w.drew _)) (by unfold maxLen; omega) (by omega) ?_
  intro A' c' w' hr hg hob
  have hxa := HA.out.1
  have hnb : (Value.slice A' (s.times.length + 1) c').ownBlock = (Value.slice At s.times.length ct).ownBlock ∨ ∃ b, (Value.slice A' (s.times.length + 1) c').ownBlock = some b ∧ (w.drew.alloc (.cells #[.int .i64 (s.undo.length : Nat)] 3)).heap.size ≤ b := hob.imp id fun e => ⟨_, e, Nat.le_refl _⟩
  have hkk : ∀ b, b < (w.drew.alloc (.cells #[.int .i64 (s.undo.length : Nat)] 3)).heap.size → (Value.slice At s.times.length ct).ownBlock ≠ some b → w'.heap[b]? = (w.drew.alloc (.cells #[.int .i64 (s.undo.length : Nat)] 3)).heap[b]? := fun b hb hne => hg.block b hb fun e => hne e.symm
  have hnew := hxa.newT (l' := s.times ++ [s.undo.length]) (v' := .slice A' (s.times.length + 1) c') hg.size hkk (by rw [List.length_append, show intsV (s.times ++ [s.undo.length]) = intsV s.times ++ [.int .i64 (s.undo.length : Nat)] by simp [intsV]]; exact hr) hnb (Nat.le_trans HB.out HA.out.2.size)
  have hPw : w'.heap[P]? = (w.drew.alloc (.cells #[.int .i64 (s.undo.length : Nat)] 3)).heap[P]? := hkk P hxa.lt hxa.ne.1.2.1
  have q0 : w'.cell? ⟨P, 0, none⟩ = some (.slice Au s.undo.length cu) := (World.cell?_of_block hPw).trans hxa.cells.1
  have q1 : w'.cell? ⟨P, 1, none⟩ = some (.slice At s.times.length ct) := (World.cell?_of_block hPw).trans hxa.cells.2.1
  have q2 : w'.frozen? ⟨P, 1, none⟩ = false := (World.frozen?_of_block hPw).trans (hxa.free 1)
  have hkp : Kp (OnB P g) w (w'.setCell ⟨P, 1, none⟩ (.slice A' (s.times.length + 1) c')) := ((((Kp.refl _ w).drew).alloc _).grown hg fun b hb => .inl (.inr (.inr (.inl (by rw [← hxa.bl.2.1]; exact hb))))).setCell (.inl (.inl rfl)) _
  have HF := hide (And.intro hnew (And.intro hkp (And.intro hnb hxa.bl.2.1)))
  refine chainF (fun _ => ⟨q0, q1⟩) (hK _ _ ?_)
  clear hr hg hob hxa hkk hnew hPw hkp hnb c0 c1 hK K
  refine wpChain_cons fun K hK => ?_
  go_wp2_with fail
  refine chainSkip (hK _ _ ?_)
  clear hK K
  refine wpChain_cons fun K hK => ?_
  go_wp2_with fail
  refine chainSkip (hK _ _ ?_)
  clear hK K
  refine wpChain_cons fun K hK => ?_
  go_wp2_with fail
  refine chainSkip (hK _ _ ?_)
  clear hK K
  refine wpChain_nil ?_
  go_wp2_with fail
  go_end0
  refine ⟨rfl, ⟨_, ⟨_, _, _, _, _, _, _, HF.out.1⟩, HF.out.2.1, ⟨.inl rfl, ?_, .inl rfl, .inl rfl, .inl rfl⟩⟩⟩
  rcases HF.out.2.2.1 with e | ⟨b, e, hb⟩
  · exact .inl (e.trans HF.out.2.2.2)
  · exact .inr ⟨b, e, by rw [World.size_alloc] at hb; have : w.drew.heap.size = w.heap.size := rfl; omega⟩
end Go.Proofs.Ythnbhcfpfbimgaa
