/- Texts put together: RwDid RwTick RwFresh RwKeep. -/
import Derived.Deep.DeepCutAuto
import Derived.Test.YthnbhcfpfbimgaaGreatMl02
/- The walks of did and tick: a change, and what undoes it; one time more. -/
namespace Go.Proofs.YthnbhcfpfbimgaaGreat
open Go.RowKit
open Rw (El At Fld Lk Eqn U T W64)

def NewOr (w : World) (a b : Option Nat) : Prop := b = a ∨ ∃ k, b = some k ∧ w.heap.size ≤ k
theorem NewOr.refl (w : World) (a : Option Nat) : NewOr w a a := .inl rfl
theorem NewOr.trans {w w' : World} {a b c : Option Nat} (h : NewOr w a b) (h2 : NewOr w' b c) (hs : w.heap.size ≤ w'.heap.size) : NewOr w a c := by
  rcases h2 with e | ⟨k, e, hk⟩
  · rw [e]; exact h
  · exact .inr ⟨k, e, by omega⟩
theorem NewOr.back {w w' : World} {a b : Option Nat} (h : NewOr w' a b) (hs : w.heap.size ≤ w'.heap.size) : NewOr w a b := h.imp id fun ⟨k, e, hk⟩ => ⟨k, e, by omega⟩
theorem NewOr.ne {w : World} {a b : Option Nat} (h : NewOr w a b) {k : Nat} (hk : k < w.heap.size) (hn : a ≠ some k) : b ≠ some k := by
  rcases h with e | ⟨k', e, hk'⟩
  · rw [e]; exact hn
  · rw [e]; intro e2; injection e2 with e2; omega
/-- The table's blocks. -/
def OnB (P : Nat) (g : Bl) (k : Nat) : Prop := k = P ∨ g.u = some k ∨ g.t = some k ∨ g.r = some k ∨ g.o = some k ∨ g.e = some k
structure Gn (w : World) (g g' : Bl) : Prop where
  u : NewOr w g.u g'.u
  t : NewOr w g.t g'.t
  r : NewOr w g.r g'.r
  o : NewOr w g.o g'.o
  e : NewOr w g.e g'.e
theorem Gn.refl (w : World) (g : Bl) : Gn w g g := ⟨.inl rfl, .inl rfl, .inl rfl, .inl rfl, .inl rfl⟩
theorem Gn.trans {w w' : World} {a b c : Bl} (h : Gn w a b) (h2 : Gn w' b c) (hs : w.heap.size ≤ w'.heap.size) : Gn w a c := ⟨h.u.trans h2.u hs, h.t.trans h2.t hs, h.r.trans h2.r hs, h.o.trans h2.o hs, h.e.trans h2.e hs⟩
theorem Gn.back {w w' : World} {a b : Bl} (h : Gn w' a b) (hs : w.heap.size ≤ w'.heap.size) : Gn w a b := ⟨h.u.back hs, h.t.back hs, h.r.back hs, h.o.back hs, h.e.back hs⟩
theorem Gn.on {w : World} {P : Nat} {g g' : Bl} (h : Gn w g g') : ∀ k, OnB P g' k → OnB P g k ∨ w.heap.size ≤ k := by
  have key : ∀ {a b : Option Nat} {k : Nat}, NewOr w a b → b = some k → a = some k ∨ w.heap.size ≤ k := fun {a b k} hn hb => by
    rcases hn with e | ⟨k', e, hk'⟩
    · exact .inl (by rw [← e]; exact hb)
    · rw [e] at hb; injection hb with hb; exact .inr (by omega)
  rintro k (e | e | e | e | e | e)
  · exact .inl (.inl e)
  · exact (key h.u e).imp (fun e => .inr (.inl e)) id
  · exact (key h.t e).imp (fun e => .inr (.inr (.inl e))) id
  · exact (key h.r e).imp (fun e => .inr (.inr (.inr (.inl e)))) id
  · exact (key h.o e).imp (fun e => .inr (.inr (.inr (.inr (.inl e))))) id
  · exact (key h.e e).imp (fun e => .inr (.inr (.inr (.inr (.inr e))))) id
/-- A step of the table: it is there, with the state s', and nothing else has turned but its own blocks. -/
structure Stp (w : World) (B P : Nat) (g : Bl) (s' : T) (w' : World) : Prop where
  ex : ∃ g', Tb w' B P g' s' ∧ Kp (OnB P g) w w' ∧ Gn w g g'
theorem Stp.trans {w w1 w2 : World} {B P : Nat} {g g1 : Bl} {s' : T} (hk : Kp (OnB P g) w w1) (hg : Gn w g g1) (h : Stp w1 B P g1 s' w2) : Stp w B P g s' w2 := by
  obtain ⟨g2, h1, h2, h3⟩ := h.ex
  exact ⟨g2, h1, hk.trans h2 hg.on, hg.trans h3 hk.size⟩
theorem Stp.of_below {w w' : World} {B P : Nat} {g : Bl} {s : T} (h : Tb w B P g s) (hb : Below w.heap.size w w') : Stp w B P g s w' := by
  obtain ⟨vu, vt, vr, vo, ve, vs, fs, hx⟩ := h
  exact ⟨g, ⟨vu, vt, vr, vo, ve, vs, fs, hx.below hb⟩, Kp.of_below hb, Gn.refl _ _⟩
theorem Tb.ge {w : World} {B P : Nat} {g : Bl} {s : T} (h : Tb w B P g s) : ∀ k, OnB P g k → B ≤ k := by
  obtain ⟨_, _, _, _, _, _, _, hx⟩ := h
  obtain ⟨g0, g1, g2, g3, g4, g5⟩ := hx.ge
  rintro k (e | e | e | e | e | e)
  · omega
  · exact g1 k e
  · exact g2 k e
  · exact g3 k e
  · exact g4 k e
  · exact g5 k e
theorem info_func : (Tryz.prog.info? 1).map (fun i => (i.zero, i.size, i.bytes)) = some (some .nilFunc, 1, 8) := by kernel_rfl
theorem info_int : (Tryz.prog.info? 3).map (fun i => (i.zero, i.size, i.bytes)) = some (some (.int .i64 0), 1, 8) := by kernel_rfl
theorem FuncIs.below {w w' : World} {B P : Nat} {g : Bl} {f : Value} {u : U} (h : FuncIs w B P g f u) (hb : Below w.heap.size w w') : FuncIs w' B P g f u := h.keep hb.size (fun b hlt _ => hb.block b hlt) (fun _ _ => id) (fun _ _ => id) (fun _ _ => id)
theorem fs_snoc {w : World} {B P : Nat} {g : Bl} {fs : List Value} {us : List U} {f : Value} {u : U} (hl : fs.length = us.length) (h : ∀ (k : Nat) f u, fs[k]? = some f → us[k]? = some u → FuncIs w B P g f u) (hf : FuncIs w B P g f u) :
    ∀ (k : Nat) f' u', (fs ++ [f])[k]? = some f' → (us ++ [u])[k]? = some u' → FuncIs w B P g f' u' := fun k f' u' h1 h2 => by
  rcases Nat.lt_or_ge k fs.length with hk | hk
  · rw [List.getElem?_append_left hk] at h1
    rw [List.getElem?_append_left (by omega)] at h2
    exact h k f' u' h1 h2
  · have hk' : k = fs.length := by
      have := (List.getElem?_eq_some_iff.1 h1).1
      simp at this; omega
    subst hk'
    rw [List.getElem?_append_right (Nat.le_refl _), Nat.sub_self] at h1
    rw [List.getElem?_append_right (by omega), hl, Nat.sub_self] at h2
    simp at h1 h2
    subst h1
    subst h2
    exact hf
structure RetS (v : Value) (w : World) (B P : Nat) (g : Bl) (s' : T) (e : Ending) (w' : World) : Prop where
  ret : e = .returned v
  stp : Stp w B P g s' w'
/-- The same, and the slice of the own ones is the same one. -/
structure RetK (v : Value) (w : World) (B P : Nat) (g : Bl) (s' : T) (e : Ending) (w' : World) : Prop where
  ret : RetS v w B P g s' e w'
  own : w'.cell? ⟨P, 3, none⟩ = w.cell? ⟨P, 3, none⟩
theorem RowZ.n_len {w : World} {e : TypeId} {v : Value} {n : Nat} {xs : List Value} (h : RowZ w e 1 v n xs) : xs.length = n := by have := h.len; omega
set_option maxRecDepth 100000 in
set_option maxHeartbeats 1000000 in
theorem did_any (P B : Nat) (g : Bl) (fn : Fn) (cp : Array Value) (u : U) (s : T) (w : World) (h : Tb w B P g s) (hf : FuncIs w B P g (.func fn #[] cp) u) (hB : B ≤ w.heap.size) (hn : s.undo.length ≤ 1000000000) :
    Calls Tryz.prog 47 #[.pointer (some ⟨P, 0, none⟩), .func fn #[] cp] w fun e w' => RetK (.tuple #[]) w B P g (s.did u) e w' := by
  obtain ⟨i1, hj, hy0, hy1, hy2⟩ := info_parts info_func
  obtain ⟨vu, vt, vr, vo, ve, vs, fs, hx⟩ := h
  obtain ⟨Au, cu, rfl, hcu, hcm⟩ := RowZ.form hx.undo
  obtain ⟨c0, _⟩ := hx.cells
  have hba := below_laid w (.cells #[.func fn #[] cp] 1)
  have HX := hide (And.intro hx (And.intro hf (And.intro (hx.below hba) (And.intro hba (heap_alloc_new w (.cells #[.func fn #[] cp] 1))))))
  have HB := hide hB
  have HO := hide hx.cells.2.2.2.1
  have hlt := hx.lt
  clear hx hf hba hB
  go_enter Tryz.func47, Tryz.ntmps47
  go_wp2_with (at_builtin; refine app_rowz rfl (.tmp 8) (.tmp 10) 89 89 rfl 1 i1 _ 1 8 Tryz.underlying89 hj hy0 hy1 hy2 rfl (.slice Au s.undo.length cu) s.undo.length fs rfl HX.out.2.2.1.undo _ 1 [.func fn #[] cp] rfl (Src.ofSlice _ Tryz.underlying89 ⟨w.heap.size, 0, none⟩ 1 1 _ rfl (World.news_of_block (cs := #[.func fn #[] cp]) (t := 1) (fr := (0, 0)) HX.out.2.2.2.2) (by simp [Value.oneCell'])) (by unfold maxLen; omega) (by omega) ?_)
  intro A' c' w' hr hg hob
  have hxa := HX.out.2.2.1
  have hsz : w.heap.size ≤ w'.heap.size := Nat.le_trans HX.out.2.2.2.1.size hg.size
  have hnb : (Value.slice A' (s.undo.length + 1) c').ownBlock = (Value.slice Au s.undo.length cu).ownBlock ∨ ∃ b, (Value.slice A' (s.undo.length + 1) c').ownBlock = some b ∧ (w.alloc (.cells #[.func fn #[] cp] 1)).heap.size ≤ b := hob.imp id fun e => ⟨_, e, by rw [World.size_alloc]; exact Nat.le_refl _⟩
  have hkk : ∀ b, b < (w.alloc (.cells #[.func fn #[] cp] 1)).heap.size → (Value.slice Au s.undo.length cu).ownBlock ≠ some b → w'.heap[b]? = (w.alloc (.cells #[.func fn #[] cp] 1)).heap[b]? := fun b hb hne => hg.block b hb fun e => hne e.symm
  have hfs : ∀ (k : Nat) f' u', (fs ++ [.func fn #[] cp])[k]? = some f' → (s.undo ++ [u])[k]? = some u' → FuncIs w' B P g f' u' := fs_snoc (RowZ.n_len hxa.undo) (fun k f' u' h1 h2 => (hxa.funcs k f' u' h1 h2).keep hg.size (fun b hb hl => hkk b hb (hxa.off hl).2.1) (fun _ _ => id) (fun _ _ => id) (fun _ _ => id))
    ((HX.out.2.1.below HX.out.2.2.2.1).keep hg.size (fun b hb hl => hkk b hb (hxa.off hl).2.1) (fun _ _ => id) (fun _ _ => id) (fun _ _ => id))
  have hnew := hxa.newU (us' := s.undo ++ [u]) (fs' := fs ++ [.func fn #[] cp]) (v' := .slice A' (s.undo.length + 1) c') hg.size hkk (by rw [List.length_append]; exact hr) hfs hnb (Nat.le_trans HB.out HX.out.2.2.2.1.size)
  have hPw : w'.heap[P]? = (w.alloc (.cells #[.func fn #[] cp] 1)).heap[P]? := hkk P hxa.lt hxa.ne.1.1
  have q0 : w'.cell? ⟨P, 0, none⟩ = some (.slice Au s.undo.length cu) := (World.cell?_of_block hPw).trans hxa.cells.1
  have q1 : w'.frozen? ⟨P, 0, none⟩ = false := (World.frozen?_of_block hPw).trans (hxa.free 0)
  have hkp : Kp (OnB P g) w (w'.setCell ⟨P, 0, none⟩ (.slice A' (s.undo.length + 1) c')) := (((Kp.refl _ w).alloc _).grown hg fun b hb => .inl (.inr (.inl (by rw [← hxa.bl.1]; exact hb)))).setCell (.inl (.inl rfl)) _
  have HF := hide (And.intro hnew (And.intro hkp (And.intro hnb hxa.bl.1)))
  clear hr hg hob hxa hkk hfs hnew hPw hkp hnb c0
  go_wp2_with fail
  go_end0
  refine ⟨⟨rfl, ⟨_, ⟨_, _, _, _, _, _, _, HF.out.1⟩, HF.out.2.1, ⟨?_, .inl rfl, .inl rfl, .inl rfl, .inl rfl⟩⟩⟩, HF.out.1.cells.2.2.2.1.trans HO.out.symm⟩
  rcases HF.out.2.2.1 with e | ⟨b, e, hb⟩
  · exact .inl (e.trans HF.out.2.2.2)
  · exact .inr ⟨b, e, by rw [World.size_alloc] at hb; omega⟩
end Go.Proofs.YthnbhcfpfbimgaaGreat
/- The walk of tick: one time more. -/
namespace Go.Proofs.YthnbhcfpfbimgaaGreat
open Go.RowKit
open Rw (El At Fld Lk Eqn U T W64)

theorem int_news {w : World} {b : Nat} {z : Int} (h : w.heap[b]? = some (.cells #[.int .i64 z] 3 (0, 0))) : Src Tryz.prog 1 90 (.slice (some ⟨b, 0, none⟩) 1 1) 1 [.int .i64 z] w :=
  Src.ofSlice _ Tryz.underlying90 ⟨b, 0, none⟩ 1 1 _ rfl (World.news_of_block (cs := #[.int .i64 z]) (t := 3) (fr := (0, 0)) h) (by simp [Value.oneCell'])
theorem TbX.drew {w : World} {B P : Nat} {g : Bl} {s : T} {vu vt vr vo ve : Value} {vs : List (Value × Value)} {fs : List Value} (h : TbX w B P g s vu vt vr vo ve vs fs) : TbX w.drew B P g s vu vt vr vo ve vs fs := h.below (below_drewN (Below.refl _ _) 1)
set_option maxRecDepth 100000 in
set_option maxHeartbeats 1000000 in
theorem tick_any (P B : Nat) (g : Bl) (s : T) (w : World) (h : Tb w B P g s) (hB : B ≤ w.heap.size) (hn : s.times.length ≤ 1000000000) :
    Calls Tryz.prog 45 #[.pointer (some ⟨P, 0, none⟩)] w fun e w' => RetS (.tuple #[]) w B P g s.tick e w' := by
  obtain ⟨i1, hj, hy0, hy1, hy2⟩ := info_parts info_int
  obtain ⟨vu, vt, vr, vo, ve, vs, fs, hx⟩ := h
  obtain ⟨Au, cu, rfl, hcu, hcm⟩ := RowZ.form hx.undo
  obtain ⟨At, ct, rfl, hct, hctm⟩ := RowZ.form hx.times
  obtain ⟨c0, c1, _⟩ := hx.cells
  have hlt := hx.lt
  have HX := hide hx
  have HB := hide hB
  clear hx hB
  go_enter Tryz.func45, Tryz.ntmps45
  go_upto_region 0 with (fail)
  refine wp_region_chain [0, 1, 2, 3, 4, 5, 6, 7, 8, 9] [(10, true), (11, true), (12, false), (13, false), (14, false)] (fun w' => w'.cell? ⟨P, 0, none⟩ = some (.slice Au s.undo.length cu) ∧ w'.cell? ⟨P, 1, none⟩ = some (.slice At s.times.length ct)) (by kernel_rfl) (by kernel_rfl) (fun _ _ _ _ _ h => h) ⟨c0, c1⟩ ?_
  intro hne
  simp only [picks, picksW, List.filterMap_cons, List.filterMap_nil, List.getElem?_cons_zero, List.getElem?_cons_succ, Option.map_some]
  have hu0 : ∀ u : HoldW (fun w' => w'.cell? ⟨P, 0, none⟩ = some (.slice Au s.undo.length cu) ∧ w'.cell? ⟨P, 1, none⟩ = some (.slice At s.times.length ct)), u.w.cell? ⟨P, 0, none⟩ = some (.slice Au s.undo.length cu) := fun u => u.ok.1
  have hu1 : ∀ u : HoldW (fun w' => w'.cell? ⟨P, 0, none⟩ = some (.slice Au s.undo.length cu) ∧ w'.cell? ⟨P, 1, none⟩ = some (.slice At s.times.length ct)), u.w.cell? ⟨P, 1, none⟩ = some (.slice At s.times.length ct) := fun u => u.ok.2
  repeat (refine wpHeld_step (fun K hK => ?_); go_simp; refine hK _ ?_; clear hK K)
  refine wpHeld_nil ?_
  clear hu0 hu1 hne
  refine wpChain_cons fun K hK => ?_
  go_wp2_with fail
  have hba : Below w.drew.heap.size w.drew (w.drew.alloc (.cells #[.int .i64 (s.undo.length : Nat)] 3)) := below_laid w.drew _
  refine chainF (fun _ => ⟨(hba.cell (p := ⟨P, 0, none⟩) hlt).trans c0, (hba.cell (p := ⟨P, 1, none⟩) hlt).trans c1⟩) (hK _ _ ?_)
  clear hK K
  have hxa := HX.out.drew.below hba
  have HA := hide (And.intro hxa hba)
  clear hxa hba
  refine wpChain_cons fun K hK => ?_
  refine app_rowz rfl (.tmp 6) (.tmp 12) 90 90 rfl 3 i1 _ 1 8 Tryz.underlying90 hj hy0 hy1 hy2 rfl (.slice At s.times.length ct) s.times.length (intsV s.times) rfl HA.out.1.times _ 1 [.int .i64 (s.undo.length : Nat)] rfl (int_news (heap_alloc_new w.drew _)) (by unfold maxLen; omega) (by omega) ?_
  intro A' c' w' hr hg hob
  have hxa := HA.out.1
  have hnb : (Value.slice A' (s.times.length + 1) c').ownBlock = (Value.slice At s.times.length ct).ownBlock ∨ ∃ b, (Value.slice A' (s.times.length + 1) c').ownBlock = some b ∧ (w.drew.alloc (.cells #[.int .i64 (s.undo.length : Nat)] 3)).heap.size ≤ b := hob.imp id fun e => ⟨_, e, Nat.le_refl _⟩
  have hkk : ∀ b, b < (w.drew.alloc (.cells #[.int .i64 (s.undo.length : Nat)] 3)).heap.size → (Value.slice At s.times.length ct).ownBlock ≠ some b → w'.heap[b]? = (w.drew.alloc (.cells #[.int .i64 (s.undo.length : Nat)] 3)).heap[b]? := fun b hb hne => hg.block b hb fun e => hne e.symm
  have hnew := hxa.newT (l' := s.times ++ [s.undo.length]) (v' := .slice A' (s.times.length + 1) c') hg.size hkk (by rw [List.length_append, show intsV (s.times ++ [s.undo.length]) = intsV s.times ++ [.int .i64 (s.undo.length : Nat)] by simp [intsV]]; exact hr) hnb (Nat.le_trans HB.out HA.out.2.size)
  have hPw : w'.heap[P]? = (w.drew.alloc (.cells #[.int .i64 (s.undo.length : Nat)] 3)).heap[P]? := hkk P hxa.lt hxa.ne.1.2.1
  have q0 : w'.cell? ⟨P, 0, none⟩ = some (.slice Au s.undo.length cu) := (World.cell?_of_block hPw).trans hxa.cells.1
  have q1 : w'.cell? ⟨P, 1, none⟩ = some (.slice At s.times.length ct) := (World.cell?_of_block hPw).trans hxa.cells.2.1
  have q2 : w'.frozen? ⟨P, 1, none⟩ = false := (World.frozen?_of_block hPw).trans (hxa.free 1)
  have hkp : Kp (OnB P g) w (w'.setCell ⟨P, 1, none⟩ (.slice A' (s.times.length + 1) c')) := ((((Kp.refl _ w).drew).alloc _).grown hg fun b hb => .inl (.inr (.inr (.inl (by rw [← hxa.bl.2.1]; exact hb))))).setCell (.inl (.inl rfl)) _
  have HF := hide (And.intro hnew (And.intro hkp (And.intro hnb hxa.bl.2.1)))
  refine chainF (fun _ => ⟨q0, q1⟩) (hK _ _ ?_)
  clear hr hg hob hxa hkk hnew hPw hkp hnb c0 c1 hK K
  refine wpChain_cons fun K hK => ?_
  go_wp2_with fail
  refine chainSkip (hK _ _ ?_)
  clear hK K
  refine wpChain_cons fun K hK => ?_
  go_wp2_with fail
  refine chainSkip (hK _ _ ?_)
  clear hK K
  refine wpChain_cons fun K hK => ?_
  go_wp2_with fail
  refine chainSkip (hK _ _ ?_)
  clear hK K
  refine wpChain_nil ?_
  go_wp2_with fail
  go_end0
  refine ⟨rfl, ⟨_, ⟨_, _, _, _, _, _, _, HF.out.1⟩, HF.out.2.1, ⟨.inl rfl, ?_, .inl rfl, .inl rfl, .inl rfl⟩⟩⟩
  rcases HF.out.2.2.1 with e | ⟨b, e, hb⟩
  · exact .inl (e.trans HF.out.2.2.2)
  · exact .inr ⟨b, e, by rw [World.size_alloc] at hb; have : w.drew.heap.size = w.heap.size := rfl; omega⟩
end Go.Proofs.YthnbhcfpfbimgaaGreat
/- The walk of fresh: one row more. -/
namespace Go.Proofs.YthnbhcfpfbimgaaGreat
open Go.RowKit
open Rw (El At Fld Lk Eqn U T W64)
theorem info_row : (Tryz.prog.info? 133).map (fun i => (i.zero, i.size, i.bytes)) = some (some (.agg #[.bool false, .slice none 0 0, .int .i64 0, .int .u64 0, .slice none 0 0]), 5, 72) := by kernel_rfl
theorem row0_news {w : World} {b : Nat} (h : w.heap[b]? = some (.cells #[.bool false, .slice none 0 0, .int .i64 (-1), .int .u64 0, .slice none 0 0] 133 (0, 0))) :
    Src Tryz.prog 5 93 (.slice (some ⟨b, 0, none⟩) 1 1) 1 [.bool false, .slice none 0 0, .int .i64 (-1), .int .u64 0, .slice none 0 0] w :=
  Src.ofSlice _ Tryz.underlying93 ⟨b, 0, none⟩ 1 1 _ rfl (World.news_of_block (cs := #[.bool false, .slice none 0 0, .int .i64 (-1), .int .u64 0, .slice none 0 0]) (t := 133) (fr := (0, 0)) h) (by simp [Value.oneCell'])
theorem rowsV_snoc (rs : List Rw.Row) (vs : List (Value × Value)) (r : Rw.Row) (v : Value × Value) (h : vs.length = rs.length) : rowsV (rs ++ [r]) (vs ++ [v]) = rowsV rs vs ++ rowV r v := by
  simp [rowsV, List.zip_append h.symm]
theorem rowAt_snoc {w : World} {B : Nat} {rs : List Rw.Row} {vs : List (Value × Value)} {r : Rw.Row} {v : Value × Value} (hl : vs.length = rs.length) (h : ∀ (k : Nat) r v, rs[k]? = some r → vs[k]? = some v → RowAt w B r v) (hr : RowAt w B r v) :
    ∀ (k : Nat) r' v', (rs ++ [r])[k]? = some r' → (vs ++ [v])[k]? = some v' → RowAt w B r' v' := fun k r' v' h1 h2 => by
  rcases Nat.lt_or_ge k rs.length with hk | hk
  · rw [List.getElem?_append_left hk] at h1
    rw [List.getElem?_append_left (by omega)] at h2
    exact h k r' v' h1 h2
  · have hk' : k = rs.length := by
      have := (List.getElem?_eq_some_iff.1 h1).1
      simp at this; omega
    subst hk'
    rw [List.getElem?_append_right (Nat.le_refl _), Nat.sub_self] at h1
    rw [List.getElem?_append_right (by omega), hl, Nat.sub_self] at h2
    simp at h1 h2
    subst h1
    subst h2
    exact hr
/-- Two boxes, laid one behind the other: the table's pointer, and a number. -/
theorem boxes2 (w : World) (P n : Nat) : Below w.heap.size w ((w.alloc (.cells #[.pointer (some ⟨P, 0, none⟩)] 38)).alloc (.cells #[.int .i64 (n : Nat)] 3)) ∧
    ((w.alloc (.cells #[.pointer (some ⟨P, 0, none⟩)] 38)).alloc (.cells #[.int .i64 (n : Nat)] 3)).heap[w.heap.size]? = some (.cells #[.pointer (some ⟨P, 0, none⟩)] 38 (0, 0)) ∧
    ((w.alloc (.cells #[.pointer (some ⟨P, 0, none⟩)] 38)).alloc (.cells #[.int .i64 (n : Nat)] 3)).heap[w.heap.size + 1]? = some (.cells #[.int .i64 (n : Nat)] 3 (0, 0)) ∧
    ((w.alloc (.cells #[.pointer (some ⟨P, 0, none⟩)] 38)).alloc (.cells #[.int .i64 (n : Nat)] 3)).heap.size = w.heap.size + 2 := by
  refine ⟨(below_laid w _).alloc (by simp) _, ?_, ?_, by simp⟩
  · rw [heap_at, if_neg (by rw [World.size_alloc]; omega), heap_at, if_pos rfl]
  · rw [heap_at, if_pos (by rw [World.size_alloc])]
theorem TbX.not_on {w : World} {B P : Nat} {g : Bl} {s : T} {vu vt vr vo ve : Value} {vs : List (Value × Value)} {fs : List Value} {b : Nat} {cs : Array Value} (h : TbX w B P g s vu vt vr vo ve vs fs) (hb : w.heap[b]? = some (.cells cs 3 (0, 0))) (hn : g.t ≠ some b ∧ g.o ≠ some b) : ¬ OnB P g b := by
  obtain ⟨h1, h2, h3, h4, h5, h6⟩ := h.off (b := b) (.inr ⟨_, _, hb, .inr (.inr (.inr (.inr (.inl ⟨rfl, hn.1, hn.2⟩))))⟩)
  obtain ⟨b1, b2, b3, b4, b5⟩ := h.bl
  rintro (e | e | e | e | e | e)
  · exact h1 e
  · exact h2 (b1.trans e)
  · exact h3 (b2.trans e)
  · exact h4 (b3.trans e)
  · exact h5 (b4.trans e)
  · exact h6 (b5.trans e)
/-- A number in a box that is none of the table's blocks is kept by a step. -/
theorem Stp.kept_int {w w' : World} {B P : Nat} {g : Bl} {s' : T} {b : Nat} {z : Int} (h : Stp w B P g s' w') (hb : w.heap[b]? = some (.cells #[.int .i64 z] 3 (0, 0))) (hn : ¬ OnB P g b) : w'.cell? ⟨b, 0, none⟩ = some (.int .i64 z) := by
  obtain ⟨g', h1, h2, h3⟩ := h.ex
  rw [cell_block ((h2.block b (blk_lt hb) hn).trans hb)]
  rfl
set_option maxRecDepth 100000 in
set_option maxHeartbeats 2000000 in
theorem fresh_any (P B : Nat) (g : Bl) (s : T) (w : World) (h : Tb w B P g s) (hB : B ≤ w.heap.size) (hn : s.rows.length ≤ 1000000000) (hu : s.undo.length ≤ 1000000000) :
    Calls Tryz.prog 46 #[.pointer (some ⟨P, 0, none⟩)] w fun e w' => RetK (.int .i64 (s.rows.length : Nat)) w B P g s.fresh e w' := by
  obtain ⟨i1, hj, hy0, hy1, hy2⟩ := info_parts info_row
  have hmf := @makes Tryz.prog
  obtain ⟨vu, vt, vr, vo, ve, vs, fs, hx⟩ := h
  obtain ⟨Ar, cr, rfl, hcr, hcrm⟩ := RowZ.form hx.rows
  obtain ⟨hb2, e0, e1, hs2⟩ := boxes2 w P s.rows.length
  have hx2 := hx.below hb2
  have c2 : (w.alloc (.cells #[.pointer (some ⟨P, 0, none⟩)] 38)).cell? ⟨P, 2, none⟩ = some (.slice Ar s.rows.length cr) := (World.cell?_alloc_lt w _ ⟨P, 2, none⟩ hx.lt).trans hx.cells.2.2.1
  have k0 : ((w.alloc (.cells #[.pointer (some ⟨P, 0, none⟩)] 38)).alloc (.cells #[.int .i64 (s.rows.length : Nat)] 3)).cell? ⟨w.heap.size, 0, none⟩ = some (.pointer (some ⟨P, 0, none⟩)) := by rw [cell_block e0]; rfl
  have k2 := hx2.cells.2.2.1
  have hlt := hx2.lt
  have hnt : g.t ≠ some (w.heap.size + 1) ∧ g.o ≠ some (w.heap.size + 1) := by
    obtain ⟨b1, b2, b3, b4, b5⟩ := hx.bl
    exact ⟨fun e => by have := RowZ.lt hx.times _ (b2.trans e); omega, fun e => by have := RowZ.lt hx.own _ (b4.trans e); omega⟩
  have HO := hide (hx.cells.2.2.2.1)
  have HX := hide (And.intro hx2 (And.intro hb2 (And.intro e0 (And.intro e1 (And.intro hs2 (And.intro hB hnt))))))
  clear hx hx2 hb2 e0 e1 hB hnt hs2
  go_enter Tryz.func46, Tryz.ntmps46
  go_upto_region 2 with (fail)
  generalize (w.alloc (.cells #[.pointer (some ⟨P, 0, none⟩)] 38)).alloc (.cells #[.int .i64 (s.rows.length : Nat)] 3) = W at *
  clear c2
  have hbsz : w.heap.size < W.heap.size := by have := HX.out.2.2.2.2.1; omega
  refine wp_region_chain [0, 1, 2, 3, 4, 5] [(6, true), (7, true), (8, false), (9, false), (10, false)] (fun w' => w'.cell? ⟨w.heap.size, 0, none⟩ = some (.pointer (some ⟨P, 0, none⟩)) ∧ w'.cell? ⟨P, 2, none⟩ = some (.slice Ar s.rows.length cr)) (by kernel_rfl) (by kernel_rfl) (fun _ _ _ _ _ h => h) ⟨k0, k2⟩ ?_
  intro hne
  simp only [picks, picksW, List.filterMap_cons, List.filterMap_nil, List.getElem?_cons_zero, List.getElem?_cons_succ, Option.map_some]
  have hu0 : ∀ u : HoldW (fun w' => w'.cell? ⟨w.heap.size, 0, none⟩ = some (.pointer (some ⟨P, 0, none⟩)) ∧ w'.cell? ⟨P, 2, none⟩ = some (.slice Ar s.rows.length cr)), u.w.cell? ⟨w.heap.size, 0, none⟩ = some (.pointer (some ⟨P, 0, none⟩)) := fun u => u.ok.1
  have hu1 : ∀ u : HoldW (fun w' => w'.cell? ⟨w.heap.size, 0, none⟩ = some (.pointer (some ⟨P, 0, none⟩)) ∧ w'.cell? ⟨P, 2, none⟩ = some (.slice Ar s.rows.length cr)), u.w.cell? ⟨P, 2, none⟩ = some (.slice Ar s.rows.length cr) := fun u => u.ok.2
  repeat (refine wpHeld_step (fun K hK => ?_); go_simp; refine hK _ ?_; clear hK K)
  refine wpHeld_nil ?_
  clear hu0 hu1 hne
  refine wpChain_cons fun K hK => ?_
  go_wp2_with fail
  have hba : Below W.drew.heap.size W.drew (W.drew.alloc (.cells #[.bool false, .slice none 0 0, .int .i64 (-1), .int .u64 0, .slice none 0 0] 133)) := below_laid W.drew _
  refine chainF (fun _ => ⟨(hba.cell (p := ⟨w.heap.size, 0, none⟩) hbsz).trans k0, (hba.cell (p := ⟨P, 2, none⟩) hlt).trans k2⟩) (hK _ _ ?_)
  clear hK K
  have hxa := HX.out.1.drew.below hba
  have HA := hide (And.intro hxa hba)
  clear hxa hba
  refine wpChain_cons fun K hK => ?_
  refine app_rowz rfl (.tmp 13) (.tmp 15) 93 93 rfl 133 i1 _ 5 72 Tryz.underlying93 hj hy0 hy1 hy2 rfl (.slice Ar s.rows.length cr) s.rows.length (rowsV s.rows vs) rfl HA.out.1.rows _ 1 [.bool false, .slice none 0 0, .int .i64 (-1), .int .u64 0, .slice none 0 0] rfl (row0_news (heap_alloc_new W.drew _)) (by unfold maxLen; omega) (by omega) ?_
  intro A' c' w' hr hg hob
  have hxa := HA.out.1
  have hnb : (Value.slice A' (s.rows.length + 1) c').ownBlock = (Value.slice Ar s.rows.length cr).ownBlock ∨ ∃ b, (Value.slice A' (s.rows.length + 1) c').ownBlock = some b ∧ (W.drew.alloc (.cells #[.bool false, .slice none 0 0, .int .i64 (-1), .int .u64 0, .slice none 0 0] 133)).heap.size ≤ b := hob.imp id fun e => ⟨_, e, Nat.le_refl _⟩
  have hkk : ∀ b, b < (W.drew.alloc (.cells #[.bool false, .slice none 0 0, .int .i64 (-1), .int .u64 0, .slice none 0 0] 133)).heap.size → (Value.slice Ar s.rows.length cr).ownBlock ≠ some b → w'.heap[b]? = (W.drew.alloc (.cells #[.bool false, .slice none 0 0, .int .i64 (-1), .int .u64 0, .slice none 0 0] 133)).heap[b]? := fun b hb hne => hg.block b hb fun e => hne e.symm
  have hBa : B ≤ (W.drew.alloc (.cells #[.bool false, .slice none 0 0, .int .i64 (-1), .int .u64 0, .slice none 0 0] 133)).heap.size := Nat.le_trans HX.out.2.2.2.2.2.1 (Nat.le_trans HX.out.2.1.size HA.out.2.size)
  have hrk : ∀ (k : Nat) r v, (s.rows ++ [Rw.row0])[k]? = some r → (vs ++ [(.slice none 0 0, .slice none 0 0)])[k]? = some v → RowAt w' B r v := rowAt_snoc hxa.vsl (fun k r v h1 h2 => (hxa.rowAt k r v h1 h2).keep hg.size fun b hb hc => hkk b hb (hxa.off (leans_row hc)).2.2.2.1) ⟨SlAt.nil _ _ _ _, SlAt.nil _ _ _ _⟩
  have hnew := hxa.newR (rs' := s.rows ++ [Rw.row0]) (vs' := vs ++ [(.slice none 0 0, .slice none 0 0)]) (v' := .slice A' (s.rows.length + 1) c') hg.size hkk (by rw [List.length_append, rowsV_snoc _ _ _ _ hxa.vsl]; exact hr) (by simp [hxa.vsl]) hrk hnb hBa
  have hPw : w'.heap[P]? = (W.drew.alloc (.cells #[.bool false, .slice none 0 0, .int .i64 (-1), .int .u64 0, .slice none 0 0] 133)).heap[P]? := hkk P hxa.lt hxa.ne.1.2.2.1
  have hb0 : (W.drew.alloc (.cells #[.bool false, .slice none 0 0, .int .i64 (-1), .int .u64 0, .slice none 0 0] 133)).heap[w.heap.size]? = some (.cells #[.pointer (some ⟨P, 0, none⟩)] 38 (0, 0)) := (HA.out.2.block _ hbsz).trans HX.out.2.2.1
  have hb1 : (W.drew.alloc (.cells #[.bool false, .slice none 0 0, .int .i64 (-1), .int .u64 0, .slice none 0 0] 133)).heap[w.heap.size + 1]? = some (.cells #[.int .i64 (s.rows.length : Nat)] 3 (0, 0)) := (HA.out.2.block _ (by have := HX.out.2.2.2.2.1; show _ < W.heap.size; omega)).trans HX.out.2.2.2.1
  have hbt : w'.heap[w.heap.size]? = some (.cells #[.pointer (some ⟨P, 0, none⟩)] 38 (0, 0)) := (hkk _ (blk_lt hb0) (RowZ.ne_type hxa.rows hb0 (by decide))).trans hb0
  have hbn : w'.heap[w.heap.size + 1]? = some (.cells #[.int .i64 (s.rows.length : Nat)] 3 (0, 0)) := (hkk _ (blk_lt hb1) (RowZ.ne_type hxa.rows hb1 (by decide))).trans hb1
  have hPself : w'.heap[P]? = some (.cells #[vu, vt, .slice Ar s.rows.length cr, vo, ve, .bool s.stuck, whyV s.why] 95 (0, 0)) := hPw.trans hxa.self
  have q0 : w'.cell? ⟨w.heap.size, 0, none⟩ = some (.pointer (some ⟨P, 0, none⟩)) := by rw [cell_block hbt]; rfl
  have q1 : w'.cell? ⟨P, 2, none⟩ = some (.slice Ar s.rows.length cr) := (World.cell?_of_block hPw).trans hxa.cells.2.2.1
  have q2 : w'.frozen? ⟨P, 2, none⟩ = false := (World.frozen?_of_block hPw).trans (hxa.free 2)
  have hkp : Kp (OnB P g) w (w'.setCell ⟨P, 2, none⟩ (.slice A' (s.rows.length + 1) c')) :=
    (((Kp.of_below (S := OnB P g) HX.out.2.1).trans (S' := OnB P g) (((Kp.refl _ W).drew).alloc _) (fun b h => .inl h)).grown hg fun b hb => .inl (.inr (.inr (.inr (.inl (by rw [← hxa.bl.2.2.1]; exact hb)))))).setCell (.inl (.inl rfl)) _
  have hst : (w'.setCell ⟨P, 2, none⟩ (.slice A' (s.rows.length + 1) c')).heap[w.heap.size]? = some (.cells #[.pointer (some ⟨P, 0, none⟩)] 38 (0, 0)) := (Below.heap_setCell _ _ _ _ (blocks_ne hbt hPself (by decide))).trans hbt
  have hsn : (w'.setCell ⟨P, 2, none⟩ (.slice A' (s.rows.length + 1) c')).heap[w.heap.size + 1]? = some (.cells #[.int .i64 (s.rows.length : Nat)] 3 (0, 0)) := (Below.heap_setCell _ _ _ _ (blocks_ne hbn hPself (by decide))).trans hbn
  have hgn : Gn w g { g with r := (Value.slice A' (s.rows.length + 1) c').ownBlock } := by
    refine ⟨.inl rfl, .inl rfl, ?_, .inl rfl, .inl rfl⟩
    rcases hnb with e | ⟨b, e, hb⟩
    · exact .inl (e.trans hxa.bl.2.2.1)
    · exact .inr ⟨b, e, Nat.le_trans HX.out.2.1.size (Nat.le_trans HA.out.2.size hb)⟩
  have hBs : B ≤ (w'.setCell ⟨P, 2, none⟩ (.slice A' (s.rows.length + 1) c')).heap.size := Nat.le_trans hBa (Nat.le_trans hg.size (Nat.le_of_eq (by simp)))
  have HF := hide (And.intro hnew (And.intro hkp (And.intro hst (And.intro hsn (And.intro hgn (And.intro HX.out.2.2.2.2.2.2 hBs))))))
  refine chainF (fun _ => ⟨q0, q1⟩) (hK _ _ ?_)
  clear hr hg hob hxa hkk hnew hPw hkp hnb hBa hrk hb0 hb1 hbt hbn hPself hst hsn hgn hBs k0 k2 hK K hlt hbsz
  refine wpChain_cons fun K hK => ?_
  go_wp2_with fail
  refine chainSkip (hK _ _ ?_)
  clear hK K
  refine wpChain_cons fun K hK => ?_
  go_wp2_with fail
  refine chainSkip (hK _ _ ?_)
  clear hK K
  refine wpChain_cons fun K hK => ?_
  go_wp2_with fail
  refine chainSkip (hK _ _ ?_)
  clear hK K
  refine wpChain_nil ?_
  clear q0 q1 q2
  generalize w'.setCell ⟨P, 2, none⟩ (.slice A' (s.rows.length + 1) c') = Y at *
  have y0 : Y.cell? ⟨w.heap.size, 0, none⟩ = some (.pointer (some ⟨P, 0, none⟩)) := by rw [cell_block HF.out.2.2.1]; rfl
  have hD : Tb Y B P { g with r := (Value.slice A' (s.rows.length + 1) c').ownBlock } { s with rows := s.rows ++ [Rw.row0] } := ⟨_, _, _, _, _, _, _, HF.out.1⟩
  have HD := hide (did_any P B _ (.func 70) #[.pointer (some ⟨w.heap.size, 0, none⟩), .pointer (some ⟨w.heap.size + 1, 0, none⟩)] (.cutRows s.rows.length) _ Y hD ⟨w.heap.size, w.heap.size + 1, rfl, HF.out.2.2.1, HF.out.2.2.2.1, HF.out.2.2.2.2.2.1⟩ HF.out.2.2.2.2.2.2 hu)
  clear hD
  go_wp2_with (go_at_call 47; refine (HD.out).mono ?_; rintro e w5 ⟨⟨rfl, hS⟩, hO⟩; have HO2 := hide (hO.trans (HF.out.1.cells.2.2.2.1)); clear hO; have HS := hide (Stp.trans (HF.out.2.1) HF.out.2.2.2.2.1 hS); have hnl := hS.kept_int HF.out.2.2.2.1 (TbX.not_on HF.out.1 HF.out.2.2.2.1 HF.out.2.2.2.2.2.1); clear hS)
  go_ret
  exact ⟨⟨rfl, HS.out⟩, HO2.out.trans HO.out.symm⟩
end Go.Proofs.YthnbhcfpfbimgaaGreat
/- Stages of a walk over a table: what stays. -/
namespace Go.Proofs.YthnbhcfpfbimgaaGreat
open Go.RowKit
open Rw (El At Fld Lk Eqn U T W64)

/-- What a table's closures and a walk's own boxes lean on is kept. -/
structure Kept (w : World) (B : Nat) (g : Bl) (w' : World) (g' : Bl) : Prop where
  size : w.heap.size ≤ w'.heap.size
  block : ∀ b, b < w.heap.size → Leans w B g b → w'.heap[b]? = w.heap[b]?
  t : ∀ b, b < w.heap.size → g.t ≠ some b → g'.t ≠ some b
  o : ∀ b, b < w.heap.size → g.o ≠ some b → g'.o ≠ some b
  r : ∀ b, b < w.heap.size → g.r ≠ some b → g'.r ≠ some b
def PBox (w : World) (P b : Nat) : Prop := w.heap[b]? = some (.cells #[.pointer (some ⟨P, 0, none⟩)] 38 (0, 0))
def IBox (w : World) (g : Bl) (b : Nat) (z : Int) : Prop := w.heap[b]? = some (.cells #[.int .i64 z] 3 (0, 0)) ∧ g.t ≠ some b ∧ g.o ≠ some b
section
variable {w w' w1 w2 : World} {B P : Nat} {g g' g1 g2 : Bl} {s s1 s2 : T}
theorem Leans.not_on {b : Nat} (h : Tb w B P g s) (hl : Leans w B g b) : ¬ OnB P g b := by
  obtain ⟨_, _, _, _, _, _, _, hx⟩ := h
  obtain ⟨h1, h2, h3, h4, h5, h6⟩ := hx.off hl
  obtain ⟨b1, b2, b3, b4, b5⟩ := hx.bl
  rintro (e | e | e | e | e | e)
  · exact h1 e
  · exact h2 (b1.trans e)
  · exact h3 (b2.trans e)
  · exact h4 (b3.trans e)
  · exact h5 (b4.trans e)
  · exact h6 (b5.trans e)
theorem Kept.mk' (h : Tb w B P g s) (hk : Kp (OnB P g) w w') (hg : Gn w g g') : Kept w B g w' g' :=
  ⟨hk.size, fun b hb hl => hk.block b hb (hl.not_on h), fun _ hb hn => hg.t.ne hb hn, fun _ hb hn => hg.o.ne hb hn, fun _ hb hn => hg.r.ne hb hn⟩
theorem Kept.of_below (h : Below w.heap.size w w') : Kept w B g w' g := ⟨h.size, fun b hb _ => h.block b hb, fun _ _ h => h, fun _ _ h => h, fun _ _ h => h⟩
theorem Kept.drew : Kept w B g w.drew g := Kept.of_below (below_drewN (Below.refl _ _) 1)
theorem Kept.pbox {b : Nat} (h : Kept w B g w' g') (hb : PBox w P b) : PBox w' P b := (h.block b (blk_lt hb) (.inr ⟨_, _, hb, .inr (.inr (.inr (.inl rfl)))⟩)).trans hb
theorem Kept.ibox {b : Nat} {z : Int} (h : Kept w B g w' g') (hb : IBox w g b z) : IBox w' g' b z :=
  ⟨(h.block b (blk_lt hb.1) (.inr ⟨_, _, hb.1, .inr (.inr (.inr (.inr (.inl ⟨rfl, hb.2⟩))))⟩)).trans hb.1, h.t b (blk_lt hb.1) hb.2.1, h.o b (blk_lt hb.1) hb.2.2⟩
theorem Kept.func {f : Value} {u : U} (h : Kept w B g w' g') (hf : FuncIs w B P g f u) : FuncIs w' B P g' f u := hf.keep h.size h.block h.t h.o h.r
theorem Kept.fields {v : Value} {n : Nat} {xs : List Value} (h : Kept w B g w' g') (hf : SlAt w B 59 10 v n xs) : SlAt w' B 59 10 v n xs :=
  hf.keep h.size fun b hb hl => h.block b hb (hl.imp id fun ⟨cs, e⟩ => ⟨_, cs, e, .inl rfl⟩)
theorem Kept.lacks {v : Value} {n : Nat} {xs : List Value} (h : Kept w B g w' g') (hf : SlAt w B 166 2 v n xs) : SlAt w' B 166 2 v n xs :=
  hf.keep h.size fun b hb hl => h.block b hb (hl.imp id fun ⟨cs, e⟩ => ⟨_, cs, e, .inr (.inl rfl)⟩)
theorem Kept.rowAt {r : Rw.Row} {v : Value × Value} (h : Kept w B g w' g') (hf : RowAt w B r v) : RowAt w' B r v := ⟨h.fields hf.fields, h.lacks hf.lacks⟩
theorem PBox.cell {b : Nat} (h : PBox w P b) : w.cell? ⟨b, 0, none⟩ = some (.pointer (some ⟨P, 0, none⟩)) := by rw [cell_block h]; rfl
theorem IBox.cell {b : Nat} {z : Int} (h : IBox w g b z) : w.cell? ⟨b, 0, none⟩ = some (.int .i64 z) := by rw [cell_block h.1]; rfl
theorem TbX.ibox {vu vt vr vo ve : Value} {vs : List (Value × Value)} {fs : List Value} {b : Nat} {z : Int} (hx : TbX w B P g s vu vt vr vo ve vs fs) (hw : w.heap.size ≤ b) (h : w'.heap[b]? = some (.cells #[.int .i64 z] 3 (0, 0))) : IBox w' g b z := by
  obtain ⟨b1, b2, b3, b4, b5⟩ := hx.bl
  exact ⟨h, fun e => by have := RowZ.lt hx.times _ (b2.trans e); omega, fun e => by have := RowZ.lt hx.own _ (b4.trans e); omega⟩
/-- How far a walk has come: the table is there, with a state, and nothing else has turned. -/
structure Sg (w : World) (B P : Nat) (g : Bl) (w1 : World) (g1 : Bl) (s1 : T) : Prop where
  tb : Tb w1 B P g1 s1
  kp : Kp (OnB P g) w w1
  gn : Gn w g g1
  ge : B ≤ w1.heap.size
theorem Sg.refl (h : Tb w B P g s) (hB : B ≤ w.heap.size) : Sg w B P g w g s := ⟨h, Kp.refl _ _, Gn.refl _ _, hB⟩
theorem Sg.stp (h : Sg w B P g w1 g1 s1) : Stp w B P g s1 w1 := ⟨g1, h.tb, h.kp, h.gn⟩
theorem Sg.stepG (h : Sg w B P g w1 g1 s1) (ht : Tb w2 B P g2 s2) (hk : Kp (OnB P g1) w1 w2) (hg : Gn w1 g1 g2) : Sg w B P g w2 g2 s2 ∧ Kept w1 B g1 w2 g2 :=
  ⟨⟨ht, h.kp.trans hk h.gn.on, h.gn.trans hg h.kp.size, Nat.le_trans h.ge hk.size⟩, Kept.mk' h.tb hk hg⟩
theorem Sg.step (h : Sg w B P g w1 g1 s1) (h2 : Stp w1 B P g1 s2 w2) : ∃ g2, Sg w B P g w2 g2 s2 ∧ Kept w1 B g1 w2 g2 := by
  obtain ⟨g2, a, b, c⟩ := h2.ex
  exact ⟨g2, h.stepG a b c⟩
theorem Sg.below (h : Sg w B P g w1 g1 s1) (hb : Below w1.heap.size w1 w2) : Sg w B P g w2 g1 s1 ∧ Kept w1 B g1 w2 g1 := by
  obtain ⟨vu, vt, vr, vo, ve, vs, fs, hx⟩ := h.tb
  exact h.stepG ⟨vu, vt, vr, vo, ve, vs, fs, hx.below hb⟩ (Kp.of_below hb) (Gn.refl _ _)
end
end Go.Proofs.YthnbhcfpfbimgaaGreat
