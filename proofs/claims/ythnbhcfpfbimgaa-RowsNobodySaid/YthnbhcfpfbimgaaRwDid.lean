/- The walks of did and tick: a change, and what undoes it; one time more. -/
import Derived.Test.YthnbhcfpfbimgaaRwMem2
import Derived.Deep.DeepCutAuto
namespace Go.Proofs.Ythnbhcfpfbimgaa
open Go.RowKit
open Rw (El At Fld Lk Eqn U T W64)

def NewOr (w : World) (a b : Option Nat) : Prop := b = a ∨ ∃ k, b = some k ∧ w.heap.size ≤ k
theorem NewOr.refl (w : World) (a : Option Nat) : NewOr w a a := .inl rfl
theorem NewOr.trans {w w' : World} {a b c : Option Nat} (h : NewOr w a b) (h2 : NewOr w' b c) (hs : w.heap.size ≤ w'.heap.size) : NewOr w a c := by
  rcases h2 with e | ⟨k, e, hk⟩
  · rw [e]; exact h
  · exact .inr ⟨k, e, by omega⟩
theorem NewOr.back {w w' : World} {a b : Option Nat} (h : NewOr w' a b) (hs : w.heap.size ≤ w'.heap.size) : NewOr w a b := h.imp id fun ⟨k, e, hk⟩ => ⟨k, e, by omega⟩
theorem NewOr.ne {w : World} {a b : Option Nat} (h : NewOr w a b) {k : Nat} (hk : k < w.heap.size) (hn : a ≠ some k) : b ≠ some k := by
  rcases h with e | ⟨k', e, hk'⟩
  · rw [e]; exact hn
  · rw [e]; intro e2; injection e2 with e2; omega
/-- The table's blocks. -/
def OnB (P : Nat) (g : Bl) (k : Nat) : Prop := k = P ∨ g.u = some k ∨ g.t = some k ∨ g.r = some k ∨ g.o = some k ∨ g.e = some k
structure Gn (w : World) (g g' : Bl) : Prop where
  u : NewOr w g.u g'.u
  t : NewOr w g.t g'.t
  r : NewOr w g.r g'.r
  o : NewOr w g.o g'.o
  e : NewOr w g.e g'.e
theorem Gn.refl (w : World) (g : Bl) : Gn w g g := ⟨.inl rfl, .inl rfl, .inl rfl, .inl rfl, .inl rfl⟩
theorem Gn.trans {w w' : World} {a b c : Bl} (h : Gn w a b) (h2 : Gn w' b c) (hs : w.heap.size ≤ w'.heap.size) : Gn w a c := ⟨h.u.trans h2.u hs, h.t.trans h2.t hs, h.r.trans h2.r hs, h.o.trans h2.o hs, h.e.trans h2.e hs⟩
theorem Gn.back {w w' : World} {a b : Bl} (h : Gn w' a b) (hs : w.heap.size ≤ w'.heap.size) : Gn w a b := ⟨h.u.back hs, h.t.back hs, h.r.back hs, h.o.back hs, h.e.back hs⟩
theorem Gn.on {w : World} {P : Nat} {g g' : Bl} (h : Gn w g g') : ∀ k, OnB P g' k → OnB P g k ∨ w.heap.size ≤ k := by
  have key : ∀ {a b : Option Nat} {k : Nat}, NewOr w a b → b = some k → a = some k ∨ w.heap.size ≤ k := fun {a b k} hn hb => by
    rcases hn with e | ⟨k', e, hk'⟩
    · exact .inl (by rw [← e]; exact hb)
    · rw [e] at hb; injection hb with hb; exact .inr (by omega)
  rintro k (e | e | e | e | e | e)
  · exact .inl (.inl e)
  · exact (key h.u e).imp (fun e => .inr (.inl e)) id
  · exact (key h.t e).imp (fun e => .inr (.inr (.inl e))) id
  · exact (key h.r e).imp (fun e => .inr (.inr (.inr (.inl e)))) id
  · exact (key h.o e).imp (fun e => .inr (.inr (.inr (.inr (.inl e))))) id
  · exact (key h.e e).imp (fun e => .inr (.inr (.inr (.inr (.inr e))))) id
/-- A step of the table: it is there, with the state s', and nothing else has turned but its own blocks. -/
structure Stp (w : World) (B P : Nat) (g : Bl) (s' : T) (w' : World) : Prop where
  ex : ∃ g', Tb w' B P g' s' ∧ Kp (OnB P g) w w' ∧ Gn w g g'
theorem Stp.trans {w w1 w2 : World} {B P : Nat} {g g1 : Bl} {s' : T} (hk : Kp (OnB P g) w w1) (hg : Gn w g g1) (h : Stp w1 B P g1 s' w2) : Stp w B P g s' w2 := by
  obtain ⟨g2, h1, h2, h3⟩ := h.ex
  exact ⟨g2, h1, hk.trans h2 hg.on, hg.trans h3 hk.size⟩
theorem Stp.of_below {w w' : World} {B P : Nat} {g : Bl} {s : T} (h : Tb w B P g s) (hb : Below w.heap.size w w') : Stp w B P g s w' := by
  obtain ⟨vu, vt, vr, vo, ve, vs, fs, hx⟩ := h
  exact ⟨g, ⟨vu, vt, vr, vo, ve, vs, fs, hx.below hb⟩, Kp.of_below hb, Gn.refl _ _⟩
theorem Tb.ge {w : World} {B P : Nat} {g : Bl} {s : T} (h : Tb w B P g s) : ∀ k, OnB P g k → B ≤ k := by
  obtain ⟨_, _, _, _, _, _, _, hx⟩ := h
  obtain ⟨g0, g1, g2, g3, g4, g5⟩ := hx.ge
  rintro k (e | e | e | e | e | e)
  · omega
  · exact g1 k e
  · exact g2 k e
  · exact g3 k e
  · exact g4 k e
  · exact g5 k e
theorem info_func : (Try.prog.info? 1).map (fun i => (i.zero, i.size, i.bytes)) = some (some .nilFunc, 1, 8) := by kernel_rfl
theorem info_int : (Try.prog.info? 3).map (fun i => (i.zero, i.size, i.bytes)) = some (some (.int .i64 0), 1, 8) := by kernel_rfl
theorem FuncIs.below {w w' : World} {B P : Nat} {g : Bl} {f : Value} {u : U} (h : FuncIs w B P g f u) (hb : Below w.heap.size w w') : FuncIs w' B P g f u := h.keep hb.size (fun b hlt _ => hb.block b hlt) (fun _ _ => id) (fun _ _ => id) (fun _ _ => id)
theorem fs_snoc {w : World} {B P : Nat} {g : Bl} {fs : List Value} {us : List U} {f : Value} {u : U} (hl : fs.length = us.length) (h : ∀ (k : Nat) f u, fs[k]? = some f → us[k]? = some u → FuncIs w B P g f u) (hf : FuncIs w B P g f u) :
    ∀ (k : Nat) f' u', (fs ++ [f])[k]? = some f' → (us ++ [u])[k]? = some u' → FuncIs w B P g f' u' := fun k f' u' h1 h2 => by
  rcases Nat.lt_or_ge k fs.length with hk | hk
  · rw [List.getElem?_append_left hk] at h1
    rw [List.getElem?_append_left (by omega)] at h2
    exact h k f' u' h1 h2
  · have hk' : k = fs.length := by
      have := (List.getElem?_eq_some_iff.1 h1).1
      simp at this; omega
    subst hk'
    rw [List.getElem?_append_right (Nat.le_refl _), Nat.sub_self] at h1
    rw [List.getElem?_append_right (by omega), hl, Nat.sub_self] at h2
    simp at h1 h2
    subst h1
    subst h2
    exact hf
structure RetS (v : Value) (w : World) (B P : Nat) (g : Bl) (s' : T) (e : Ending) (w' : World) : Prop where
  ret : e = .returned v
  stp : Stp w B P g s' w'
/-- The same, and the slice of the own ones is the same one. -/
structure RetK (v : Value) (w : World) (B P : Nat) (g : Bl) (s' : T) (e : Ending) (w' : World) : Prop where
  ret : RetS v w B P g s' e w'
  own : w'.cell? ⟨P, 3, none⟩ = w.cell? ⟨P, 3, none⟩
theorem RowZ.n_len {w : World} {e : TypeId} {v : Value} {n : Nat} {xs : List Value} (h : RowZ w e 1 v n xs) : xs.length = n := by have := h.len; omega
set_option maxRecDepth 100000 in
set_option maxHeartbeats 1000000000 in
theorem did_any (P B : Nat) (g : Bl) (fn : Fn) (cp : Array Value) (u : U) (s : T) (w : World) (h : Tb w B P g s) (hf : FuncIs w B P g (.func fn #[] cp) u) (hB : B ≤ w.heap.size) (hn : s.undo.length ≤ 1000000000) :
    Calls Try.prog 47 #[.pointer (some ⟨P, 0, none⟩), .func fn #[] cp] w fun e w' => RetK (.tuple #[]) w B P g (s.did u) e w' := by
  obtain ⟨i1, hj, hy0, hy1, hy2⟩ := info_parts info_func
  obtain ⟨vu, vt, vr, vo, ve, vs, fs, hx⟩ := h
  obtain ⟨Au, cu, rfl, hcu, hcm⟩ := RowZ.form hx.undo
  obtain ⟨c0, _⟩ := hx.cells
  have hba := below_laid w (.cells #[.func fn #[] cp] 1)
  have HX := hide (And.intro hx (And.intro hf (And.intro (hx.below hba) (And.intro hba (heap_alloc_new w (.cells #[.func fn #[] cp] 1))))))
  have HB := hide hB
  have HO := hide hx.cells.2.2.2.1
  have hlt := hx.lt
  clear hx hf hba hB
  go_enter Try.func47, Try.ntmps47
  go_wp2_with (at_builtin; refine app_rowz rfl (.tmp 8) (.tmp 10) 77 77 rfl 1 i1 _ 1 8 Try.underlying77 hj hy0 hy1 hy2 rfl (.slice Au s.undo.length cu) s.undo.length fs rfl HX.out.2.2.1.undo _ 1 [.func fn #[] cp] rfl (Src.ofSlice _ Try.underlying77 ⟨w.heap.size, 0, none⟩ 1 1 _ rfl (World.news_of_block (cs := #[.func fn #[] cp]) (t := 1) (fr := (0, 0)) HX.out.2.2.2.2) (by simp [Value.oneCell'])) (by unfold maxLen; omega) (by omega) ?_)
  intro A' c' w' hr hg hob
  have hxa := HX.out.2.2.1
  have hsz : w.heap.size ≤ w'.heap.size := Nat.le_trans HX.out.2.2.2.1.size hg.size
  have hnb : (Value.slice A' (s.undo.length + 1) c').ownBlock = (Value.slice Au s.undo.length cu).ownBlock ∨ ∃ b, (Value.slice A' (s.undo.length + 1) c').ownBlock = some b ∧ (w.alloc (.cells #[.func fn #[] cp] 1)).heap.size ≤ b := hob.imp id fun e => ⟨_, e, by rw [World.size_alloc]; exact Nat.le_refl _⟩
  have hkk : ∀ b, b < (w.alloc (.cells #[.func fn #[] cp] 1)).heap.size → (Value.slice Au s.undo.length cu).ownBlock ≠ some b → w'.heap[b]? = (w.alloc (.cells #[.func fn #[] cp] 1)).heap[b]? := fun b hb hne => hg.block b hb fun e => hne e.symm
  have hfs : ∀ (k : Nat) f' u', (fs ++ [.func fn #[] cp])[k]? = some f' → (s.undo ++ [u])[k]? = some u' → FuncIs w' B P g f' u' := fs_snoc (RowZ.n_len hxa.undo) (fun k f' u' h1 h2 => (hxa.funcs k f' u' h1 h2).keep hg.size (fun b hb hl => hkk b hb (hxa.off hl).2.1) (fun _ _ => id) (fun _ _ => id) (fun _ _ => id))
    ((HX.out.2.1.below HX.out.2.2.2.1).keep hg.size (fun b hb hl => hkk b hb (hxa.off hl).2.1) (fun _ _ => id) (fun _ _ => id) (fun _ _ => id))
  have hnew := hxa.newU (us' := s.undo ++ [u]) (fs' := fs ++ [.func fn #[] cp]) (v' := .slice A' (s.undo.length + 1) c') hg.size hkk (by rw [List.length_append]; exact hr) hfs hnb (Nat.le_trans HB.out HX.out.2.2.2.1.size)
  have hPw : w'.heap[P]? = (w.alloc (.cells #[.func fn #[] cp] 1)).heap[P]? := hkk P hxa.lt hxa.ne.1.1
  have q0 : w'.cell? ⟨P, 0, none⟩ = some (.slice Au s.undo.length cu) := (World.cell?_of_block hPw).trans hxa.cells.1
  have q1 : w'.frozen? ⟨P, 0, none⟩ = false := (World.frozen?_of_block hPw).trans (hxa.free 0)
  have hkp : Kp (OnB P g) w (w'.setCell ⟨P, 0, none⟩ (.slice A' (s.undo.length + 1) c')) := (((Kp.refl _ w).alloc _).grown hg fun b hb => .inl (.inr (.inl (by rw [← hxa.bl.1]; exact hb)))).setCell (.inl (.inl rfl)) _
  have HF := hide (And.intro hnew (And.intro hkp (And.intro hnb hxa.bl.1)))
  clear hr hg hob hxa hkk hfs hnew hPw hkp hnb c0
  go_wp2_with fail
  go_end0
  refine ⟨⟨rfl, ⟨_, ⟨_, _, _, _, _, _, _, HF.out.1⟩, HF.out.2.1, ⟨?_, .inl rfl, .inl rfl, .inl rfl, .inl rfl⟩⟩⟩, HF.out.1.cells.2.2.2.1.trans HO.out.symm⟩
  rcases HF.out.2.2.1 with e | ⟨b, e, hb⟩
  · exact .inl (e.trans HF.out.2.2.2)
  · exact .inr ⟨b, e, by rw [World.size_alloc] at hb; omega⟩
end Go.Proofs.Ythnbhcfpfbimgaa
