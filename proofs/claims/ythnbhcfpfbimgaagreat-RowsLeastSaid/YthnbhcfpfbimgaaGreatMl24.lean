/- Texts put together: RhPlain RhGet RhWith0 NmLessW. -/
import Derived.Test.YthnbhcfpfbimgaaGreatMl23
import Derived.Test.YthnbhcfpfbimgaaGreatMl00
import Derived.Test.YthnbhcfpfbimgaaGreatMl16
/- What the references of chapters 18, 19 compute: rows of values. No walk. -/
namespace Go.Proofs.YthnbhcfpfbimgaaGreat
namespace Hd
open Rw (El At Fld)
def elZ : El := ⟨0, 0, 0, 0, 0, 0, 0, 0⟩
def getV (l : List Vl) (f : ByteArray) : Option El := (l.find? fun x => x.name.toList == f.toList).map (·.el)
def atomV (L : List El) (a : At) : Option El := if a.var < 0 then some a.el else L[a.var.toNat]?
/-- A value put in ahead of the first greater name. -/
def insV (f : ByteArray) (e : El) : List Vl → List Vl
  | [] => [⟨f, e⟩]
  | x :: r => if Nm.ls f x.name then ⟨f, e⟩ :: x :: r else x :: insV f e r
/-- A value put in the place of the first of its name. -/
def repV (f : ByteArray) (e : El) : List Vl → List Vl
  | [] => []
  | x :: r => if x.name.toList == f.toList then ⟨f, e⟩ :: r else x :: repV f e r
def withV (l : List Vl) (f : ByteArray) (e : El) : List Vl := if (getV l f).isSome then repV f e l else insV f e l
/-- All values, gathered in order; none: a name twice. -/
def gather : List Vl → List Vl → Option (List Vl)
  | out, [] => some out
  | out, x :: r => if (getV out x.name).isSome then none else gather (withV out x.name x.el) r
/-- The values of a term's own fields. -/
def fieldsV (L : List El) : List Fld → Option (List Vl)
  | [] => some []
  | f :: r => match atomV L f.at_, fieldsV L r with
    | some e, some l => some (⟨f.name, e⟩ :: l)
    | _, _ => none
def tailV (R : List (List Vl)) (t : Int) : List Vl := if t < 0 then [] else R.getD t.toNat []
def rowH (L : List El) (R : List (List Vl)) (t : Rw.Term) : Option (List Vl) :=
  if (R.length : Int) ≤ t.tail then none else match fieldsV L t.fields with
    | none => none
    | some l => gather [] (tailV R t.tail ++ l)
def eqEl (a b : El) : Bool := a.e0 == b.e0 && a.e1 == b.e1 && a.e2 == b.e2 && a.e3 == b.e3 && a.e4 == b.e4 && a.e5 == b.e5 && a.e6 == b.e6 && a.e7 == b.e7
def eqVl (a b : Vl) : Bool := a.name.toList == b.name.toList && eqEl a.el b.el
def sameV : List Vl → List Vl → Bool
  | [], [] => true
  | x :: a, y :: b => eqVl x y && sameV a b
  | _, _ => false
/-- An assertion about rows: does it hold? -/
def oneV (L : List El) (R : List (List Vl)) (x : As) : Bool :=
  if x.op = 10 then !(getV (R.getD x.var.toNat []) x.field).isSome else match rowH L R x.a, rowH L R x.b with
    | some l, some m => sameV l m
    | _, _ => false
theorem eqEl_iff {a b : El} : eqEl a b = true ↔ a = b := by
  cases a; cases b; simp [eqEl, and_assoc]
theorem name_eq {a b : ByteArray} : (a.toList == b.toList) = true ↔ a = b := Rw.toList_iff
theorem eqVl_iff {a b : Vl} : eqVl a b = true ↔ a = b := by
  obtain ⟨n, e⟩ := a
  obtain ⟨m, f⟩ := b
  simp only [eqVl, Bool.and_eq_true, name_eq, eqEl_iff, Vl.mk.injEq]
theorem sameV_iff : ∀ {a b : List Vl}, sameV a b = true ↔ a = b
  | [], [] => by simp [sameV]
  | [], y :: b => by simp [sameV]
  | x :: a, [] => by simp [sameV]
  | x :: a, y :: b => by simp [sameV, eqVl_iff, sameV_iff]
theorem getV_none {l : List Vl} {f : ByteArray} : getV l f = none ↔ ∀ x ∈ l, x.name ≠ f := by
  unfold getV
  rw [Option.map_eq_none_iff, List.find?_eq_none]
  constructor
  · intro h x hx e
    exact h x hx (name_eq.2 e)
  · intro h x hx e
    exact h x hx (name_eq.1 e)
theorem getV_cons (x : Vl) (l : List Vl) (f : ByteArray) : getV (x :: l) f = if x.name = f then some x.el else getV l f := by
  unfold getV
  rw [List.find?_cons]
  split
  · next h => rw [if_pos (name_eq.1 h)]; rfl
  · next h => rw [if_neg (fun e => by rw [name_eq.2 e] at h; cases h)]
theorem insV_len (f : ByteArray) (e : El) : ∀ l, (insV f e l).length = l.length + 1
  | [] => rfl
  | x :: r => by simp only [insV]; split <;> simp [insV_len f e r]
theorem repV_len (f : ByteArray) (e : El) : ∀ l, (repV f e l).length = l.length
  | [] => rfl
  | x :: r => by simp only [repV]; split <;> simp [repV_len f e r]
theorem withV_len (l : List Vl) (f : ByteArray) (e : El) : (withV l f e).length ≤ l.length + 1 := by
  unfold withV
  split
  · rw [repV_len]; omega
  · rw [insV_len]; omega
theorem getV_ins {f : ByteArray} {e : El} : ∀ {l : List Vl}, (∀ x ∈ l, x.name ≠ f) → ∀ g, getV (insV f e l) g = if f = g then some e else getV l g
  | [], _, g => by simp only [insV, getV_cons]
  | x :: r, h, g => by
    have hx := h x (by simp)
    simp only [insV]
    split
    · rw [getV_cons]
    · rw [getV_cons, getV_ins (fun y hy => h y (by simp [hy])) g, getV_cons]
      by_cases h1 : x.name = g
      · rw [if_pos h1, if_pos h1, if_neg (fun e => hx (h1.trans e.symm))]
      · rw [if_neg h1, if_neg h1]
theorem getV_rep {f : ByteArray} {e : El} : ∀ {l : List Vl}, (∃ x ∈ l, x.name = f) → ∀ g, getV (repV f e l) g = if f = g then some e else getV l g
  | [], h, g => by obtain ⟨x, hx, _⟩ := h; cases hx
  | x :: r, h, g => by
    simp only [repV]
    split
    · next hx =>
      rw [getV_cons, getV_cons]
      have := name_eq.1 hx
      rw [this]
      by_cases hg : f = g <;> simp [hg]
    · next hx =>
      have hne : x.name ≠ f := fun e => by rw [name_eq.2 e] at hx; exact hx rfl
      rw [getV_cons, getV_rep (by
        obtain ⟨y, hy, he⟩ := h
        rcases List.mem_cons.1 hy with rfl | hy
        · exact absurd he hne
        · exact ⟨y, hy, he⟩) g, getV_cons]
      by_cases h1 : x.name = g
      · rw [if_pos h1, if_pos h1, if_neg (fun e => hne (h1.trans e.symm))]
      · rw [if_neg h1, if_neg h1]
theorem getV_with (l : List Vl) (f : ByteArray) (e : El) (g : ByteArray) : getV (withV l f e) g = if f = g then some e else getV l g := by
  unfold withV
  split
  · next h =>
    refine getV_rep ?_ g
    obtain ⟨y, hy⟩ := Option.isSome_iff_exists.1 h
    unfold getV at hy
    obtain ⟨x, hx, _⟩ := Option.map_eq_some_iff.1 hy
    exact ⟨x, List.mem_of_find?_eq_some hx, name_eq.1 (by simpa using List.find?_some hx)⟩
  · next h =>
    refine getV_ins ?_ g
    rw [← getV_none]
    cases hg : getV l f with
    | none => rfl
    | some y => rw [hg] at h; exact absurd rfl h
theorem mem_with {l : List Vl} {f : ByteArray} {e : El} {x : Vl} (h : x ∈ withV l f e) : x = ⟨f, e⟩ ∨ x ∈ l := by
  have hi : ∀ l : List Vl, x ∈ insV f e l → x = ⟨f, e⟩ ∨ x ∈ l := by
    intro l
    induction l with
    | nil => intro h; simp [insV] at h; exact .inl h
    | cons y r ih =>
      intro h
      simp only [insV] at h
      split at h
      · rcases List.mem_cons.1 h with h | h
        · exact .inl h
        · exact .inr h
      · rcases List.mem_cons.1 h with h | h
        · exact .inr (by simp [h])
        · rcases ih h with h | h
          · exact .inl h
          · exact .inr (by simp [h])
  have hr : ∀ l : List Vl, x ∈ repV f e l → x = ⟨f, e⟩ ∨ x ∈ l := by
    intro l
    induction l with
    | nil => intro h; simp [repV] at h
    | cons y r ih =>
      intro h
      simp only [repV] at h
      split at h
      · rcases List.mem_cons.1 h with h | h
        · exact .inl h
        · exact .inr (by simp [h])
      · rcases List.mem_cons.1 h with h | h
        · exact .inr (by simp [h])
        · rcases ih h with h | h
          · exact .inl h
          · exact .inr (by simp [h])
  unfold withV at h
  split at h
  · exact hr l h
  · exact hi l h
end Hd
end Go.Proofs.YthnbhcfpfbimgaaGreat
/- The walks of chapter 18's Get and chapter 19's atom. (Printed by rhget.py.) -/
namespace Go.Proofs.YthnbhcfpfbimgaaGreat
open Go.RowKit
open Rw (El At Fld)
open Hd (elZ getV atomV)
theorem results_cell_tmp {fn : Func} {tmps : Array Value} {k j : Nat} {T : TypeId} {p : Addr} {v : Value} {w : World} (hres : fn.results = #[.cell k T, .tmp j]) (hp : tmps.getD k undef = .pointer (some p)) (hl : (loadVar T p).run Tryz.prog w = .ok v w) : (results fn tmps).run Tryz.prog w = .ok (.tuple #[v, tmps.getD j undef]) w := by
  simp only [results, hres, List.mapM_toArray, List.mapM_cons, List.mapM_nil, hp, asAddr]
  simp [hl]
theorem ld_el (w : World) (e : El) : (loadVar 48 ⟨w.heap.size, 0, none⟩).run Tryz.prog (w.alloc (.cells #[.int .u64 e.e0, .int .u64 e.e1, .int .u64 e.e2, .int .u64 e.e3, .int .u64 e.e4, .int .u64 e.e5, .int .u64 e.e6, .int .u64 e.e7] 48)) = .ok (.agg #[.int .u64 e.e0, .int .u64 e.e1, .int .u64 e.e2, .int .u64 e.e3, .int .u64 e.e4, .int .u64 e.e5, .int .u64 e.e6, .int .u64 e.e7]) (w.alloc (.cells #[.int .u64 e.e0, .int .u64 e.e1, .int .u64 e.e2, .int .u64 e.e3, .int .u64 e.e4, .int .u64 e.e5, .int .u64 e.e6, .int .u64 e.e7] 48)) :=
  run_loadVar_row _ w.heap.size _ _ _ (0, 0) _ (heap_alloc_last w _) Tryz.underlying48 rfl el_info
/-- An element and whether there is one. -/
structure RGet (o : Option El) (e : Ending) : Prop where
  ex : ∃ (z : El) (b : Bool), e = .returned (.tuple #[.agg #[.int .u64 z.e0, .int .u64 z.e1, .int .u64 z.e2, .int .u64 z.e3, .int .u64 z.e4, .int .u64 z.e5, .int .u64 z.e6, .int .u64 z.e7], .bool b]) ∧ o.getD elZ = z ∧ o.isSome = b
theorem el_range {w : World} {b o : Nat} {e : El} (h : w.rangeAt b o (elV e)) : w.rangeAt b o (#[.int .u64 e.e0, .int .u64 e.e1, .int .u64 e.e2, .int .u64 e.e3, .int .u64 e.e4, .int .u64 e.e5, .int .u64 e.e6, .int .u64 e.e7] : Array Value).toList := h
set_option maxRecDepth 100000 in
set_option maxHeartbeats 2000000 in
theorem get_any (B : Nat) (v : Value) (l : List Vl) (f : ByteArray) (w : World) (h : Vls w B v l) : Calls Tryz.prog 54 #[v, .string f] w fun e w' => RGet (getV l f) e ∧ Below w.heap.size w w' := by
  obtain ⟨A, c, rfl, _, hcm⟩ := SlAt.form h.at_
  have hl9 : (l.length : Int) ≤ 9223372036854775807 := by unfold maxLen at hcm; omega
  have HL := hide h
  clear h hcm
  go_enter Tryz.func54, Tryz.ntmps54
  go_wp2_with fail
  have HB := hide (below_laid w (.cells #[.int .u64 0, .int .u64 0, .int .u64 0, .int .u64 0, .int .u64 0, .int .u64 0, .int .u64 0, .int .u64 0] 48))
  go_loop [6] (fun kv => ∃ k : Nat, (k ≤ l.length ∧ ∀ (j : Nat) x, j < k → l[j]? = some x → (x.name.toList == f.toList) = false) ∧ kv = .int .i64 (k : Nat)) (fun kv => l.length - (intOf kv).toNat)
  case atStart => exact ⟨0, ⟨by omega, fun j x hj => by omega⟩, rfl⟩
  case round =>
    obtain ⟨k, ⟨hk, hno⟩, rfl⟩ := hrel
    have HNO := hide hno
    clear hno
    by_cases hlt : k < l.length
    · have i0 : (k : Int) < l.length := by omega
      obtain ⟨bl, off, c', e, hbl, hr⟩ := SlAt.elem (HL.out.at_.below HB.out) (fun _ => rfl) hlt
      cases e
      have hget := List.getElem?_eq_getElem hlt
      generalize l[k] = x at *
      have g0 : (w.alloc (.cells #[.int .u64 0, .int .u64 0, .int .u64 0, .int .u64 0, .int .u64 0, .int .u64 0, .int .u64 0, .int .u64 0] 48)).cell? ⟨bl, off + k * 9, none⟩ = some (.string x.name) := hr 0 _ rfl
      have hr8 : (w.alloc (.cells #[.int .u64 0, .int .u64 0, .int .u64 0, .int .u64 0, .int .u64 0, .int .u64 0, .int .u64 0, .int .u64 0] 48)).rangeAt bl (off + k * 9 + 1) (elV x.el) := fun j u hu => by
        have := hr (j + 1) u (by simpa [vlV] using hu)
        rwa [Nat.add_comm j 1, ← Nat.add_assoc] at this
      have HLD := hide (ldA 23 (el_range hr8) Tryz.underlying48 rfl el_info)
      have HST := hide (stA (T := 48) (w := w) (new := #[.int .u64 x.el.e0, .int .u64 x.el.e1, .int .u64 x.el.e2, .int .u64 x.el.e3, .int .u64 x.el.e4, .int .u64 x.el.e5, .int .u64 x.el.e6, .int .u64 x.el.e7]) 4 24 el_info (by simp [Value.oneCell']))
      clear hr hr8
      have HG := hide hget
      clear hget
      cases hb : (x.name.toList == f.toList)
      · go_wp2_with fail
        exact ⟨⟨k + 1, ⟨by omega, fun j y hj hy => by
          rcases Nat.lt_or_ge j k with h | h
          · exact HNO.out j y h hy
          · obtain rfl : j = k := by omega
            rw [HG.out] at hy; injection hy with hy; subst hy; exact hb⟩, rfl⟩, by simp [intOf]; omega⟩
      · have hf : l.find? (fun x => x.name.toList == f.toList) = some x := by
          rw [List.find?_eq_some_iff_getElem]
          obtain ⟨hk', hx⟩ := List.getElem?_eq_some_iff.1 HG.out
          exact ⟨hb, k, hk', hx, fun j hj => by rw [HNO.out j _ hj (List.getElem?_eq_getElem (by omega))]; rfl⟩
        have HE : Hid (getV l f = some x.el) := hide (by unfold getV; rw [hf]; rfl)
        clear hf
        go_wp2_with (first | (with_reducible refine HLD.out _ _ _ _ _ rfl rfl (by with_unfolding_all rfl) ?_) | (with_reducible refine HST.out _ _ _ _ _ _ rfl rfl rfl rfl (by with_unfolding_all rfl) ?_))
        refine bodyPost_ret (results_cell_tmp Tryz.results54 rfl (ld_el w x.el)) rfl ⟨⟨x.el, true, rfl, by rw [HE.out]; rfl, by rw [HE.out]; rfl⟩, below_laid _ _⟩
    · obtain rfl : k = l.length := by omega
      have HE : Hid (getV l f = none) := hide (by
        unfold getV
        rw [Option.map_eq_none_iff, List.find?_eq_none]
        intro x hx
        obtain ⟨j, hj, rfl⟩ := List.mem_iff_getElem.1 hx
        rw [HNO.out j _ hj (List.getElem?_eq_getElem hj)]
        exact Bool.false_ne_true)
      go_wp2_with fail
      refine bodyPost_ret (results_cell_tmp Tryz.results54 rfl (ld_el w elZ)) rfl ⟨⟨elZ, false, rfl, by rw [HE.out]; rfl, by rw [HE.out]; rfl⟩, below_laid _ _⟩
end Go.Proofs.YthnbhcfpfbimgaaGreat
/- A list of values of one's own; the walk of chapter 19's atom. (Printed by rhwith.py.) -/
namespace Go.Proofs.YthnbhcfpfbimgaaGreat
open Go.RowKit
open Rw (El At Fld)
open Hd (elZ getV atomV)
namespace Hd
/-- One round of With: what is put out, whether the value is in. -/
def stepW (f : ByteArray) (e : El) (has : Bool) (s : List Vl × Bool) (x : Vl) : List Vl × Bool :=
  if !s.2 && (has && (x.name.toList == f.toList) || !has && Nm.ls f x.name) then (if has then (s.1 ++ [⟨f, e⟩], true) else (s.1 ++ [⟨f, e⟩] ++ [x], true)) else (s.1 ++ [x], s.2)
def endW (f : ByteArray) (e : El) (s : List Vl × Bool) : List Vl := if s.2 then s.1 else s.1 ++ [⟨f, e⟩]
theorem stepW_done (f : ByteArray) (e : El) (has : Bool) : ∀ (l o : List Vl), l.foldl (stepW f e has) (o, true) = (o ++ l, true)
  | [], o => by simp
  | x :: l, o => by
    rw [List.foldl_cons, show stepW f e has (o, true) x = (o ++ [x], true) from by simp [stepW], stepW_done]
    simp
theorem stepW_ins (f : ByteArray) (e : El) : ∀ (l o : List Vl), endW f e (l.foldl (stepW f e false) (o, false)) = o ++ insV f e l
  | [], o => by simp [endW, insV]
  | x :: l, o => by
    rw [List.foldl_cons]
    cases h : Nm.ls f x.name
    · rw [show stepW f e false (o, false) x = (o ++ [x], false) from by simp [stepW, h], stepW_ins f e l]
      simp [insV, h]
    · rw [show stepW f e false (o, false) x = (o ++ [⟨f, e⟩] ++ [x], true) from by simp [stepW, h], stepW_done]
      simp [insV, h, endW]
theorem stepW_rep (f : ByteArray) (e : El) : ∀ (l o : List Vl), (∃ x ∈ l, (x.name.toList == f.toList) = true) → endW f e (l.foldl (stepW f e true) (o, false)) = o ++ repV f e l
  | [], o, h => by obtain ⟨x, hx, _⟩ := h; cases hx
  | x :: l, o, h => by
    rw [List.foldl_cons]
    cases hx : (x.name.toList == f.toList)
    · rw [show stepW f e true (o, false) x = (o ++ [x], false) from by simp [stepW, hx], stepW_rep f e l _ (by
        obtain ⟨y, hy, hye⟩ := h
        rcases List.mem_cons.1 hy with rfl | hy
        · rw [hx] at hye; cases hye
        · exact ⟨y, hy, hye⟩)]
      simp [repV, hx]
    · rw [show stepW f e true (o, false) x = (o ++ [⟨f, e⟩], true) from by simp [stepW, hx], stepW_done]
      simp [repV, hx, endW]
theorem endW_with (f : ByteArray) (e : El) (l : List Vl) : endW f e (l.foldl (stepW f e (getV l f).isSome) ([], false)) = withV l f e := by
  unfold withV
  cases h : (getV l f).isSome
  · rw [stepW_ins, List.nil_append]; rfl
  · rw [stepW_rep, List.nil_append]; · rfl
    obtain ⟨y, hy⟩ := Option.isSome_iff_exists.1 h
    unfold getV at hy
    obtain ⟨x, hx, _⟩ := Option.map_eq_some_iff.1 hy
    exact ⟨x, List.mem_of_find?_eq_some hx, by simpa using List.find?_some hx⟩
theorem stepW_len (f : ByteArray) (e : El) (has : Bool) (s : List Vl × Bool) (x : Vl) : (stepW f e has s x).1.length + (if (stepW f e has s x).2 then 0 else 1) ≤ s.1.length + (if s.2 then 0 else 1) + 1 := by
  obtain ⟨o, d⟩ := s
  unfold stepW
  split
  · next h =>
    have hd : d = false := by cases d <;> simp_all
    subst hd
    split <;> simp
  · cases d <;> simp
end Hd
theorem info_val : (Tryz.prog.info? 62).map (fun i => (i.zero, i.size, i.bytes)) = some (some (.agg #[.string ByteArray.empty, .int .u64 0, .int .u64 0, .int .u64 0, .int .u64 0, .int .u64 0, .int .u64 0, .int .u64 0, .int .u64 0]), 9, 80) := by kernel_rfl
theorem val_news {w : World} {g : Nat} {x : Vl} (h : w.heap[g]? = some (.cells #[.string x.name, .int .u64 x.el.e0, .int .u64 x.el.e1, .int .u64 x.el.e2, .int .u64 x.el.e3, .int .u64 x.el.e4, .int .u64 x.el.e5, .int .u64 x.el.e6, .int .u64 x.el.e7] 62 (0, 0))) : Src Tryz.prog 9 57 (.slice (some ⟨g, 0, none⟩) 1 1) 1 [.string x.name, .int .u64 x.el.e0, .int .u64 x.el.e1, .int .u64 x.el.e2, .int .u64 x.el.e3, .int .u64 x.el.e4, .int .u64 x.el.e5, .int .u64 x.el.e6, .int .u64 x.el.e7] w :=
  Src.ofSlice _ Tryz.underlying57 ⟨g, 0, none⟩ 1 1 _ rfl (World.news_of_block (cs := #[.string x.name, .int .u64 x.el.e0, .int .u64 x.el.e1, .int .u64 x.el.e2, .int .u64 x.el.e3, .int .u64 x.el.e4, .int .u64 x.el.e5, .int .u64 x.el.e6, .int .u64 x.el.e7]) (t := 62) (fr := (0, 0)) h) (by simp [Value.oneCell'])
/-- A list of values of one's own. -/
structure VaS (W : World) (v : Value) (l : List Vl) (wr : World) : Prop where
  row : RowZ wr 62 9 v l.length (l.flatMap vlV)
  own : ∀ g, v.ownBlock = some g → W.heap.size ≤ g
  below : Below W.heap.size W wr
  small : SmV l
theorem VaS.nil {W wr : World} (h : Below W.heap.size W wr) : VaS W (.slice none 0 0) [] wr := ⟨RowZ.nil, fun g hg => (by cases hg), h, fun s hs => (by cases hs)⟩
theorem VaS.step {W : World} {v : Value} {l : List Vl} {wr w' : World} (h : VaS W v l wr) (hb : Below wr.heap.size wr w') : VaS W v l w' := ⟨RowZ.below h.row hb, h.own, below_next h.below hb, h.small⟩
theorem VaS.vls {W : World} {v : Value} {l : List Vl} {wr : World} (h : VaS W v l wr) : Vls wr wr.heap.size v l := ⟨SlAt.of_row h.row, h.small⟩
theorem VaS.pushes {W : World} {v v' : Value} {l m : List Vl} {n : Nat} {wr w5 w' : World} (h : VaS W v l wr) (hw : Below wr.heap.size wr w5) (hs : SmV m) (hn : n = l.length + m.length) (hr : RowZ w' 62 9 v' n (l.flatMap vlV ++ m.flatMap vlV)) (hg : w5.grownBy w' v.ownBlock)
    (ho : v'.ownBlock = v.ownBlock ∨ v'.ownBlock = some w5.heap.size) : VaS W v' (l ++ m) w' := by
  have H5 := h.step hw
  subst hn
  refine ⟨?_, fun g hg => ?_, H5.below.grown hg H5.below.size H5.own, fun x hx => ?_⟩
  · rw [List.flatMap_append, List.length_append]; exact hr
  · rcases ho with e | e
    · rw [e] at hg; exact H5.own g hg
    · rw [e] at hg; injection hg with hg; rw [← hg]; exact H5.below.size
  · rcases List.mem_append.1 hx with hx | hx
    · exact h.small x hx
    · exact hs x hx
theorem VaS.push {W : World} {v v' : Value} {l : List Vl} {x : Vl} {wr w' : World} (h : VaS W v l wr) (hs : x.name.size ≤ maxLen) (hr : RowZ w' 62 9 v' (l.length + 1) (l.flatMap vlV ++ [.string x.name, .int .u64 x.el.e0, .int .u64 x.el.e1, .int .u64 x.el.e2, .int .u64 x.el.e3, .int .u64 x.el.e4, .int .u64 x.el.e5, .int .u64 x.el.e6, .int .u64 x.el.e7])) (hg : (wr.alloc (.cells #[.string x.name, .int .u64 x.el.e0, .int .u64 x.el.e1, .int .u64 x.el.e2, .int .u64 x.el.e3, .int .u64 x.el.e4, .int .u64 x.el.e5, .int .u64 x.el.e6, .int .u64 x.el.e7] 62)).grownBy w' v.ownBlock)
    (ho : v'.ownBlock = v.ownBlock ∨ v'.ownBlock = some (wr.alloc (.cells #[.string x.name, .int .u64 x.el.e0, .int .u64 x.el.e1, .int .u64 x.el.e2, .int .u64 x.el.e3, .int .u64 x.el.e4, .int .u64 x.el.e5, .int .u64 x.el.e6, .int .u64 x.el.e7] 62)).heap.size) : VaS W v' (l ++ [x]) w' :=
  h.pushes (m := [x]) (n := l.length + 1) (below_laid _ _) (fun y hy => by simp at hy; subst hy; exact hs) rfl (by simp only [List.flatMap_cons, List.flatMap_nil, List.append_nil]; exact hr) hg ho
/-- A new struct filled, its block by a number. -/
abbrev StP (T : TypeId) (new : Array Value) (w : World) (p k1 k2 : Nat) : Prop :=
  ∀ (ops : Array Oper) (rest : List Oper) (op : Oper) (a : Act) (Q : Exit → Act → World → Prop) (old : Array Value), op.guard = none → op.op = .store T (.tmp k1) (.tmp k2) → a.eval (.tmp k1) = .pointer (some ⟨p, 0, none⟩) → a.eval (.tmp k2) = .agg new → old.size = new.size → wpList Tryz.prog ops Q rest (a.put op.dst undef) (w.alloc (.cells new T)) → wpList Tryz.prog ops Q (op :: rest) a (w.alloc (.cells old T))
theorem stP {T : TypeId} {new : Array Value} {w : World} {p : Nat} (k1 k2 : Nat) (hp : p = w.heap.size) (hi : (Tryz.prog.info? T).map (·.size) = some new.size) (h1 : new.all (·.oneCell') = true) : StP T new w p k1 k2 := by subst hp; exact stA k1 k2 hi h1
theorem ld_elP (w : World) (e : El) {p : Nat} (hp : p = w.heap.size) : (loadVar 48 ⟨p, 0, none⟩).run Tryz.prog (w.alloc (.cells #[.int .u64 e.e0, .int .u64 e.e1, .int .u64 e.e2, .int .u64 e.e3, .int .u64 e.e4, .int .u64 e.e5, .int .u64 e.e6, .int .u64 e.e7] 48)) = .ok (.agg #[.int .u64 e.e0, .int .u64 e.e1, .int .u64 e.e2, .int .u64 e.e3, .int .u64 e.e4, .int .u64 e.e5, .int .u64 e.e6, .int .u64 e.e7]) (w.alloc (.cells #[.int .u64 e.e0, .int .u64 e.e1, .int .u64 e.e2, .int .u64 e.e3, .int .u64 e.e4, .int .u64 e.e5, .int .u64 e.e6, .int .u64 e.e7] 48)) := by subst hp; exact ld_el w e
set_option maxRecDepth 100000 in
set_option maxHeartbeats 2000000 in
theorem atom_any (B : Nat) (vl vr : Value) (L : List El) (a : At) (w : World) (h : Lbs w B vl L) : Calls Tryz.prog 60 #[.agg #[.int .i64 a.var, .int .u64 a.el.e0, .int .u64 a.el.e1, .int .u64 a.el.e2, .int .u64 a.el.e3, .int .u64 a.el.e4, .int .u64 a.el.e5, .int .u64 a.el.e6, .int .u64 a.el.e7], .agg #[vl, vr]] w fun e w' => RGet (atomV L a) e ∧ Below w.heap.size w w' := by
  obtain ⟨A, c, rfl, _, hcm⟩ := SlAt.form h.at_
  have hl9 : (L.length : Int) ≤ 9223372036854775807 := by unfold maxLen at hcm; omega
  have HB := hide (below_next (below_laid w (.cells #[.int .i64 a.var, .int .u64 a.el.e0, .int .u64 a.el.e1, .int .u64 a.el.e2, .int .u64 a.el.e3, .int .u64 a.el.e4, .int .u64 a.el.e5, .int .u64 a.el.e6, .int .u64 a.el.e7] 50)) (below_laid _ (.cells #[.slice A L.length c, vr] 32)))
  have HL := hide (h.below HB.out)
  have HA := hide (heap_below (heap_alloc_last w (.cells #[.int .i64 a.var, .int .u64 a.el.e0, .int .u64 a.el.e1, .int .u64 a.el.e2, .int .u64 a.el.e3, .int .u64 a.el.e4, .int .u64 a.el.e5, .int .u64 a.el.e6, .int .u64 a.el.e7] 50)) (below_laid _ (.cells #[.slice A L.length c, vr] 32)))
  have HA2 := hide (heap_two w (.cells #[.int .i64 a.var, .int .u64 a.el.e0, .int .u64 a.el.e1, .int .u64 a.el.e2, .int .u64 a.el.e3, .int .u64 a.el.e4, .int .u64 a.el.e5, .int .u64 a.el.e6, .int .u64 a.el.e7] 50) (.cells #[.slice A L.length c, vr] 32))
  have HR := hide (range_block HA.out 1 (elV a.el) fun j u hu => by rw [Nat.add_comm]; simpa [elV] using hu)
  have hsz : ((w.alloc (.cells #[.int .i64 a.var, .int .u64 a.el.e0, .int .u64 a.el.e1, .int .u64 a.el.e2, .int .u64 a.el.e3, .int .u64 a.el.e4, .int .u64 a.el.e5, .int .u64 a.el.e6, .int .u64 a.el.e7] 50)).alloc (.cells #[.slice A L.length c, vr] 32)).heap.size = w.heap.size + 1 + 1 := by rw [World.size_alloc, World.size_alloc]
  have HZ := hide hsz
  have k0 : ((w.alloc (.cells #[.int .i64 a.var, .int .u64 a.el.e0, .int .u64 a.el.e1, .int .u64 a.el.e2, .int .u64 a.el.e3, .int .u64 a.el.e4, .int .u64 a.el.e5, .int .u64 a.el.e6, .int .u64 a.el.e7] 50)).alloc (.cells #[.slice A L.length c, vr] 32)).cell? ⟨w.heap.size, 0, none⟩ = some (.int .i64 a.var) := by rw [cell_block HA.out]; rfl
  have k1 : ((w.alloc (.cells #[.int .i64 a.var, .int .u64 a.el.e0, .int .u64 a.el.e1, .int .u64 a.el.e2, .int .u64 a.el.e3, .int .u64 a.el.e4, .int .u64 a.el.e5, .int .u64 a.el.e6, .int .u64 a.el.e7] 50)).alloc (.cells #[.slice A L.length c, vr] 32)).cell? ⟨w.heap.size + 1, 0, none⟩ = some (.slice A L.length c) := by rw [cell_block HA2.out]; rfl
  clear h hcm hsz HA2
  go_enter Tryz.func60, Tryz.ntmps60
  go_upto_region 1 with fail
  have HLA := hide (blk_lt HA.out)
  clear HA
  generalize (w.alloc (Obj.cells _ 50)).alloc (Obj.cells _ 32) = w1 at *
  have HKP : Hid (Kpt w1 (w1.alloc (.cells #[.int .u64 0, .int .u64 0, .int .u64 0, .int .u64 0, .int .u64 0, .int .u64 0, .int .u64 0, .int .u64 0] 48))) := hide ⟨below_laid _ _⟩
  have j0 := HKP.out.cell k0
  have j1 := HKP.out.cell k1
  by_cases hv : a.var < 0
  · have d1 : decide (a.var < 0) = true := decide_eq_true hv
    have HE : Hid (atomV L a = some a.el) := hide (if_pos hv)
    have HLD := hide (ldA 9 (el_range (HKP.out.range HR.out HLA.out)) Tryz.underlying48 rfl el_info)
    have HST := hide (stP (T := 48) (w := w1) (new := #[.int .u64 a.el.e0, .int .u64 a.el.e1, .int .u64 a.el.e2, .int .u64 a.el.e3, .int .u64 a.el.e4, .int .u64 a.el.e5, .int .u64 a.el.e6, .int .u64 a.el.e7]) 4 10 HZ.out.symm el_info (by simp [Value.oneCell']))
    go_wp2_with (first | (with_reducible refine HLD.out _ _ _ _ _ rfl rfl (by with_unfolding_all rfl) ?_) | (with_reducible refine HST.out _ _ _ _ _ _ rfl rfl rfl rfl (by with_unfolding_all rfl) ?_))
    refine bodyPost_ret (results_cell_tmp Tryz.results60 rfl (ld_elP w1 a.el HZ.out.symm)) rfl ⟨⟨a.el, true, rfl, by rw [HE.out]; rfl, by rw [HE.out]; rfl⟩, below_next HB.out (below_laid _ _)⟩
  have d1 : decide (a.var < 0) = false := decide_eq_false hv
  by_cases hn : (L.length : Int) ≤ a.var
  · have d2 : decide ((L.length : Int) ≤ a.var) = true := decide_eq_true hn
    have HE : Hid (atomV L a = none) := hide (by unfold atomV; rw [if_neg hv, List.getElem?_eq_none (by omega)])
    have HST := hide (stP (T := 48) (w := w1) (new := #[.int .u64 0, .int .u64 0, .int .u64 0, .int .u64 0, .int .u64 0, .int .u64 0, .int .u64 0, .int .u64 0]) 4 17 HZ.out.symm el_info (by simp [Value.oneCell']))
    go_wp2_with (with_reducible refine HST.out _ _ _ _ _ _ rfl rfl rfl rfl (by with_unfolding_all rfl) ?_)
    refine bodyPost_ret (results_cell_tmp Tryz.results60 rfl (ld_elP w1 elZ HZ.out.symm)) rfl ⟨⟨elZ, false, rfl, by rw [HE.out]; rfl, by rw [HE.out]; rfl⟩, below_next HB.out (below_laid _ _)⟩
  have d2 : decide ((L.length : Int) ≤ a.var) = false := decide_eq_false hn
  obtain ⟨q, hq⟩ := Int.eq_ofNat_of_zero_le (by omega : 0 ≤ a.var)
  have hql : q < L.length := by omega
  have i0 : (q : Int) < L.length := by omega
  have HE : Hid (atomV L a = some L[q]) := hide (by unfold atomV; rw [if_neg hv, hq, Int.toNat_natCast, List.getElem?_eq_getElem hql])
  obtain ⟨bl, off, c', e, hbl, hr⟩ := SlAt.elem (HL.out.at_.below HKP.out.below) (fun _ => rfl) hql
  cases e
  rw [hq] at j0 d1 d2
  generalize L[q] = z at *
  have HLD := hide (ldA 22 (el_range hr) Tryz.underlying48 rfl el_info)
  have HST := hide (stP (T := 48) (w := w1) (new := #[.int .u64 z.e0, .int .u64 z.e1, .int .u64 z.e2, .int .u64 z.e3, .int .u64 z.e4, .int .u64 z.e5, .int .u64 z.e6, .int .u64 z.e7]) 4 23 HZ.out.symm el_info (by simp [Value.oneCell']))
  clear hr hq hv hn k0 k1
  go_wp2_with (first | (with_reducible refine HLD.out _ _ _ _ _ rfl rfl (by with_unfolding_all rfl) ?_) | (with_reducible refine HST.out _ _ _ _ _ _ rfl rfl rfl rfl (by with_unfolding_all rfl) ?_))
  refine bodyPost_ret (results_cell_tmp Tryz.results60 rfl (ld_elP w1 z HZ.out.symm)) rfl ⟨⟨z, true, rfl, by rw [HE.out]; rfl, by rw [HE.out]; rfl⟩, below_next HB.out (below_laid _ _)⟩
end Go.Proofs.YthnbhcfpfbimgaaGreat
/- The walks of Less, of the program and of the reference. -/
namespace Go.Proofs.YthnbhcfpfbimgaaGreat
open Go.RowKit
set_option maxHeartbeats 400000 in
set_option maxRecDepth 100000 in
theorem lessR_any (a b : ByteArray) (w : World) (ha : a.size ≤ maxLen) :
    Calls Tryz.prog 16 #[.string a, .string b] w fun e w' => e = .returned (.bool (Nm.ls a b)) ∧ Dr w w' := by
  unfold maxLen at ha
  go_enter Tryz.func16, Tryz.ntmps16
  go_wp2_with fail
  go_loopw [5] (fun i wr => ∃ k : Nat, k ≤ a.size ∧ i = .int .i64 k ∧ Nm.Begin a b k ∧ Dr w wr) (fun i _ => a.size - (intOf i).toNat)
  case atStart => exact ⟨0, Nat.zero_le _, rfl, Nm.begin_zero a b, Dr.refl w⟩
  case round =>
    obtain ⟨k, hk, rfl, hg, hw⟩ := hrel
    have HG := hide hg
    have HW := hide hw
    clear hg hw
    by_cases h1 : k < a.size
    · by_cases h2 : k < b.size
      · cases h3 : (((a[k]'h1).toNat : Int) != (b[k]'h2).toNat)
        · go_wp2_with fail
          go_quiet (fail)
          go_wp2_with fail
          go_roundw
          case rel =>
            refine ⟨k + 1, by omega, by go_num, Nm.begin_next HG.out h1 h2 (by simp at h3; omega), HW.out.drewN _⟩
          case measure => simp [intOf]; omega
        · go_wp2_with fail
          go_quiet (fail)
          go_wp2_with fail
          go_quiet (fail)
          go_wp2_with fail
          go_ret
          refine ⟨?_, (HW.out.drewN _).drewN _⟩
          rw [Nm.less_diff HG.out h1 h2 (by simp at h3; omega)]
          simp
      · have hr := Nm.less_end HG.out (.inr (by have := HG.out.2.1; omega))
        have HR := hide hr
        clear hr
        go_wp2_with fail
        go_ret
        refine ⟨?_, HW.out⟩
        rw [HR.out]
        simp
    · have hr := Nm.less_end HG.out (.inl (by omega))
      have HR := hide hr
      clear hr
      go_wp2_with fail
      go_ret
      refine ⟨?_, HW.out⟩
      rw [HR.out]
      simp

end Go.Proofs.YthnbhcfpfbimgaaGreat
