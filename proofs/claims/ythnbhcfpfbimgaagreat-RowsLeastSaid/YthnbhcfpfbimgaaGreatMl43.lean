/- Texts put together: RjOpen RjOpen2 RjLeast. -/
import Derived.ProofKit
import Derived.OpenShut
import Derived.ShutString
import Derived.ChangeOld
import Derived.Deep.Slices
import Derived.Deep.Fields
import Derived.ChangeSame
import Derived.Lib.SmallJoins
import Derived.Test.YthnbhcfpfbimgaaGreatMl19
import Derived.Test.YthnbhcfpfbimgaaGreatMl18
import Derived.Test.YthnbhcfpfbimgaaGreatMl42
/- Arguments opened: a problem, an assignment. (Printed by rjopen.py.) -/
namespace Go.Proofs.YthnbhcfpfbimgaaGreat
open Go.ChangeShapes Go.WideShapes Go.ChangeAt Go.RowKit Go.Deep Go.Joins
open Rw (El At Fld)
theorem list_choose {α : Type} {P : Nat → α → Prop} : ∀ (n : Nat), (∀ i, i < n → ∃ x, P i x) → ∃ l : List α, l.length = n ∧ ∀ (i : Nat) x, l[i]? = some x → P i x
  | 0, _ => ⟨[], rfl, fun i x h => by simp at h⟩
  | n + 1, h => by
    obtain ⟨l, h1, h2⟩ := list_choose n fun i hi => h i (by omega)
    obtain ⟨x, hx⟩ := h n (by omega)
    refine ⟨l ++ [x], by simp [h1], fun i y hy => ?_⟩
    rcases Nat.lt_or_ge i n with hi | hi
    · rw [List.getElem?_append_left (by omega)] at hy
      exact h2 i y hy
    · rw [List.getElem?_append_right (by omega)] at hy
      have hi0 : i - l.length = 0 := by
        have := (List.getElem?_eq_some_iff.1 hy).1
        simp at this
        omega
      rw [hi0] at hy
      simp at hy
      subst hy
      have : i = n := by omega
      subst this
      exact hx
theorem flat_of {α : Type} {f : α → List Value} {Q : α → Prop} (C : Nat) : ∀ (n : Nat) (xs : List Value), xs.length = n * C → (∀ i, i < n → ∃ x, part xs C i = f x ∧ Q x) → ∃ l : List α, l.length = n ∧ xs = l.flatMap f ∧ ∀ x ∈ l, Q x
  | 0, xs, h, _ => ⟨[], rfl, List.eq_nil_of_length_eq_zero (by simpa using h), fun x h => by cases h⟩
  | n + 1, xs, h, hp => by
    have e : (n + 1) * C = n * C + C := Nat.succ_mul n C
    obtain ⟨x, hx, hq⟩ := hp 0 (by omega)
    obtain ⟨l, h1, h2, h3⟩ := flat_of (f := f) (Q := Q) C n (xs.drop C) (by rw [List.length_drop]; omega) (fun i hi => by
      obtain ⟨y, hy, hyq⟩ := hp (i + 1) (by omega)
      refine ⟨y, ?_, hyq⟩
      rw [← hy]
      unfold part
      rw [List.drop_drop, Nat.succ_mul, Nat.add_comm C])
    refine ⟨x :: l, by simp [h1], ?_, fun y hy => ?_⟩
    · rw [List.flatMap_cons, ← h2, ← hx]
      unfold part
      rw [Nat.zero_mul, List.drop_zero, List.take_append_drop]
    · rcases List.mem_cons.1 hy with rfl | hy
      · exact hq
      · exact h3 y hy
section
variable {H : Type} {enc : TypeId × Value → H} {W : World} {r : Reach} {b0 : Nat} {v : Value} {d : DataW H} {p : List MemPlace}
theorem bulk_one (d : DataW H) : 1 ≤ Rows.uptoBulk d := by
  cases d with
  | lit l => cases l <;> simp [Rows.uptoBulk]
  | nil => simp [Rows.uptoBulk]
  | ptr d => simp [Rows.uptoBulk]
  | slice elems spare => simp [Rows.uptoBulk]
  | agg parts => simp [Rows.uptoBulk]
  | iface t d => simp [Rows.uptoBulk]
  | map entries => simp [Rows.uptoBulk]
  | held h => simp [Rows.uptoBulk]
theorem bulk_length (l : List (DataW H)) : l.length ≤ Rows.uptoBulkAll l := by
  induction l with
  | nil => simp [Rows.uptoBulkAll]
  | cons x r ih => have := bulk_one x; simp only [Rows.uptoBulkAll, List.length_cons]; omega
theorem bulk_part {d : DataW H} {l : List (DataW H)} (h : d ∈ l) : Rows.uptoBulk d ≤ Rows.uptoBulkAll l := by
  induction l with
  | nil => cases h
  | cons x r ih =>
    simp only [Rows.uptoBulkAll]
    cases List.mem_cons.1 h with
    | inl e => subst e; omega
    | inr e => have := ih e; omega
theorem i64_cell {n : Nat} {t : TypeId} {v : Value} {y : DataW H × List MemPlace} (ht : Tryz.prog.underlying t = some (.int .i64)) (h : DataW.trod enc Tryz.prog W 0 (fun _ => true) true n t [v] = some y) : ∃ z : Int, v = .int .i64 z := by
  obtain ⟨z, h1, _⟩ := DataW.trod_int ht h
  simp at h1
  exact ⟨z, h1⟩
theorem u64_cell {n : Nat} {t : TypeId} {v : Value} {y : DataW H × List MemPlace} (ht : Tryz.prog.underlying t = some (.int .u64)) (h : DataW.trod enc Tryz.prog W 0 (fun _ => true) true n t [v] = some y) : ∃ z : Int, v = .int .u64 z := by
  obtain ⟨z, h1, _⟩ := DataW.trod_int ht h
  simp at h1
  exact ⟨z, h1⟩
theorem bool_cell {n : Nat} {t : TypeId} {v : Value} {y : DataW H × List MemPlace} (ht : Tryz.prog.underlying t = some .bool) (h : DataW.trod enc Tryz.prog W 0 (fun _ => true) true n t [v] = some y) : ∃ z : Bool, v = .bool z := by
  obtain ⟨z, h1, _⟩ := DataW.trod_bool ht h
  simp at h1
  exact ⟨z, h1⟩
theorem str_cell {n : Nat} {t : TypeId} {v : Value} {y : DataW H × List MemPlace} (ht : Tryz.prog.underlying t = some .string) (h : DataW.trod enc Tryz.prog W 0 (fun _ => true) true n t [v] = some y) : ∃ s : ByteArray, v = .string s ∧ s.size ≤ maxLen := by
  obtain ⟨z, h1, _, hw⟩ := DataW.trod_string ht h
  simp at h1
  exact ⟨z, h1, hw⟩
/-- A slice, its elements' cells. -/
theorem open_sl {t e : TypeId} {C n : Nat} {cs : List Value} {x : DataW H × List MemPlace} (ht : Tryz.prog.underlying t = some (.slice e)) (hC : Tryz.prog.cellsOf e = C) (hC0 : 0 < C) (h : DataW.trod enc Tryz.prog W 0 (fun _ => true) true n t cs = some x) :
    ∃ v k xs, cs = [v] ∧ SlAt W W.heap.size e C v k xs ∧ xs.length = k * C ∧ k ≤ Rows.uptoBulk x.1 ∧ ∀ i, i < k → ∃ m y, DataW.trod enc Tryz.prog W 0 (fun _ => true) true m e (part xs C i) = some y ∧ Rows.uptoBulk y.1 ≤ Rows.uptoBulk x.1 := by
  rcases DataW.trod_slice ht h with ⟨h0, _⟩ | ⟨a, len, cap, elems, rest, m, _, hcs, hx, _, hl, hm, hlen, hel, _⟩
  · exact ⟨_, 0, [], h0, SlAt.nil _ _ _ _, by simp, Nat.zero_le _, fun i hi => by omega⟩
  · rw [hC] at hel
    obtain ⟨cl, hcl, hcp⟩ := list_choose (P := fun i (c : List Value) => ∃ y, W.cells? 0 (a.add (i * C)) C = some c ∧ DataW.trod enc Tryz.prog W 0 (fun _ => true) true m e c = some y ∧ y ∈ elems) len (fun i hi => by
      have hei := hel i hi
      rw [List.getElem?_eq_getElem (by omega), Option.bind_eq_some_iff] at hei
      obtain ⟨c, h1, h2⟩ := hei
      exact ⟨c, _, h1, h2, List.getElem_mem _⟩)
    have hlenC : ∀ c ∈ cl, c.length = C := fun c hc => by
      obtain ⟨i, hi, rfl⟩ := List.mem_iff_getElem.1 hc
      obtain ⟨y, h1, _, _⟩ := hcp i _ (List.getElem?_eq_getElem hi)
      exact (World.cells?_some h1).2.1
    have hfl : cl.flatten.length = len * C := by
      rw [← hcl]
      clear hcp hcl hel
      induction cl with
      | nil => simp
      | cons c cl ih =>
        rw [List.flatten_cons, List.length_append, ih (fun c hc => hlenC c (by simp [hc])), hlenC c (by simp), List.length_cons, Nat.succ_mul]
        omega
    have hpart : ∀ i c, cl[i]? = some c → part cl.flatten C i = c := by
      clear hcp hcl hel hfl
      induction cl with
      | nil => intro i c h; simp at h
      | cons c0 cl ih =>
        intro i c h
        have h0 := hlenC c0 (by simp)
        cases i with
        | zero =>
          simp at h
          subst h
          unfold part
          rw [Nat.zero_mul, List.drop_zero, List.flatten_cons, List.take_append_of_le_length (by omega), List.take_of_length_le (by omega)]
        | succ i =>
          have := ih (fun c hc => hlenC c (by simp [hc])) i c (by simpa using h)
          rw [← this]
          unfold part
          rw [List.flatten_cons, Nat.succ_mul, Nat.add_comm (i * C), ← List.drop_drop, List.drop_left' h0]
    refine ⟨_, len, cl.flatten, hcs, ⟨some a, cap, rfl, hl, hm, hfl, fun h0 => ?_⟩, hfl, ?_, fun i hi => ?_⟩
    · obtain ⟨b, off, spot⟩ := a
      have hcell : ∀ (i : Nat) u, cl.flatten[i]? = some u → W.cell? ((⟨b, off, spot⟩ : Addr).add i) = some u := fun i u hu => by
        have hil := (List.getElem?_eq_some_iff.1 hu).1
        have hq : i / C < len := by rw [hfl] at hil; exact (Nat.div_lt_iff_lt_mul hC0).2 hil
        obtain ⟨c, hc⟩ : ∃ c, cl[i / C]? = some c := ⟨_, List.getElem?_eq_getElem (by omega)⟩
        obtain ⟨y, h1, _, _⟩ := hcp _ _ hc
        have hp := hpart _ _ hc
        obtain ⟨_, _, hat⟩ := World.cells?_some h1
        have hr : i % C < C := Nat.mod_lt _ hC0
        have h2 := hat (i % C) hr
        rw [Go.Deep.add_add] at h2
        have hi : i / C * C + i % C = i := by rw [Nat.mul_comm]; exact Nat.div_add_mod i C
        rw [hi] at h2
        rw [h2, ← hp]
        unfold part
        rw [List.getElem?_take_of_lt hr, List.getElem?_drop, hi]
        exact hu
      have hz : 0 < cl.flatten.length := by rw [hfl]; exact Nat.mul_pos h0 hC0
      have h00 := hcell 0 _ (List.getElem?_eq_getElem hz)
      have hspot : spot = none := by simpa [Addr.add] using World.cell?_spot h00
      subst hspot
      have hlt := World.block_lt_of_cell? W _ h00
      refine ⟨b, off, rfl, .inl hlt, hlt, fun i u hu => ?_⟩
      have := hcell i u hu
      rwa [add_plain] at this
    · rw [hx]
      have := bulk_length (elems.map (·.1))
      simp only [Rows.uptoBulk, List.length_map] at this ⊢
      omega
    · obtain ⟨c, hc⟩ : ∃ c, cl[i]? = some c := ⟨_, List.getElem?_eq_getElem (by omega)⟩
      obtain ⟨y, _, h2, h3⟩ := hcp _ _ hc
      refine ⟨m, y, by rw [hpart _ _ hc]; exact h2, ?_⟩
      rw [hx]
      have := bulk_part (List.mem_map.2 ⟨y, h3, rfl⟩ : y.1 ∈ elems.map (·.1))
      simp only [Rows.uptoBulk]
      omega
end
end Go.Proofs.YthnbhcfpfbimgaaGreat
/- Arguments opened: the cells of each type of a problem and of an assignment. (Printed by rjopen2.py.) -/
namespace Go.Proofs.YthnbhcfpfbimgaaGreat
open Go.ChangeShapes Go.WideShapes Go.ChangeAt Go.RowKit Go.Deep Go.Joins
open Rw (El At Fld)
set_option maxRecDepth 100000
section
variable {H : Type} {enc : TypeId × Value → H} {W : World} {r : Reach} {b0 : Nat} {v : Value} {d : DataW H} {p : List MemPlace}
theorem o_el_cells {n : Nat} {cs : List Value} {y : DataW H × List MemPlace} (h : DataW.trod enc Tryz.prog W 0 (fun _ => true) true n 48 cs = some y) : ∃ e : El, cs = elV e := by
  obtain ⟨ys, m, _, _, hcl, hyl, hf⟩ := DataW.trod_array Tryz.underlying48 h
  have hc : cs.length = 8 := by rw [hcl]; kernel_rfl
  have hC : Tryz.prog.cellsOf 40 = 1 := by kernel_rfl
  rw [hC] at hf
  have e0 := hf 0 (by decide)
  have e1 := hf 1 (by decide)
  have e2 := hf 2 (by decide)
  have e3 := hf 3 (by decide)
  have e4 := hf 4 (by decide)
  have e5 := hf 5 (by decide)
  have e6 := hf 6 (by decide)
  have e7 := hf 7 (by decide)
  match cs, hc, ys, hyl with
  | [c0, c1, c2, c3, c4, c5, c6, c7], _, [y0, y1, y2, y3, y4, y5, y6, y7], _ =>
    obtain ⟨z0, rfl⟩ := u64_cell Tryz.underlying40 (show DataW.trod enc Tryz.prog W 0 (fun _ => true) true m 40 [c0] = some y0 from e0)
    obtain ⟨z1, rfl⟩ := u64_cell Tryz.underlying40 (show DataW.trod enc Tryz.prog W 0 (fun _ => true) true m 40 [c1] = some y1 from e1)
    obtain ⟨z2, rfl⟩ := u64_cell Tryz.underlying40 (show DataW.trod enc Tryz.prog W 0 (fun _ => true) true m 40 [c2] = some y2 from e2)
    obtain ⟨z3, rfl⟩ := u64_cell Tryz.underlying40 (show DataW.trod enc Tryz.prog W 0 (fun _ => true) true m 40 [c3] = some y3 from e3)
    obtain ⟨z4, rfl⟩ := u64_cell Tryz.underlying40 (show DataW.trod enc Tryz.prog W 0 (fun _ => true) true m 40 [c4] = some y4 from e4)
    obtain ⟨z5, rfl⟩ := u64_cell Tryz.underlying40 (show DataW.trod enc Tryz.prog W 0 (fun _ => true) true m 40 [c5] = some y5 from e5)
    obtain ⟨z6, rfl⟩ := u64_cell Tryz.underlying40 (show DataW.trod enc Tryz.prog W 0 (fun _ => true) true m 40 [c6] = some y6 from e6)
    obtain ⟨z7, rfl⟩ := u64_cell Tryz.underlying40 (show DataW.trod enc Tryz.prog W 0 (fun _ => true) true m 40 [c7] = some y7 from e7)
    exact ⟨⟨z0, z1, z2, z3, z4, z5, z6, z7⟩, rfl⟩
theorem o_at_cells {n : Nat} {cs : List Value} {y : DataW H × List MemPlace} (h : DataW.trod enc Tryz.prog W 0 (fun _ => true) true n 50 cs = some y) : ∃ a : At, cs = atV a := by
  obtain ⟨ys, m, _, hy, hcl, hyl, hf⟩ := DataW.trod_struct Tryz.underlying50 h
  have hc : cs.length = 9 := by rw [hcl]; kernel_rfl
  have hyl' : ys.length = 2 := hyl
  have e0 := hf 0 _ rfl
  have e1 := hf 1 _ rfl
  match cs, hc, ys, hyl' with
  | [c0, c1, c2, c3, c4, c5, c6, c7, c8], _, [y0, y1], _ =>
    have e0' : DataW.trod enc Tryz.prog W 0 (fun _ => true) true m 3 [c0] = some y0 := e0
    have e1' : DataW.trod enc Tryz.prog W 0 (fun _ => true) true m 48 [c1, c2, c3, c4, c5, c6, c7, c8] = some y1 := e1
    obtain ⟨z, rfl⟩ := i64_cell Tryz.underlying3 e0'
    obtain ⟨e, he⟩ := o_el_cells e1'
    exact ⟨⟨z, e⟩, congrArg _ he⟩
theorem o_fd_cells {n : Nat} {cs : List Value} {y : DataW H × List MemPlace} (h : DataW.trod enc Tryz.prog W 0 (fun _ => true) true n 59 cs = some y) : ∃ f : Fld, cs = fdV f ∧ f.name.size ≤ maxLen := by
  obtain ⟨ys, m, _, hy, hcl, hyl, hf⟩ := DataW.trod_struct Tryz.underlying59 h
  have hc : cs.length = 10 := by rw [hcl]; kernel_rfl
  have hyl' : ys.length = 2 := hyl
  have e0 := hf 0 _ rfl
  have e1 := hf 1 _ rfl
  match cs, hc, ys, hyl' with
  | [c0, c1, c2, c3, c4, c5, c6, c7, c8, c9], _, [y0, y1], _ =>
    have e0' : DataW.trod enc Tryz.prog W 0 (fun _ => true) true m 9 [c0] = some y0 := e0
    have e1' : DataW.trod enc Tryz.prog W 0 (fun _ => true) true m 50 [c1, c2, c3, c4, c5, c6, c7, c8, c9] = some y1 := e1
    obtain ⟨s, rfl, hs⟩ := str_cell Tryz.underlying9 e0'
    obtain ⟨a, he⟩ := o_at_cells e1'
    exact ⟨⟨s, a⟩, congrArg _ he, hs⟩
theorem o_vl_cells {n : Nat} {cs : List Value} {y : DataW H × List MemPlace} (h : DataW.trod enc Tryz.prog W 0 (fun _ => true) true n 62 cs = some y) : ∃ x : Vl, cs = vlV x ∧ x.name.size ≤ maxLen := by
  obtain ⟨ys, m, _, hy, hcl, hyl, hf⟩ := DataW.trod_struct Tryz.underlying62 h
  have hc : cs.length = 9 := by rw [hcl]; kernel_rfl
  have hyl' : ys.length = 2 := hyl
  have e0 := hf 0 _ rfl
  have e1 := hf 1 _ rfl
  match cs, hc, ys, hyl' with
  | [c0, c1, c2, c3, c4, c5, c6, c7, c8], _, [y0, y1], _ =>
    have e0' : DataW.trod enc Tryz.prog W 0 (fun _ => true) true m 9 [c0] = some y0 := e0
    have e1' : DataW.trod enc Tryz.prog W 0 (fun _ => true) true m 48 [c1, c2, c3, c4, c5, c6, c7, c8] = some y1 := e1
    obtain ⟨s, rfl, hs⟩ := str_cell Tryz.underlying9 e0'
    obtain ⟨a, he⟩ := o_el_cells e1'
    exact ⟨⟨s, a⟩, congrArg _ he, hs⟩
theorem o_ins_cells {n : Nat} {cs : List Value} {y : DataW H × List MemPlace} (h : DataW.trod enc Tryz.prog W 0 (fun _ => true) true n 114 cs = some y) : ∃ x : Ins, cs = insV x := by
  obtain ⟨ys, m, _, hy, hcl, hyl, hf⟩ := DataW.trod_struct Tryz.underlying114 h
  have hc : cs.length = 10 := by rw [hcl]; kernel_rfl
  have hyl' : ys.length = 3 := hyl
  have e0 := hf 0 _ rfl
  have e1 := hf 1 _ rfl
  have e2 := hf 2 _ rfl
  match cs, hc, ys, hyl' with
  | [c0, c1, c2, c3, c4, c5, c6, c7, c8, c9], _, [y0, y1, y2], _ =>
    have e0' : DataW.trod enc Tryz.prog W 0 (fun _ => true) true m 3 [c0] = some y0 := e0
    have e1' : DataW.trod enc Tryz.prog W 0 (fun _ => true) true m 3 [c1] = some y1 := e1
    have e2' : DataW.trod enc Tryz.prog W 0 (fun _ => true) true m 48 [c2, c3, c4, c5, c6, c7, c8, c9] = some y2 := e2
    obtain ⟨z, rfl⟩ := i64_cell Tryz.underlying3 e0'
    obtain ⟨q, rfl⟩ := i64_cell Tryz.underlying3 e1'
    obtain ⟨e, he⟩ := o_el_cells e2'
    exact ⟨⟨z, q, e⟩, congrArg (fun l => Value.int .i64 z :: Value.int .i64 q :: l) he⟩
theorem o_vr_cells {n : Nat} {cs : List Value} {y : DataW H × List MemPlace} (h : DataW.trod enc Tryz.prog W 0 (fun _ => true) true n 75 cs = some y) : ∃ x : Vr, cs = vrV x ∧ x.name.size ≤ maxLen := by
  obtain ⟨ys, m, _, hy, hcl, hyl, hf⟩ := DataW.trod_struct Tryz.underlying75 h
  have hc : cs.length = 3 := by rw [hcl]; kernel_rfl
  have hyl' : ys.length = 3 := hyl
  have e0 := hf 0 _ rfl
  have e1 := hf 1 _ rfl
  have e2 := hf 2 _ rfl
  match cs, hc, ys, hyl' with
  | [c0, c1, c2], _, [y0, y1, y2], _ =>
    have e0' : DataW.trod enc Tryz.prog W 0 (fun _ => true) true m 9 [c0] = some y0 := e0
    have e1' : DataW.trod enc Tryz.prog W 0 (fun _ => true) true m 3 [c1] = some y1 := e1
    have e2' : DataW.trod enc Tryz.prog W 0 (fun _ => true) true m 3 [c2] = some y2 := e2
    obtain ⟨s, rfl, hs⟩ := str_cell Tryz.underlying9 e0'
    obtain ⟨z, rfl⟩ := i64_cell Tryz.underlying3 e1'
    obtain ⟨q, rfl⟩ := i64_cell Tryz.underlying3 e2'
    exact ⟨⟨s, z, q⟩, rfl, hs⟩
theorem o_rel_cells {n : Nat} {cs : List Value} {y : DataW H × List MemPlace} (h : DataW.trod enc Tryz.prog W 0 (fun _ => true) true n 118 cs = some y) : Relv cs.toArray := by
  obtain ⟨ys, m, _, hy, hcl, hyl, hf⟩ := DataW.trod_struct Tryz.underlying118 h
  have hc : cs.length = 65 := by rw [hcl]; kernel_rfl
  have hyl' : ys.length = 2 := hyl
  have e0 := hf 0 _ rfl
  have e1 := hf 1 _ rfl
  match cs, hc, ys, hyl' with
  | c0 :: cs, hc, [y0, y1], _ =>
    have e0' : DataW.trod enc Tryz.prog W 0 (fun _ => true) true m 3 [c0] = some y0 := e0
    have hcl1 : (cs.take 64) = cs := List.take_of_length_le (by simp at hc; omega)
    have e1' : DataW.trod enc Tryz.prog W 0 (fun _ => true) true m 116 (cs.take 64) = some y1 := e1
    rw [hcl1] at e1'
    obtain ⟨z, rfl⟩ := i64_cell Tryz.underlying3 e0'
    obtain ⟨xs, m2, _, _, _, hxl, hg⟩ := DataW.trod_array Tryz.underlying116 e1'
    have hC : Tryz.prog.cellsOf 40 = 1 := by kernel_rfl
    rw [hC] at hg
    refine ⟨by simpa using hc, ⟨z, rfl⟩, fun k hk => ?_⟩
    have hkl : k < cs.length := by simp at hc; omega
    have h1 := hg k hk
    rw [Nat.mul_one, List.drop_eq_getElem_cons hkl, show List.take 1 (cs[k] :: cs.drop (k + 1)) = [cs[k]] from rfl, List.getElem?_eq_getElem (by omega)] at h1
    obtain ⟨q, hq⟩ := u64_cell Tryz.underlying40 h1
    refine ⟨q, ?_⟩
    rw [← hq]
    simp [Nat.add_comm 1 k, hkl]
theorem open_list {α : Type} {f : α → List Value} {Q : α → Prop} {t e : TypeId} {C n : Nat} {cs : List Value} {x : DataW H × List MemPlace} (ht : Tryz.prog.underlying t = some (.slice e)) (hC : Tryz.prog.cellsOf e = C) (hC0 : 0 < C) (hel : ∀ m c y, DataW.trod enc Tryz.prog W 0 (fun _ => true) true m e c = some y → ∃ a, c = f a ∧ Q a) (h : DataW.trod enc Tryz.prog W 0 (fun _ => true) true n t cs = some x) :
    ∃ v, ∃ l : List α, cs = [v] ∧ SlAt W W.heap.size e C v l.length (l.flatMap f) ∧ l.length ≤ Rows.uptoBulk x.1 ∧ ∀ a ∈ l, Q a := by
  obtain ⟨v, k, xs, h1, h2, h3, h4, h5⟩ := open_sl ht hC hC0 h
  obtain ⟨l, h6, h7, h8⟩ := flat_of (f := f) (Q := Q) C k xs h3 fun i hi => by
    obtain ⟨m, y, h9, _⟩ := h5 i hi
    exact hel m _ y h9
  subst h6
  subst h7
  exact ⟨v, l, h1, h2, h4, h8⟩
theorem open_els {n : Nat} {cs : List Value} {x : DataW H × List MemPlace} (h : DataW.trod enc Tryz.prog W 0 (fun _ => true) true n 29 cs = some x) : ∃ v, ∃ l : List El, cs = [v] ∧ Lbs W W.heap.size v l := by
  obtain ⟨v, l, h1, h2, _⟩ := open_list (f := elV) (Q := fun _ => True) Tryz.underlying29 (C := 8) (by kernel_rfl) (by decide) (fun m c y h => by obtain ⟨e, he⟩ := o_el_cells h; exact ⟨e, he, trivial⟩) h
  exact ⟨v, l, h1, ⟨h2⟩⟩
theorem open_fds {n : Nat} {cs : List Value} {x : DataW H × List MemPlace} (h : DataW.trod enc Tryz.prog W 0 (fun _ => true) true n 54 cs = some x) : ∃ v, ∃ l : List Fld, cs = [v] ∧ SlAt W W.heap.size 59 10 v l.length (fdsV l) ∧ Sml l := by
  obtain ⟨v, l, h1, h2, _, h3⟩ := open_list (f := fdV) (Q := fun f => f.name.size ≤ maxLen) Tryz.underlying54 (C := 10) (by kernel_rfl) (by decide) (fun m c y h => o_fd_cells h) h
  exact ⟨v, l, h1, h2, h3⟩
theorem open_vls {n : Nat} {cs : List Value} {x : DataW H × List MemPlace} (h : DataW.trod enc Tryz.prog W 0 (fun _ => true) true n 57 cs = some x) : ∃ v, ∃ l : List Vl, cs = [v] ∧ Vls W W.heap.size v l ∧ l.length ≤ Rows.uptoBulk x.1 := by
  obtain ⟨v, l, h1, h2, h4, h3⟩ := open_list (f := vlV) (Q := fun f => f.name.size ≤ maxLen) Tryz.underlying57 (C := 9) (by kernel_rfl) (by decide) (fun m c y h => o_vl_cells h) h
  exact ⟨v, l, h1, ⟨h2, h3⟩, h4⟩
theorem open_inss {n : Nat} {cs : List Value} {x : DataW H × List MemPlace} (h : DataW.trod enc Tryz.prog W 0 (fun _ => true) true n 67 cs = some x) : ∃ v, ∃ l : List Ins, cs = [v] ∧ SlAt W W.heap.size 114 10 v l.length (l.flatMap insV) := by
  obtain ⟨v, l, h1, h2, _⟩ := open_list (f := insV) (Q := fun _ => True) Tryz.underlying67 (C := 10) (by kernel_rfl) (by decide) (fun m c y h => by obtain ⟨e, he⟩ := o_ins_cells h; exact ⟨e, he, trivial⟩) h
  exact ⟨v, l, h1, h2⟩
theorem open_vrs {n : Nat} {cs : List Value} {x : DataW H × List MemPlace} (h : DataW.trod enc Tryz.prog W 0 (fun _ => true) true n 23 cs = some x) : ∃ v, ∃ l : List Vr, cs = [v] ∧ Vars W W.heap.size v l := by
  obtain ⟨v, l, h1, h2, _, h3⟩ := open_list (f := vrV) (Q := fun f => f.name.size ≤ maxLen) Tryz.underlying23 (C := 3) (by kernel_rfl) (by decide) (fun m c y h => o_vr_cells h) h
  exact ⟨v, l, h1, ⟨h2, h3⟩⟩
theorem open_ss {n : Nat} {cs : List Value} {x : DataW H × List MemPlace} (h : DataW.trod enc Tryz.prog W 0 (fun _ => true) true n 101 cs = some x) : ∃ v l, cs = [v] ∧ LS W W.heap.size v l := by
  obtain ⟨v, l, h1, h2, _, h3⟩ := open_list (f := fun s => [Value.string s]) (Q := fun s => s.size ≤ maxLen) Tryz.underlying101 (C := 1) (by kernel_rfl) (by decide) (fun m c y h => by
    obtain ⟨s, hs, _, hw⟩ := DataW.trod_string Tryz.underlying9 h
    exact ⟨s, hs, hw⟩) h
  refine ⟨v, l, h1, ⟨?_, h3⟩⟩
  have e : strV l = l.flatMap fun s => [Value.string s] := List.map_eq_flatMap
  rw [e]
  exact h2
theorem o_fac_cells {n : Nat} {cs : List Value} {y : DataW H × List MemPlace} (h : DataW.trod enc Tryz.prog W 0 (fun _ => true) true n 120 cs = some y) : Fac W W.heap.size cs := by
  obtain ⟨ys, m, _, hy, hcl, hyl, hf⟩ := DataW.trod_struct Tryz.underlying120 h
  have hc : cs.length = 67 := by rw [hcl]; kernel_rfl
  have hyl' : ys.length = 3 := hyl
  have e0 := hf 0 _ rfl
  have e1 := hf 1 _ rfl
  have e2 := hf 2 _ rfl
  match cs, hc, ys, hyl' with
  | c0 :: c1 :: cs, hc, [y0, y1, y2], _ =>
    have e0' : DataW.trod enc Tryz.prog W 0 (fun _ => true) true m 3 [c0] = some y0 := e0
    have e1' : DataW.trod enc Tryz.prog W 0 (fun _ => true) true m 101 [c1] = some y1 := e1
    have e2' : DataW.trod enc Tryz.prog W 0 (fun _ => true) true m 118 (cs.take 65) = some y2 := e2
    rw [List.take_of_length_le (by simp at hc; omega)] at e2'
    obtain ⟨z, rfl⟩ := i64_cell Tryz.underlying3 e0'
    obtain ⟨v, l, hv, hl⟩ := open_ss e1'
    obtain rfl : c1 = v := by simpa using hv
    exact ⟨⟨z, c1, cs.toArray, l, by simp, o_rel_cells e2', hl⟩⟩
theorem open_fac {n : Nat} {cs : List Value} {x : DataW H × List MemPlace} (h : DataW.trod enc Tryz.prog W 0 (fun _ => true) true n 76 cs = some x) : ∃ v k, cs = [v] ∧ Sh W W.heap.size v k := by
  obtain ⟨v, k, xs, h1, h2, _, _, h5⟩ := open_sl (C := 67) Tryz.underlying76 (by kernel_rfl) (by decide) h
  exact ⟨v, k, h1, ⟨⟨xs, h2, fun i hi => by obtain ⟨m, y, h9, _⟩ := h5 i hi; exact o_fac_cells h9⟩⟩⟩
theorem o_shp_cells {n : Nat} {cs : List Value} {y : DataW H × List MemPlace} (h : DataW.trod enc Tryz.prog W 0 (fun _ => true) true n 78 cs = some y) : ∃ b v k, cs = [.bool b, v] ∧ Sh W W.heap.size v k := by
  obtain ⟨ys, m, _, hy, hcl, hyl, hf⟩ := DataW.trod_struct Tryz.underlying78 h
  have hc : cs.length = 2 := by rw [hcl]; kernel_rfl
  have hyl' : ys.length = 2 := hyl
  have e0 := hf 0 _ rfl
  have e1 := hf 1 _ rfl
  match cs, hc, ys, hyl' with
  | [c0, c1], _, [y0, y1], _ =>
    have e0' : DataW.trod enc Tryz.prog W 0 (fun _ => true) true m 4 [c0] = some y0 := e0
    have e1' : DataW.trod enc Tryz.prog W 0 (fun _ => true) true m 76 [c1] = some y1 := e1
    obtain ⟨b, rfl⟩ := bool_cell Tryz.underlying4 e0'
    obtain ⟨v, k, hv, hk⟩ := open_fac e1'
    obtain rfl : c1 = v := by simpa using hv
    exact ⟨b, c1, k, rfl, hk⟩
theorem o_lat_cells {n : Nat} {cs : List Value} {y : DataW H × List MemPlace} (h : DataW.trod enc Tryz.prog W 0 (fun _ => true) true n 80 cs = some y) : LatC W W.heap.size cs := by
  obtain ⟨ys, m, _, hy, hcl, hyl, hf⟩ := DataW.trod_struct Tryz.underlying80 h
  have hc : cs.length = 3 := by rw [hcl]; kernel_rfl
  have hyl' : ys.length = 2 := hyl
  have e0 := hf 0 _ rfl
  have e1 := hf 1 _ rfl
  match cs, hc, ys, hyl' with
  | [c0, c1, c2], _, [y0, y1], _ =>
    have e0' : DataW.trod enc Tryz.prog W 0 (fun _ => true) true m 9 [c0] = some y0 := e0
    have e1' : DataW.trod enc Tryz.prog W 0 (fun _ => true) true m 78 [c1, c2] = some y1 := e1
    obtain ⟨s, rfl, hs⟩ := str_cell Tryz.underlying9 e0'
    obtain ⟨b, v, k, hv, hk⟩ := o_shp_cells e1'
    exact ⟨⟨s, b, v, k, by rw [← hv], hs, hk⟩⟩
theorem open_lats {n : Nat} {cs : List Value} {x : DataW H × List MemPlace} (h : DataW.trod enc Tryz.prog W 0 (fun _ => true) true n 22 cs = some x) : ∃ v k, cs = [v] ∧ Lats W W.heap.size v k := by
  obtain ⟨v, k, xs, h1, h2, _, _, h5⟩ := open_sl (C := 3) Tryz.underlying22 (by kernel_rfl) (by decide) h
  exact ⟨v, k, h1, ⟨⟨xs, h2, fun i hi => by obtain ⟨m, y, h9, _⟩ := h5 i hi; exact o_lat_cells h9⟩⟩⟩
theorem o_rt_cells {n : Nat} {cs : List Value} {y : DataW H × List MemPlace} (h : DataW.trod enc Tryz.prog W 0 (fun _ => true) true n 69 cs = some y) : ∃ v, ∃ l : List Fld, ∃ z, cs = [v, .int .i64 z] ∧ SlAt W W.heap.size 59 10 v l.length (fdsV l) ∧ Sml l := by
  obtain ⟨ys, m, _, hy, hcl, hyl, hf⟩ := DataW.trod_struct Tryz.underlying69 h
  have hc : cs.length = 2 := by rw [hcl]; kernel_rfl
  have hyl' : ys.length = 2 := hyl
  have e0 := hf 0 _ rfl
  have e1 := hf 1 _ rfl
  match cs, hc, ys, hyl' with
  | [c0, c1], _, [y0, y1], _ =>
    have e0' : DataW.trod enc Tryz.prog W 0 (fun _ => true) true m 54 [c0] = some y0 := e0
    have e1' : DataW.trod enc Tryz.prog W 0 (fun _ => true) true m 3 [c1] = some y1 := e1
    obtain ⟨v, l, hv, hk⟩ := open_fds e0'
    obtain rfl : c0 = v := by simpa using hv
    obtain ⟨z, rfl⟩ := i64_cell Tryz.underlying3 e1'
    exact ⟨c0, l, z, rfl, hk⟩
theorem o_as_cells {n : Nat} {cs : List Value} {y : DataW H × List MemPlace} (h : DataW.trod enc Tryz.prog W 0 (fun _ => true) true n 71 cs = some y) : ∃ x : As, AsC W W.heap.size x cs := by
  obtain ⟨ys, m, _, hy, hcl, hyl, hf⟩ := DataW.trod_struct Tryz.underlying71 h
  have hc : cs.length = 18 := by rw [hcl]; kernel_rfl
  have hyl' : ys.length = 8 := hyl
  have e0 := hf 0 _ rfl
  have e1 := hf 1 _ rfl
  have e2 := hf 2 _ rfl
  have e3 := hf 3 _ rfl
  have e4 := hf 4 _ rfl
  have e5 := hf 5 _ rfl
  have e6 := hf 6 _ rfl
  have e7 := hf 7 _ rfl
  match cs, hc, ys, hyl' with
  | [c0, c1, c2, c3, c4, c5, c6, c7, c8, c9, c10, c11, c12, c13, c14, c15, c16, c17], _, [y0, y1, y2, y3, y4, y5, y6, y7], _ =>
    have e0' : DataW.trod enc Tryz.prog W 0 (fun _ => true) true m 3 [c0] = some y0 := e0
    have e1' : DataW.trod enc Tryz.prog W 0 (fun _ => true) true m 3 [c1] = some y1 := e1
    have e2' : DataW.trod enc Tryz.prog W 0 (fun _ => true) true m 67 [c2] = some y2 := e2
    have e3' : DataW.trod enc Tryz.prog W 0 (fun _ => true) true m 50 [c3, c4, c5, c6, c7, c8, c9, c10, c11] = some y3 := e3
    have e4' : DataW.trod enc Tryz.prog W 0 (fun _ => true) true m 69 [c12, c13] = some y4 := e4
    have e5' : DataW.trod enc Tryz.prog W 0 (fun _ => true) true m 69 [c14, c15] = some y5 := e5
    have e6' : DataW.trod enc Tryz.prog W 0 (fun _ => true) true m 3 [c16] = some y6 := e6
    have e7' : DataW.trod enc Tryz.prog W 0 (fun _ => true) true m 9 [c17] = some y7 := e7
    obtain ⟨op, rfl⟩ := i64_cell Tryz.underlying3 e0'
    obtain ⟨lat, rfl⟩ := i64_cell Tryz.underlying3 e1'
    obtain ⟨vc, code, hv, hcode⟩ := open_inss e2'
    obtain rfl : c2 = vc := by simpa using hv
    obtain ⟨a, ha⟩ := o_at_cells e3'
    simp only [atV, elV, List.cons.injEq, and_true] at ha
    obtain ⟨rfl, rfl, rfl, rfl, rfl, rfl, rfl, rfl, rfl⟩ := ha
    obtain ⟨va, la, ta, hva, hla, hsa⟩ := o_rt_cells e4'
    simp only [List.cons.injEq, and_true] at hva
    obtain ⟨rfl, rfl⟩ := hva
    obtain ⟨vb, lb, tb, hvb, hlb, hsb⟩ := o_rt_cells e5'
    simp only [List.cons.injEq, and_true] at hvb
    obtain ⟨rfl, rfl⟩ := hvb
    obtain ⟨var, rfl⟩ := i64_cell Tryz.underlying3 e6'
    obtain ⟨s, rfl, hs⟩ := str_cell Tryz.underlying9 e7'
    exact ⟨⟨op, lat, code, a, ⟨la, ta⟩, ⟨lb, tb⟩, var, s⟩, ⟨_, _, _, rfl, ⟨hcode, hla, hlb, hsa, hsb, hs⟩⟩⟩
theorem open_asrs {n : Nat} {cs : List Value} {x : DataW H × List MemPlace} (h : DataW.trod enc Tryz.prog W 0 (fun _ => true) true n 26 cs = some x) : ∃ v l, cs = [v] ∧ Asrs W W.heap.size v l := by
  obtain ⟨v, k, xs, h1, h2, _, _, h5⟩ := open_sl (C := 18) Tryz.underlying26 (by kernel_rfl) (by decide) h
  obtain ⟨l, h6, h7⟩ := list_choose (P := fun i x => AsC W W.heap.size x (part xs 18 i)) k fun i hi => by obtain ⟨m, y, h9, _⟩ := h5 i hi; exact o_as_cells h9
  subst h6
  exact ⟨v, l, h1, ⟨⟨xs, h2, h7⟩⟩⟩
theorem open_rws {n : Nat} {cs : List Value} {x : DataW H × List MemPlace} (h : DataW.trod enc Tryz.prog W 0 (fun _ => true) true n 30 cs = some x) : ∃ v R, cs = [v] ∧ Rws W W.heap.size v R ∧ ∀ r ∈ R, r.length ≤ Rows.uptoBulk x.1 := by
  obtain ⟨v, k, xs, h1, h2, h3, _, h5⟩ := open_sl (C := 1) Tryz.underlying30 (by kernel_rfl) (by decide) h
  obtain ⟨l, h6, h7⟩ := list_choose (P := fun i (r : List Vl) => ∃ u, xs[i]? = some u ∧ Vls W W.heap.size u r ∧ r.length ≤ Rows.uptoBulk x.1) k fun i hi => by
    obtain ⟨m, y, h9, h10⟩ := h5 i hi
    obtain ⟨u, r, h11, h12, h13⟩ := open_vls h9
    refine ⟨r, u, ?_, h12, Nat.le_trans h13 h10⟩
    unfold part at h11
    rw [Nat.mul_one, List.drop_eq_getElem_cons (by omega)] at h11
    have h14 : [xs[i]'(by omega)] = [u] := h11
    injection h14 with h14
    rw [← h14]
    exact List.getElem?_eq_getElem _
  subst h6
  refine ⟨v, l, h1, ⟨⟨xs, h2, fun i r hr => ?_⟩⟩, fun r hr => ?_⟩
  · obtain ⟨u, h8, h9, _⟩ := h7 i r hr
    exact ⟨u, h8, h9⟩
  · obtain ⟨i, hi, rfl⟩ := List.mem_iff_getElem.1 hr
    obtain ⟨u, _, _, h9⟩ := h7 i _ (List.getElem?_eq_getElem hi)
    exact h9
theorem o_sc_cells {n : Nat} {cs : List Value} {y : DataW H × List MemPlace} (h : DataW.trod enc Tryz.prog W 0 (fun _ => true) true n 25 cs = some y) : ∃ vl vv k l, cs = [vl, vv] ∧ Lats W W.heap.size vl k ∧ Vars W W.heap.size vv l := by
  obtain ⟨ys, m, _, hy, hcl, hyl, hf⟩ := DataW.trod_struct Tryz.underlying25 h
  have hc : cs.length = 2 := by rw [hcl]; kernel_rfl
  have hyl' : ys.length = 2 := hyl
  have e0 := hf 0 _ rfl
  have e1 := hf 1 _ rfl
  match cs, hc, ys, hyl' with
  | [c0, c1], _, [y0, y1], _ =>
    have e0' : DataW.trod enc Tryz.prog W 0 (fun _ => true) true m 22 [c0] = some y0 := e0
    have e1' : DataW.trod enc Tryz.prog W 0 (fun _ => true) true m 23 [c1] = some y1 := e1
    obtain ⟨v, k, hv, hk⟩ := open_lats e0'
    obtain rfl : c0 = v := by simpa using hv
    obtain ⟨u, l, hu, hl⟩ := open_vrs e1'
    obtain rfl : c1 = u := by simpa using hu
    exact ⟨c0, c1, k, l, rfl, hk, hl⟩
theorem o_pr_cells {n : Nat} {cs : List Value} {y : DataW H × List MemPlace} (h : DataW.trod enc Tryz.prog W 0 (fun _ => true) true n 28 cs = some y) : ∃ vl vv vs k l as_, cs = [vl, vv, vs] ∧ Lats W W.heap.size vl k ∧ Vars W W.heap.size vv l ∧ Asrs W W.heap.size vs as_ := by
  obtain ⟨ys, m, _, hy, hcl, hyl, hf⟩ := DataW.trod_struct Tryz.underlying28 h
  have hc : cs.length = 3 := by rw [hcl]; kernel_rfl
  have hyl' : ys.length = 2 := hyl
  have e0 := hf 0 _ rfl
  have e1 := hf 1 _ rfl
  match cs, hc, ys, hyl' with
  | [c0, c1, c2], _, [y0, y1], _ =>
    have e0' : DataW.trod enc Tryz.prog W 0 (fun _ => true) true m 25 [c0, c1] = some y0 := e0
    have e1' : DataW.trod enc Tryz.prog W 0 (fun _ => true) true m 26 [c2] = some y1 := e1
    obtain ⟨vl, vv, k, l, hv, hk, hl⟩ := o_sc_cells e0'
    simp only [List.cons.injEq, and_true] at hv
    obtain ⟨rfl, rfl⟩ := hv
    obtain ⟨u, as_, hu, ha⟩ := open_asrs e1'
    obtain rfl : c2 = u := by simpa using hu
    exact ⟨c0, c1, c2, k, l, as_, rfl, hk, hl, ha⟩
theorem o_asn_cells {n : Nat} {cs : List Value} {y : DataW H × List MemPlace} (h : DataW.trod enc Tryz.prog W 0 (fun _ => true) true n 32 cs = some y) : ∃ vl vr L R, cs = [vl, vr] ∧ Lbs W W.heap.size vl L ∧ Rws W W.heap.size vr R ∧ ∀ r ∈ R, r.length ≤ Rows.uptoBulk y.1 := by
  obtain ⟨ys, m, _, hy, hcl, hyl, hf⟩ := DataW.trod_struct Tryz.underlying32 h
  have hc : cs.length = 2 := by rw [hcl]; kernel_rfl
  have hyl' : ys.length = 2 := hyl
  have e0 := hf 0 _ rfl
  have e1 := hf 1 _ rfl
  match cs, hc, ys, hyl' with
  | [c0, c1], _, [y0, y1], _ =>
    have e0' : DataW.trod enc Tryz.prog W 0 (fun _ => true) true m 29 [c0] = some y0 := e0
    have e1' : DataW.trod enc Tryz.prog W 0 (fun _ => true) true m 30 [c1] = some y1 := e1
    obtain ⟨v, L, hv, hL⟩ := open_els e0'
    obtain rfl : c0 = v := by simpa using hv
    obtain ⟨u, R, hu, hR, hb⟩ := open_rws e1'
    obtain rfl : c1 = u := by simpa using hu
    refine ⟨c0, c1, L, R, rfl, hL, hR, fun r hr => Nat.le_trans (hb r hr) ?_⟩
    rw [hy]
    simp only [List.map_cons, List.map_nil, Rows.uptoBulk, Rows.uptoBulkAll]
    omega
theorem open_problem (hv : Value.okWide Tryz.prog W r b0 28 v) (h : DataW.Trod enc Tryz.prog W 0 (fun _ => true) true 28 v d p) :
    ∃ vl vv vs k l as_, v = .agg #[vl, vv, vs] ∧ Lats W W.heap.size vl k ∧ Vars W W.heap.size vv l ∧ Asrs W W.heap.size vs as_ := by
  simp only [Value.okWide, Tryz.underlying28] at hv
  obtain ⟨cs, rfl, hsz, _⟩ := hv
  obtain ⟨fuel, hf⟩ := h
  obtain ⟨vl, vv, vs, k, l, as_, hcs, h1⟩ := o_pr_cells hf
  refine ⟨vl, vv, vs, k, l, as_, ?_, h1⟩
  rw [show cs = #[vl, vv, vs] from Array.ext' (by simpa [Value.cells] using hcs)]
theorem open_assign (hv : Value.okWide Tryz.prog W r b0 32 v) (h : DataW.Trod enc Tryz.prog W 0 (fun _ => true) true 32 v d p) :
    ∃ vl vr L R, v = .agg #[vl, vr] ∧ Lbs W W.heap.size vl L ∧ Rws W W.heap.size vr R ∧ ∀ r ∈ R, r.length ≤ Rows.uptoBulk d := by
  simp only [Value.okWide, Tryz.underlying32] at hv
  obtain ⟨cs, rfl, hsz, _⟩ := hv
  obtain ⟨fuel, hf⟩ := h
  obtain ⟨vl, vr, L, R, hcs, h1⟩ := o_asn_cells hf
  refine ⟨vl, vr, L, R, ?_, h1⟩
  rw [show cs = #[vl, vr] from Array.ext' (by simpa [Value.cells] using hcs)]
end
end Go.Proofs.YthnbhcfpfbimgaaGreat
/- RowsLeast's walk, for the row. -/
namespace Go.Proofs.YthnbhcfpfbimgaaGreat
open Go.RowKit
open Rw (El)
theorem least_row (vl vv vs : Value) (n : Nat) (l : List Vr) (as_ : List As) (wl wrs : Value) (L : List El) (R : List (List Vl)) (w : World) (h1 : Lats w w.heap.size vl n) (h2 : Vars w w.heap.size vv l) (h3 : Asrs w w.heap.size vs as_) (h4 : Lbs w w.heap.size wl L) (h5 : Rws w w.heap.size wrs R) :
    Calls Tryz.prog 3 #[.agg #[vl, vv, vs], .agg #[wl, wrs]] w fun e w' => e = .returned (.bool true) ∧ Below w.heap.size w w' :=
  least_any w.heap.size vl vv vs wl wrs n l as_ L R w h1 h2 h3 h4 h5 (Nat.le_refl _)
end Go.Proofs.YthnbhcfpfbimgaaGreat
