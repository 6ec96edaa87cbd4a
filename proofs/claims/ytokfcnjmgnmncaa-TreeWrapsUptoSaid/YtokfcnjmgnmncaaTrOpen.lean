/- Arguments opened: trees, whatever their depth; and what the bound of the second form gives. -/
import Derived.Test.YtokfcnjmgnmncaaTrMem
import Derived.Test.YtokfcnjmgnmncaaLxOpen
namespace Go.Proofs.Ytokfcnjmgnmncaa
open Go.ChangeShapes Go.WideShapes Go.ChangeAt Go.RowKit Go.Deep Go.Joins

section
variable {H : Type} {enc : TypeId × Value → H} {W : World} {r : Reach} {b0 : Nat} {v : Value} {d : DataW H} {p : List MemPlace}
theorem bulk_one (d : DataW H) : 1 ≤ Rows.uptoBulk d := by
  cases d with
  | lit l => cases l <;> simp [Rows.uptoBulk]
  | nil => simp [Rows.uptoBulk]
  | ptr d => simp [Rows.uptoBulk]
  | slice elems spare => simp [Rows.uptoBulk]
  | agg parts => simp [Rows.uptoBulk]
  | iface t d => simp [Rows.uptoBulk]
  | map entries => simp [Rows.uptoBulk]
  | held h => simp [Rows.uptoBulk]
theorem bulk_length (l : List (DataW H)) : l.length ≤ Rows.uptoBulkAll l := by
  induction l with
  | nil => simp [Rows.uptoBulkAll]
  | cons x r ih => have := bulk_one x; simp only [Rows.uptoBulkAll, List.length_cons]; omega
theorem bulk_part {d : DataW H} {l : List (DataW H)} (h : d ∈ l) : Rows.uptoBulk d ≤ Rows.uptoBulkAll l := by
  induction l with
  | nil => cases h
  | cons x r ih =>
    simp only [Rows.uptoBulkAll]
    cases List.mem_cons.1 h with
    | inl e => subst e; omega
    | inr e => have := ih e; omega
theorem bulk_bound {l : List (DataW H)} (hk : Rows.uptoSmall H l = true) : Rows.uptoBulkAll l ≤ 1048576 := of_decide_eq_true hk
/-- A slice has no more elements than its bulk. -/
theorem slice_bulk {t e : TypeId} {A : Option Addr} {n c : Nat} (ht : Try.prog.underlying t = some (.slice e)) (h : DataW.Trod enc Try.prog W 0 (fun _ => true) true t (.slice A n c) d p) : n ≤ Rows.uptoBulk d := by
  obtain ⟨fuel, hf⟩ := h
  rcases DataW.trod_slice ht hf with ⟨h0, _⟩ | ⟨a, len, cap, elems, rest, m, _, hcs, hx, _, _, _, hlen, _⟩
  · simp [Value.cells] at h0
    omega
  · simp only [Value.cells, List.cons.injEq, Value.slice.injEq, and_true] at hcs
    have h1 : d = .slice (elems.map (·.1)) (rest.map (·.1)) := by simpa using congrArg Prod.fst hx
    rw [h1]
    have := bulk_length (elems.map (·.1))
    simp only [Rows.uptoBulk, List.length_map] at this ⊢
    omega

/-- One tree, read. -/
theorem open_tree {n : Nat} {cs : List Value} {y : DataW H × List MemPlace} (h : DataW.trod enc Try.prog W 0 (fun _ => true) true n 37 cs = some y)
    (IH : ∀ m, m < n → ∀ cs x, DataW.trod enc Try.prog W 0 (fun _ => true) true m 25 cs = some x → ∃ A n c f, cs = [.slice A n c] ∧ Holds W (· < W.heap.size) f A n c ∧ f.size ≤ Rows.uptoBulk x.1) :
    ∃ (t : Lx.T) (k : Tr.Fo) (e : Int) (A : Option Addr) (m c : Nat), cs = treeV t A m c e ∧ Holds W (· < W.heap.size) k A m c ∧ k.size + 1 ≤ Rows.uptoBulk y.1 := by
  obtain ⟨ys, n1, hn1, hy, hcl, hyl, hf⟩ := DataW.trod_struct Try.underlying37 h
  have hc5 : cs.length = 5 := by rw [hcl]; kernel_rfl
  have hy3 : ys.length = 3 := hyl
  have e0 := hf 0 _ rfl
  have e1 := hf 1 _ rfl
  have e2 := hf 2 _ rfl
  match cs, hc5, ys, hy3 with
  | [c0, c1, c2, c3, c4], _, [y0, y1, y2], _ =>
    have e0' : DataW.trod enc Try.prog W 0 (fun _ => true) true n1 35 [c0, c1, c2] = some y0 := e0
    have e1' : DataW.trod enc Try.prog W 0 (fun _ => true) true n1 25 [c3] = some y1 := e1
    have e2' : DataW.trod enc Try.prog W 0 (fun _ => true) true n1 3 [c4] = some y2 := e2
    obtain ⟨zs, n2, hn2, hz, hzl, hzl3, hg⟩ := DataW.trod_struct Try.underlying35 e0'
    have hz3 : zs.length = 3 := hzl3
    have g0 := hg 0 _ rfl
    have g1 := hg 1 _ rfl
    have g2 := hg 2 _ rfl
    match zs, hz3 with
    | [z0, z1, z2], _ =>
      have g0' : DataW.trod enc Try.prog W 0 (fun _ => true) true n2 5 [c0] = some z0 := g0
      have g1' : DataW.trod enc Try.prog W 0 (fun _ => true) true n2 9 [c1] = some z1 := g1
      have g2' : DataW.trod enc Try.prog W 0 (fun _ => true) true n2 3 [c2] = some z2 := g2
      obtain ⟨k, rfl, _⟩ := u8_cell Try.underlying5 g0'
      obtain ⟨s, rfl, _⟩ := str_cell Try.underlying9 g1'
      obtain ⟨x, rfl, _⟩ := i64_cell Try.underlying3 g2'
      obtain ⟨e, rfl, _⟩ := i64_cell Try.underlying3 e2'
      obtain ⟨A, m, c, f, hcs, hh, hsz⟩ := IH n1 (by omega) _ _ e1'
      simp only [List.cons.injEq, and_true] at hcs
      subst hcs
      refine ⟨⟨k, s, x⟩, f, e, A, m, c, rfl, hh, ?_⟩
      rw [hy]
      simp only [List.map_cons, List.map_nil, Rows.uptoBulk, Rows.uptoBulkAll]
      omega

theorem open_fo (fuel : Nat) : ∀ (cs : List Value) (x : DataW H × List MemPlace), DataW.trod enc Try.prog W 0 (fun _ => true) true fuel 25 cs = some x →
    ∃ A n c f, cs = [.slice A n c] ∧ Holds W (· < W.heap.size) f A n c ∧ f.size ≤ Rows.uptoBulk x.1 := by
  induction fuel using Nat.strongRecOn with
  | ind fuel IH =>
    intro cs x h
    rcases DataW.trod_slice Try.underlying25 h with ⟨h0, _⟩ | ⟨a, len, cap, elems, rest, m, hfu, hcs, hx, _, hl, hm, hlen, hel, _⟩
    · exact ⟨none, 0, 0, .nil, h0, ⟨rfl, Nat.le_refl _, Nat.zero_le _, fun h => absurd h (Nat.lt_irrefl 0)⟩, Nat.zero_le _⟩
    · have hC : Try.prog.cellsOf 37 = 5 := by kernel_rfl
      rw [hC] at hel
      have key : ∀ q i, i + q = len → ∃ f zs, f.len = q ∧ Elems W (· < W.heap.size) f zs ∧ (∀ (j : Nat) u, zs[j]? = some u → W.cell? (a.add (i * 5 + j)) = some u) ∧ f.size ≤ Rows.uptoBulkAll ((elems.drop i).map (·.1)) := by
        intro q
        induction q with
        | zero => intro i _; exact ⟨.nil, [], rfl, rfl, fun j u hu => by simp at hu, Nat.zero_le _⟩
        | succ q ihq =>
          intro i hi
          obtain ⟨f, zs, f1, f2, f3, f4⟩ := ihq (i + 1) (by omega)
          have hei := hel i (by omega)
          have hil : i < elems.length := by omega
          rw [List.getElem?_eq_getElem hil, Option.bind_eq_some_iff] at hei
          obtain ⟨cs', hc', ht'⟩ := hei
          obtain ⟨t, k, e, A, n, c, rfl, hh, hsz⟩ := open_tree ht' (fun m' hm' => IH m' (by omega))
          obtain ⟨_, _, hat⟩ := World.cells?_some hc'
          refine ⟨.cons t k e f, treeV t A n c e ++ zs, by simp [Tr.Fo.len, f1], ⟨A, n, c, zs, rfl, hh, f2⟩, fun j u hu => ?_, ?_⟩
          · rcases Nat.lt_or_ge j 5 with hj | hj
            · rw [List.getElem?_append_left (by simpa [treeV] using hj)] at hu
              have := hat j hj
              rw [hu, Go.Deep.add_add] at this
              exact this
            · rw [List.getElem?_append_right (by simpa [treeV] using hj)] at hu
              have := f3 _ _ hu
              have e5 : (treeV t A n c e).length = 5 := rfl
              rw [e5] at this
              rwa [show (i + 1) * 5 + (j - 5) = i * 5 + j by omega] at this
          · rw [List.drop_eq_getElem_cons hil]
            simp only [List.map_cons, Rows.uptoBulkAll, Tr.Fo.size]
            omega
      obtain ⟨f, zs, f1, f2, f3, f4⟩ := key len 0 (by omega)
      refine ⟨some a, len, cap, f, hcs, ⟨f1.symm, hl, hm, fun h0 => ?_⟩, ?_⟩
      · obtain ⟨b, off, spot⟩ := a
        have hzl := Elems.len f zs f2
        have h00 := f3 0 _ (List.getElem?_eq_getElem (by omega))
        have hspot : spot = none := by simpa [Addr.add] using World.cell?_spot h00
        subst hspot
        refine ⟨b, off, zs, rfl, World.block_lt_of_cell? W _ h00, f2, fun j u hu => ?_⟩
        have := f3 j u hu
        rwa [add_plain, Nat.zero_mul, Nat.zero_add] at this
      · rw [hx]
        simp only [Rows.uptoBulk]
        rw [List.drop_zero] at f4
        omega

theorem open_trees (hv : Value.okWide Try.prog W r b0 25 v) (h : DataW.Trod enc Try.prog W 0 (fun _ => true) true 25 v d p) :
    ∃ A n c f, v = .slice A n c ∧ Holds W (· < W.heap.size) f A n c ∧ f.size ≤ Rows.uptoBulk d := by
  obtain ⟨a0, len, cap, rfl⟩ := okWide_slice Try.underlying25 hv
  obtain ⟨fuel, hf⟩ := h
  obtain ⟨A, n, c, f, hcs, hh, hsz⟩ := open_fo fuel _ _ hf
  simp only [Value.cells, List.cons.injEq, and_true] at hcs
  exact ⟨A, n, c, f, hcs, hh, hsz⟩
end
end Go.Proofs.Ytokfcnjmgnmncaa
