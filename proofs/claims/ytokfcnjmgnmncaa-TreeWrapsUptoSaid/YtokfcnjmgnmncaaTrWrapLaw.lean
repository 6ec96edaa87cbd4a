/- The plain law of one bracket more, and of brackets side by side. -/
import Derived.Test.YtokfcnjmgnmncaaTrRead
namespace Go.Proofs.Ytokfcnjmgnmncaa.Tr
open Lx (T)

/-- How deep it is by now. -/
def dep : List (T × Fo) → Fo → Nat
  | [], row => depth row
  | (_, g) :: st, row => max (st.length + 1 + depth row) (dep st g)
theorem dep_mono : ∀ (st : List (T × Fo)) (a b : Fo), depth a ≤ depth b → dep st a ≤ dep st b
  | [], a, b, h => h
  | (u, g) :: st, a, b, h => by simp only [dep]; omega
theorem dep_ge : ∀ (st : List (T × Fo)) (a : Fo), st.length + depth a ≤ dep st a
  | [], a => by simp [dep]
  | (u, g) :: st, a => by simp only [dep, List.length_cons]; omega
theorem depth_snoc (g : Fo) (u : T) (row : Fo) (e : Int) : depth (g.snoc u row e) = max (depth g) (if closer u.kind ≠ 0 then 1 + depth row else 0) := by
  simp [Fo.snoc, depth_app, depth]
theorem dep_snoc : ∀ (st : List (T × Fo)) (g row : Fo) (u : T) (e : Int), closer u.kind ≠ 0 → dep st (g.snoc u row e) = dep ((u, g) :: st) row
  | [], g, row, u, e, h => by simp only [dep, depth_snoc, if_pos h, List.length_nil]; omega
  | (v, k) :: st, g, row, u, e, h => by
    simp only [dep, depth_snoc, if_pos h, List.length_cons]
    omega
theorem dep_plain (st : List (T × Fo)) (row : Fo) (t : T) (e : Int) (h : closer t.kind = 0) : dep st (row.snoc t .nil e) = dep st row := by
  have hd : depth (row.snoc t .nil e) = depth row := by rw [depth_snoc, if_neg (by omega)]; omega
  exact Nat.le_antisymm (dep_mono st _ _ (by omega)) (dep_mono st _ _ (by omega))
/-- All that is open opens something. -/
def Opens (st : List (T × Fo)) : Prop := ∀ x ∈ st, closer x.1.kind ≠ 0
theorem run_dep : ∀ (r : List T) (st : List (T × Fo)) (row f : Fo), Opens st → run r st row = .good f → dep st row ≤ depth f
  | [], [], row, f, _, h => by simp only [run, Out.good.injEq] at h; subst h; exact Nat.le_refl _
  | [], (u, g) :: st, row, f, _, h => by simp [run] at h
  | t :: r, st, row, f, ho', h => by
    simp only [run] at h
    by_cases ho : closer t.kind ≠ 0
    · rw [if_pos ho] at h
      by_cases h24 : 24 ≤ st.length
      · rw [if_pos h24] at h; cases h
      · rw [if_neg h24] at h
        have := run_dep r ((t, row) :: st) .nil f (fun x hx => by
          rcases List.mem_cons.1 hx with rfl | hx
          · exact ho
          · exact ho' x hx) h
        simp only [dep] at this
        omega
    · rw [if_neg ho] at h
      by_cases hc : closes t.kind = true
      · rw [if_pos hc] at h
        match st, ho', h with
        | [], _, h => cases h
        | (u, g) :: st', ho', h =>
          simp only at h
          by_cases he : closer u.kind = t.kind
          · rw [if_pos he] at h
            have := run_dep r st' _ f (fun x hx => ho' x (List.mem_cons_of_mem _ hx)) h
            rwa [dep_snoc st' g row u _ (ho' (u, g) (by simp))] at this
          · rw [if_neg he] at h; cases h
      · rw [if_neg hc] at h
        have := run_dep r st _ f ho' h
        rwa [dep_plain st row t _ (by simpa using ho)] at this

/-- Further brackets around all of it, as long as it is not too deep. -/
theorem run_base (rest : List T) (bs : List (T × Fo)) : ∀ (r : List T) (st : List (T × Fo)) (row f : Fo), Opens st → run r st row = .good f → depth f + bs.length ≤ 24 → run (r ++ rest) (st ++ bs) row = run rest bs f
  | [], [], row, f, _, h, _ => by simp only [run, Out.good.injEq] at h; subst h; rfl
  | [], (u, g) :: st, row, f, _, h, _ => by simp [run] at h
  | t :: r, st, row, f, ho', h, hd => by
    simp only [run] at h
    simp only [List.cons_append, run]
    by_cases ho : closer t.kind ≠ 0
    · rw [if_pos ho] at h ⊢
      by_cases h24 : 24 ≤ st.length
      · rw [if_pos h24] at h; cases h
      · rw [if_neg h24] at h
        have hop : Opens ((t, row) :: st) := fun x hx => by
          rcases List.mem_cons.1 hx with rfl | hx
          · exact ho
          · exact ho' x hx
        have h1 := run_dep r ((t, row) :: st) .nil f hop h
        have h2 := dep_ge ((t, row) :: st) .nil
        simp only [List.length_cons] at h2
        rw [if_neg (by rw [List.length_append]; omega)]
        exact run_base rest bs r ((t, row) :: st) .nil f hop h hd
    · rw [if_neg ho] at h ⊢
      by_cases hc : closes t.kind = true
      · rw [if_pos hc] at h ⊢
        match st, ho', h with
        | [], _, h => cases h
        | (u, g) :: st', ho', h =>
          simp only [List.cons_append] at h ⊢
          by_cases he : closer u.kind = t.kind
          · rw [if_pos he] at h ⊢
            exact run_base rest bs r st' _ f (fun x hx => ho' x (List.mem_cons_of_mem _ hx)) h hd
          · rw [if_neg he] at h; cases h
      · rw [if_neg hc] at h ⊢
        exact run_base rest bs r st _ f ho' h hd
/-- One bracket more around what is as deep as may be. -/
theorem run_over (rest : List T) (b : T × Fo) : ∀ (r : List T) (st : List (T × Fo)) (row f : Fo), Opens st → run r st row = .good f → 24 ≤ depth f → dep st row + 1 ≤ 24 → ∃ p, run (r ++ rest) (st ++ [b]) row = .bad p
  | [], [], row, f, _, h, h1, h2 => by simp only [run, Out.good.injEq] at h; subst h; simp only [dep] at h2; omega
  | [], (u, g) :: st, row, f, _, h, _, _ => by simp [run] at h
  | t :: r, st, row, f, ho', h, h1, h2 => by
    simp only [run] at h
    simp only [List.cons_append, run]
    by_cases ho : closer t.kind ≠ 0
    · rw [if_pos ho] at h ⊢
      by_cases h24 : 24 ≤ st.length
      · rw [if_pos h24] at h; cases h
      · rw [if_neg h24] at h
        by_cases h23 : 24 ≤ (st ++ [b]).length
        · rw [if_pos h23]; exact ⟨_, rfl⟩
        · rw [if_neg h23]
          refine run_over rest b r ((t, row) :: st) .nil f (fun x hx => ?_) h h1 ?_
          · rcases List.mem_cons.1 hx with rfl | hx
            · exact ho
            · exact ho' x hx
          · simp only [dep, depth]
            simp only [List.length_append, List.length_singleton] at h23
            omega
    · rw [if_neg ho] at h ⊢
      by_cases hc : closes t.kind = true
      · rw [if_pos hc] at h ⊢
        match st, ho', h, h2 with
        | [], _, h, _ => cases h
        | (u, g) :: st', ho', h, h2 =>
          simp only [List.cons_append] at h ⊢
          by_cases he : closer u.kind = t.kind
          · rw [if_pos he] at h ⊢
            exact run_over rest b r st' _ f (fun x hx => ho' x (List.mem_cons_of_mem _ hx)) h h1 (by rw [dep_snoc st' g row u _ (ho' (u, g) (by simp))]; exact h2)
          · rw [if_neg he] at h; cases h
      · rw [if_neg hc] at h ⊢
        exact run_over rest b r st _ f ho' h h1 (by rw [dep_plain st row t _ (by simpa using ho)]; exact h2)

/-- What stands ahead of all. -/
def pre (p : Fo) : List (T × Fo) → Fo → List (T × Fo) × Fo
  | [], row => ([], p.app row)
  | (u, g) :: st, row => ((u, (pre p st g).2) :: (pre p st g).1, row)
theorem pre_len (p : Fo) : ∀ (st : List (T × Fo)) (row : Fo), (pre p st row).1.length = st.length
  | [], row => rfl
  | (u, g) :: st, row => by simp [pre, pre_len p st g]
theorem pre_snoc (p : Fo) : ∀ (st : List (T × Fo)) (row : Fo) (t : T) (k : Fo) (e : Int), pre p st (row.snoc t k e) = ((pre p st row).1, (pre p st row).2.snoc t k e)
  | [], row, t, k, e => by simp [pre, Fo.snoc, Fo.app_assoc]
  | (u, g) :: st, row, t, k, e => rfl
theorem run_pre (p : Fo) : ∀ (r : List T) (st : List (T × Fo)) (row f : Fo), run r st row = .good f → run r (pre p st row).1 (pre p st row).2 = .good (p.app f)
  | [], [], row, f, h => by simp only [run, Out.good.injEq] at h; subst h; rfl
  | [], (u, g) :: st, row, f, h => by simp [run] at h
  | t :: r, st, row, f, h => by
    simp only [run] at h
    simp only [run]
    by_cases ho : closer t.kind ≠ 0
    · rw [if_pos ho] at h ⊢
      rw [pre_len]
      by_cases h24 : 24 ≤ st.length
      · rw [if_pos h24] at h; cases h
      · rw [if_neg h24] at h ⊢
        exact run_pre p r ((t, row) :: st) .nil f h
    · rw [if_neg ho] at h ⊢
      by_cases hc : closes t.kind = true
      · rw [if_pos hc] at h ⊢
        match st, h with
        | [], h => cases h
        | (u, g) :: st', h =>
          simp only [pre] at h ⊢
          by_cases he : closer u.kind = t.kind
          · rw [if_pos he] at h ⊢
            have := run_pre p r st' _ f h
            rwa [pre_snoc] at this
          · rw [if_neg he] at h; cases h
      · rw [if_neg hc] at h ⊢
        have := run_pre p r st _ f h
        rwa [pre_snoc] at this

theorem read_both {l m : List T} {a b : Fo} (hl : read l = .good a) (hm : read m = .good b) : read (l ++ m) = .good (a.app b) := by
  have h1 := run_base m [] l [] .nil a (fun x hx => by cases hx) hl (by have := read_depth hl; simpa using this)
  have h2 := run_pre a m [] .nil b hm
  simp only [pre, Fo.app_nil] at h2
  unfold read
  rw [show run (l ++ m) [] .nil = run m [] a from h1]
  exact h2
theorem read_wrap {l : List T} {a : Fo} {o e : T} (ho : o.kind = 123) (he : e.kind = 125) (hl : read l = .good a) (hd : depth a + 1 ≤ 24) : read (o :: l ++ [e]) = .good (.cons o a e.pos .nil) := by
  have h1 := run_base [e] [(o, .nil)] l [] .nil a (fun x hx => by cases hx) hl hd
  unfold read
  rw [List.cons_append]
  simp only [run, ho]
  rw [if_pos (by decide), if_neg (by simp)]
  rw [show run (l ++ [e]) [(o, Fo.nil)] .nil = run [e] [(o, .nil)] a from h1]
  simp only [run, he, ho]
  rw [if_neg (by decide), if_pos (by decide), if_pos (by decide)]
  rfl
theorem read_wrap_over {l : List T} {a : Fo} {o e : T} (ho : o.kind = 123) (hl : read l = .good a) (hd : 24 ≤ depth a) : ∃ p, read (o :: l ++ [e]) = .bad p := by
  obtain ⟨p, hp⟩ := run_over [e] (o, .nil) l [] .nil a (fun x hx => by cases hx) hl hd (by simp [dep, depth])
  refine ⟨p, ?_⟩
  unfold read
  rw [List.cons_append]
  simp only [run, ho]
  rw [if_pos (by decide), if_neg (by simp)]
  exact hp
end Go.Proofs.Ytokfcnjmgnmncaa.Tr
