/- The plain law of trees: brackets within one another. -/
import Derived.Test.YtokfcnjmgnmncaaLxPlain
namespace Go.Proofs.Ytokfcnjmgnmncaa.Tr
open Lx (T)

/-- Trees, one behind the other: a piece, what stands in its bracket, where that is closed, and the rest. -/
inductive Fo where
  | nil
  | cons (t : T) (kids : Fo) (fin : Int) (rest : Fo)
namespace Fo
def len : Fo → Nat
  | .nil => 0
  | .cons _ _ _ r => r.len + 1
def app : Fo → Fo → Fo
  | .nil, g => g
  | .cons t k e r, g => .cons t k e (r.app g)
def snoc (f : Fo) (t : T) (k : Fo) (e : Int) : Fo := f.app (.cons t k e .nil)
/-- How many trees there are, within one another as well. -/
def size : Fo → Nat
  | .nil => 0
  | .cons _ k _ r => k.size + r.size + 1
theorem app_nil : ∀ f : Fo, f.app .nil = f
  | .nil => rfl
  | .cons t k e r => by simp [app, app_nil r]
theorem app_assoc : ∀ f g h : Fo, (f.app g).app h = f.app (g.app h)
  | .nil, g, h => rfl
  | .cons t k e r, g, h => by simp [app, app_assoc r g h]
theorem len_app : ∀ f g : Fo, (f.app g).len = f.len + g.len
  | .nil, g => by simp [app, len]
  | .cons t k e r, g => by simp [app, len, len_app r g]; omega
theorem size_app : ∀ f g : Fo, (f.app g).size = f.size + g.size
  | .nil, g => by simp [app, size]
  | .cons t k e r, g => by simp [app, size, size_app r g]; omega
theorem len_snoc (f : Fo) (t : T) (k : Fo) (e : Int) : (f.snoc t k e).len = f.len + 1 := by simp [snoc, len_app, len]
theorem snoc_app (f : Fo) (t : T) (k : Fo) (e : Int) (g : Fo) : (f.snoc t k e).app g = f.app (.cons t k e g) := by simp [snoc, app_assoc, app]
theorem len_le : ∀ f : Fo, f.len ≤ f.size
  | .nil => Nat.le_refl _
  | .cons t k e r => by have := len_le r; simp only [len, size]; omega
end Fo

/-- Which kind closes a kind; 0: it opens nothing. -/
def closer (c : Nat) : Nat := if c = 40 then 41 else if c = 123 ∨ c = 91 then c + 2 else 0
def closes (c : Nat) : Bool := decide (c = 41 ∨ c = 125 ∨ c = 93)
theorem closer_range (c : Nat) : closer c = 0 ∨ closer c = 41 ∨ closer c = 125 ∨ closer c = 93 := by
  unfold closer
  split
  · omega
  · split <;> omega
theorem closes_of {c d : Nat} (h : closer c = d) (hd : d ≠ 0) : closes d = true := by
  have := closer_range c
  simp only [closes, decide_eq_true_eq]; omega
theorem closer_of {c : Nat} (h : closes c = true) : closer c = 0 := by
  simp only [closes, decide_eq_true_eq] at h
  unfold closer
  rw [if_neg (by omega), if_neg (by omega)]

inductive Out where
  | bad (p : Int)
  | good (f : Fo)
/-- tree.Read: the brackets that are open, the innermost first, each with the trees ahead of it. -/
def run : List T → List (T × Fo) → Fo → Out
  | [], [], row => .good row
  | [], (u, _) :: _, _ => .bad u.pos
  | t :: l, st, row =>
    if closer t.kind ≠ 0 then (if 24 ≤ st.length then .bad t.pos else run l ((t, row) :: st) .nil)
    else if closes t.kind = true then (match st with
      | [] => .bad t.pos
      | (u, f) :: st' => if closer u.kind = t.kind then run l st' (f.snoc u row t.pos) else .bad t.pos)
    else run l st (row.snoc t .nil t.pos)
def read (l : List T) : Out := run l [] .nil

/-- The document's fault. -/
def kindAt (l : List T) (p : Nat) : Nat := match l[p]? with | some t => t.kind | none => 0
def flt (l : List T) : List T → Nat → List Nat → Int
  | [], _, [] => -1
  | [], _, p :: _ => p
  | t :: r, i, st =>
    if closer t.kind ≠ 0 then (if 24 ≤ st.length then i else flt l r (i + 1) (i :: st))
    else if closes t.kind = true then (match st with
      | [] => i
      | p :: st' => if closer (kindAt l p) = t.kind then flt l r (i + 1) st' else i)
    else flt l r (i + 1) st
def fault (l : List T) : Int := flt l l 0 []

theorem drop_next {l r : List T} {i : Nat} {t : T} (h : l.drop i = t :: r) : l[i]? = some t ∧ l.drop (i + 1) = r ∧ i < l.length := by
  have hi : i < l.length := by
    rcases Nat.lt_or_ge i l.length with h' | h'
    · exact h'
    · rw [List.drop_of_length_le h'] at h; cases h
  rw [List.drop_eq_getElem_cons hi] at h
  simp only [List.cons.injEq] at h
  exact ⟨by rw [List.getElem?_eq_getElem hi, h.1], h.2, hi⟩
theorem drop_at {l : List T} {i : Nat} {t : T} (h : l[i]? = some t) : l.drop i = t :: l.drop (i + 1) := by
  obtain ⟨hi, rfl⟩ := List.getElem?_eq_some_iff.1 h
  exact List.drop_eq_getElem_cons hi

theorem flt_run (l : List T) : ∀ (r : List T) (i : Nat) (st : List (T × Fo)) (row : Fo) (ps : List Nat), l.drop i = r → ps.map (fun p => l[p]?) = st.map (fun u => some u.1) →
    (∃ p, run r st row = .bad p ∧ ∃ (j : Nat) (t : T), flt l r i ps = j ∧ l[j]? = some t ∧ t.pos = p) ∨ (∃ f, run r st row = .good f ∧ flt l r i ps = -1)
  | [], i, [], row, ps, _, h => by
    cases ps with
    | nil => exact .inr ⟨row, rfl, rfl⟩
    | cons p ps => simp at h
  | [], i, (u, f) :: st, row, ps, _, h => by
    cases ps with
    | nil => simp at h
    | cons p ps =>
      simp only [List.map_cons, List.cons.injEq] at h
      exact .inl ⟨_, rfl, p, u, rfl, h.1, rfl⟩
  | t :: r, i, st, row, ps, hr, h => by
    obtain ⟨h1, h2, h3⟩ := drop_next hr
    have hlen : ps.length = st.length := by have := congrArg List.length h; simpa using this
    simp only [run, flt, hlen]
    by_cases ho : closer t.kind ≠ 0
    · simp only [if_pos ho]
      by_cases h24 : 24 ≤ st.length
      · simp only [if_pos h24]
        exact .inl ⟨_, rfl, i, t, rfl, h1, rfl⟩
      · simp only [if_neg h24]
        exact flt_run l r (i + 1) _ _ _ h2 (by simp [h1, h])
    · simp only [if_neg ho]
      by_cases hc : closes t.kind = true
      · simp only [if_pos hc]
        cases st with
        | nil =>
          cases ps with
          | nil => exact .inl ⟨_, rfl, i, t, rfl, h1, rfl⟩
          | cons p ps => simp at h
        | cons u st' =>
          cases ps with
          | nil => simp at h
          | cons p ps =>
            simp only [List.map_cons, List.cons.injEq] at h
            have hk : kindAt l p = u.1.kind := by simp only [kindAt, h.1]
            simp only [hk]
            by_cases he : closer u.1.kind = t.kind
            · simp only [if_pos he]
              exact flt_run l r (i + 1) _ _ _ h2 h.2
            · simp only [if_neg he]
              exact .inl ⟨_, rfl, i, t, rfl, h1, rfl⟩
      · simp only [if_neg hc]
        exact flt_run l r (i + 1) _ _ _ h2 h
theorem read_fault (l : List T) : (∃ p, read l = .bad p ∧ ∃ (j : Nat) (t : T), fault l = j ∧ l[j]? = some t ∧ t.pos = p) ∨ (∃ f, read l = .good f ∧ fault l = -1) :=
  flt_run l l 0 [] .nil [] rfl rfl

/-- The pieces from one place to another one are these trees. -/
inductive Bal (l : List T) : Nat → Nat → Fo → Prop
  | nil (i : Nat) : Bal l i i .nil
  | plain {i k : Nat} {t : T} {f : Fo} (ht : l[i]? = some t) (ho : closer t.kind = 0) (hc : closes t.kind = false) (h : Bal l (i + 1) k f) : Bal l i k (.cons t .nil t.pos f)
  | brack {i m k : Nat} {t u : T} {g f : Fo} (ht : l[i]? = some t) (ho : closer t.kind ≠ 0) (hg : Bal l (i + 1) m g) (hu : l[m]? = some u) (hk : closer t.kind = u.kind) (h : Bal l (m + 1) k f) : Bal l i k (.cons t g u.pos f)
theorem Bal.le {l : List T} {i k : Nat} {f : Fo} (h : Bal l i k f) : i ≤ k := by
  induction h with
  | nil i => exact Nat.le_refl _
  | plain _ _ _ _ ih => omega
  | brack _ _ _ _ _ _ ih1 ih2 => omega
theorem Bal.trans {l : List T} {i j k : Nat} {f g : Fo} (h : Bal l i j f) (h2 : Bal l j k g) : Bal l i k (f.app g) := by
  induction h with
  | nil i => exact h2
  | plain ht ho hc _ ih => exact .plain ht ho hc (ih h2)
  | brack ht ho hg hu hk _ _ ih => exact .brack ht ho hg hu hk (ih h2)

/-- What is open: where the innermost row of trees begins. -/
inductive Pend (l : List T) : List (T × Fo) → Nat → Prop
  | nil : Pend l [] 0
  | cons {st : List (T × Fo)} {a p : Nat} {t : T} {f : Fo} (h : Pend l st a) (hb : Bal l a p f) (ht : l[p]? = some t) (ho : closer t.kind ≠ 0) : Pend l ((t, f) :: st) (p + 1)
theorem run_bal (l : List T) : ∀ (r : List T) (i a : Nat) (st : List (T × Fo)) (row : Fo), l.drop i = r → i ≤ l.length → Pend l st a → Bal l a i row → ∀ f, run r st row = .good f → Bal l 0 l.length f
  | [], i, a, [], row, hr, hi, hp, hb, f, h => by
    simp only [run, Out.good.injEq] at h
    subst h
    cases hp
    have : l.length ≤ i := by simpa using hr
    rw [show l.length = i by omega]
    exact hb
  | [], i, a, (u, g) :: st, row, _, _, _, _, f, h => by simp [run] at h
  | t :: r, i, a, st, row, hr, hi, hp, hb, f, h => by
    obtain ⟨h1, h2, h3⟩ := drop_next hr
    simp only [run] at h
    by_cases ho : closer t.kind ≠ 0
    · rw [if_pos ho] at h
      by_cases h24 : 24 ≤ st.length
      · rw [if_pos h24] at h; cases h
      · rw [if_neg h24] at h
        exact run_bal l r (i + 1) (i + 1) _ _ h2 h3 (.cons hp hb h1 ho) (.nil _) f h
    · rw [if_neg ho] at h
      by_cases hc : closes t.kind = true
      · rw [if_pos hc] at h
        cases hp with
        | nil => cases h
        | @cons st a' p u g hp' hb' hu ho' =>
          simp only at h
          by_cases he : closer u.kind = t.kind
          · rw [if_pos he] at h
            exact run_bal l r (i + 1) a' _ _ h2 h3 hp' (hb'.trans (.brack hu ho' hb h1 he (.nil _))) f h
          · rw [if_neg he] at h; cases h
      · rw [if_neg hc] at h
        exact run_bal l r (i + 1) a _ _ h2 h3 hp (hb.trans (.plain h1 (by simpa using ho) (by simpa using hc) (.nil _))) f h
theorem read_bal {l : List T} {f : Fo} (h : read l = .good f) : Bal l 0 l.length f := run_bal l l 0 0 [] .nil rfl (Nat.zero_le _) .nil (.nil _) f h

/-- The document's partner: from a place on, with so many open. -/
def part (l : List T) : Nat → Nat → Int → Option Nat
  | 0, _, _ => none
  | f + 1, i, d => match l[i]? with
    | none => none
    | some t => if (d + (if closer t.kind ≠ 0 then 1 else 0) - (if closes t.kind = true then 1 else 0)) = 0 then some i
      else part l f (i + 1) (d + (if closer t.kind ≠ 0 then 1 else 0) - (if closes t.kind = true then 1 else 0))
theorem part_bal {l : List T} {i k : Nat} {g : Fo} (h : Bal l i k g) : ∀ (d : Int) (f : Nat), 1 ≤ d → part l (f + (k - i)) i d = part l f k d := by
  induction h with
  | nil i => intro d f _; rw [Nat.sub_self]; rfl
  | @plain i k t g ht ho hc h ih =>
    intro d f hd
    have := h.le
    rw [show f + (k - i) = (f + (k - (i + 1))) + 1 by omega, part, ht]
    simp only [ho, hc, ne_eq, not_true_eq_false, if_false, Bool.false_eq_true, Int.add_zero, Int.sub_zero]
    rw [if_neg (by omega)]
    exact ih d f hd
  | @brack i m k t u g f' ht ho hg hu hk h ih1 ih2 =>
    intro d f hd
    have l1 := h.le
    have l2 := hg.le
    have hc : closes t.kind = false := by
      cases hc : closes t.kind
      · rfl
      · exact absurd (closer_of hc) ho
    have hcu : closes u.kind = true := closes_of hk (by rw [← hk]; exact ho)
    have hou : closer u.kind = 0 := closer_of hcu
    rw [show f + (k - i) = (f + (k - (m + 1)) + 1 + (m - (i + 1))) + 1 by omega, part, ht]
    simp only [ho, hc, ne_eq, not_false_eq_true, if_true, Bool.false_eq_true, if_false, Int.sub_zero]
    rw [if_neg (by omega), ih1 (d + 1) _ (by omega), part, hu]
    simp only [hou, hcu, ne_eq, not_true_eq_false, if_false, if_true, Int.add_zero, Int.add_sub_cancel]
    rw [if_neg (by omega)]
    exact ih2 d f hd
theorem part_at {l : List T} {i m : Nat} {t u : T} {g : Fo} (ht : l[i]? = some t) (ho : closer t.kind ≠ 0) (hg : Bal l (i + 1) m g) (hu : l[m]? = some u) (hk : closer t.kind = u.kind) (f : Nat) (hf : l.length ≤ i + f) : part l f i 0 = some m := by
  have l2 := hg.le
  have hm := (List.getElem?_eq_some_iff.1 hu).1
  have hc : closes t.kind = false := by
    cases hc : closes t.kind
    · rfl
    · exact absurd (closer_of hc) ho
  have hcu : closes u.kind = true := closes_of hk (by rw [← hk]; exact ho)
  have hou : closer u.kind = 0 := closer_of hcu
  rw [show f = (f - 1 - (m - (i + 1)) - 1 + 1 + (m - (i + 1))) + 1 by omega, part, ht]
  simp only [ho, hc, ne_eq, not_false_eq_true, if_true, Bool.false_eq_true, if_false, Int.sub_zero, Int.zero_add]
  rw [if_neg (by omega), part_bal hg 1 _ (by omega), part, hu]
  simp [hou, hcu]

/-- The pieces of trees. -/
def flat : Fo → List T
  | .nil => []
  | .cons t k e r => t :: ((if closer t.kind ≠ 0 then flat k ++ [⟨closer t.kind, ⟨#[UInt8.ofNat (closer t.kind)]⟩, e⟩] else []) ++ flat r)
theorem flat_app : ∀ f g : Fo, flat (f.app g) = flat f ++ flat g
  | .nil, g => rfl
  | .cons t k e r, g => by simp [Fo.app, flat, flat_app r g]
theorem flat_len : ∀ f : Fo, (flat f).length ≤ 2 * f.size
  | .nil => Nat.le_refl _
  | .cons t k e r => by
    have h1 := flat_len k
    have h2 := flat_len r
    simp only [flat, Fo.size]
    split <;> simp <;> omega
def depth : Fo → Nat
  | .nil => 0
  | .cons t k _ r => max (if closer t.kind ≠ 0 then 1 + depth k else 0) (depth r)
theorem depth_app : ∀ f g : Fo, depth (f.app g) = max (depth f) (depth g)
  | .nil, g => by simp [Fo.app, depth]
  | .cons t k e r, g => by simp only [Fo.app, depth, depth_app r g]; omega
theorem depth_size : ∀ f : Fo, depth f ≤ f.size
  | .nil => Nat.le_refl _
  | .cons t k e r => by
    have h1 := depth_size k
    have h2 := depth_size r
    simp only [depth, Fo.size]
    split <;> omega

/-- No deeper than may be. -/
def Low : List (T × Fo) → Prop
  | [] => True
  | (_, f) :: st => depth f + st.length ≤ 24 ∧ Low st
theorem run_depth : ∀ (r : List T) (st : List (T × Fo)) (row : Fo), Low st → depth row + st.length ≤ 24 → ∀ f, run r st row = .good f → depth f ≤ 24
  | [], [], row, _, hd, f, h => by simp only [run, Out.good.injEq] at h; subst h; simpa using hd
  | [], (u, g) :: st, row, _, _, f, h => by simp [run] at h
  | t :: r, st, row, hl, hd, f, h => by
    simp only [run] at h
    by_cases ho : closer t.kind ≠ 0
    · rw [if_pos ho] at h
      by_cases h24 : 24 ≤ st.length
      · rw [if_pos h24] at h; cases h
      · rw [if_neg h24] at h
        exact run_depth r ((t, row) :: st) .nil (show Low ((t, row) :: st) from ⟨hd, hl⟩) (by simp [depth]; omega) f h
    · rw [if_neg ho] at h
      by_cases hc : closes t.kind = true
      · rw [if_pos hc] at h
        match st, hl, hd, h with
        | [], _, _, h => cases h
        | (u, g) :: st', hl, hd, h =>
          simp only at h
          by_cases he : closer u.kind = t.kind
          · rw [if_pos he] at h
            refine run_depth r _ _ hl.2 ?_ f h
            have h1 := hl.1
            simp only [List.length_cons] at hd
            simp only [Fo.snoc, depth_app, depth]
            split <;> omega
          · rw [if_neg he] at h; cases h
      · rw [if_neg hc] at h
        refine run_depth r _ _ hl ?_ f h
        simp only [Fo.snoc, depth_app, depth]
        split
        · rename_i h'; exact absurd h' ho
        · omega
theorem read_depth {l : List T} {f : Fo} (h : read l = .good f) : depth f ≤ 24 := run_depth l [] .nil trivial (by simp [depth]) f h
theorem Bal.size {l : List T} {i k : Nat} {f : Fo} (h : Bal l i k f) : f.size ≤ k - i := by
  induction h with
  | nil i => simp [Fo.size]
  | plain _ _ _ h ih => have := h.le; simp only [Fo.size]; omega
  | brack _ _ hg _ _ h ih1 ih2 => have := h.le; have := hg.le; simp only [Fo.size]; omega
end Go.Proofs.Ytokfcnjmgnmncaa.Tr
