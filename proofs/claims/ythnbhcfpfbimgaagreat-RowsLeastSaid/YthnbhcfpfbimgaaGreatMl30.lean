/- Texts put together: RwPath RwEnt. -/
import Derived.Test.YthnbhcfpfbimgaaGreatMl29
/- Plain: a table that is not stuck has a solution: its known fields. No program in sight. -/
namespace Go.Proofs.YthnbhcfpfbimgaaGreat
namespace Rw
/-- From a row on: the fields behind it, and where they end. -/
inductive Path (rows : List Row) : Int → List Fld → Int → Prop where
  | none {t : Int} (h : t < 0) : Path rows t [] t
  | free {t : Int} {r : Row} (h : 0 ≤ t) (hr : rows[t.toNat]? = some r) (hb : r.bound = false) : Path rows t [] t
  | step {t e : Int} {r : Row} {ext : List Fld} (h : 0 ≤ t) (hr : rows[t.toNat]? = some r) (hb : r.bound = true) (p : Path rows r.tail ext e) : Path rows t (r.fields ++ ext) e
theorem Path.unique {rows : List Row} {t e e' : Int} {x x' : List Fld} (h : Path rows t x e) (h' : Path rows t x' e') : x = x' ∧ e = e' := by
  induction h generalizing x' e' with
  | none h =>
    cases h' with
    | none => exact ⟨rfl, rfl⟩
    | free h0 => omega
    | step h0 => omega
  | free h hr hb =>
    cases h' with
    | none h0 => omega
    | free => exact ⟨rfl, rfl⟩
    | step h0 hr' hb' => rw [hr] at hr'; cases hr'; rw [hb] at hb'; cases hb'
  | step h hr hb p ih =>
    cases h' with
    | none h0 => omega
    | free h0 hr' hb' => rw [hr] at hr'; cases hr'; rw [hb] at hb'; cases hb'
    | step h0 hr' hb' p' =>
      rw [hr] at hr'; cases hr'
      obtain ⟨h1, h2⟩ := ih p'
      rw [h1, h2]; exact ⟨rfl, rfl⟩
theorem path_spread {rows : List Row} (hw : Wf rows) : ∀ (m : Nat) (s : Sp), (s.fin < 0 ∨ (s.fin < rows.length ∧ rows.length - s.fin.toNat < m)) → ∃ ext, Path rows s.fin ext (spread rows m s).fin ∧ (spread rows m s).fields = s.fields ++ ext
  | 0, s, h => by
    rcases h with h | h
    · exact ⟨[], by simpa [spread] using Path.none h, by simp [spread]⟩
    · omega
  | m + 1, s, h => by
    by_cases h0 : s.fin < 0
    · rw [spread_neg h0]; exact ⟨[], .none h0, by simp⟩
    · have hk : s.fin.toNat < rows.length := by rcases h with h | h <;> omega
      have hx : rows[s.fin.toNat]? = some rows[s.fin.toNat] := List.getElem?_eq_getElem hk
      cases hb : rows[s.fin.toNat].bound with
      | false => rw [spread_free hx hb]; exact ⟨[], .free (by omega) hx hb, by simp⟩
      | true =>
        rw [spread_bound (by omega) hx hb]
        have ht := hw.tail _ _ hx hb
        obtain ⟨ext, h1, h2⟩ := path_spread hw m ⟨s.fields ++ rows[s.fin.toNat].fields, rows[s.fin.toNat].tail, s.why ||| rows[s.fin.toNat].why⟩ (by
          rcases ht with ht | ht
          · exact .inl ht
          · exact .inr ⟨ht.2, by show rows.length - rows[s.fin.toNat].tail.toNat < m; omega⟩)
        exact ⟨_, .step (by omega) hx hb h1, by rw [h2, List.append_assoc]⟩
theorem T.path (s : T) (hw : Wf s.rows) {t : Int} (ht : t < s.rows.length) (fs : List Fld) : ∃ ext, Path s.rows t ext (s.spreads fs t).fin ∧ (s.spreads fs t).fields = fs ++ ext :=
  path_spread hw (s.rows.length + 1) ⟨fs, t, 0⟩ (by
    by_cases h : t < 0
    · exact .inl h
    · exact .inr ⟨ht, by show s.rows.length - t.toNat < s.rows.length + 1; omega⟩)
theorem Path.fin {rows : List Row} {t e : Int} {x : List Fld} (h : Path rows t x e) : e < 0 ∨ (0 ≤ e ∧ ∃ r, rows[e.toNat]? = some r ∧ r.bound = false) := by
  induction h with
  | none h => exact .inl h
  | free h hr hb => exact .inr ⟨h, _, hr, hb⟩
  | step _ _ _ _ ih => exact ih
/-- A row does not have a field, now and later. -/
structure NoF (rows : List Row) (t : Int) (f : ByteArray) : Prop where
  ex : ∃ ext e, Path rows t ext e ∧ ¬ Has ext f ∧ (0 ≤ e → ∃ r, rows[e.toNat]? = some r ∧ ∃ l ∈ r.lacks, l.field = f)
structure InvR (rows : List Row) (r : Row) : Prop where
  dup : NoDup r.fields
  fields : ∀ g ∈ r.fields, NoF rows r.tail g.name
  lacks : ∀ l ∈ r.lacks, ¬ Has r.fields l.field ∧ NoF rows r.tail l.field
def Inv (rows : List Row) : Prop := ∀ (i : Nat) r, rows[i]? = some r → r.bound = true → InvR rows r
/-- The same rows, but for more lacks in free ones. -/
structure Mo (rows rows' : List Row) : Prop where
  len : rows'.length = rows.length
  row : ∀ (i : Nat) r, rows[i]? = some r → ∃ r', rows'[i]? = some r' ∧ r'.bound = r.bound ∧ r'.tail = r.tail ∧ r'.fields = r.fields ∧ (∀ l ∈ r.lacks, l ∈ r'.lacks) ∧ (r.bound = true → r'.lacks = r.lacks)
theorem Mo.refl (rows : List Row) : Mo rows rows := ⟨rfl, fun _ r h => ⟨r, h, rfl, rfl, rfl, fun _ h => h, fun _ => rfl⟩⟩
theorem Mo.trans {a b c : List Row} (h : Mo a b) (k : Mo b c) : Mo a c := ⟨k.len.trans h.len, fun i r hr => by
  obtain ⟨r1, h1, h2, h3, h4, h5, h6⟩ := h.row i r hr
  obtain ⟨r2, k1, k2, k3, k4, k5, k6⟩ := k.row i r1 h1
  exact ⟨r2, k1, k2.trans h2, k3.trans h3, k4.trans h4, fun l hl => k5 l (h5 l hl), fun hb => (k6 (by rw [h2]; exact hb)).trans (h6 hb)⟩⟩
theorem Mo.path {a b : List Row} (h : Mo a b) {t e : Int} {x : List Fld} (p : Path a t x e) : Path b t x e := by
  induction p with
  | none h => exact .none h
  | free h0 hr hb =>
    obtain ⟨r', h1, h2, _⟩ := h.row _ _ hr
    exact .free h0 h1 (h2.trans hb)
  | step h0 hr hb _ ih =>
    obtain ⟨r', h1, h2, h3, h4, _⟩ := h.row _ _ hr
    rw [← h4]
    exact .step h0 h1 (h2.trans hb) (by rw [h3]; exact ih)
theorem Mo.nof {a b : List Row} (h : Mo a b) {t : Int} {f : ByteArray} (p : NoF a t f) : NoF b t f := by
  obtain ⟨ext, e, h1, h2, h3⟩ := p.ex
  refine ⟨ext, e, h.path h1, h2, fun he => ?_⟩
  obtain ⟨r, hr, l, hl, hf⟩ := h3 he
  obtain ⟨r', k1, _, _, _, k5, _⟩ := h.row _ _ hr
  exact ⟨r', k1, l, k5 l hl, hf⟩
theorem Mo.back {a b : List Row} (h : Mo a b) {i : Nat} {r' : Row} (hr : b[i]? = some r') : ∃ r, a[i]? = some r ∧ r'.bound = r.bound ∧ r'.tail = r.tail ∧ r'.fields = r.fields ∧ (r.bound = true → r'.lacks = r.lacks) := by
  have hi := (List.getElem?_eq_some_iff.1 hr).1
  have hx : a[i]? = some (a[i]'(by rw [← h.len]; exact hi)) := List.getElem?_eq_getElem _
  obtain ⟨r2, k1, k2, k3, k4, _, k6⟩ := h.row _ _ hx
  rw [hr] at k1
  cases k1
  exact ⟨_, hx, k2, k3, k4, k6⟩
theorem Mo.inv {a b : List Row} (h : Mo a b) (hi : Inv a) : Inv b := fun i r' hr' hb' => by
  obtain ⟨r, k1, k2, k3, k4, k5⟩ := h.back hr'
  have hb : r.bound = true := by rw [← k2]; exact hb'
  have hv := hi i r k1 hb
  refine ⟨by rw [k4]; exact hv.dup, fun g hg => ?_, fun l hl => ?_⟩
  · rw [k3]; rw [k4] at hg; exact h.nof (hv.fields g hg)
  · rw [k5 hb] at hl
    rw [k3, k4]
    exact ⟨(hv.lacks l hl).1, h.nof (hv.lacks l hl).2⟩
/-- A field that is said to be missing is missing from then on. -/
theorem lacks_mo {s : T} (hw : Wf s.rows) {a : Int} (ha : a < s.rows.length) (f : ByteArray) (y : W64) (h : (s.lacks a f y).1 = true) : Mo s.rows (s.lacks a f y).2.rows ∧ NoF (s.lacks a f y).2.rows a f := by
  obtain ⟨ext, hp, he⟩ := s.path hw ha []
  rw [List.nil_append] at he
  have hfin := hp.fin
  unfold T.lacks at *
  simp only [] at *
  generalize s.spreads [] a = p at *
  split at h
  · cases h
  · rename_i hh
    rw [if_neg hh]
    have hnh : ¬ Has ext f := by rw [← he]; exact hasF_false.1 (by simpa using hh)
    split at h
    · rename_i hn
      rw [if_pos hn]
      exact ⟨Mo.refl _, ext, _, hp, hnh, fun h0 => by omega⟩
    · rename_i hn
      rw [if_neg hn]
      obtain ⟨r, hr, hb⟩ : ∃ r, s.rows[p.fin.toNat]? = some r ∧ r.bound = false := by
        rcases hfin with h0 | ⟨_, h0⟩
        · exact absurd h0 hn
        · exact h0
      have hg : s.rows.getD p.fin.toNat row0 = r := by rw [List.getD_eq_getElem?_getD, hr]; rfl
      rw [hg] at h ⊢
      split at h
      · rename_i hany
        rw [if_pos hany]
        rw [List.any_eq_true] at hany
        obtain ⟨l, hl, hlf⟩ := hany
        exact ⟨Mo.refl _, ext, _, hp, hnh, fun _ => ⟨r, hr, l, hl, toList_iff.1 hlf⟩⟩
      · rename_i hany
        rw [if_neg hany]
        have hmo : Mo s.rows (s.rows.modify p.fin.toNat fun x => { x with lacks := r.lacks ++ [⟨f, y ||| p.why⟩] }) := by
          refine ⟨by simp, fun i q hq => ?_⟩
          by_cases hi : p.fin.toNat = i
          · subst hi
            rw [hr] at hq
            cases hq
            refine ⟨{ r with lacks := r.lacks ++ [⟨f, y ||| p.why⟩] }, by rw [List.getElem?_modify, hr]; simp, rfl, rfl, rfl, fun l hl => by simp [hl], fun hb' => by rw [hb] at hb'; cases hb'⟩
          · exact ⟨q, by rw [List.getElem?_modify, hq]; simp [hi], rfl, rfl, rfl, fun _ h => h, fun _ => rfl⟩
        refine ⟨hmo, ext, _, hmo.path hp, hnh, fun _ => ⟨{ r with lacks := r.lacks ++ [⟨f, y ||| p.why⟩] }, ?_, ⟨f, y ||| p.why⟩, by simp, rfl⟩⟩
        show (s.rows.modify _ _)[_]? = _
        rw [List.getElem?_modify, hr]; simp
theorem lackAll_mo {t : Int} : ∀ (L : List (ByteArray × W64)) {s : T}, Wf s.rows → t < s.rows.length → (∃ n, Sz s n) → (s.lackAll t L).1 = true → Mo s.rows (s.lackAll t L).2.rows ∧ ∀ x ∈ L, NoF (s.lackAll t L).2.rows t x.1
  | [], s, _, _, _, _ => ⟨Mo.refl _, fun _ h => absurd h (by simp)⟩
  | x :: L, s, hw, ht, ⟨n, hz⟩, h => by
    obtain ⟨h1, h2⟩ := lacks_nx s t x.1 x.2 hz
    have h3 := lacks_mo hw ht x.1 x.2
    unfold T.lackAll at *
    rcases hl : s.lacks t x.1 x.2 with ⟨b, s'⟩
    rw [hl] at h1 h2 h3 h
    cases b with
    | false => cases h
    | true =>
      obtain ⟨k1, k2⟩ := h3 rfl
      obtain ⟨k3, k4⟩ := lackAll_mo L (h1.wf hw) (by rw [h1.len]; exact ht) ⟨_, h2⟩ h
      refine ⟨k1.trans k3, fun q hq => ?_⟩
      rcases List.mem_cons.1 hq with rfl | hq
      · exact k3.nof k2
      · exact k4 q hq
/-- A free row bound: the ways that end there go on. -/
theorem path_set {rows : List Row} {i : Nat} {x x' : Row} (hx : rows[i]? = some x) (hb : x.bound = false) {t e : Int} {ext : List Fld} (p : Path rows t ext e) :
    (e ≠ (i : Nat) → Path (rows.set i x') t ext e) ∧ (e = (i : Nat) → ∀ ext2 e2, Path (rows.set i x') (i : Nat) ext2 e2 → Path (rows.set i x') t (ext ++ ext2) e2) := by
  have hi := (List.getElem?_eq_some_iff.1 hx).1
  induction p with
  | none h =>
    refine ⟨fun _ => .none h, fun he => ?_⟩
    omega
  | @free t r h hr hb' =>
    refine ⟨fun hne => ?_, fun he ext2 e2 p2 => ?_⟩
    · refine .free h ?_ hb'
      rw [List.getElem?_set_ne (by omega)]; exact hr
    · rw [List.nil_append, he]; exact p2
  | @step t e r ext h hr hb' p ih =>
    have hne : i ≠ t.toNat := fun e => by
      rw [← e, hx] at hr; cases hr; rw [hb] at hb'; cases hb'
    have hr' : (rows.set i x')[t.toNat]? = some r := by rw [List.getElem?_set_ne hne]; exact hr
    refine ⟨fun he => .step h hr' hb' (ih.1 he), fun he ext2 e2 p2 => ?_⟩
    rw [List.append_assoc]
    exact .step h hr' hb' (ih.2 he ext2 e2 p2)
theorem bind_inv {s : T} (hw : Wf s.rows) (hI : Inv s.rows) {i : Nat} {x : Row} (hx : s.rows[i]? = some x) (hb : x.bound = false) {fs : List Fld} (hd : NoDup fs) {t : Int} {y : W64} (ht : t < 0 ∨ ((i : Int) < t ∧ t < s.rows.length)) {n : Nat} (hz : Sz s n)
    (h : (s.bind i fs t y).1 = true) : Inv (s.bind i fs t y).2.rows ∧ ∃ x', (s.bind i fs t y).2.rows[i]? = some x' ∧ x'.bound = true ∧ x'.fields = fs ∧ x'.tail = t := by
  have hi := (List.getElem?_eq_some_iff.1 hx).1
  cases hc : clash x.lacks fs with
  | some l => rw [bind_hit hx hc] at h; cases h
  | none =>
    rw [bind_none hx hc] at h ⊢
    -- the rows behind the stores, and those at the end
    have key : ∀ s' : T, Mo (bindS s i x fs t y).rows s'.rows → (∀ p ∈ bindL x fs y, NoF s'.rows t p.1) → Inv s'.rows ∧ ∃ x', s'.rows[i]? = some x' ∧ x'.bound = true ∧ x'.fields = fs ∧ x'.tail = t := fun s' hmo hn => by
      have hset : (bindS s i x fs t y).rows = s.rows.set i { x with bound := true, fields := fs, tail := t, why := y } := rfl
      rw [hset] at hmo
      obtain ⟨xi, q1, q2, q3, q4, _, q6⟩ := hmo.row i _ (List.getElem?_set_self hi)
      have hl : ∀ l ∈ x.lacks, NoF s'.rows t l.field := fun l hl => hn (l.field, l.why ||| y) (by unfold bindL; exact List.mem_append.2 (.inl (List.mem_map.2 ⟨l, hl, rfl⟩)))
      have hg : ∀ g ∈ fs, NoF s'.rows t g.name := fun g hg => hn (g.name, y) (by unfold bindL; exact List.mem_append.2 (.inr (List.mem_map.2 ⟨g, hg, rfl⟩)))
      have nof : ∀ (t0 : Int) f, NoF s.rows t0 f → NoF s'.rows t0 f := fun t0 f h0 => by
        obtain ⟨ext, e, h1, h2, h3⟩ := h0.ex
        obtain ⟨p1, p2⟩ := path_set (x' := { x with bound := true, fields := fs, tail := t, why := y }) hx hb h1
        by_cases he : e = (i : Nat)
        · obtain ⟨r, hr, l, hl', hlf⟩ := h3 (by omega)
          have : e.toNat = i := by omega
          rw [this, hx] at hr
          cases hr
          subst hlf
          obtain ⟨ext2, e2, k1, k2, k3⟩ := (hl l hl').ex
          have hpi : Path s'.rows (i : Nat) (fs ++ ext2) e2 := by
            have := Path.step (rows := s'.rows) (t := (i : Nat)) (r := xi) (by omega) (by rw [Int.toNat_natCast]; exact q1) q2 (by rw [q3]; exact k1)
            rw [q4] at this; exact this
          refine ⟨ext ++ (fs ++ ext2), e2, ?_, ?_, k3⟩
          · have hgo : ∀ {t1 e1 : Int} {z : List Fld}, Path s.rows t1 z e1 → e1 = (i : Nat) → Path s'.rows t1 (z ++ (fs ++ ext2)) e2 := fun {t1 e1 z} pz => by
              induction pz with
              | none h0 => intro he1; omega
              | free h0 hr' hb' => intro he1; rw [List.nil_append, he1]; exact hpi
              | @step t1 e1 r z h0 hr' hb' _ ih =>
                intro he1
                have hne : i ≠ t1.toNat := fun e => by rw [← e, hx] at hr'; cases hr'; rw [hb] at hb'; cases hb'
                obtain ⟨r2, u1, u2, u3, u4, _⟩ := hmo.row t1.toNat r (by rw [List.getElem?_set_ne hne]; exact hr')
                have := Path.step (rows := s'.rows) (t := t1) (r := r2) h0 u1 (u2.trans hb') (by rw [u3]; exact ih he1)
                rw [u4] at this
                rw [List.append_assoc]; exact this
            exact hgo h1 he
          · intro hh
            obtain ⟨g, hgm, hgn⟩ := hh
            rcases List.mem_append.1 hgm with hgm | hgm
            · exact h2 ⟨g, hgm, hgn⟩
            rcases List.mem_append.1 hgm with hgm | hgm
            · exact clash_no hc hl' ⟨g, hgm, hgn⟩
            · exact k2 ⟨g, hgm, hgn⟩
        · refine ⟨ext, e, hmo.path (p1 he), h2, fun he0 => ?_⟩
          obtain ⟨r, hr, l, hl', hlf⟩ := h3 he0
          have hne : i ≠ e.toNat := by omega
          obtain ⟨r2, u1, _, _, _, u5, _⟩ := hmo.row e.toNat r (by rw [List.getElem?_set_ne hne]; exact hr)
          exact ⟨r2, u1, l, u5 l hl', hlf⟩
      refine ⟨fun j r' hr' hb' => ?_, xi, q1, q2, q4, q3⟩
      by_cases hj : j = i
      · subst hj
        rw [q1] at hr'
        cases hr'
        refine ⟨by rw [q4]; exact hd, fun g hg' => by rw [q3]; rw [q4] at hg'; exact hg g hg', fun l hl' => ?_⟩
        rw [q6 rfl] at hl'
        rw [q3, q4]
        exact ⟨clash_no hc hl', hl l hl'⟩
      · obtain ⟨r, k1, k2, k3, k4, k5⟩ := hmo.back hr'
        rw [List.getElem?_set_ne (fun e => hj e.symm)] at k1
        have hbr : r.bound = true := by rw [← k2]; exact hb'
        have hv := hI j r k1 hbr
        refine ⟨by rw [k4]; exact hv.dup, fun g hg' => ?_, fun l hl' => ?_⟩
        · rw [k3]; rw [k4] at hg'; exact nof _ _ (hv.fields g hg')
        · rw [k5 hbr] at hl'
          rw [k3, k4]
          exact ⟨(hv.lacks l hl').1, nof _ _ (hv.lacks l hl').2⟩
    split at h
    · rename_i hn
      rw [if_pos hn]
      refine key _ (Mo.refl _) fun p _ => ⟨[], t, .none hn, fun ⟨g, hg, _⟩ => by simp at hg, fun h0 => by omega⟩
    · rename_i hn
      rw [if_neg hn]
      have hl : (bindS s i x fs t y).rows.length = s.rows.length := by simp [bindS, T.did]
      obtain ⟨k1, k2⟩ := lackAll_mo (bindL x fs y) (bindS_wf hw ht) (by rw [hl]; omega) ⟨_, bindS_sz hz hx⟩ h
      exact key _ k1 k2
end Rw
end Go.Proofs.YthnbhcfpfbimgaaGreat
/- Plain: an equation that is taken holds in each solution of the table; the known fields are a solution. No program in sight. -/
namespace Go.Proofs.YthnbhcfpfbimgaaGreat
namespace Rw
def Tr : W64 → Prop := fun _ => True
/-- A table that knows at least as much. -/
structure Le (s s' : T) : Prop where
  row : ∀ (i : Nat) r, s.rows[i]? = some r → ∃ r', s'.rows[i]? = some r' ∧ (r.bound = true → r'.bound = true ∧ r'.fields = r.fields ∧ r'.tail = r.tail) ∧ ∀ l ∈ r.lacks, l ∈ r'.lacks
  eqs : ∀ e ∈ s.eqs, e ∈ s'.eqs
  stuck : s'.stuck = s.stuck
  own : s'.own = s.own
theorem Le.refl (s : T) : Le s s := ⟨fun _ r h => ⟨r, h, fun h => ⟨h, rfl, rfl⟩, fun _ h => h⟩, fun _ h => h, rfl, rfl⟩
theorem Le.trans {a b c : T} (h : Le a b) (k : Le b c) : Le a c := ⟨fun i r hr => by
  obtain ⟨r1, h1, h2, h3⟩ := h.row i r hr
  obtain ⟨r2, k1, k2, k3⟩ := k.row i r1 h1
  refine ⟨r2, k1, fun hb => ?_, fun l hl => k3 l (h3 l hl)⟩
  obtain ⟨p1, p2, p3⟩ := h2 hb
  obtain ⟨q1, q2, q3⟩ := k2 p1
  exact ⟨q1, q2.trans p2, q3.trans p3⟩, fun e he => k.eqs e (h.eqs e he), k.stuck.trans h.stuck, k.own.trans h.own⟩
theorem Le.mod {E : Type} {η : At → E} {val : Nat → Val E} {s s' : T} (h : Le s s') (hm : Mod η Tr s' val) : Mod η Tr s val := by
  refine ⟨fun i r hr hb _ => ?_, fun i r hr l hl _ => ?_, fun e he _ => hm.eqs e (h.eqs e he) trivial, fun hs => hm.stuck (h.stuck.trans hs)⟩
  · obtain ⟨r', h1, h2, _⟩ := h.row i r hr
    obtain ⟨p1, p2, p3⟩ := h2 hb
    have := hm.row i r' h1 p1 trivial
    rw [p2, p3] at this
    exact this
  · obtain ⟨r', h1, _, h3⟩ := h.row i r hr
    exact hm.lack i r' h1 l (h3 l hl) trivial
theorem Mo.le {s s' : T} (h : Mo s.rows s'.rows) (he : s'.eqs = s.eqs) (hs : s'.stuck = s.stuck) (ho : s'.own = s.own) : Le s s' :=
  ⟨fun i r hr => by
    obtain ⟨r', h1, h2, h3, h4, h5, _⟩ := h.row i r hr
    exact ⟨r', h1, fun hb => ⟨h2.trans hb, h4, h3⟩, h5⟩, fun e h' => by rw [he]; exact h', hs, ho⟩
theorem lacks_rest {s : T} {a : Int} {f : ByteArray} {y : W64} (h : (s.lacks a f y).1 = true) : (s.lacks a f y).2.eqs = s.eqs ∧ (s.lacks a f y).2.stuck = s.stuck ∧ (s.lacks a f y).2.own = s.own := by
  unfold T.lacks at *
  simp only [] at *
  split at h
  · cases h
  · rename_i hh
    rw [if_neg hh]
    split
    · exact ⟨rfl, rfl, rfl⟩
    split <;> exact ⟨rfl, rfl, rfl⟩
theorem lacks_le {s : T} (hw : Wf s.rows) {a : Int} (ha : a < s.rows.length) {f : ByteArray} {y : W64} (h : (s.lacks a f y).1 = true) : Le s (s.lacks a f y).2 := by
  obtain ⟨h1, h2, h3⟩ := lacks_rest h
  exact (lacks_mo hw ha f y h).1.le h1 h2 h3
theorem lackAll_le {t : Int} : ∀ (L : List (ByteArray × W64)) {s : T}, Wf s.rows → t < s.rows.length → (∃ n, Sz s n) → (s.lackAll t L).1 = true → Le s (s.lackAll t L).2
  | [], s, _, _, _, _ => Le.refl s
  | x :: L, s, hw, ht, ⟨n, hz⟩, h => by
    obtain ⟨h1, h2⟩ := lacks_nx s t x.1 x.2 hz
    have h3 := lacks_le hw ht (f := x.1) (y := x.2)
    unfold T.lackAll at *
    rcases hl : s.lacks t x.1 x.2 with ⟨b, s'⟩
    rw [hl] at h1 h2 h3 h
    cases b with
    | false => cases h
    | true => exact (h3 rfl).trans (lackAll_le L (h1.wf hw) (by rw [h1.len]; exact ht) ⟨_, h2⟩ h)
theorem bind_le {s : T} (hw : Wf s.rows) {i : Nat} {x : Row} (hx : s.rows[i]? = some x) (hb : x.bound = false) {fs : List Fld} {t : Int} {y : W64} (ht : t < 0 ∨ ((i : Int) < t ∧ t < s.rows.length)) {n : Nat} (hz : Sz s n)
    (h : (s.bind i fs t y).1 = true) : Le s (s.bind i fs t y).2 := by
  have hi := (List.getElem?_eq_some_iff.1 hx).1
  cases hc : clash x.lacks fs with
  | some l => rw [bind_hit hx hc] at h; cases h
  | none =>
    rw [bind_none hx hc] at h ⊢
    have h1 : Le s (bindS s i x fs t y) := by
      refine ⟨fun j r hr => ?_, fun _ h => h, rfl, rfl⟩
      show ∃ r', (s.rows.set i _)[j]? = some r' ∧ _
      by_cases hj : i = j
      · subst hj
        rw [hx] at hr
        cases hr
        exact ⟨_, List.getElem?_set_self hi, fun hb' => (by rw [hb] at hb'; cases hb'), fun _ h => h⟩
      · exact ⟨r, by rw [List.getElem?_set_ne hj]; exact hr, fun h => ⟨h, rfl, rfl⟩, fun _ h => h⟩
    split at h
    · rename_i hn; rw [if_pos hn]; exact h1
    · rename_i hn
      rw [if_neg hn]
      have hl : (bindS s i x fs t y).rows.length = s.rows.length := by simp [bindS, T.did]
      exact h1.trans (lackAll_le _ (bindS_wf hw ht) (by rw [hl]; omega) ⟨_, bindS_sz hz hx⟩ h)
theorem pair_le (s : T) (a b : At) (y : W64) : Le s (s.pair a b y) := ⟨fun _ r h => ⟨r, h, fun h => ⟨h, rfl, rfl⟩, fun _ h => h⟩, fun _ he => List.mem_append.2 (.inl he), rfl, rfl⟩
theorem pairs_le (b : List Fld) (y : W64) : ∀ (l : List Fld) (s : T), Le s (s.pairs b y l) ∧ ∀ f ∈ l, ∀ g, findN b f.name = some g → ∃ e ∈ (s.pairs b y l).eqs, e.a = f.at_ ∧ e.b = g.at_
  | [], s => ⟨Le.refl s, fun _ h => absurd h (by simp)⟩
  | f :: l, s => by
    unfold T.pairs
    cases hc : b.find? fun g => g.name.toList == f.name.toList with
    | none =>
      obtain ⟨h1, h2⟩ := pairs_le b y l s
      refine ⟨h1, fun f' hf' g hg => ?_⟩
      rcases List.mem_cons.1 hf' with rfl | hf'
      · unfold findN at hg; rw [hc] at hg; cases hg
      · exact h2 f' hf' g hg
    | some g0 =>
      obtain ⟨h1, h2⟩ := pairs_le b y l (s.pair f.at_ g0.at_ y)
      refine ⟨(pair_le s f.at_ g0.at_ y).trans h1, fun f' hf' g hg => ?_⟩
      rcases List.mem_cons.1 hf' with rfl | hf'
      · unfold findN at hg; rw [hc] at hg; cases hg
        exact ⟨⟨f'.at_, g0.at_, y⟩, h1.eqs _ (List.mem_append.2 (.inr (by simp))), rfl, rfl⟩
      · exact h2 f' hf' g hg
theorem fresh_le (s : T) : Le s s.fresh := by
  refine ⟨fun i r h => ⟨r, ?_, fun h => ⟨h, rfl, rfl⟩, fun _ h => h⟩, fun _ h => h, rfl, rfl⟩
  show (s.rows ++ [row0])[i]? = _
  rw [List.getElem?_append_left (List.getElem?_eq_some_iff.1 h).1]; exact h
theorem path_app {rows : List Row} {r0 : Row} {t e : Int} {x : List Fld} (p : Path rows t x e) : Path (rows ++ [r0]) t x e := by
  induction p with
  | none h => exact .none h
  | free h hr hb => exact .free h (by rw [List.getElem?_append_left (List.getElem?_eq_some_iff.1 hr).1]; exact hr) hb
  | step h hr hb _ ih => exact .step h (by rw [List.getElem?_append_left (List.getElem?_eq_some_iff.1 hr).1]; exact hr) hb ih
theorem nof_app {rows : List Row} {r0 : Row} {t : Int} {f : ByteArray} (p : NoF rows t f) : NoF (rows ++ [r0]) t f := by
  obtain ⟨ext, e, h1, h2, h3⟩ := p.ex
  refine ⟨ext, e, path_app h1, h2, fun he => ?_⟩
  obtain ⟨r, hr, hl⟩ := h3 he
  exact ⟨r, by rw [List.getElem?_append_left (List.getElem?_eq_some_iff.1 hr).1]; exact hr, hl⟩
theorem fresh_inv {s : T} (h : Inv s.rows) : Inv s.fresh.rows := fun i r hr hb => by
  have hr' : (s.rows ++ [row0])[i]? = some r := hr
  rcases Nat.lt_or_ge i s.rows.length with hl | hl
  · rw [List.getElem?_append_left hl] at hr'
    have hv := h i r hr' hb
    exact ⟨hv.dup, fun g hg => nof_app (hv.fields g hg), fun l hl => ⟨(hv.lacks l hl).1, nof_app (hv.lacks l hl).2⟩⟩
  · rw [List.getElem?_append_right hl] at hr'
    have := List.mem_of_getElem? hr'
    simp at this
    subst this
    exact absurd hb (by simp [row0])
theorem path_dup {rows : List Row} (hI : Inv rows) {t e : Int} {x : List Fld} (p : Path rows t x e) : NoDup x := by
  induction p with
  | none => exact List.Pairwise.nil
  | free => exact List.Pairwise.nil
  | @step t e r ext h hr hb p ih =>
    have hv := hI _ r hr hb
    refine List.pairwise_append.2 ⟨hv.dup, ih, fun a ha b hb' e => ?_⟩
    obtain ⟨ext', e', h1, h2, _⟩ := (hv.fields a ha).ex
    obtain ⟨rfl, _⟩ := p.unique h1
    exact h2 ⟨b, hb', e.symm⟩
theorem bind_ow {s : T} (hO : Ow s) {i n : Nat} {fs : List Fld} {t : Int} {y : W64} (hz : Sz s n) (hi : i < s.rows.length) (ht : t < 0 ∨ ((i : Int) < t ∧ t < s.rows.length)) (ht1 : -1 ≤ t) : Ow (s.bind i fs t y).2 := by
  have hg := bind_gr (fs := fs) (tail := t) (y := y) hz hO.wf hi ht
  obtain ⟨x, hx⟩ : ∃ x, s.rows[i]? = some x := ⟨s.rows[i], List.getElem?_eq_getElem hi⟩
  refine ⟨hg.wf, ?_, fun o ho => by rw [hg.own] at ho; rw [hg.len]; exact hO.own o ho⟩
  cases hc : clash x.lacks fs with
  | some l => rw [bind_hit hx hc]; rw [(stick_rows s _).1]; exact hO.tail
  | none =>
    rw [bind_none hx hc]
    have h1 : ∀ (j : Nat) r, (bindS s i x fs t y).rows[j]? = some r → -1 ≤ r.tail := fun j r hr => by
      rcases set_get (show (s.rows.set i _)[j]? = some r from hr) with ⟨rfl, rfl⟩ | ⟨_, h2⟩
      · exact ht1
      · exact hO.tail j r h2
    split
    · exact h1
    · obtain ⟨h2, _⟩ := lackAll_nx t (bindL x fs y) _ (bindS_sz (fs := fs) (tail := t) (y := y) hz hx)
      intro j r hr
      obtain ⟨r0, k1, _, k3, _⟩ := h2.row j r hr
      rw [k3]; exact h1 j r0 k1
theorem fresh_ow {s : T} (hO : Ow s) {n : Nat} (hz : Sz s n) : Ow s.fresh := by
  obtain ⟨fw, fl, fo, _⟩ := fresh_gr hz hO.wf
  refine ⟨fw, fun i r hr => ?_, fun o ho => by rw [fo] at ho; rw [fl]; have := hO.own o ho; omega⟩
  have hr' : (s.rows ++ [row0])[i]? = some r := hr
  rcases Nat.lt_or_ge i s.rows.length with hl | hl
  · rw [List.getElem?_append_left hl] at hr'; exact hO.tail i r hr'
  · rw [List.getElem?_append_right hl] at hr'
    have := List.mem_of_getElem? hr'
    simp at this
    subst this
    simp [row0]
/-- What a taken meet leaves. -/
structure MeetOk (s s' : T) (a b : List Fld) (fa fb : Int) : Prop where
  le : Le s s'
  inv : Inv s'.rows
  ow : Ow s'
  sem : ∀ (E : Type) (η : At → E) (val : Nat → Val E), Mod η Tr s' val → (∀ f ∈ a, ∀ g, findN b f.name = some g → η f.at_ = η g.at_) → Rw.sem η a (tv val fa) = Rw.sem η b (tv val fb)
theorem sem_both {E : Type} {η : At → E} {a b : List Fld} {va vb : Val E} (hp : ∀ f ∈ a, ∀ g, findN b f.name = some g → η f.at_ = η g.at_) (h1 : ∀ f, Has a f → ¬ Has b f → ∀ g, findN a f = some g → vb f = some (η g.at_)) (h2 : ∀ f, Has b f → ¬ Has a f → ∀ g, findN b f = some g → va f = some (η g.at_)) (h3 : ∀ f, ¬ Has a f → ¬ Has b f → va f = vb f) :
    sem η a va = sem η b vb := by
  funext f
  by_cases ha : Has a f
  · obtain ⟨ga, hga⟩ := findN_of ha
    rw [sem_has η hga]
    by_cases hb : Has b f
    · obtain ⟨gb, hgb⟩ := findN_of hb
      obtain ⟨m1, m2⟩ := findN_some hga
      rw [sem_has η hgb, hp ga m1 gb (by rw [m2]; exact hgb)]
    · rw [sem_not η hb, h1 f ha hb ga hga]
  · rw [sem_not η ha]
    by_cases hb : Has b f
    · obtain ⟨gb, hgb⟩ := findN_of hb
      rw [sem_has η hgb, h2 f hb ha gb hgb]
    · rw [sem_not η hb, h3 f ha hb]
theorem no_without {a b : List Fld} (h : without b a = []) {f : ByteArray} (hb : Has b f) : Has a f := by
  rcases Classical.em (Has a f) with h' | h'
  · exact h'
  · obtain ⟨g, hg, _⟩ := has_without.2 ⟨hb, h'⟩
    rw [h] at hg; cases hg
theorem bind_fact {E : Type} {η : At → E} {val : Nat → Val E} {s' : T} {i : Nat} {fs : List Fld} {t : Int} (h : ∃ x', s'.rows[i]? = some x' ∧ x'.bound = true ∧ x'.fields = fs ∧ x'.tail = t) (hm : Mod η Tr s' val) : val i = sem η fs (tv val t) := by
  obtain ⟨x', h1, h2, h3, h4⟩ := h
  have := (hm.row i x' h1 h2 trivial).eq
  rw [h3, h4] at this
  exact this
theorem meetTail_ok {s : T} (hO : Ow s) (hI : Inv s.rows) {n : Nat} (hz : Sz s n) {a b : List Fld} (ha : NoDup a) (hb : NoDup b) {fa fb : Int} {y : W64} (hfa : -1 ≤ fa ∧ fa < s.rows.length) (hfb : -1 ≤ fb ∧ fb < s.rows.length)
    (hra : 0 ≤ fa → ∃ r, s.rows[fa.toNat]? = some r ∧ r.bound = false) (hrb : 0 ≤ fb → ∃ r, s.rows[fb.toNat]? = some r ∧ r.bound = false) (h : (s.meetTail fa fb (without b a) (without a b) y).1 = true) :
    MeetOk s (s.meetTail fa fb (without b a) (without a b) y).2 a b fa fb := by
  have one : ∀ {k : Nat} {fs : List Fld}, (∃ r, s.rows[k]? = some r ∧ r.bound = false) → NoDup fs → (match s.bind k fs (-1) y with | (true, s2) => (true, s2) | (false, s2) => (false, s2.stick y)).1 = true →
      (s.bind k fs (-1) y).1 = true ∧ (match s.bind k fs (-1) y with | (true, s2) => (true, s2) | (false, s2) => (false, s2.stick y)).2 = (s.bind k fs (-1) y).2 := fun {k fs} _ _ h => by
    rcases hb : s.bind k fs (-1) y with ⟨b1, s2⟩
    rw [hb] at h
    cases b1
    · cases h
    · exact ⟨rfl, rfl⟩
  unfold T.meetTail at *
  by_cases h1 : fa = fb
  · rw [if_pos h1] at h ⊢
    subst h1
    split at h
    · cases h
    · rename_i hm
      rw [if_neg hm]
      have hm1 : without b a = [] := List.eq_nil_of_length_eq_zero (by omega)
      have hm2 : without a b = [] := List.eq_nil_of_length_eq_zero (by omega)
      exact ⟨Le.refl s, hI, hO, fun E η val _ hp => sem_both hp (fun f h1 h2 => absurd (no_without hm2 h1) h2) (fun f h1 h2 => absurd (no_without hm1 h1) h2) fun _ _ _ => rfl⟩
  rw [if_neg h1] at h ⊢
  by_cases h2 : fa < 0
  · rw [if_pos h2] at h ⊢
    split at h
    · rename_i hm
      rw [if_pos hm]
      obtain ⟨k, rfl⟩ : ∃ k : Nat, fb = (k : Nat) := ⟨fb.toNat, by omega⟩
      have hrk := hrb (by omega)
      rw [Int.toNat_natCast] at *
      obtain ⟨g1, g2⟩ := one hrk (dup_without ha) h
      suffices hs : MeetOk s (s.bind k (without a b) (-1) y).2 a b fa (k : Nat) by
        rw [← g2] at hs; exact hs
      obtain ⟨x, hx, hxb⟩ := hrk
      obtain ⟨i1, i2⟩ := bind_inv hO.wf hI hx hxb (dup_without ha) (.inl (by omega)) hz g1
      refine ⟨bind_le hO.wf hx hxb (.inl (by omega)) hz g1, i1, bind_ow hO hz (by omega) (.inl (by omega)) (by omega), fun E η val hmo hp => ?_⟩
      have hf := bind_fact i2 hmo
      rw [tv_neg (show (-1 : Int) < 0 by omega)] at hf
      rw [tv_neg h2, tv_nat, hf]
      refine sem_both hp (fun f h1 h2 g hg => sem_has η (by rw [findN_without h2]; exact hg)) (fun f h1 h2 => absurd (no_without hm h1) h2) fun f h1 h2 => ?_
      rw [sem_not η (fun hh => h1 (has_without.1 hh).1)]
    · cases h
  rw [if_neg h2] at h ⊢
  by_cases h3 : fb < 0
  · rw [if_pos h3] at h ⊢
    split at h
    · rename_i hm
      rw [if_pos hm]
      obtain ⟨k, rfl⟩ : ∃ k : Nat, fa = (k : Nat) := ⟨fa.toNat, by omega⟩
      have hrk := hra (by omega)
      rw [Int.toNat_natCast] at *
      obtain ⟨g1, g2⟩ := one hrk (dup_without hb) h
      suffices hs : MeetOk s (s.bind k (without b a) (-1) y).2 a b (k : Nat) fb by
        rw [← g2] at hs; exact hs
      obtain ⟨x, hx, hxb⟩ := hrk
      obtain ⟨i1, i2⟩ := bind_inv hO.wf hI hx hxb (dup_without hb) (.inl (by omega)) hz g1
      refine ⟨bind_le hO.wf hx hxb (.inl (by omega)) hz g1, i1, bind_ow hO hz (by omega) (.inl (by omega)) (by omega), fun E η val hmo hp => ?_⟩
      have hf := bind_fact i2 hmo
      rw [tv_neg (show (-1 : Int) < 0 by omega)] at hf
      rw [tv_neg h3, tv_nat, hf]
      refine sem_both hp (fun f h1 h2 => absurd (no_without hm h1) h2) (fun f h1 h2 g hg => sem_has η (by rw [findN_without h2]; exact hg)) fun f h1 h2 => ?_
      rw [sem_not η (fun hh => h2 (has_without.1 hh).1)]
    · cases h
  rw [if_neg h3] at h ⊢
  obtain ⟨ka, rfl⟩ : ∃ k : Nat, fa = (k : Nat) := ⟨fa.toNat, by omega⟩
  obtain ⟨kb, rfl⟩ : ∃ k : Nat, fb = (k : Nat) := ⟨fb.toNat, by omega⟩
  have hrka := hra (by omega)
  have hrkb := hrb (by omega)
  rw [Int.toNat_natCast] at hrka hrkb
  rw [Int.toNat_natCast, Int.toNat_natCast] at *
  obtain ⟨fw, fl, _, fz⟩ := fresh_gr hz hO.wf
  have hO1 := fresh_ow hO hz
  have hI1 := fresh_inv hI
  obtain ⟨xa, hxa, hba⟩ := hrka
  obtain ⟨xb, hxb, hbb⟩ := hrkb
  have lift : ∀ {k : Nat} {x : Row}, s.rows[k]? = some x → s.fresh.rows[k]? = some x := fun {k x} hx => by
    show (s.rows ++ [row0])[k]? = _
    rw [List.getElem?_append_left (List.getElem?_eq_some_iff.1 hx).1]; exact hx
  have ht1 : ((s.rows.length : Nat) : Int) < 0 ∨ (((ka : Nat) : Int) < ((s.rows.length : Nat) : Int) ∧ ((s.rows.length : Nat) : Int) < s.fresh.rows.length) := .inr ⟨by omega, by omega⟩
  have hg := bind_gr (fs := without b a) (tail := (s.rows.length : Nat)) (y := y) (i := ka) fz fw (by omega) ht1
  have ho2 := bind_ow hO1 (fs := without b a) (t := (s.rows.length : Nat)) (y := y) (i := ka) fz (by omega) ht1 (by omega)
  have hin := bind_inv fw hI1 (lift hxa) hba (fs := without b a) (dup_without hb) ht1 fz (y := y)
  have hle := bind_le fw (lift hxa) hba (fs := without b a) ht1 fz (y := y)
  have hkb : ∀ s2 : T, (s.fresh.bind ka (without b a) (s.rows.length : Nat) y) = (true, s2) → ∃ r, s2.rows[kb]? = some r ∧ r.bound = false := fun s2 he => by
    -- the other row is still free
    have hne : ka ≠ kb := fun e => h1 (by rw [e])
    cases hc : clash xa.lacks (without b a) with
    | some l => rw [bind_hit (lift hxa) hc] at he; cases he
    | none =>
      rw [bind_none (lift hxa) hc, if_neg (by omega)] at he
      obtain ⟨n1, _⟩ := lackAll_nx (s.rows.length : Nat) (bindL xa (without b a) y) _ (bindS_sz (fs := without b a) (tail := (s.rows.length : Nat)) (y := y) fz (lift hxa))
      rw [he] at n1
      have hlt : kb < s2.rows.length := by rw [n1.len]; simp [bindS, T.did]; omega
      have hgk : s2.rows[kb]? = some s2.rows[kb] := List.getElem?_eq_getElem hlt
      obtain ⟨r0, q1, q2, _⟩ := n1.row kb _ hgk
      refine ⟨_, hgk, q2.trans ?_⟩
      have hz' : (s.fresh.rows.set ka { xa with bound := true, fields := without b a, tail := (s.rows.length : Nat), why := y })[kb]? = some r0 := q1
      rw [List.getElem?_set_ne hne, lift hxb] at hz'
      cases hz'
      exact hbb
  rcases hb1 : s.fresh.bind ka (without b a) (s.rows.length : Nat) y with ⟨b1, s2⟩
  rw [hb1] at hg ho2 hin hle h
  cases b1 with
  | false => cases h
  | true =>
    obtain ⟨xk, hxk, hxkb⟩ := hkb s2 hb1
    obtain ⟨i1, i2⟩ := hin rfl
    have ht2 : ((s.rows.length : Nat) : Int) < 0 ∨ (((kb : Nat) : Int) < ((s.rows.length : Nat) : Int) ∧ ((s.rows.length : Nat) : Int) < s2.rows.length) := .inr ⟨by omega, by have := hg.len; dsimp only at this; omega⟩
    obtain ⟨j1, j2⟩ := bind_inv hg.wf i1 hxk hxkb (dup_without ha) ht2 hg.sz h
    have hle2 := bind_le hg.wf hxk hxkb ht2 hg.sz h
    refine ⟨((fresh_le s).trans (hle rfl)).trans hle2, j1, bind_ow ho2 hg.sz (List.getElem?_eq_some_iff.1 hxk).1 ht2 (by omega), fun E η val hmo hp => ?_⟩
    have hf1 := bind_fact i2 (hle2.mod hmo)
    have hf2 := bind_fact j2 hmo
    rw [tv_nat, tv_nat, hf1, hf2]
    refine sem_both hp (fun f h1 h2 g hg => sem_has η (by rw [findN_without h2]; exact hg)) (fun f h1 h2 g hg => sem_has η (by rw [findN_without h2]; exact hg)) fun f h1 h2 => ?_
    rw [sem_not η (fun hh => h2 (has_without.1 hh).1), sem_not η (fun hh => h1 (has_without.1 hh).1)]
end Rw
end Go.Proofs.YthnbhcfpfbimgaaGreat
