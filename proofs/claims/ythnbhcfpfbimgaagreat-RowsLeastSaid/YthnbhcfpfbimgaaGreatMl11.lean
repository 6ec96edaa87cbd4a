/- Texts put together: RwMeet0 RwMeet. -/
import Derived.Test.YthnbhcfpfbimgaaGreatMl10
/- Plain: the pairs of two spreads, and what a bind leaves. -/
namespace Go.Proofs.YthnbhcfpfbimgaaGreat
namespace Rw
theorem findI_pos {fs : List Fld} {f : ByteArray} (h : ¬ findI fs f < 0) : ∃ (i : Nat) (g : Fld), findI fs f = i ∧ fs[i]? = some g ∧ fs.find? (fun x => x.name.toList == f.toList) = some g := by
  unfold findI findF at *
  cases hf : fs.findIdx? fun x => x.name.toList == f.toList with
  | none => rw [hf] at h; simp at h
  | some i =>
    obtain ⟨hi, h1, h2⟩ := List.findIdx?_eq_some_iff_getElem.1 hf
    refine ⟨i, fs[i], rfl, List.getElem?_eq_getElem hi, ?_⟩
    rw [List.find?_eq_some_iff_getElem]
    exact ⟨h1, i, hi, rfl, fun j hj => by simpa using h2 j hj⟩
theorem findI_neg {fs : List Fld} {f : ByteArray} (h : findI fs f < 0) : fs.find? (fun x => x.name.toList == f.toList) = none := by
  unfold findI findF at h
  cases hf : fs.findIdx? fun x => x.name.toList == f.toList with
  | none =>
    rw [List.findIdx?_eq_none_iff] at hf
    rw [List.find?_eq_none]
    intro x hx
    simp [hf x hx]
  | some i => rw [hf] at h; simp at h; omega
/-- Where the pairs of two spreads stand. -/
structure PrS (s : T) (b : List Fld) (y : W64) (a : List Fld) (n k : Nat) (sk : T) : Prop where
  run : sk.pairs b y (a.drop k) = s.pairs b y a
  rows : sk.rows = s.rows
  own : sk.own = s.own
  sz : Sz sk (n + k)
theorem PrS.start {s : T} {b : List Fld} {y : W64} {a : List Fld} {n : Nat} (h : Sz s n) : PrS s b y a n 0 s := ⟨rfl, rfl, rfl, h⟩
theorem PrS.skip {s sk : T} {b : List Fld} {y : W64} {a : List Fld} {n k : Nat} {f : Fld} (h : PrS s b y a n k sk) (hf : a[k]? = some f) (hn : findI b f.name < 0) : PrS s b y a n (k + 1) sk := by
  obtain ⟨hk, hx⟩ := List.getElem?_eq_some_iff.1 hf
  refine ⟨?_, h.rows, h.own, h.sz.mono (by omega)⟩
  rw [← h.run, List.drop_eq_getElem_cons hk, hx]
  simp only [T.pairs, findI_neg hn]
theorem PrS.step {s sk : T} {b : List Fld} {y : W64} {a : List Fld} {n k : Nat} {f g : Fld} (h : PrS s b y a n k sk) (hf : a[k]? = some f) (hg : b.find? (fun x => x.name.toList == f.name.toList) = some g) : PrS s b y a n (k + 1) (sk.pair f.at_ g.at_ y) := by
  obtain ⟨hk, hx⟩ := List.getElem?_eq_some_iff.1 hf
  have hs := h.sz
  refine ⟨?_, h.rows, h.own, ⟨Nat.le_trans hs.tot (by omega), fun i r hr => Nat.le_trans (hs.lacks i r hr) (by omega), ?_, Nat.le_trans hs.rows (by omega), Nat.le_trans hs.own (by omega), ?_, Nat.le_trans hs.times (by omega)⟩⟩
  · rw [← h.run, List.drop_eq_getElem_cons hk, hx]
    simp only [T.pairs, hg]
  · have := hs.undo; simp [T.pair, T.did]; omega
  · have := hs.eqs; simp [T.pair, T.did]; omega
theorem PrS.done {s sk : T} {b : List Fld} {y : W64} {a : List Fld} {n : Nat} (h : PrS s b y a n a.length sk) : s.pairs b y a = sk := by
  rw [← h.run, List.drop_length]; rfl
/-- What a bind leaves. -/
structure Gr (s s' : T) (n : Nat) : Prop where
  wf : Wf s'.rows
  len : s'.rows.length = s.rows.length
  own : s'.own = s.own
  sz : Sz s' n
theorem lackAll_nx (tail : Int) : ∀ (L : List (ByteArray × W64)) (s : T) {n : Nat}, Sz s n → Nx s (s.lackAll tail L).2 ∧ Sz (s.lackAll tail L).2 (n + L.length)
  | [], s, n, h => ⟨Nx.refl _, h⟩
  | x :: L, s, n, h => by
    obtain ⟨h1, h2⟩ := lacks_nx s tail x.1 x.2 h
    unfold T.lackAll
    rcases hl : s.lacks tail x.1 x.2 with ⟨b, s'⟩
    rw [hl] at h1 h2
    cases b with
    | false => exact ⟨h1, h2.mono (by rw [List.length_cons]; omega)⟩
    | true =>
      obtain ⟨h3, h4⟩ := lackAll_nx tail L s' h2
      exact ⟨h1.trans h3, h4.mono (by rw [List.length_cons]; omega)⟩
theorem bind_gr {s : T} {i n : Nat} {fs : List Fld} {tail : Int} {y : W64} (h : Sz s n) (hw : Wf s.rows) (hi : i < s.rows.length) (ht : tail < 0 ∨ ((i : Int) < tail ∧ tail < s.rows.length)) : Gr s (s.bind i fs tail y).2 (n + n + fs.length + fs.length + 1) := by
  obtain ⟨x, hx⟩ : ∃ x, s.rows[i]? = some x := ⟨s.rows[i], List.getElem?_eq_getElem hi⟩
  cases hc : clash x.lacks fs with
  | some l =>
    rw [bind_hit hx hc]
    have := Nx.stick s (y ||| l.why)
    exact ⟨this.wf hw, this.len, this.own, (h.stick _).mono (by omega)⟩
  | none =>
    rw [bind_none hx hc]
    have hl : (bindS s i x fs tail y).rows.length = s.rows.length := by simp [bindS, T.did]
    have hs := bindS_sz (fs := fs) (tail := tail) (y := y) h hx
    have hw2 := bindS_wf (x := x) (fs := fs) (y := y) hw ht
    split
    · exact ⟨hw2, hl, rfl, hs.mono (by omega)⟩
    · obtain ⟨h1, h2⟩ := lackAll_nx tail (bindL x fs y) _ hs
      have := h.lacks i x hx
      exact ⟨h1.wf hw2, h1.len.trans hl, h1.own, h2.mono (by rw [bindL_len]; omega)⟩
theorem fresh_gr {s : T} {n : Nat} (h : Sz s n) (hw : Wf s.rows) : Wf s.fresh.rows ∧ s.fresh.rows.length = s.rows.length + 1 ∧ s.fresh.own = s.own ∧ Sz s.fresh (n + 1) := by
  have hr : s.fresh.rows = s.rows ++ [row0] := rfl
  have key : ∀ (k : Nat) r, s.fresh.rows[k]? = some r → s.rows[k]? = some r ∨ r = row0 := fun k r hk => by
    rw [hr] at hk
    rcases Nat.lt_or_ge k s.rows.length with hl | hl
    · rw [List.getElem?_append_left hl] at hk; exact .inl hk
    · rw [List.getElem?_append_right hl] at hk
      have := List.mem_of_getElem? hk
      simp at this; exact .inr this
  refine ⟨⟨fun k r hk hb => ?_⟩, by rw [hr]; simp, rfl, ⟨?_, fun k r hk => ?_, ?_, ?_, ?_, ?_, ?_⟩⟩
  · rcases key k r hk with h1 | rfl
    · rw [hr, List.length_append]
      have := hw.tail k r h1 hb
      simp
      omega
    · exact absurd hb (by simp [row0])
  · have := h.tot; rw [hr]; simp only [tot, row0] at *; simp; omega
  · rcases key k r hk with h1 | rfl
    · exact Nat.le_trans (h.lacks k r h1) (by omega)
    · simp [row0]
  · have := h.undo; simp [T.fresh, T.did]; omega
  · have := h.rows; rw [hr]; simp; omega
  · have := h.own; simp [T.fresh, T.did]; omega
  · have := h.eqs; simp [T.fresh, T.did]; omega
  · have := h.times; simp [T.fresh, T.did]; omega
theorem without_len (a b : List Fld) : (without a b).length ≤ a.length := List.length_filter_le _ _
/-- What follows the pairs. -/
def T.meetTail (s1 : T) (fa fb : Int) (more less : List Fld) (y : W64) : Bool × T :=
  if fa = fb then (if more.length + less.length > 0 then (false, s1.stick y) else (true, s1))
  else if fa < 0 then (if more = [] then (match s1.bind fb.toNat less (-1) y with
      | (true, s2) => (true, s2)
      | (false, s2) => (false, s2.stick y)) else (false, s1.stick y))
  else if fb < 0 then (if less = [] then (match s1.bind fa.toNat more (-1) y with
      | (true, s2) => (true, s2)
      | (false, s2) => (false, s2.stick y)) else (false, s1.stick y))
  else match s1.fresh.bind fa.toNat more (s1.rows.length : Nat) y with
    | (false, s2) => (false, s2)
    | (true, s2) => s2.bind fb.toNat less (s1.rows.length : Nat) y
theorem meet_def (s : T) (a b : Sp) (y : W64) : s.meet a b y = (s.pairs b.fields y a.fields).meetTail a.fin b.fin (without b.fields a.fields) (without a.fields b.fields) y := rfl
end Rw
end Go.Proofs.YthnbhcfpfbimgaaGreat
/- The walk of meet: two rows are the same. -/
namespace Go.Proofs.YthnbhcfpfbimgaaGreat
open Go.RowKit
open Rw (El At Fld Lk Eqn U T W64 Sp Wf tot Sz Nx)
/-- What a meet's walk keeps. -/
structure MeM (w0 : World) (B P : Nat) (g : Bl) (a b : Sp) (va vb : Value) (wr : World) (g1 : Bl) (s1 : T) : Prop where
  sg : Sg w0 B P g wr g1 s1
  ba : wr.heap[w0.heap.size]? = some (.cells (spC va a.fin a.why) 99 (0, 0))
  bb : wr.heap[w0.heap.size + 1]? = some (.cells (spC vb b.fin b.why) 99 (0, 0))
  fa : SlAt wr B 59 10 va a.fields.length (fdsV a.fields)
  fb : SlAt wr B 59 10 vb b.fields.length (fdsV b.fields)
section
variable {w0 wr w2 : World} {B P : Nat} {g g1 g2 : Bl} {a b : Sp} {va vb : Value} {s1 s2 : T}
theorem MeM.kept (h : MeM w0 B P g a b va vb wr g1 s1) (hs : Sg w0 B P g w2 g2 s2) (hk : Kept wr B g1 w2 g2) (ht : KeptT wr w2) : MeM w0 B P g a b va vb w2 g2 s2 :=
  ⟨hs, ht.block _ _ _ h.ba (by unfold Apart5; decide), ht.block _ _ _ h.bb (by unfold Apart5; decide), hk.fields h.fa, hk.fields h.fb⟩
theorem MeM.below (h : MeM w0 B P g a b va vb wr g1 s1) (hb : Below wr.heap.size wr w2) : MeM w0 B P g a b va vb w2 g1 s1 :=
  h.kept (h.sg.below hb).1 (h.sg.below hb).2 (KeptT.below hb)
theorem MeM.step (h : MeM w0 B P g a b va vb wr g1 s1) (hb : Stp wr B P g1 s2 w2) : ∃ g2, MeM w0 B P g a b va vb w2 g2 s2 ∧ Kept wr B g1 w2 g2 := by
  obtain ⟨g2, h1, h2, h3⟩ := h.sg.stepT hb
  exact ⟨g2, h.kept h1 h2 h3, h2⟩
end
theorem SlAt.fcell {w : World} {B b o n c q j : Nat} {fs : List Fld} {f : Fld} {u : Value} (h : SlAt w B 59 10 (.slice (some ⟨b, o, none⟩) n c) n (fdsV fs)) (hn : fs.length = n) (hq : fs[q]? = some f) (hj : j < 10) (hu : (fdV f)[j]? = some u) : w.cell? ⟨b, o + q * 10 + j, none⟩ = some u := by
  have hl := (List.getElem?_eq_some_iff.1 hq).1
  obtain ⟨A', c', e1, _, _, _, hc⟩ := h.ex
  cases e1
  obtain ⟨b1, o1, e2, _, _, hcell⟩ := hc (by omega)
  cases e2
  have := hcell (q * 10 + j) u ((fdsV_get hq hj).trans hu)
  rw [show o + (q * 10 + j) = o + q * 10 + j by omega] at this
  exact this
structure MeF (n0 n1 B bb ob : Nat) (b : Sp) (c : Nat) (z : Fld) (w : World) : Prop where
  bx : w.heap[n0]? = some (.cells (spC (.slice (some ⟨bb, ob, none⟩) b.fields.length c) b.fin b.why) 99 (0, 0))
  cp : w.heap[n1]? = some (.cells (fdV z).toArray 59 (0, 0))
  sl : SlAt w B 59 10 (.slice (some ⟨bb, ob, none⟩) b.fields.length c) b.fields.length (fdsV b.fields)
theorem MeF.kept {n0 n1 B bb ob : Nat} {b : Sp} {c : Nat} {z : Fld} {w w' : World} {g g' : Bl} (h : MeF n0 n1 B bb ob b c z w) (hk : Kept w B g w' g') (ht : KeptT w w') : MeF n0 n1 B bb ob b c z w' :=
  ⟨ht.block _ _ _ h.bx (by unfold Apart5; decide), ht.block _ _ _ h.cp (by unfold Apart5; decide), hk.fields h.sl⟩
structure LoMe (w0 : World) (B P : Nat) (g : Bl) (s : T) (a b : Sp) (va vb : Value) (y : W64) (n : Nat) (kv : Value) (wr : World) : Prop where
  ex : ∃ k gk sk, k ≤ a.fields.length ∧ kv = .int .i64 (k : Nat) ∧ MeM w0 B P g a b va vb wr gk sk ∧ Rw.PrS s b.fields y a.fields n k sk
set_option maxRecDepth 100000 in
set_option maxHeartbeats 4000000 in
theorem meet_any (P B n : Nat) (g : Bl) (s : T) (a b : Sp) (va vb : Value) (y : W64) (w : World) (h : Tb w B P g s) (hwf : Wf s.rows) (hB : B ≤ w.heap.size) (hva : SlAt w B 59 10 va a.fields.length (fdsV a.fields)) (hvb : SlAt w B 59 10 vb b.fields.length (fdsV b.fields))
    (hfa : a.fin < s.rows.length) (hfb : b.fin < s.rows.length) (hfa1 : -1 ≤ a.fin) (hfb1 : -1 ≤ b.fin) (hz : Sz s n) (hn : 4 * (n + a.fields.length + b.fields.length) + 100 ≤ 400000000) :
    Calls Tryz.prog 72 #[.pointer (some ⟨P, 0, none⟩), .agg (spC va a.fin a.why), .agg (spC vb b.fin b.why), whyV y] w fun e w' => RetS (.bool (s.meet a b y).1) w B P g (s.meet a b y).2 e w' := by
  obtain ⟨hb2, e0, e1, hs2⟩ := boxes2' w (.cells (spC va a.fin a.why) 99) (.cells (spC vb b.fin b.why) 99)
  have hM : MeM w B P g a b va vb ((w.alloc (.cells (spC va a.fin a.why) 99)).alloc (.cells (spC vb b.fin b.why) 99)) g s :=
    ⟨((Sg.refl h hB).below hb2).1, e0, e1, hva.below hb2, hvb.below hb2⟩
  obtain ⟨Aa, ca, rfl, h1a, h1b, _⟩ := hva.ex
  obtain ⟨Ab, cb, rfl, h2a, h2b, _⟩ := hvb.ex
  have HM := hide hM
  obtain ⟨k0, k1, k2⟩ := spC_cells hM.ba
  clear hM hb2 e0 e1 hs2 hva hvb h
  obtain ⟨res, hres⟩ : ∃ res, res = s.meet a b y := ⟨_, rfl⟩
  rw [← hres]
  have HRes := hide hres
  have HZ := hide hz
  clear hres hz
  unfold whyV at *
  have hsc : ∀ v f (z : W64), spC v f z = #[v, .int .i64 f, .int .u64 (z.toNat : Nat)] := fun _ _ _ => rfl
  rw [hsc, hsc] at k0 k1 k2 ⊢
  clear hsc
  have hal : a.fields.length ≤ 400000000 := by omega
  go_enter Tryz.func72, Tryz.ntmps72
  go_wp2_with fail
  generalize hW : (w.alloc (.cells #[.slice Aa a.fields.length ca, .int .i64 a.fin, .int .u64 (a.why.toNat : Nat)] 99)).alloc (.cells #[.slice Ab b.fields.length cb, .int .i64 b.fin, .int .u64 (b.why.toNat : Nat)] 99) = W at *
  go_loopw [18] (fun kv wr => LoMe w B P g s a b (.slice Aa a.fields.length ca) (.slice Ab b.fields.length cb) y n kv wr) (fun kv _ => a.fields.length - (intOf kv).toNat)
  case atStart => exact ⟨0, g, s, Nat.zero_le _, rfl, by rw [← hW]; exact HM.out, Rw.PrS.start HZ.out⟩
  case round =>
    obtain ⟨k, gk, sk, hk, rfl, hM, hT⟩ := hrel
    by_cases hlt : k < a.fields.length
    · obtain ⟨z, hf⟩ : ∃ z, a.fields[k]? = some z := ⟨a.fields[k], List.getElem?_eq_getElem hlt⟩
      obtain ⟨A', c', e1, _, _, _, hc⟩ := hM.fa.ex
      cases e1
      obtain ⟨b1, off, rfl, _, _, hcell⟩ := hc (by omega)
      have z0 := hcell (k * 10 + 0) (.string z.name) ((fdsV_get hf (by omega)).trans rfl)
      rw [show off + (k * 10 + 0) = off + k * 10 by omega] at z0
      have z1 := hcell (k * 10 + 1) (.int .i64 z.at_.var) ((fdsV_get hf (by omega)).trans rfl)
      rw [show off + (k * 10 + 1) = off + k * 10 + 1 by omega] at z1
      have z2 := hcell (k * 10 + 2) (.int .u64 z.at_.el.e0) ((fdsV_get hf (by omega)).trans rfl)
      rw [show off + (k * 10 + 2) = off + k * 10 + 2 by omega] at z2
      have z3 := hcell (k * 10 + 3) (.int .u64 z.at_.el.e1) ((fdsV_get hf (by omega)).trans rfl)
      rw [show off + (k * 10 + 3) = off + k * 10 + 3 by omega] at z3
      have z4 := hcell (k * 10 + 4) (.int .u64 z.at_.el.e2) ((fdsV_get hf (by omega)).trans rfl)
      rw [show off + (k * 10 + 4) = off + k * 10 + 4 by omega] at z4
      have z5 := hcell (k * 10 + 5) (.int .u64 z.at_.el.e3) ((fdsV_get hf (by omega)).trans rfl)
      rw [show off + (k * 10 + 5) = off + k * 10 + 5 by omega] at z5
      have z6 := hcell (k * 10 + 6) (.int .u64 z.at_.el.e4) ((fdsV_get hf (by omega)).trans rfl)
      rw [show off + (k * 10 + 6) = off + k * 10 + 6 by omega] at z6
      have z7 := hcell (k * 10 + 7) (.int .u64 z.at_.el.e5) ((fdsV_get hf (by omega)).trans rfl)
      rw [show off + (k * 10 + 7) = off + k * 10 + 7 by omega] at z7
      have z8 := hcell (k * 10 + 8) (.int .u64 z.at_.el.e6) ((fdsV_get hf (by omega)).trans rfl)
      rw [show off + (k * 10 + 8) = off + k * 10 + 8 by omega] at z8
      have z9 := hcell (k * 10 + 9) (.int .u64 z.at_.el.e7) ((fdsV_get hf (by omega)).trans rfl)
      rw [show off + (k * 10 + 9) = off + k * 10 + 9 by omega] at z9
      have hq0 : (k : Int) < a.fields.length := by omega
      have hq1 : (0 : Int) ≤ k := by omega
      have hM8 := hM.below (below_laid wr (.cells #[.string z.name, .int .i64 z.at_.var, .int .u64 z.at_.el.e0, .int .u64 z.at_.el.e1, .int .u64 z.at_.el.e2, .int .u64 z.at_.el.e3, .int .u64 z.at_.el.e4, .int .u64 z.at_.el.e5, .int .u64 z.at_.el.e6, .int .u64 z.at_.el.e7] 59))
      have e8 := heap_alloc_new wr (.cells #[.string z.name, .int .i64 z.at_.var, .int .u64 z.at_.el.e0, .int .u64 z.at_.el.e1, .int .u64 z.at_.el.e2, .int .u64 z.at_.el.e3, .int .u64 z.at_.el.e4, .int .u64 z.at_.el.e5, .int .u64 z.at_.el.e6, .int .u64 z.at_.el.e7] 59)
      obtain ⟨m0, m1, m2⟩ := spC_cells hM8.bb
      have HN := hide (And.intro hM8 (And.intro hT (And.intro hf e8)))
      have HFd := hide (find_any B b.fields (.slice Ab b.fields.length cb) b.fin b.why z.name _ hM8.fb)
      unfold spC at HFd
      clear hM hM8 hT hf hcell hc e8 k0 k1 k2
      by_cases hq : Rw.findI b.fields z.name < 0
      · have HQ := hide (HN.out.2.1.skip HN.out.2.2.1 hq)
        generalize Rw.findI b.fields z.name = fi at *
        have hd0 : decide (0 ≤ fi) = false := by simp; omega
        go_wp2_with (go_at_call 33; refine (HFd.out).mono ?_; rintro e w2 ⟨rfl, hb2⟩; have H2 := hide hb2; clear hb2)
        exact ⟨⟨k + 1, gk, sk, by omega, rfl, HN.out.1.below H2.out, HQ.out⟩, by simp [intOf]; omega⟩
      · obtain ⟨q, gg, hqi, hgq, hgf⟩ := Rw.findI_pos hq
        have HQ := hide (HN.out.2.1.step HN.out.2.2.1 hgf)
        rw [hqi] at HFd
        have hql := (List.getElem?_eq_some_iff.1 hgq).1
        have hq2 : (q : Int) < b.fields.length := by omega
        have hq3 : (0 : Int) ≤ q := by omega
        have hd0 : decide ((0 : Int) ≤ q) = true := by simp
        have HG := hide hgq
        clear hq hgf hqi hgq
        go_upto_region 6 with (go_at_call 33; refine (HFd.out).mono ?_; rintro e w2 ⟨rfl, hb2⟩; have H2 := hide hb2; clear hb2)
        have hV := HN.out.1.below H2.out
        have e8v := (H2.out.block _ (blk_lt HN.out.2.2.2)).trans HN.out.2.2.2
        clear m0 m1 m2
        generalize hVV : w2 = V at *
        clear hVV
        obtain ⟨A', c', e1, _, _, _, hc⟩ := hV.fb.ex
        cases e1
        obtain ⟨bb, ob, rfl, _, _, _⟩ := hc (by omega)
        have hgq := HG.out
        have hm0 : ∀ u : HoldW (MeF (w.heap.size + 1) wr.heap.size B bb ob b cb z), u.w.cell? ⟨w.heap.size + 1, 0, none⟩ = some (.slice (some ⟨bb, ob, none⟩) b.fields.length cb) := fun u => (spC_cells u.ok.bx).1
        have hF0 : MeF (w.heap.size + 1) wr.heap.size B bb ob b cb z V.drew := ⟨(hV.below (below_drewN (Below.refl _ _) 1)).bb, e8v, (hV.below (below_drewN (Below.refl _ _) 1)).fb⟩
        have ha1 : ∀ u : HoldW (MeF (w.heap.size + 1) wr.heap.size B bb ob b cb z), u.w.cell? ⟨wr.heap.size, 1, none⟩ = some (.int .i64 z.at_.var) := fun u => by rw [cell_block u.ok.cp]; rfl
        have ha2 : ∀ u : HoldW (MeF (w.heap.size + 1) wr.heap.size B bb ob b cb z), u.w.cell? ⟨wr.heap.size, 2, none⟩ = some (.int .u64 z.at_.el.e0) := fun u => by rw [cell_block u.ok.cp]; rfl
        have ha3 : ∀ u : HoldW (MeF (w.heap.size + 1) wr.heap.size B bb ob b cb z), u.w.cell? ⟨wr.heap.size, 3, none⟩ = some (.int .u64 z.at_.el.e1) := fun u => by rw [cell_block u.ok.cp]; rfl
        have ha4 : ∀ u : HoldW (MeF (w.heap.size + 1) wr.heap.size B bb ob b cb z), u.w.cell? ⟨wr.heap.size, 4, none⟩ = some (.int .u64 z.at_.el.e2) := fun u => by rw [cell_block u.ok.cp]; rfl
        have ha5 : ∀ u : HoldW (MeF (w.heap.size + 1) wr.heap.size B bb ob b cb z), u.w.cell? ⟨wr.heap.size, 5, none⟩ = some (.int .u64 z.at_.el.e3) := fun u => by rw [cell_block u.ok.cp]; rfl
        have ha6 : ∀ u : HoldW (MeF (w.heap.size + 1) wr.heap.size B bb ob b cb z), u.w.cell? ⟨wr.heap.size, 6, none⟩ = some (.int .u64 z.at_.el.e4) := fun u => by rw [cell_block u.ok.cp]; rfl
        have ha7 : ∀ u : HoldW (MeF (w.heap.size + 1) wr.heap.size B bb ob b cb z), u.w.cell? ⟨wr.heap.size, 7, none⟩ = some (.int .u64 z.at_.el.e5) := fun u => by rw [cell_block u.ok.cp]; rfl
        have ha8 : ∀ u : HoldW (MeF (w.heap.size + 1) wr.heap.size B bb ob b cb z), u.w.cell? ⟨wr.heap.size, 8, none⟩ = some (.int .u64 z.at_.el.e6) := fun u => by rw [cell_block u.ok.cp]; rfl
        have ha9 : ∀ u : HoldW (MeF (w.heap.size + 1) wr.heap.size B bb ob b cb z), u.w.cell? ⟨wr.heap.size, 9, none⟩ = some (.int .u64 z.at_.el.e7) := fun u => by rw [cell_block u.ok.cp]; rfl
        have hb1 : ∀ u : HoldW (MeF (w.heap.size + 1) wr.heap.size B bb ob b cb z), u.w.cell? ⟨bb, ob + q * 10 + 1, none⟩ = some (.int .i64 gg.at_.var) := fun u => u.ok.sl.fcell rfl hgq (by omega) rfl
        have hb2 : ∀ u : HoldW (MeF (w.heap.size + 1) wr.heap.size B bb ob b cb z), u.w.cell? ⟨bb, ob + q * 10 + 2, none⟩ = some (.int .u64 gg.at_.el.e0) := fun u => u.ok.sl.fcell rfl hgq (by omega) rfl
        have hb3 : ∀ u : HoldW (MeF (w.heap.size + 1) wr.heap.size B bb ob b cb z), u.w.cell? ⟨bb, ob + q * 10 + 3, none⟩ = some (.int .u64 gg.at_.el.e1) := fun u => u.ok.sl.fcell rfl hgq (by omega) rfl
        have hb4 : ∀ u : HoldW (MeF (w.heap.size + 1) wr.heap.size B bb ob b cb z), u.w.cell? ⟨bb, ob + q * 10 + 4, none⟩ = some (.int .u64 gg.at_.el.e2) := fun u => u.ok.sl.fcell rfl hgq (by omega) rfl
        have hb5 : ∀ u : HoldW (MeF (w.heap.size + 1) wr.heap.size B bb ob b cb z), u.w.cell? ⟨bb, ob + q * 10 + 5, none⟩ = some (.int .u64 gg.at_.el.e3) := fun u => u.ok.sl.fcell rfl hgq (by omega) rfl
        have hb6 : ∀ u : HoldW (MeF (w.heap.size + 1) wr.heap.size B bb ob b cb z), u.w.cell? ⟨bb, ob + q * 10 + 6, none⟩ = some (.int .u64 gg.at_.el.e4) := fun u => u.ok.sl.fcell rfl hgq (by omega) rfl
        have hb7 : ∀ u : HoldW (MeF (w.heap.size + 1) wr.heap.size B bb ob b cb z), u.w.cell? ⟨bb, ob + q * 10 + 7, none⟩ = some (.int .u64 gg.at_.el.e5) := fun u => u.ok.sl.fcell rfl hgq (by omega) rfl
        have hb8 : ∀ u : HoldW (MeF (w.heap.size + 1) wr.heap.size B bb ob b cb z), u.w.cell? ⟨bb, ob + q * 10 + 8, none⟩ = some (.int .u64 gg.at_.el.e6) := fun u => u.ok.sl.fcell rfl hgq (by omega) rfl
        have hb9 : ∀ u : HoldW (MeF (w.heap.size + 1) wr.heap.size B bb ob b cb z), u.w.cell? ⟨bb, ob + q * 10 + 9, none⟩ = some (.int .u64 gg.at_.el.e7) := fun u => u.ok.sl.fcell rfl hgq (by omega) rfl
        have HP := hide (pair_any P B gk sk z.at_ gg.at_ y V.drew (hV.sg.below (below_drewN (Below.refl _ _) 1)).1.tb hV.sg.ge (by have := HN.out.2.1.sz.eqs; omega) (by have := HN.out.2.1.sz.undo; omega))
        unfold atC whyV at HP
        have HVV := hide (And.intro (hV.below (below_drewN (Below.refl _ _) 1)) hF0)
        clear hc hgq e8v hF0
        refine wp_region_chain [0, 1, 2, 3, 4, 5, 6, 7, 8, 9] [(10, true)] (MeF (w.heap.size + 1) wr.heap.size B bb ob b cb z) (by kernel_rfl) (by kernel_rfl) (fun _ _ _ _ _ h => h) HVV.out.2 ?_
        intro hne
        simp only [picks, picksW, List.filterMap_cons, List.filterMap_nil, List.getElem?_cons_zero, List.getElem?_cons_succ, Option.map_some]
        repeat (refine wpHeld_step (fun K hK => ?_); go_simp; refine hK _ ?_; clear hK K)
        refine wpHeld_nil ?_
        clear hm0 ha1 ha2 ha3 ha4 ha5 ha6 ha7 ha8 ha9 hb1 hb2 hb3 hb4 hb5 hb6 hb7 hb8 hb9 hne
        refine wpChain_cons fun K hK => ?_
        go_wp2_with (go_at_call 87; refine (HP.out).mono ?_; rintro e w3 ⟨rfl, hs3⟩; have H3 := hide hs3; clear hs3)
        obtain ⟨g3, hS3, hK3, hT3⟩ := HVV.out.1.sg.stepT H3.out
        have HM3 := hide (HVV.out.1.kept hS3 hK3 hT3)
        have HF3 := hide (HVV.out.2.kept hK3 hT3)
        clear hS3 hK3 hT3
        refine chainF (fun _ => HF3.out) (hK _ _ ?_)
        clear hK K
        refine wpChain_nil ?_
        go_wp2_with fail
        exact ⟨⟨k + 1, g3, _, by omega, rfl, HM3.out, HQ.out⟩, by simp [intOf]; omega⟩
    · obtain rfl : k = a.fields.length := by omega
      have hdn := hT.done
      have hmt := HRes.out
      rw [Rw.meet_def, hdn] at hmt
      have hms := Rw.without_len b.fields a.fields
      have hls := Rw.without_len a.fields b.fields
      have hbl : b.fields.length ≤ 400000000 := by omega
      have HW1 : Hid (∀ W, Below wr.heap.size wr W → Calls Tryz.prog 88 #[.agg #[.slice Ab b.fields.length cb, .int .i64 b.fin, .int .u64 (b.why.toNat : Nat)], .agg #[.slice Aa a.fields.length ca, .int .i64 a.fin, .int .u64 (a.why.toNat : Nat)]] W fun e w' => RetF W B (Rw.without b.fields a.fields) e w') :=
        hide fun W h => without_any B b.fields a.fields _ _ b.fin a.fin b.why a.why W (hM.below h).fb (hM.below h).fa (by omega)
      have HW2 : Hid (∀ W, Below wr.heap.size wr W → Calls Tryz.prog 88 #[.agg #[.slice Aa a.fields.length ca, .int .i64 a.fin, .int .u64 (a.why.toNat : Nat)], .agg #[.slice Ab b.fields.length cb, .int .i64 b.fin, .int .u64 (b.why.toNat : Nat)]] W fun e w' => RetF W B (Rw.without a.fields b.fields) e w') :=
        hide fun W h => without_any B a.fields b.fields _ _ a.fin b.fin a.why b.why W (hM.below h).fa (hM.below h).fb (by omega)
      have hma : ∀ u : HoldW (fun w'' => Below wr.heap.size wr w''), u.w.cell? ⟨w.heap.size, 0, none⟩ = some (.slice Aa a.fields.length ca) ∧ u.w.cell? ⟨w.heap.size, 1, none⟩ = some (.int .i64 a.fin) ∧ u.w.cell? ⟨w.heap.size, 2, none⟩ = some (.int .u64 (a.why.toNat : Nat)) := fun u => spC_cells (hM.below u.ok).ba
      have hmb : ∀ u : HoldW (fun w'' => Below wr.heap.size wr w''), u.w.cell? ⟨w.heap.size + 1, 0, none⟩ = some (.slice Ab b.fields.length cb) ∧ u.w.cell? ⟨w.heap.size + 1, 1, none⟩ = some (.int .i64 b.fin) ∧ u.w.cell? ⟨w.heap.size + 1, 2, none⟩ = some (.int .u64 (b.why.toNat : Nat)) := fun u => spC_cells (hM.below u.ok).bb
      have ha0 := fun u => (hma u).1
      have ha1 := fun u => (hma u).2.1
      have ha2 := fun u => (hma u).2.2
      have hb0 := fun u => (hmb u).1
      have hb1 := fun u => (hmb u).2.1
      have hb2 := fun u => (hmb u).2.2
      have HN := hide (And.intro hM hT)
      clear hma hmb hdn hM hT k0 k1 k2 hlt
      generalize hmo : Rw.without b.fields a.fields = more at *
      generalize hle : Rw.without a.fields b.fields = less at *
      have HE := hide (And.intro hmt (And.intro hms hls))
      clear hmo hle hmt hms hls HRes
      go_upto_region 8 with (fail)
      refine wp_region_chain [0, 1, 3, 4] [(2, true), (5, true), (6, true), (7, true)] (fun w'' => Below wr.heap.size wr w'') (by kernel_rfl) (by kernel_rfl) (fun _ _ _ _ _ h => h) (below_drewN (Below.refl _ _) 1) ?_
      intro hne
      simp only [picks, picksW, List.filterMap_cons, List.filterMap_nil, List.getElem?_cons_zero, List.getElem?_cons_succ, Option.map_some]
      repeat (refine wpHeld_step (fun K hK => ?_); go_simp; refine hK _ ?_; clear hK K)
      refine wpHeld_nil ?_
      clear ha0 ha1 ha2 hb0 hb1 hb2 hne
      have hbd : Below wr.heap.size wr wr.drew := below_drewN (Below.refl _ _) 1
      refine wpChain_cons fun K hK => ?_
      go_wp2_with (go_at_call 88; refine (HW1.out _ hbd).mono ?_; rintro e w1 ⟨⟨v1, rfl, hs1, hb1⟩⟩; obtain ⟨Am, cm, rfl, _⟩ := hs1.ex; have H1 := hide (And.intro hs1 (hbd.trans (hb1.mono hbd.size))); clear hs1 hb1)
      refine chainF (fun _ => H1.out.2) (hK _ _ ?_)
      clear hK K
      refine wpChain_cons fun K hK => ?_
      go_wp2_with (go_at_call 88; refine (HW2.out _ H1.out.2).mono ?_; rintro e w2 ⟨⟨v2, rfl, hs2, hb2⟩⟩; obtain ⟨Al, cl, rfl, _⟩ := hs2.ex; have H2 := hide (And.intro (H1.out.1.below hb2) (And.intro hs2 (H1.out.2.trans (hb2.mono H1.out.2.size)))); clear hs2 hb2)
      refine chainF (fun _ => H2.out.2.2) (hK _ _ ?_)
      clear hK K
      refine wpChain_cons fun K hK => ?_
      go_wp2_with fail
      refine chainF (fun _ => H2.out.2.2) (hK _ _ ?_)
      clear hK K
      refine wpChain_cons fun K hK => ?_
      go_wp2_with fail
      refine chainF (fun _ => H2.out.2.2) (hK _ _ ?_)
      clear hK K
      refine wpChain_nil ?_
      have hM := HN.out.1.below H2.out.2.2
      have k1 := (spC_cells hM.ba).2.1
      have k2 := (spC_cells hM.bb).2.1
      have hfa' := hfa
      have hfb' := hfb
      rw [← HN.out.2.rows] at hfa' hfb'
      have hwk : Wf sk.rows := by rw [HN.out.2.rows]; exact hwf
      have HV := hide (And.intro hM (And.intro H2.out.1 (And.intro H2.out.2.1 (And.intro hwk HN.out.2.sz))))
      have hmt := HE.out.1
      have hml := HE.out.2.1
      have hll := HE.out.2.2
      clear hM hwk H2 H1 HN HW1 HW2 hbd HE hfa hfb
      generalize hfe : a.fin = fa at *
      generalize hfe2 : b.fin = fb at *
      have HFE := hide (And.intro hfe hfe2)
      clear hfe hfe2
      generalize a.fields.length = al at *
      generalize b.fields.length = bl at *
      generalize hmll : more.length = ml at *
      generalize hlll : less.length = ll at *
      have HL := hide (And.intro hmll hlll)
      have HMt := hide hmt
      clear hmll hlll hmt
      generalize w2 = V at *
      have hmt := HMt.out
      unfold Rw.T.meetTail at hmt
      have HSt := hide (stick_any P B gk sk y V HV.out.1.sg.tb HV.out.1.sg.ge (by have := HV.out.2.2.2.2.undo; omega))
      unfold whyV at HSt
      clear HMt hW HM
      by_cases h1 : fa = fb
      · subst h1
        rw [if_pos rfl] at hmt
        rw [HL.out.1, HL.out.2] at hmt
        by_cases hs : ml + ll > 0
        · rw [if_pos hs] at hmt
          have HMt := hide hmt
          have hd : (0 : Int) < (ml : Int) + (ll : Int) := by omega
          clear hmt hs
          go_wp2_with (go_at_call 52; refine (HSt.out).mono ?_; rintro e w3 ⟨rfl, hs3⟩; have H3 := hide hs3; clear hs3)
          go_ret
          obtain ⟨g3, h3, _⟩ := HV.out.1.sg.step H3.out
          rw [HMt.out]
          exact ⟨rfl, h3.stp⟩
        · rw [if_neg hs] at hmt
          have HMt := hide hmt
          obtain rfl : ml = 0 := by omega
          obtain rfl : ll = 0 := by omega
          clear hmt hs
          go_wp2_with fail
          go_ret
          rw [HMt.out]
          exact ⟨rfl, HV.out.1.sg.stp⟩
      rw [if_neg h1] at hmt
      by_cases h2 : fa < 0
      · rw [if_pos h2] at hmt
        obtain ⟨kk, rfl⟩ : ∃ kk : Nat, fb = (kk : Nat) := ⟨fb.toNat, by omega⟩
        rw [Int.toNat_natCast] at hmt
        by_cases hm : ml = 0
        · subst hm
          obtain rfl : more = [] := List.eq_nil_of_length_eq_zero HL.out.1
          rw [if_pos rfl] at hmt
          have HBd := hide (bind_any P B kk (n + al) gk sk less (.slice Al ll cl) (-1) y V HV.out.1.sg.tb HV.out.2.2.2.1 HV.out.1.sg.ge (by omega) (by rw [HL.out.2]; exact HV.out.2.2.1) (.inl (by omega)) HV.out.2.2.2.2 (by rw [HL.out.2]; omega))
          have hgr := Rw.bind_gr (fs := less) (tail := -1) (y := y) (i := kk) HV.out.2.2.2.2 HV.out.2.2.2.1 (by omega) (.inl (by omega))
          rcases hbb : sk.bind kk less (-1) y with ⟨b1, s2⟩
          rw [hbb] at HBd hmt hgr
          have hu2 := hgr.sz.undo
          have hu3 : s2.undo.length ≤ 1000000000 := by rw [HL.out.2] at hu2; dsimp only at hu2; omega
          have HMt := hide hmt
          clear hmt hgr hbb hu2
          unfold whyV at HBd
          cases b1
          · go_wp2_with (first | (go_at_call 89; refine (HBd.out).mono ?_; rintro e w3 ⟨rfl, hs3⟩; obtain ⟨g3, hM3, _⟩ := HV.out.1.step hs3; have H3 := hide hM3; clear hs3 hM3) | (go_at_call 52; refine (stick_any P B g3 s2 y w3 H3.out.sg.tb H3.out.sg.ge hu3).mono ?_; rintro e w4 ⟨rfl, hs4⟩; have H4 := hide hs4; clear hs4))
            go_ret
            obtain ⟨g4, h4, _⟩ := H3.out.sg.step H4.out
            rw [HMt.out]
            exact ⟨rfl, h4.stp⟩
          · go_wp2_with (go_at_call 89; refine (HBd.out).mono ?_; rintro e w3 ⟨rfl, hs3⟩; obtain ⟨g3, hM3, _⟩ := HV.out.1.step hs3; have H3 := hide hM3; clear hs3 hM3)
            go_ret
            rw [HMt.out]
            exact ⟨rfl, H3.out.sg.stp⟩
        · have hnn : more ≠ [] := fun e => hm (by rw [← HL.out.1, e]; rfl)
          rw [if_neg hnn] at hmt
          have HMt := hide hmt
          clear hmt hnn
          go_wp2_with (go_at_call 52; refine (HSt.out).mono ?_; rintro e w3 ⟨rfl, hs3⟩; have H3 := hide hs3; clear hs3)
          go_ret
          obtain ⟨g3, h3, _⟩ := HV.out.1.sg.step H3.out
          rw [HMt.out]
          exact ⟨rfl, h3.stp⟩
      rw [if_neg h2] at hmt
      by_cases h3 : fb < 0
      · rw [if_pos h3] at hmt
        obtain ⟨kk, rfl⟩ : ∃ kk : Nat, fa = (kk : Nat) := ⟨fa.toNat, by omega⟩
        rw [Int.toNat_natCast] at hmt
        by_cases hm : ll = 0
        · subst hm
          obtain rfl : less = [] := List.eq_nil_of_length_eq_zero HL.out.2
          rw [if_pos rfl] at hmt
          have HBd := hide (bind_any P B kk (n + al) gk sk more (.slice Am ml cm) (-1) y V HV.out.1.sg.tb HV.out.2.2.2.1 HV.out.1.sg.ge (by omega) (by rw [HL.out.1]; exact HV.out.2.1) (.inl (by omega)) HV.out.2.2.2.2 (by rw [HL.out.1]; omega))
          have hgr := Rw.bind_gr (fs := more) (tail := -1) (y := y) (i := kk) HV.out.2.2.2.2 HV.out.2.2.2.1 (by omega) (.inl (by omega))
          rcases hbb : sk.bind kk more (-1) y with ⟨b1, s2⟩
          rw [hbb] at HBd hmt hgr
          have hu2 := hgr.sz.undo
          have hu3 : s2.undo.length ≤ 1000000000 := by rw [HL.out.1] at hu2; dsimp only at hu2; omega
          have HMt := hide hmt
          clear hmt hgr hbb hu2
          unfold whyV at HBd
          cases b1
          · go_wp2_with (first | (go_at_call 89; refine (HBd.out).mono ?_; rintro e w3 ⟨rfl, hs3⟩; obtain ⟨g3, hM3, _⟩ := HV.out.1.step hs3; have H3 := hide hM3; clear hs3 hM3) | (go_at_call 52; refine (stick_any P B g3 s2 y w3 H3.out.sg.tb H3.out.sg.ge hu3).mono ?_; rintro e w4 ⟨rfl, hs4⟩; have H4 := hide hs4; clear hs4))
            go_ret
            obtain ⟨g4, h4, _⟩ := H3.out.sg.step H4.out
            rw [HMt.out]
            exact ⟨rfl, h4.stp⟩
          · go_wp2_with (go_at_call 89; refine (HBd.out).mono ?_; rintro e w3 ⟨rfl, hs3⟩; obtain ⟨g3, hM3, _⟩ := HV.out.1.step hs3; have H3 := hide hM3; clear hs3 hM3)
            go_ret
            rw [HMt.out]
            exact ⟨rfl, H3.out.sg.stp⟩
        · have hnn : less ≠ [] := fun e => hm (by rw [← HL.out.2, e]; rfl)
          rw [if_neg hnn] at hmt
          have HMt := hide hmt
          clear hmt hnn
          go_wp2_with (go_at_call 52; refine (HSt.out).mono ?_; rintro e w3 ⟨rfl, hs3⟩; have H3 := hide hs3; clear hs3)
          go_ret
          obtain ⟨g3, h3, _⟩ := HV.out.1.sg.step H3.out
          rw [HMt.out]
          exact ⟨rfl, h3.stp⟩
      rw [if_neg h3] at hmt
      obtain ⟨ka, rfl⟩ : ∃ ka : Nat, fa = (ka : Nat) := ⟨fa.toNat, by omega⟩
      obtain ⟨kb, rfl⟩ : ∃ kb : Nat, fb = (kb : Nat) := ⟨fb.toNat, by omega⟩
      rw [Int.toNat_natCast, Int.toNat_natCast] at hmt
      have hrk : sk.rows.length ≤ 1000000000 := by have := HV.out.2.2.2.2.rows; omega
      have HFr := hide (fresh_any P B gk sk V HV.out.1.sg.tb HV.out.1.sg.ge hrk (by have := HV.out.2.2.2.2.undo; omega))
      obtain ⟨fw, fl, fo, fz⟩ := Rw.fresh_gr HV.out.2.2.2.2 HV.out.2.2.2.1
      have hgr := Rw.bind_gr (fs := more) (tail := (sk.rows.length : Nat)) (y := y) (i := ka) fz fw (by omega) (.inr ⟨by omega, by omega⟩)
      rcases hb1 : sk.fresh.bind ka more (sk.rows.length : Nat) y with ⟨b1, s2⟩
      rw [hb1] at hmt hgr
      have HB1 : Hid (∀ g3 w3, MeM w B P g a b (.slice Aa al ca) (.slice Ab bl cb) w3 g3 sk.fresh → SlAt w3 B 59 10 (.slice Am ml cm) ml (fdsV more) → Calls Tryz.prog 89 #[.pointer (some ⟨P, 0, none⟩), .int .i64 (ka : Nat), .slice Am ml cm, .int .i64 (sk.rows.length : Nat), .int .u64 (y.toNat : Nat)] w3 fun e w' => RetS (.bool b1) w3 B P g3 s2 e w') := hide fun g3 w3 h h' => by
        have := bind_any P B ka (n + al + 1) g3 sk.fresh more (.slice Am ml cm) (sk.rows.length : Nat) y w3 h.sg.tb fw h.sg.ge (by omega) (by rw [HL.out.1]; exact h') (.inr ⟨by omega, by omega⟩) fz (by rw [HL.out.1]; omega)
        rw [hb1] at this
        exact this
      dsimp only at hgr
      have hgs := hgr.sz
      rw [HL.out.1] at hgs
      cases b1
      · have HMt := hide hmt
        clear hmt hgs hgr hb1 fz fw fl fo
        go_wp2_with (first | (go_at_call 46; refine (HFr.out).mono ?_; rintro e w3 ⟨⟨rfl, hs3⟩, _⟩; obtain ⟨g3, hM3, hK3⟩ := HV.out.1.step hs3; have c1' : w3.cell? ⟨w.heap.size, 1, none⟩ = some (.int .i64 (ka : Nat)) := (by rw [← HFE.out.1]; exact (spC_cells hM3.ba).2.1); have H3 := hide (And.intro hM3 (hK3.fields HV.out.2.1)); clear hs3 hM3 hK3) | (go_at_call 89; refine (HB1.out g3 w3 H3.out.1 H3.out.2).mono ?_; rintro e w4 ⟨rfl, hs4⟩; have H4 := hide hs4; clear hs4))
        go_ret
        obtain ⟨g4, h4, _⟩ := H3.out.1.sg.step H4.out
        rw [HMt.out]
        exact ⟨rfl, h4.stp⟩
      · dsimp only at hmt
        have HB2 : Hid (∀ g4 w4, MeM w B P g a b (.slice Aa al ca) (.slice Ab bl cb) w4 g4 s2 → SlAt w4 B 59 10 (.slice Al ll cl) ll (fdsV less) → Calls Tryz.prog 89 #[.pointer (some ⟨P, 0, none⟩), .int .i64 (kb : Nat), .slice Al ll cl, .int .i64 (sk.rows.length : Nat), .int .u64 (y.toNat : Nat)] w4 fun e w' => RetS (.bool (s2.bind kb less (sk.rows.length : Nat) y).1) w4 B P g4 (s2.bind kb less (sk.rows.length : Nat) y).2 e w') := hide fun g4 w4 h h' => by
          have hl2 := hgr.len
          exact bind_any P B kb _ g4 s2 less (.slice Al ll cl) (sk.rows.length : Nat) y w4 h.sg.tb hgr.wf h.sg.ge (by omega) (by rw [HL.out.2]; exact h') (.inr ⟨by omega, by omega⟩) hgs (by rw [HL.out.2]; omega)
        rcases hb2 : s2.bind kb less (sk.rows.length : Nat) y with ⟨b2, s3⟩
        rw [hb2] at HB2 hmt
        have HMt := hide hmt
        clear hmt hgs hgr hb1 hb2 fz fw fl fo
        go_wp2_with (first | (go_at_call 46; refine (HFr.out).mono ?_; rintro e w3 ⟨⟨rfl, hs3⟩, _⟩; obtain ⟨g3, hM3, hK3⟩ := HV.out.1.step hs3; have c1' : w3.cell? ⟨w.heap.size, 1, none⟩ = some (.int .i64 (ka : Nat)) := (by rw [← HFE.out.1]; exact (spC_cells hM3.ba).2.1); have H3 := hide (And.intro hM3 (And.intro (hK3.fields HV.out.2.1) (hK3.fields HV.out.2.2.1))); clear hs3 hM3 hK3) | (go_at_call 89; with_reducible refine (HB1.out g3 w3 H3.out.1 H3.out.2.1).mono ?_; rintro e w4 ⟨rfl, hs4⟩; obtain ⟨g4, hM4, hK4⟩ := H3.out.1.step hs4; have c2' : w4.cell? ⟨w.heap.size + 1, 1, none⟩ = some (.int .i64 (kb : Nat)) := (by rw [← HFE.out.2]; exact (spC_cells hM4.bb).2.1); have H4 := hide (And.intro hM4 (hK4.fields H3.out.2.2)); clear hs4 hM4 hK4) | (go_at_call 89; with_reducible refine (HB2.out g4 w4 H4.out.1 H4.out.2).mono ?_; rintro e w5 ⟨rfl, hs5⟩; have H5 := hide hs5; clear hs5))
        go_ret
        obtain ⟨g5, h5, _⟩ := H4.out.1.sg.step H5.out
        rw [HMt.out]
        exact ⟨rfl, h5.stp⟩
end Go.Proofs.YthnbhcfpfbimgaaGreat
