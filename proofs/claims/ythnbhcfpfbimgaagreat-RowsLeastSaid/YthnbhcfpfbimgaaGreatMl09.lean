/- Texts put together: RwBindW. -/
import Derived.Test.YthnbhcfpfbimgaaGreatMl08
/- The walk of bind. (Does not build yet.) -/
namespace Go.Proofs.YthnbhcfpfbimgaaGreat
open Go.RowKit
open Rw (El At Fld Lk Eqn U T W64 Sp Wf tot Sz Nx)
/-- What a bind's walk keeps behind its stores. -/
structure BdM (w0 : World) (B P : Nat) (g : Bl) (nb nx : Nat) (x : Rw.Row) (v12 : Value × Value) (fs : List Fld) (v : Value) (wr : World) (g1 : Bl) (s1 : T) : Prop where
  sg : Sg w0 B P g wr g1 s1
  pb : PBox wr P nb
  cp : wr.heap[nx]? = some (.cells (rowV x v12).toArray 133 (0, 0))
  ne : g1.r ≠ some nx
  ra : RowAt wr B x v12
  fl : SlAt wr B 59 10 v fs.length (fdsV fs)
theorem BdM.kept {w0 : World} {B P : Nat} {g : Bl} {nb nx : Nat} {x : Rw.Row} {v12 : Value × Value} {fs : List Fld} {v : Value} {wr w2 : World} {g1 g2 : Bl} {s1 s2 : T} (h : BdM w0 B P g nb nx x v12 fs v wr g1 s1) (hs : Sg w0 B P g w2 g2 s2) (hk : Kept wr B g1 w2 g2) : BdM w0 B P g nb nx x v12 fs v w2 g2 s2 :=
  ⟨hs, hk.pbox h.pb, (hk.block _ (blk_lt h.cp) (.inr ⟨_, _, h.cp, .inr (.inr (.inr (.inr (.inr ⟨rfl, h.ne⟩))))⟩)).trans h.cp, hk.r _ (blk_lt h.cp) h.ne, hk.rowAt h.ra, hk.fields h.fl⟩
theorem BdM.below {w0 : World} {B P : Nat} {g : Bl} {nb nx : Nat} {x : Rw.Row} {v12 : Value × Value} {fs : List Fld} {v : Value} {wr w2 : World} {g1 : Bl} {s1 : T} (h : BdM w0 B P g nb nx x v12 fs v wr g1 s1) (hb : Below wr.heap.size wr w2) : BdM w0 B P g nb nx x v12 fs v w2 g1 s1 :=
  h.kept (h.sg.below hb).1 (h.sg.below hb).2
theorem BdM.step {w0 : World} {B P : Nat} {g : Bl} {nb nx : Nat} {x : Rw.Row} {v12 : Value × Value} {fs : List Fld} {v : Value} {wr w2 : World} {g1 : Bl} {s1 s2 : T} (h : BdM w0 B P g nb nx x v12 fs v wr g1 s1) (hb : Stp wr B P g1 s2 w2) : ∃ g2, BdM w0 B P g nb nx x v12 fs v w2 g2 s2 := by
  obtain ⟨g2, h1, h2⟩ := h.sg.step hb
  exact ⟨g2, h.kept h1 h2⟩
structure Bd3 (w0 : World) (B P : Nat) (g : Bl) (nb nx : Nat) (x : Rw.Row) (v12 : Value × Value) (fs : List Fld) (v : Value) (tail : Int) (L : List (ByteArray × W64)) (len N : Nat) (R : Bool × T) (lo hi : Nat) (qv : Value) (wr : World) : Prop where
  ex : ∃ q gq sq, q ≤ hi ∧ qv = .int .i64 (q : Nat) ∧ BdM w0 B P g nb nx x v12 fs v wr gq sq ∧ Rw.LaS tail L len N (lo + q) R sq
set_option maxRecDepth 100000 in
set_option maxHeartbeats 4000000 in
theorem bind_any (P B i n : Nat) (g : Bl) (s : T) (fs : List Fld) (v : Value) (tail : Int) (y : W64) (w : World) (h : Tb w B P g s) (hwf : Wf s.rows) (hB : B ≤ w.heap.size) (hi : i < s.rows.length) (hv : SlAt w B 59 10 v fs.length (fdsV fs)) (ht : tail < 0 ∨ ((i : Int) < tail ∧ tail < s.rows.length)) (hz : Sz s n) (hn : n + fs.length ≤ 400000000) :
    Calls Tryz.prog 89 #[.pointer (some ⟨P, 0, none⟩), .int .i64 (i : Nat), v, .int .i64 tail, whyV y] w fun e w' => RetS (.bool (s.bind i fs tail y).1) w B P g (s.bind i fs tail y).2 e w' := by
  have hmf := @makes Tryz.prog
  obtain ⟨hb3, e0, e1, hs3⟩ := boxes2' w (.cells #[.pointer (some ⟨P, 0, none⟩)] 38) (.cells #[.int .i64 (i : Nat)] 3)
  obtain ⟨x, hx⟩ : ∃ x, s.rows[i]? = some x := ⟨s.rows[i], List.getElem?_eq_getElem hi⟩
  obtain ⟨vu, vt, vr, vo, ve, vs, fu, hxt⟩ := h
  obtain ⟨hS0, hK0⟩ := (Sg.refl ⟨vu, vt, vr, vo, ve, vs, fu, hxt⟩ hB).below hb3
  have hx0 := hxt.below hb3
  have hp0 : PBox _ P w.heap.size := e0
  have hi0 := hxt.ibox (by omega) e1
  obtain ⟨A1, c1, e1', h1a, h1b, _⟩ := hv.ex
  obtain rfl : v = .slice A1 fs.length c1 := e1'
  obtain ⟨br, cr, v1, v2, rfl, hvk, hra, t0, t1, t2, t3, t4, tf, htl, htB, htP⟩ := hx0.rowCells hx
  obtain ⟨Af, cf, ef, hfa, hfb, _⟩ := hra.fields.ex
  obtain rfl : v1 = .slice Af x.fields.length cf := ef
  obtain ⟨A2, c2', e2, h2a, h2b, _⟩ := hra.lacks.ex
  obtain rfl : v2 = .slice A2 x.lacks.length c2' := e2
  have k0 := hp0.cell
  have i0 := hi0.cell
  have c3 := hx0.cells.2.2.1
  have hk0 : (i : Int) < s.rows.length := by omega
  have hk1 : (0 : Int) ≤ i := by omega
  have H0 := hide (And.intro hx0 (And.intro hS0 (And.intro hp0 (And.intro hi0 (And.intro hra (And.intro (hv.below hb3) (And.intro hvk (And.intro htl (And.intro htB htP)))))))))
  clear hx0 hS0 hp0 hi0 hra hvk htl htB htP e0 e1 hs3 hxt hB hK0 tf hv hb3
  obtain ⟨res, hres⟩ : ∃ res, res = s.bind i fs tail y := ⟨_, rfl⟩
  rw [← hres]
  have HRes := hide hres
  clear hres
  unfold whyV at *
  go_enter Tryz.func89, Tryz.ntmps89
  go_upto_region 1 with (fail)
  generalize hW : (w.alloc (.cells #[.pointer (some ⟨P, 0, none⟩)] 38)).alloc (.cells #[.int .i64 (i : Nat)] 3) = W at *
  clear hW
  obtain ⟨F, hF, hFF⟩ : ∃ F : World → Prop, (∀ w'', F w'' ↔ w''.cell? ⟨w.heap.size, 0, none⟩ = some (.pointer (some ⟨P, 0, none⟩)) ∧ w''.cell? ⟨P, 2, none⟩ = some (.slice (some ⟨br, 0, none⟩) s.rows.length cr) ∧ w''.cell? ⟨w.heap.size + 1, 0, none⟩ = some (.int .i64 (i : Nat)) ∧ w''.cell? ⟨br, i * 5, none⟩ = some (.bool x.bound) ∧ w''.cell? ⟨br, i * 5 + 1, none⟩ = some (.slice Af x.fields.length cf) ∧ w''.cell? ⟨br, i * 5 + 2, none⟩ = some (.int .i64 x.tail) ∧ w''.cell? ⟨br, i * 5 + 3, none⟩ = some (.int .u64 (x.why.toNat : Nat)) ∧ w''.cell? ⟨br, i * 5 + 4, none⟩ = some (.slice A2 x.lacks.length c2')) ∧ ∀ u : HoldW F, u.w.cell? ⟨w.heap.size, 0, none⟩ = some (.pointer (some ⟨P, 0, none⟩)) ∧ u.w.cell? ⟨P, 2, none⟩ = some (.slice (some ⟨br, 0, none⟩) s.rows.length cr) ∧ u.w.cell? ⟨w.heap.size + 1, 0, none⟩ = some (.int .i64 (i : Nat)) ∧ u.w.cell? ⟨br, i * 5, none⟩ = some (.bool x.bound) ∧ u.w.cell? ⟨br, i * 5 + 1, none⟩ = some (.slice Af x.fields.length cf) ∧ u.w.cell? ⟨br, i * 5 + 2, none⟩ = some (.int .i64 x.tail) ∧ u.w.cell? ⟨br, i * 5 + 3, none⟩ = some (.int .u64 (x.why.toNat : Nat)) ∧ u.w.cell? ⟨br, i * 5 + 4, none⟩ = some (.slice A2 x.lacks.length c2') := ⟨fun w'' => w''.cell? ⟨w.heap.size, 0, none⟩ = some (.pointer (some ⟨P, 0, none⟩)) ∧ w''.cell? ⟨P, 2, none⟩ = some (.slice (some ⟨br, 0, none⟩) s.rows.length cr) ∧ w''.cell? ⟨w.heap.size + 1, 0, none⟩ = some (.int .i64 (i : Nat)) ∧ w''.cell? ⟨br, i * 5, none⟩ = some (.bool x.bound) ∧ w''.cell? ⟨br, i * 5 + 1, none⟩ = some (.slice Af x.fields.length cf) ∧ w''.cell? ⟨br, i * 5 + 2, none⟩ = some (.int .i64 x.tail) ∧ w''.cell? ⟨br, i * 5 + 3, none⟩ = some (.int .u64 (x.why.toNat : Nat)) ∧ w''.cell? ⟨br, i * 5 + 4, none⟩ = some (.slice A2 x.lacks.length c2'), fun _ => Iff.rfl, fun u => u.ok⟩
  have hu0 : ∀ u : HoldW F, u.w.cell? ⟨w.heap.size, 0, none⟩ = some (.pointer (some ⟨P, 0, none⟩)) := fun u => (hFF u).1
  have hu1 : ∀ u : HoldW F, u.w.cell? ⟨P, 2, none⟩ = some (.slice (some ⟨br, 0, none⟩) s.rows.length cr) := fun u => (hFF u).2.1
  have hu2 : ∀ u : HoldW F, u.w.cell? ⟨w.heap.size + 1, 0, none⟩ = some (.int .i64 (i : Nat)) := fun u => (hFF u).2.2.1
  have hu3 : ∀ u : HoldW F, u.w.cell? ⟨br, i * 5, none⟩ = some (.bool x.bound) := fun u => (hFF u).2.2.2.1
  have hu4 : ∀ u : HoldW F, u.w.cell? ⟨br, i * 5 + 1, none⟩ = some (.slice Af x.fields.length cf) := fun u => (hFF u).2.2.2.2.1
  have hu5 : ∀ u : HoldW F, u.w.cell? ⟨br, i * 5 + 2, none⟩ = some (.int .i64 x.tail) := fun u => (hFF u).2.2.2.2.2.1
  have hu6 : ∀ u : HoldW F, u.w.cell? ⟨br, i * 5 + 3, none⟩ = some (.int .u64 (x.why.toNat : Nat)) := fun u => (hFF u).2.2.2.2.2.2.1
  have hu7 : ∀ u : HoldW F, u.w.cell? ⟨br, i * 5 + 4, none⟩ = some (.slice A2 x.lacks.length c2') := fun u => (hFF u).2.2.2.2.2.2.2
  have hFk : ∀ w'', w''.heap[w.heap.size]? = W.heap[w.heap.size]? → w''.heap[P]? = W.heap[P]? → w''.heap[w.heap.size + 1]? = W.heap[w.heap.size + 1]? → w''.heap[br]? = W.heap[br]? → F w'' := fun w'' q0 q1 q2 q3 => by
    rw [hF]
    exact ⟨(World.cell?_of_block q0).trans k0, (World.cell?_of_block q1).trans c3, (World.cell?_of_block q2).trans i0, (World.cell?_of_block q3).trans t0, (World.cell?_of_block q3).trans t1, (World.cell?_of_block q3).trans t2, (World.cell?_of_block q3).trans t3, (World.cell?_of_block q3).trans t4⟩
  refine wp_region_chain [0, 1, 2, 3, 4, 5, 6] [(7, true), (8, false)] F (by kernel_rfl) (by kernel_rfl) (fun _ _ _ _ _ h => h) (hFk _ rfl rfl rfl rfl) ?_
  intro hne
  simp only [picks, picksW, List.filterMap_cons, List.filterMap_nil, List.getElem?_cons_zero, List.getElem?_cons_succ, Option.map_some]
  repeat (refine wpHeld_step (fun K hK => ?_); go_simp; refine hK _ ?_; clear hK K)
  refine wpHeld_nil ?_
  clear hu0 hu1 hu2 hu3 hu4 hu5 hu6 hu7 hne hFF
  have HK := hide hFk
  clear hFk hF
  refine wpChain_cons fun K hK => ?_
  go_wp2_with fail
  have hbz := below_laidD W (.cells #[.bool false, .slice none 0 0, .int .i64 0, .int .u64 0, .slice none 0 0] 133)
  refine chainF (fun _ => HK.out _ (hbz.block _ (blk_lt H0.out.2.2.1)) (hbz.block _ H0.out.1.lt) (hbz.block _ (blk_lt H0.out.2.2.2.1.1)) (hbz.block _ H0.out.2.2.2.2.2.2.2.1)) (hK _ _ ?_)
  clear hK K hbz
  refine wpChain_cons fun K hK => ?_
  go_wp2_with fail
  refine chainSkip (hK _ _ ?_)
  clear hK K
  refine wpChain_nil ?_
  have hb4 := below_laidD W (.cells #[.bool x.bound, .slice Af x.fields.length cf, .int .i64 x.tail, .int .u64 (x.why.toNat : Nat), .slice A2 x.lacks.length c2'] 133)
  have h4 := H0.out.2.1.below hb4
  have e4 : ((W.alloc (.cells #[.bool x.bound, .slice Af x.fields.length cf, .int .i64 x.tail, .int .u64 (x.why.toNat : Nat), .slice A2 x.lacks.length c2'] 133)).drew).heap[W.heap.size]? = _ := heap_alloc_new W _
  have l4 : ((W.alloc (.cells #[.bool x.bound, .slice Af x.fields.length cf, .int .i64 x.tail, .int .u64 (x.why.toNat : Nat), .slice A2 x.lacks.length c2'] 133)).drew).cell? ⟨W.heap.size, 4, none⟩ = some (.slice A2 x.lacks.length c2') := by rw [cell_block e4]; rfl
  have hne4 : g.r ≠ some W.heap.size := fun e => by
    have := RowZ.lt H0.out.1.rows W.heap.size (by rw [H0.out.1.bl.2.2.1]; exact e); omega
  have H4 := hide (And.intro (H0.out.1.below hb4) (And.intro h4.1 (And.intro (h4.2.pbox H0.out.2.2.1) (And.intro (h4.2.ibox H0.out.2.2.2.1) (And.intro (h4.2.rowAt H0.out.2.2.2.2.1) (And.intro (h4.2.fields H0.out.2.2.2.2.2.1) (And.intro e4 (And.intro hne4 H0.out.2.2.2.2.2.2))))))))
  clear hb4 h4 e4 k0 i0 c3 t0 t1 t2 t3 t4 HK hne4
  generalize hV : (W.alloc (.cells #[.bool x.bound, .slice Af x.fields.length cf, .int .i64 x.tail, .int .u64 (x.why.toNat : Nat), .slice A2 x.lacks.length c2'] 133)).drew = V at *
  clear hV
  have hml : x.lacks.length ≤ 400000000 := Nat.le_trans (hz.lacks i x hx) (by omega)
  go_wp2_with fail
  have hfl : fs.length ≤ 400000000 := by omega
  go_loopw [30] (fun qv wr => ∃ q : Nat, q ≤ x.lacks.length ∧ qv = .int .i64 q ∧ (∀ (j : Nat) l, j < q → x.lacks[j]? = some l → (fs.any fun f => f.name.toList == l.field.toList) = false) ∧ Below V.heap.size V wr) (fun qv _ => x.lacks.length - (intOf qv).toNat)
  case atStart => exact ⟨0, Nat.zero_le _, rfl, fun j l hj => by omega, Below.refl _ _⟩
  case round =>
    obtain ⟨q, hq, rfl, heq, hd⟩ := hrel
    by_cases hl : q < x.lacks.length
    · obtain ⟨l, hlq⟩ : ∃ l, x.lacks[q]? = some l := ⟨x.lacks[q], List.getElem?_eq_getElem hl⟩
      have h5 := H4.out.2.1.below hd
      obtain ⟨A', c', e1, _, _, _, hc⟩ := (h5.2.rowAt H4.out.2.2.2.2.1).lacks.ex
      cases e1
      obtain ⟨b0, off0, rfl, _, _, hcell⟩ := hc (by omega)
      have n0 := hcell (q * 2 + 0) (.string l.field) ((lksV_get hlq (by omega)).trans rfl)
      have n1 := hcell (q * 2 + 1) (.int .u64 (l.why.toNat : Nat)) ((lksV_get hlq (by omega)).trans rfl)
      rw [show off0 + (q * 2 + 0) = off0 + q * 2 by omega] at n0
      rw [show off0 + (q * 2 + 1) = off0 + q * 2 + 1 by omega] at n1
      have hq0 : (q : Int) < x.lacks.length := by omega
      have hq1 : (0 : Int) ≤ q := by omega
      have HE := hide (And.intro heq (And.intro hlq (And.intro hd h5)))
      clear heq hlq hd h5 hcell hc
      go_wp2_with fail
      have hbl := below_laid wr (.cells #[.string l.field, .int .u64 (l.why.toNat : Nat)] 166)
      have h6 := HE.out.2.2.2.1.below hbl
      have e6 := heap_alloc_new wr (.cells #[.string l.field, .int .u64 (l.why.toNat : Nat)] 166)
      have H6 := hide (And.intro h6.1 (And.intro (HE.out.2.2.2.2.pbox H4.out.2.2.1 |> h6.2.pbox) (And.intro (h6.2.fields (HE.out.2.2.2.2.fields H4.out.2.2.2.2.2.1)) (And.intro e6 hbl))))
      clear h6 e6 hbl n0 n1
      generalize hU : wr.alloc (.cells #[.string l.field, .int .u64 (l.why.toNat : Nat)] 166) = U at *
      clear hU
      have hbo := bits_or y l.why
      generalize wr = Wq at *
      go_loopw [36] (fun tv wt => ∃ t : Nat, t ≤ fs.length ∧ tv = .int .i64 t ∧ (∀ (j : Nat) z, j < t → fs[j]? = some z → (z.name.toList == l.field.toList) = false) ∧ Below U.heap.size U wt) (fun tv _ => fs.length - (intOf tv).toNat)
      case atStart => exact ⟨0, Nat.zero_le _, rfl, fun j l hj => by omega, Below.refl _ _⟩
      case round =>
        obtain ⟨t, ht2, rfl, heq2, hd2⟩ := hrel
        have h7 := H6.out.1.below hd2
        by_cases hl2 : t < fs.length
        · obtain ⟨z, hzf⟩ : ∃ z, fs[t]? = some z := ⟨fs[t], List.getElem?_eq_getElem hl2⟩
          obtain ⟨A', c', e1, _, _, _, hc⟩ := (h7.2.fields H6.out.2.2.1).ex
          cases e1
          obtain ⟨b1, off, rfl, _, _, hcell⟩ := hc (by omega)
          have z0 := hcell (t * 10 + 0) (.string z.name) ((fdsV_get hzf (by omega)).trans rfl)
          rw [show off + (t * 10 + 0) = off + t * 10 by omega] at z0
          have z1 := hcell (t * 10 + 1) (.int .i64 z.at_.var) ((fdsV_get hzf (by omega)).trans rfl)
          rw [show off + (t * 10 + 1) = off + t * 10 + 1 by omega] at z1
          have z2 := hcell (t * 10 + 2) (.int .u64 z.at_.el.e0) ((fdsV_get hzf (by omega)).trans rfl)
          rw [show off + (t * 10 + 2) = off + t * 10 + 2 by omega] at z2
          have z3 := hcell (t * 10 + 3) (.int .u64 z.at_.el.e1) ((fdsV_get hzf (by omega)).trans rfl)
          rw [show off + (t * 10 + 3) = off + t * 10 + 3 by omega] at z3
          have z4 := hcell (t * 10 + 4) (.int .u64 z.at_.el.e2) ((fdsV_get hzf (by omega)).trans rfl)
          rw [show off + (t * 10 + 4) = off + t * 10 + 4 by omega] at z4
          have z5 := hcell (t * 10 + 5) (.int .u64 z.at_.el.e3) ((fdsV_get hzf (by omega)).trans rfl)
          rw [show off + (t * 10 + 5) = off + t * 10 + 5 by omega] at z5
          have z6 := hcell (t * 10 + 6) (.int .u64 z.at_.el.e4) ((fdsV_get hzf (by omega)).trans rfl)
          rw [show off + (t * 10 + 6) = off + t * 10 + 6 by omega] at z6
          have z7 := hcell (t * 10 + 7) (.int .u64 z.at_.el.e5) ((fdsV_get hzf (by omega)).trans rfl)
          rw [show off + (t * 10 + 7) = off + t * 10 + 7 by omega] at z7
          have z8 := hcell (t * 10 + 8) (.int .u64 z.at_.el.e6) ((fdsV_get hzf (by omega)).trans rfl)
          rw [show off + (t * 10 + 8) = off + t * 10 + 8 by omega] at z8
          have z9 := hcell (t * 10 + 9) (.int .u64 z.at_.el.e7) ((fdsV_get hzf (by omega)).trans rfl)
          rw [show off + (t * 10 + 9) = off + t * 10 + 9 by omega] at z9
          have ht0 : (t : Int) < fs.length := by omega
          have ht1 : (0 : Int) ≤ t := by omega
          have hba := below_laid wr (.cells #[.string z.name, .int .i64 z.at_.var, .int .u64 z.at_.el.e0, .int .u64 z.at_.el.e1, .int .u64 z.at_.el.e2, .int .u64 z.at_.el.e3, .int .u64 z.at_.el.e4, .int .u64 z.at_.el.e5, .int .u64 z.at_.el.e6, .int .u64 z.at_.el.e7] 59)
          have h8 := h7.1.below hba
          have e8 := (hba.block _ (Nat.lt_of_lt_of_le (blk_lt H6.out.2.2.2.1) hd2.size)).trans ((hd2.block _ (blk_lt H6.out.2.2.2.1)).trans H6.out.2.2.2.1)
          have hp8 := h8.2.pbox (h7.2.pbox H6.out.2.1)
          have p0 : (wr.alloc (.cells #[.string z.name, .int .i64 z.at_.var, .int .u64 z.at_.el.e0, .int .u64 z.at_.el.e1, .int .u64 z.at_.el.e2, .int .u64 z.at_.el.e3, .int .u64 z.at_.el.e4, .int .u64 z.at_.el.e5, .int .u64 z.at_.el.e6, .int .u64 z.at_.el.e7] 59)).cell? ⟨Wq.heap.size, 0, none⟩ = some (.string l.field) := by rw [cell_block e8]; rfl
          have p1 : (wr.alloc (.cells #[.string z.name, .int .i64 z.at_.var, .int .u64 z.at_.el.e0, .int .u64 z.at_.el.e1, .int .u64 z.at_.el.e2, .int .u64 z.at_.el.e3, .int .u64 z.at_.el.e4, .int .u64 z.at_.el.e5, .int .u64 z.at_.el.e6, .int .u64 z.at_.el.e7] 59)).cell? ⟨Wq.heap.size, 1, none⟩ = some (.int .u64 (l.why.toNat : Nat)) := by rw [cell_block e8]; rfl
          have p2 := hp8.cell
          have H8 := hide (And.intro h8.1 (And.intro heq2 (And.intro hzf (And.intro hd2 hba))))
          clear h7 h8 e8 hp8 heq2 hzf hd2 hba hcell hc
          cases hm : z.name.toList == l.field.toList
          · go_wp2_with fail
            refine ⟨⟨t + 1, by omega, rfl, fun j u hj hu => ?_, H8.out.2.2.2.1.trans (H8.out.2.2.2.2.mono H8.out.2.2.2.1.size)⟩, by simp [intOf]; omega⟩
            rcases Nat.lt_or_ge j t with h | h
            · exact H8.out.2.1 j u h hu
            · obtain rfl : j = t := by omega
              rw [H8.out.2.2.1] at hu
              cases hu
              exact hm
          · have hany : (fs.any fun f => f.name.toList == l.field.toList) = true := by
              rw [List.any_eq_true]
              exact ⟨z, List.mem_iff_getElem?.2 ⟨t, H8.out.2.2.1⟩, hm⟩
            have hhit := Rw.bind_hit (tail := tail) (y := y) hx (Rw.clash_hit HE.out.1 HE.out.2.1 hany)
            have HA := hide hhit
            clear hany hhit
            have HSt := hide (stick_any P B g s (y ||| l.why) _ H8.out.1.tb H8.out.1.ge (by have := hz.undo; omega))
            go_wp2_with (go_at_call 52; refine (HSt.out).mono ?_; rintro e w3 ⟨rfl, hs3⟩; have H3 := hide hs3; clear hs3)
            go_ret
            obtain ⟨g3, h3, _⟩ := H8.out.1.step H3.out
            rw [HRes.out, HA.out]
            exact ⟨rfl, h3.stp⟩
        · obtain rfl : t = fs.length := by omega
          have HN := hide (And.intro heq2 (And.intro hd2 h7))
          clear heq2 hd2 h7 hl2
          go_wp2_with fail
          refine ⟨⟨q + 1, by omega, rfl, fun j u hj hu => ?_, HE.out.2.2.1.trans ((H6.out.2.2.2.2.trans (HN.out.2.1.mono H6.out.2.2.2.2.size)).mono HE.out.2.2.1.size)⟩, by simp [intOf]; omega⟩
          rcases Nat.lt_or_ge j q with h | h
          · exact HE.out.1 j u h hu
          · obtain rfl : j = q := by omega
            rw [HE.out.2.1] at hu
            cases hu
            rw [List.any_eq_false]
            intro z hzz
            obtain ⟨p, hp⟩ := List.mem_iff_getElem?.1 hzz
            have := HN.out.1 p z (List.getElem?_eq_some_iff.1 hp).1 hp
            rw [this]; simp
    · obtain rfl : q = x.lacks.length := by omega
      have hcl : Rw.clash x.lacks fs = none := Rw.clash_none fun j l hl => heq j l (List.getElem?_eq_some_iff.1 hl).1 hl
      have hbn := Rw.bind_none (tail := tail) (y := y) hx hcl
      have HB := hide (And.intro hbn hd)
      clear hcl hbn heq hd hl
      go_upto_region 12 with (fail)
      have hbd : Below V.heap.size V wr.drew := below_drewN HB.out.2 1
      have h5 := H4.out.2.1.below hbd
      have hx5 := H4.out.1.below hbd
      have hM5 : BdM w B P g w.heap.size W.heap.size x (.slice Af x.fields.length cf, .slice A2 x.lacks.length c2') fs (.slice A1 fs.length c1) wr.drew g s :=
        ⟨h5.1, h5.2.pbox H4.out.2.2.1, (hbd.block _ (blk_lt H4.out.2.2.2.2.2.2.1)).trans H4.out.2.2.2.2.2.2.1, H4.out.2.2.2.2.2.2.2.1, h5.2.rowAt H4.out.2.2.2.2.1, h5.2.fields H4.out.2.2.2.2.2.1⟩
      have hi5 := h5.2.ibox H4.out.2.2.2.1
      have H5 := hide (And.intro hx5 (And.intro hM5 (And.intro hi5 H4.out.2.2.2.2.2.2.2.2)))
      clear hbd h5 hx5 hM5 hi5
      have tf : ∀ j, wr.drew.frozen? ⟨br, j, none⟩ = false := fun j => RowZ.free H5.out.1.rows j
      have tf0 := tf (i * 5)
      have tf1 := tf (i * 5 + 1)
      have tf2 := tf (i * 5 + 2)
      have tf3 := tf (i * 5 + 3)
      clear tf
      obtain ⟨tc0, tc1, tc2, tc3⟩ : wr.drew.cell? ⟨br, i * 5, none⟩ = some (.bool x.bound) ∧ wr.drew.cell? ⟨br, i * 5 + 1, none⟩ = some (.slice Af x.fields.length cf) ∧ wr.drew.cell? ⟨br, i * 5 + 2, none⟩ = some (.int .i64 x.tail) ∧ wr.drew.cell? ⟨br, i * 5 + 3, none⟩ = some (.int .u64 (x.why.toNat : Nat)) := by
        obtain ⟨b', c'', v1', v2', e1, e2, _, t0, t1, t2, t3, _⟩ := H5.out.1.rowCells hx
        cases e1
        have e3 := e2.symm.trans H5.out.2.2.2.1
        cases e3
        exact ⟨t0, t1, t2, t3⟩
      obtain ⟨F, hF, hFF⟩ : ∃ F : World → Prop, (∀ w'', F w'' ↔ w''.cell? ⟨w.heap.size, 0, none⟩ = some (.pointer (some ⟨P, 0, none⟩)) ∧ w''.cell? ⟨P, 2, none⟩ = some (.slice (some ⟨br, 0, none⟩) s.rows.length cr) ∧ w''.cell? ⟨w.heap.size + 1, 0, none⟩ = some (.int .i64 (i : Nat))) ∧ ∀ u : HoldW F, u.w.cell? ⟨w.heap.size, 0, none⟩ = some (.pointer (some ⟨P, 0, none⟩)) ∧ u.w.cell? ⟨P, 2, none⟩ = some (.slice (some ⟨br, 0, none⟩) s.rows.length cr) ∧ u.w.cell? ⟨w.heap.size + 1, 0, none⟩ = some (.int .i64 (i : Nat)) := ⟨fun w'' => w''.cell? ⟨w.heap.size, 0, none⟩ = some (.pointer (some ⟨P, 0, none⟩)) ∧ w''.cell? ⟨P, 2, none⟩ = some (.slice (some ⟨br, 0, none⟩) s.rows.length cr) ∧ w''.cell? ⟨w.heap.size + 1, 0, none⟩ = some (.int .i64 (i : Nat)), fun _ => Iff.rfl, fun u => u.ok⟩
      have hu0 : ∀ u : HoldW F, u.w.cell? ⟨w.heap.size, 0, none⟩ = some (.pointer (some ⟨P, 0, none⟩)) := fun u => (hFF u).1
      have hu1 : ∀ u : HoldW F, u.w.cell? ⟨P, 2, none⟩ = some (.slice (some ⟨br, 0, none⟩) s.rows.length cr) := fun u => (hFF u).2.1
      have hu2 : ∀ u : HoldW F, u.w.cell? ⟨w.heap.size + 1, 0, none⟩ = some (.int .i64 (i : Nat)) := fun u => (hFF u).2.2
      have hFk : ∀ w'', w''.heap[w.heap.size]? = wr.drew.heap[w.heap.size]? → w''.heap[P]? = wr.drew.heap[P]? → w''.heap[w.heap.size + 1]? = wr.drew.heap[w.heap.size + 1]? → F w'' := fun w'' q0 q1 q2 => by
        rw [hF]
        exact ⟨(World.cell?_of_block q0).trans H5.out.2.1.pb.cell, (World.cell?_of_block q1).trans H5.out.1.cells.2.2.1, (World.cell?_of_block q2).trans H5.out.2.2.1.cell⟩
      refine wp_region_chain [0, 1, 2, 3, 4, 5, 6, 7, 8, 9, 10, 11, 12, 13, 14, 15, 16, 17, 18, 19, 20, 21, 22] [(23, true), (24, true), (25, true), (26, true), (27, true), (28, true), (29, true), (30, true), (31, true), (32, true), (33, true), (34, true)] F (by kernel_rfl) (by kernel_rfl) (fun _ _ _ _ _ h => h) (hFk _ rfl rfl rfl) ?_
      intro hne
      simp only [picks, picksW, List.filterMap_cons, List.filterMap_nil, List.getElem?_cons_zero, List.getElem?_cons_succ, Option.map_some]
      repeat (refine wpHeld_step (fun K hK => ?_); go_simp; refine hK _ ?_; clear hK K)
      refine wpHeld_nil ?_
      clear hu0 hu1 hu2 hne hFF
      generalize hD : wr.drew = D at *
      have nb0 : w.heap.size ≠ br := fun e => RowZ.ne_type H5.out.1.rows H5.out.2.1.pb (by decide) (by rw [e]; rfl)
      have nb1 : w.heap.size + 1 ≠ br := fun e => RowZ.ne_type H5.out.1.rows H5.out.2.2.1.1 (by decide) (by rw [e]; rfl)
      have nbP : P ≠ br := fun e => H5.out.2.2.2.2.2.2 e.symm
      have hFs : ∀ (w'' : World) (j : Nat) (u : Value), F w'' → F (w''.setCell ⟨br, j, none⟩ u) := fun w'' j u h => by
        rw [hF] at *
        exact ⟨(World.cell?_of_block (Below.heap_setCell _ _ _ _ nb0)).trans h.1, (World.cell?_of_block (Below.heap_setCell _ _ _ _ nbP)).trans h.2.1, (World.cell?_of_block (Below.heap_setCell _ _ _ _ nb1)).trans h.2.2⟩
      have q0 := hFk D rfl rfl rfl
      have q1 := hFs _ (i * 5) (.bool true) q0
      have q2 := hFs _ (i * 5 + 1) (.slice A1 fs.length c1) q1
      have q3 := hFs _ (i * 5 + 2) (.int .i64 tail) q2
      have q4 := hFs _ (i * 5 + 3) (.int .u64 (y.toNat : Nat)) q3
      have HQ := hide (And.intro q0 (And.intro q1 (And.intro q2 (And.intro q3 q4))))
      clear q0 q1 q2 q3 q4 hFs hFk hF nb0 nb1 nbP
      have uf1 : (D.setCell ⟨br, i * 5, none⟩ (.bool true)).frozen? ⟨br, i * 5 + 1, none⟩ = false := by simpa using tf1
      have uf2 : ((D.setCell ⟨br, i * 5, none⟩ (.bool true)).setCell ⟨br, i * 5 + 1, none⟩ (.slice A1 fs.length c1)).frozen? ⟨br, i * 5 + 2, none⟩ = false := by simpa using tf2
      have uf3 : (((D.setCell ⟨br, i * 5, none⟩ (.bool true)).setCell ⟨br, i * 5 + 1, none⟩ (.slice A1 fs.length c1)).setCell ⟨br, i * 5 + 2, none⟩ (.int .i64 tail)).frozen? ⟨br, i * 5 + 3, none⟩ = false := by simpa using tf3
      refine wpChain_cons fun K hK => ?_
      go_wp2_with fail
      refine chainF (fun _ => HQ.out.1) (hK _ _ ?_)
      clear hK K
      refine wpChain_cons fun K hK => ?_
      go_wp2_with fail
      refine chainF (fun _ => HQ.out.1) (hK _ _ ?_)
      clear hK K
      refine wpChain_cons fun K hK => ?_
      go_wp2_with fail
      refine chainF (fun _ => HQ.out.2.1) (hK _ _ ?_)
      clear hK K
      refine wpChain_cons fun K hK => ?_
      go_wp2_with fail
      refine chainF (fun _ => HQ.out.2.1) (hK _ _ ?_)
      clear hK K
      refine wpChain_cons fun K hK => ?_
      go_wp2_with fail
      refine chainF (fun _ => HQ.out.2.1) (hK _ _ ?_)
      clear hK K
      refine wpChain_cons fun K hK => ?_
      go_wp2_with fail
      refine chainF (fun _ => HQ.out.2.2.1) (hK _ _ ?_)
      clear hK K
      refine wpChain_cons fun K hK => ?_
      go_wp2_with fail
      refine chainF (fun _ => HQ.out.2.2.1) (hK _ _ ?_)
      clear hK K
      refine wpChain_cons fun K hK => ?_
      go_wp2_with fail
      refine chainF (fun _ => HQ.out.2.2.1) (hK _ _ ?_)
      clear hK K
      refine wpChain_cons fun K hK => ?_
      go_wp2_with fail
      refine chainF (fun _ => HQ.out.2.2.2.1) (hK _ _ ?_)
      clear hK K
      refine wpChain_cons fun K hK => ?_
      go_wp2_with fail
      refine chainF (fun _ => HQ.out.2.2.2.1) (hK _ _ ?_)
      clear hK K
      refine wpChain_cons fun K hK => ?_
      go_wp2_with fail
      refine chainF (fun _ => HQ.out.2.2.2.1) (hK _ _ ?_)
      clear hK K
      refine wpChain_cons fun K hK => ?_
      go_wp2_with fail
      refine chainF (fun _ => HQ.out.2.2.2.2) (hK _ _ ?_)
      clear hK K
      refine wpChain_nil ?_
      clear tf0 tf1 tf2 tf3 uf1 uf2 uf3 HQ tc0 tc1 tc2 tc3
      have hbr := H5.out.1.bindRow (tail := tail) (y := y) hx H5.out.2.2.2.1 H5.out.2.1.fl
      unfold whyV at hbr
      obtain ⟨hS6, hK6⟩ := H5.out.2.1.sg.stepG ⟨_, _, _, _, _, _, _, hbr.1⟩ hbr.2 (Gn.refl _ _)
      have hM6 := H5.out.2.1.kept hS6 hK6
      have hi6 := hK6.ibox H5.out.2.2.1
      have y0 := hM6.pb.cell
      have HM6 := hide (And.intro hM6 hi6)
      clear hbr hS6 hK6 hM6 hi6
      generalize (((D.setCell ⟨br, i * 5, none⟩ (.bool true)).setCell ⟨br, i * 5 + 1, none⟩ (.slice A1 fs.length c1)).setCell ⟨br, i * 5 + 2, none⟩ (.int .i64 tail)).setCell ⟨br, i * 5 + 3, none⟩ (.int .u64 (y.toNat : Nat)) = Y at *
      have HD := hide (did_any P B _ (.func 99) #[.pointer (some ⟨W.heap.size, 0, none⟩), .pointer (some ⟨w.heap.size, 0, none⟩), .pointer (some ⟨w.heap.size + 1, 0, none⟩)] (.rowBack i x) _ Y HM6.out.1.sg.tb ⟨W.heap.size, w.heap.size, w.heap.size + 1, _, rfl, HM6.out.1.cp, HM6.out.1.ra, HM6.out.1.ne, HM6.out.1.pb, HM6.out.2.1, HM6.out.2.2.1, HM6.out.2.2.2⟩ HM6.out.1.sg.ge (by have := hz.undo; show s.undo.length ≤ _; omega))
      have hsz := Rw.bindS_sz (fs := fs) (tail := tail) (y := y) hz hx
      have hwf' := Rw.bindS_wf (x := x) (fs := fs) (y := y) hwf ht
      have hxn := hz.lacks i x hx
      have htl : tail < (s.rows.length : Int) := by rcases ht with h | h <;> omega
      have hmx : n + fs.length + 1 + (x.lacks.length + fs.length) ≤ 1000000000 := by omega
      have HP := hide (And.intro hsz (And.intro hwf' (And.intro htl hmx)))
      clear hsz hwf' H5 hD hxn htl hmx
      by_cases ht0 : tail < 0
      · go_wp2_with (go_at_call 47; refine (HD.out).mono ?_; rintro e w6 ⟨⟨rfl, hS⟩, _⟩; obtain ⟨g7, hM7⟩ := HM6.out.1.step hS; have HE := hide hM7; clear hS hM7)
        go_ret
        rw [HRes.out, HB.out.1, if_pos ht0]
        exact ⟨rfl, HE.out.sg.stp⟩
      · go_wp2_with (go_at_call 47; refine (HD.out).mono ?_; rintro e w6 ⟨⟨rfl, hS⟩, _⟩; obtain ⟨g7, hM7⟩ := HM6.out.1.step hS; have l7 : w6.cell? ⟨W.heap.size, 4, none⟩ = some (.slice A2 x.lacks.length c2') := (by rw [cell_block hM7.cp]; rfl); have HE := hide hM7; clear hS hM7)
        have HR : Rw.LaS tail (Rw.bindL x fs y) s.rows.length (n + fs.length + 1) 0 res (Rw.bindS s i x fs tail y) := ⟨by rw [List.drop_zero, HRes.out, HB.out.1, if_neg (Int.not_lt.2 ht0)], HP.out.2.1, by simp [Rw.bindS, Rw.T.did], HP.out.1⟩
        have HR := hide HR
        clear l7 l4 y0 HB
        generalize wr = wo at *
        go_loopw [94] (fun qv wr => Bd3 w B P g w.heap.size W.heap.size x (.slice Af x.fields.length cf, .slice A2 x.lacks.length c2') fs (.slice A1 fs.length c1) tail (Rw.bindL x fs y) s.rows.length (n + fs.length + 1) res 0 x.lacks.length qv wr) (fun qv _ => x.lacks.length - (intOf qv).toNat)
        case atStart => exact ⟨0, g7, _, Nat.zero_le _, rfl, HE.out, HR.out⟩
        case round =>
          obtain ⟨q, gq, sq, hq, rfl, hM, hL⟩ := hrel
          by_cases hlt : q < x.lacks.length
          · obtain ⟨l, hlq⟩ : ∃ l, x.lacks[q]? = some l := ⟨x.lacks[q], List.getElem?_eq_getElem hlt⟩
            obtain ⟨A', c', e1, _, _, _, hc⟩ := hM.ra.lacks.ex
            cases e1
            obtain ⟨b0, off0, rfl, _, _, hcell⟩ := hc (by omega)
            have n0 := hcell (q * 2 + 0) (.string l.field) ((lksV_get hlq (by omega)).trans rfl)
            have n1 := hcell (q * 2 + 1) (.int .u64 (l.why.toNat : Nat)) ((lksV_get hlq (by omega)).trans rfl)
            rw [show off0 + (q * 2 + 0) = off0 + q * 2 by omega] at n0
            rw [show off0 + (q * 2 + 1) = off0 + q * 2 + 1 by omega] at n1
            have hq0 : (q : Int) < x.lacks.length := by omega
            have hq1 : (0 : Int) ≤ q := by omega
            have hbo := bits_or l.why y
            generalize hz3 : l.why ||| y = z3 at hbo
            have hM8 := hM.below (below_laid wr (.cells #[.string l.field, .int .u64 (l.why.toNat : Nat)] 166))
            have y0 := hM8.pb.cell
            have hsz := hL.sz
            have hbn : n + fs.length + 1 + (0 + q) ≤ 1000000000 := Nat.le_trans (Nat.add_le_add_left (by omega) _) HP.out.2.2.2
            have HC := hide (lacks_any P B gq sq tail l.field z3 _ hM8.sg.tb hL.wf hM8.sg.ge (by rw [hL.len]; exact HP.out.2.2.1) (Nat.le_trans hsz.tot hbn) (Nat.le_trans hsz.undo hbn) (fun k r hr => Nat.le_trans (hsz.lacks k r hr) hbn))
            rcases hlk : sq.lacks tail l.field z3 with ⟨b, s'⟩
            rw [hlk] at HC
            have HN := hide (And.intro hM8 (And.intro hL (And.intro hlq (And.intro hlk hz3))))
            clear hM hM8 hL hlq hlk hz3 hsz hcell hc hbn
            unfold whyV at HC
            cases b
            · go_wp2_with (go_at_call 74; refine (HC.out).mono ?_; rintro e w9 ⟨rfl, hS⟩; have HS9 := hide hS; clear hS)
              go_ret
              obtain ⟨g9, hM9⟩ := HN.out.1.step HS9.out
              have := HN.out.2.1.stop (by rw [Nat.zero_add]; exact Rw.bindL_fst HN.out.2.2.1) (by rw [HN.out.2.2.2.2]; exact HN.out.2.2.2.1)
              rw [this]
              exact ⟨rfl, hM9.sg.stp⟩
            · go_wp2_with (go_at_call 74; refine (HC.out).mono ?_; rintro e w9 ⟨rfl, hS⟩; have HS9 := hide hS; clear hS)
              obtain ⟨g9, hM9⟩ := HN.out.1.step HS9.out
              have hst := HN.out.2.1.step (by rw [Nat.zero_add]; exact Rw.bindL_fst HN.out.2.2.1) (by rw [HN.out.2.2.2.2]; exact HN.out.2.2.2.1)
              exact ⟨⟨q + 1, g9, s', by omega, rfl, hM9, hst⟩, by simp [intOf]; omega⟩
          · obtain rfl : q = x.lacks.length := by omega
            have HL := hide (And.intro hM hL)
            clear hM hL hlt
            go_wp2_with fail
            generalize wr = wo2 at *
            go_loopw [111] (fun qv wr => Bd3 w B P g w.heap.size W.heap.size x (.slice Af x.fields.length cf, .slice A2 x.lacks.length c2') fs (.slice A1 fs.length c1) tail (Rw.bindL x fs y) s.rows.length (n + fs.length + 1) res x.lacks.length fs.length qv wr) (fun qv _ => fs.length - (intOf qv).toNat)
            case atStart => exact ⟨0, gq, _, Nat.zero_le _, rfl, HL.out.1, by rw [Nat.add_zero]; have := HL.out.2; rw [Nat.zero_add] at this; exact this⟩
            case round =>
              obtain ⟨t, gt, st, ht4, rfl, hM, hL⟩ := hrel
              by_cases hlt : t < fs.length
              · obtain ⟨z, hzf⟩ : ∃ z, fs[t]? = some z := ⟨fs[t], List.getElem?_eq_getElem hlt⟩
                obtain ⟨A', c', e1, _, _, _, hc⟩ := hM.fl.ex
                cases e1
                obtain ⟨b1, off, rfl, _, _, hcell⟩ := hc (by omega)
                have z0 := hcell (t * 10 + 0) (.string z.name) ((fdsV_get hzf (by omega)).trans rfl)
                rw [show off + (t * 10 + 0) = off + t * 10 by omega] at z0
                have z1 := hcell (t * 10 + 1) (.int .i64 z.at_.var) ((fdsV_get hzf (by omega)).trans rfl)
                rw [show off + (t * 10 + 1) = off + t * 10 + 1 by omega] at z1
                have z2 := hcell (t * 10 + 2) (.int .u64 z.at_.el.e0) ((fdsV_get hzf (by omega)).trans rfl)
                rw [show off + (t * 10 + 2) = off + t * 10 + 2 by omega] at z2
                have z3 := hcell (t * 10 + 3) (.int .u64 z.at_.el.e1) ((fdsV_get hzf (by omega)).trans rfl)
                rw [show off + (t * 10 + 3) = off + t * 10 + 3 by omega] at z3
                have z4 := hcell (t * 10 + 4) (.int .u64 z.at_.el.e2) ((fdsV_get hzf (by omega)).trans rfl)
                rw [show off + (t * 10 + 4) = off + t * 10 + 4 by omega] at z4
                have z5 := hcell (t * 10 + 5) (.int .u64 z.at_.el.e3) ((fdsV_get hzf (by omega)).trans rfl)
                rw [show off + (t * 10 + 5) = off + t * 10 + 5 by omega] at z5
                have z6 := hcell (t * 10 + 6) (.int .u64 z.at_.el.e4) ((fdsV_get hzf (by omega)).trans rfl)
                rw [show off + (t * 10 + 6) = off + t * 10 + 6 by omega] at z6
                have z7 := hcell (t * 10 + 7) (.int .u64 z.at_.el.e5) ((fdsV_get hzf (by omega)).trans rfl)
                rw [show off + (t * 10 + 7) = off + t * 10 + 7 by omega] at z7
                have z8 := hcell (t * 10 + 8) (.int .u64 z.at_.el.e6) ((fdsV_get hzf (by omega)).trans rfl)
                rw [show off + (t * 10 + 8) = off + t * 10 + 8 by omega] at z8
                have z9 := hcell (t * 10 + 9) (.int .u64 z.at_.el.e7) ((fdsV_get hzf (by omega)).trans rfl)
                rw [show off + (t * 10 + 9) = off + t * 10 + 9 by omega] at z9
                have hq0 : (t : Int) < fs.length := by omega
                have hq1 : (0 : Int) ≤ t := by omega
                have hM8 := hM.below (below_laid wr (.cells #[.string z.name, .int .i64 z.at_.var, .int .u64 z.at_.el.e0, .int .u64 z.at_.el.e1, .int .u64 z.at_.el.e2, .int .u64 z.at_.el.e3, .int .u64 z.at_.el.e4, .int .u64 z.at_.el.e5, .int .u64 z.at_.el.e6, .int .u64 z.at_.el.e7] 59))
                have y0 := hM8.pb.cell
                have hsz := hL.sz
                have hbn : n + fs.length + 1 + (x.lacks.length + t) ≤ 1000000000 := Nat.le_trans (Nat.add_le_add_left (by omega) _) HP.out.2.2.2
                have HC := hide (lacks_any P B gt st tail z.name y _ hM8.sg.tb hL.wf hM8.sg.ge (by rw [hL.len]; exact HP.out.2.2.1) (Nat.le_trans hsz.tot hbn) (Nat.le_trans hsz.undo hbn) (fun k r hr => Nat.le_trans (hsz.lacks k r hr) hbn))
                rcases hlk : st.lacks tail z.name y with ⟨b, s'⟩
                rw [hlk] at HC
                have HN := hide (And.intro hM8 (And.intro hL (And.intro hzf hlk)))
                clear hM hM8 hL hzf hlk hsz hcell hc hbn
                unfold whyV at HC
                cases b
                · go_wp2_with (go_at_call 74; refine (HC.out).mono ?_; rintro e w9 ⟨rfl, hS⟩; have HS9 := hide hS; clear hS)
                  go_ret
                  obtain ⟨g9, hM9⟩ := HN.out.1.step HS9.out
                  have := HN.out.2.1.stop (Rw.bindL_snd HN.out.2.2.1) HN.out.2.2.2
                  rw [this]
                  exact ⟨rfl, hM9.sg.stp⟩
                · go_wp2_with (go_at_call 74; refine (HC.out).mono ?_; rintro e w9 ⟨rfl, hS⟩; have HS9 := hide hS; clear hS)
                  obtain ⟨g9, hM9⟩ := HN.out.1.step HS9.out
                  have hst := HN.out.2.1.step (Rw.bindL_snd HN.out.2.2.1) HN.out.2.2.2
                  exact ⟨⟨t + 1, g9, s', by omega, rfl, hM9, hst⟩, by simp [intOf]; omega⟩
              · obtain rfl : t = fs.length := by omega
                have hdn := hL.done (by rw [Rw.bindL_len]; omega)
                have HN := hide (And.intro hM hdn)
                clear hM hL hdn
                go_wp2_with fail
                go_ret
                rw [HN.out.2]
                exact ⟨rfl, HN.out.1.sg.stp⟩
end Go.Proofs.YthnbhcfpfbimgaaGreat
