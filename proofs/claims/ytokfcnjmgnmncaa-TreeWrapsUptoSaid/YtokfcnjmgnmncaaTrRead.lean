/- The walk of tree.Read. -/
import Derived.Test.YtokfcnjmgnmncaaTrSt
namespace Go.Proofs.Ytokfcnjmgnmncaa
open Go.RowKit

def outV : Tr.Out → Value
  | .bad p => .agg #[.int .i64 2, .int .i64 p]
  | .good _ => .agg #[.int .i64 0, .int .i64 0]
def outF : Tr.Out → Tr.Fo
  | .bad _ => .nil
  | .good f => f
def base (S : List Lev) : List (Lx.T × Tr.Fo) := S.map fun x => (x.1, x.2.1)
/-- What the loop has, at its heads. -/
def TrRel (l : List Lx.T) (B : Nat) (W0 wr : World) (k : Nat) (vo vr : Value) : Prop :=
  ∃ (S : List Lev) (row : Tr.Fo) (col : Nat → Nat), TrSt B wr vo vr S row col ∧ Tr.run (l.drop k) (base S) row = Tr.read l ∧ row.len ≤ k ∧ (∀ x ∈ S, x.2.1.len ≤ k) ∧ Below B W0 wr ∧ S.length ≤ 24

theorem run_plain {t : Lx.T} {r : List Lx.T} {st : List (Lx.T × Tr.Fo)} {row : Tr.Fo} (ho : Tr.closer t.kind = 0) (hc : Tr.closes t.kind = false) : Tr.run (t :: r) st row = Tr.run r st (row.snoc t .nil t.pos) := by
  simp only [Tr.run]; rw [if_neg (by omega), if_neg (by rw [hc]; simp)]
theorem run_push {t : Lx.T} {r : List Lx.T} {st : List (Lx.T × Tr.Fo)} {row : Tr.Fo} (ho : Tr.closer t.kind ≠ 0) (h : ¬ 24 ≤ st.length) : Tr.run (t :: r) st row = Tr.run r ((t, row) :: st) .nil := by
  simp only [Tr.run]; rw [if_pos ho, if_neg h]
theorem run_full {t : Lx.T} {r : List Lx.T} {st : List (Lx.T × Tr.Fo)} {row : Tr.Fo} (ho : Tr.closer t.kind ≠ 0) (h : 24 ≤ st.length) : Tr.run (t :: r) st row = .bad t.pos := by
  simp only [Tr.run]; rw [if_pos ho, if_pos h]
theorem run_none {t : Lx.T} {r : List Lx.T} {row : Tr.Fo} (ho : Tr.closer t.kind = 0) (hc : Tr.closes t.kind = true) : Tr.run (t :: r) [] row = .bad t.pos := by
  simp only [Tr.run]; rw [if_neg (by omega), if_pos hc]
theorem run_pop {t : Lx.T} {u : Lx.T × Tr.Fo} {r : List Lx.T} {st : List (Lx.T × Tr.Fo)} {row : Tr.Fo} (ho : Tr.closer t.kind = 0) (hc : Tr.closes t.kind = true) (h : Tr.closer u.1.kind = t.kind) : Tr.run (t :: r) (u :: st) row = Tr.run r st (u.2.snoc u.1 row t.pos) := by
  simp only [Tr.run]; rw [if_neg (by omega), if_pos hc, if_pos h]
theorem run_mis {t : Lx.T} {u : Lx.T × Tr.Fo} {r : List Lx.T} {st : List (Lx.T × Tr.Fo)} {row : Tr.Fo} (ho : Tr.closer t.kind = 0) (hc : Tr.closes t.kind = true) (h : Tr.closer u.1.kind ≠ t.kind) : Tr.run (t :: r) (u :: st) row = .bad t.pos := by
  simp only [Tr.run]; rw [if_neg (by omega), if_pos hc, if_neg h]

set_option maxRecDepth 100000 in
set_option maxHeartbeats 16000000 in
theorem tread_any (n c B : Nat) (A : Option Addr) (l : List Lx.T) (w : World) (h : HasT w B A n l) (hB : B ≤ w.heap.size) (hn : n ≤ 1100000) : Calls Try.prog 9 #[.slice A n c] w fun e w' =>
    ∃ v, e = .returned (.tuple #[v, outV (Tr.read l)]) ∧ TreeRow w' (fun b => w.heap.size ≤ b ∧ b < w'.heap.size) v (outF (Tr.read l)) ∧ Below w.heap.size w w' := by
  obtain ⟨it, hit, hzt0, hzt1, hzt2⟩ := info_parts info_tree
  obtain ⟨il, hil, hzl0, hzl1, hzl2⟩ := info_parts info_level
  have hln := h.1
  have HB := hide (And.intro (below_laid w (.cells #[.int .i64 0, .int .i64 0] 27)) (heap_alloc_new w (.cells #[.int .i64 0, .int .i64 0] 27)))
  have hsz : w.heap.size < (w.alloc (.cells #[.int .i64 0, .int .i64 0] 27)).heap.size := by simp
  have HH := hide ((h.more hB).below HB.out.1)
  clear h
  go_enter Try.func9, Try.ntmps9
  go_wp2_with fail
  generalize w.alloc (.cells #[.int .i64 0, .int .i64 0] 27) = W at *
  go_loopw [4, 5, 13] (fun vo vr i wr => ∃ k : Nat, k ≤ n ∧ i = .int .i64 k ∧ TrRel l W.heap.size W wr k vo vr) (fun _ _ i _ => n - (intOf i).toNat)
  case atStart => exact ⟨0, Nat.zero_le _, rfl, [], .nil, _, TrSt.nil _ _, rfl, Nat.le_refl _, (fun x hx => by cases hx), Below.refl _ _, Nat.zero_le _⟩
  case round =>
    obtain ⟨k, hk, rfl, S, row, col, hst, hrun, hrl, hsl, hbw, h24⟩ := hrel
    obtain ⟨Ao, co, rfl, hco, hcom⟩ := RowZ.form hst.opened
    obtain ⟨Ar, cr, rfl, hcr, hcrm⟩ := hst.last.form
    unfold maxLen at hcom hcrm
    by_cases hlt : k < n
    · obtain ⟨t, ht⟩ : ∃ t, l[k]? = some t := ⟨l[k]'(by omega), List.getElem?_eq_getElem _⟩
      obtain ⟨b, off, rfl, hbB, hcell⟩ := (HH.out.below (hbw.mono (Nat.le_of_lt hsz))).2 (by omega)
      obtain ⟨d0, d1, d2⟩ := hcell k t ht
      have hk0 : (k : Int) < n := by omega
      have hk1 : (0 : Int) ≤ k := by omega
      have hbl := below_laid wr (.cells #[.int .u8 t.kind, .string t.text, .int .i64 t.pos] 35)
      have hbx := heap_alloc_new wr (.cells #[.int .u8 t.kind, .string t.text, .int .i64 t.pos] 35)
      have x0 : (wr.alloc (.cells #[.int .u8 t.kind, .string t.text, .int .i64 t.pos] 35)).cell? ⟨wr.heap.size, 0, none⟩ = some (.int .u8 t.kind) := by rw [cell_block hbx]; rfl
      have x1 : (wr.alloc (.cells #[.int .u8 t.kind, .string t.text, .int .i64 t.pos] 35)).cell? ⟨wr.heap.size, 1, none⟩ = some (.string t.text) := by rw [cell_block hbx]; rfl
      have x2 : (wr.alloc (.cells #[.int .u8 t.kind, .string t.text, .int .i64 t.pos] 35)).cell? ⟨wr.heap.size, 2, none⟩ = some (.int .i64 t.pos) := by rw [cell_block hbx]; rfl
      rw [Tr.drop_at ht] at hrun
      have HST := hide (hst.below hbl)
      have HBW := hide (hbw.trans (hbl.mono hbw.size))
      have hws : W.heap.size ≤ wr.heap.size := hbw.size
      have hws2 : wr.heap.size < (wr.alloc (.cells #[.int .u8 t.kind, .string t.text, .int .i64 t.pos] 35)).heap.size := by simp
      have HRUN := hide hrun
      have HLEN := hide (And.intro hrl hsl)
      have hcl := fun W => tcloser_any t.kind W
      have hcs := fun W => tcloses_any t.kind W
      have HWs := hide (And.intro hws hws2)
      clear hst hbl hbx hbw hcell ht hrun hrl hsl hws hws2
      by_cases ho : Tr.closer t.kind = 0
      · rw [ho] at hcl
        have HCL := hide hcl
        cases hc : Tr.closes t.kind
        · rw [hc] at hcs
          have HCS := hide hcs
          have hrd := HRUN.out
          rw [run_plain ho hc] at hrd
          have HRD := hide hrd
          clear hrd hcl hcs hc ho
          go_wp2_with fail
          refine (HCL.out _).mono ?_
          rintro e w' ⟨rfl, rfl⟩
          generalize wr.alloc (.cells #[.int .u8 t.kind, .string t.text, .int .i64 t.pos] 35) = U at *
          obtain ⟨xs, r1, r2, r3⟩ := (HST.out.below (below_laid U (.cells #[.int .u8 t.kind, .string t.text, .int .i64 t.pos, .slice none 0 0, .int .i64 t.pos] 37))).last
          have HX := hide (And.intro r1 (And.intro r2 r3))
          clear r1 r2 r3
          go_wp2_with fail
          refine (HCS.out _).mono ?_
          rintro e w' ⟨rfl, rfl⟩
          go_wp2_with (at_builtin; refine app_rowz rfl (.tmp 19) (.tmp 24) 25 25 rfl 37 it _ 5 64 Try.underlying25 hit hzt0 hzt1 hzt2 rfl (.slice Ar row.len cr) row.len xs rfl HX.out.1 _ 1 (treeV t none 0 0 t.pos) rfl (tree_news (heap_alloc_new U _)) (by unfold maxLen; have := HLEN.out.1; omega) (by have := HLEN.out.1; omega) ?_)
          intro A4 c4 w4 hrow4 hgr4 hob4
          have hob5 : (Value.slice A4 (row.len + 1) c4).ownBlock = (Value.slice Ar row.len cr).ownBlock ∨ (Value.slice A4 (row.len + 1) c4).ownBlock = some (U.alloc (.cells #[.int .u8 t.kind, .string t.text, .int .i64 t.pos, .slice none 0 0, .int .i64 t.pos] 37)).heap.size := by rw [World.size_alloc]; exact hob4
          have hnew := TrSt.plain (HST.out.below (below_laid U (.cells #[.int .u8 t.kind, .string t.text, .int .i64 t.pos, .slice none 0 0, .int .i64 t.pos] 37))) (by have := HWs.out; simp; omega) HX.out.2.1 HX.out.2.2 hgr4 hrow4 hob5
          have hbn := grown_new (HBW.out.trans ((below_laid U (.cells #[.int .u8 t.kind, .string t.text, .int .i64 t.pos, .slice none 0 0, .int .i64 t.pos] 37)).mono HBW.out.size)) hgr4 (fun g hg => (HX.out.2.1 g hg).1)
          have HN := hide (And.intro hnew hbn)
          clear hrow4 hgr4 hob4 hob5 hnew hbn
          go_wp2_with fail
          refine ⟨⟨k + 1, by omega, rfl, S, _, _, HN.out.1, HRD.out, ?_, ?_, HN.out.2, h24⟩, by simp [intOf]; omega⟩
          · rw [Tr.Fo.len_snoc]; have := HLEN.out.1; omega
          · intro x hx; have := HLEN.out.2 x hx; omega
        · rw [hc] at hcs
          have HCS := hide hcs
          cases S with
          | nil =>
            have hrd := HRUN.out
            rw [show base ([] : List Lev) = [] from rfl, run_none ho hc] at hrd
            have HRD := hide hrd
            clear hrd hcl hcs hc ho
            go_wp2_with fail
            refine (HCL.out _).mono ?_
            rintro e w' ⟨rfl, rfl⟩
            generalize wr.alloc (.cells #[.int .u8 t.kind, .string t.text, .int .i64 t.pos] 35) = U at *
            go_wp2_with fail
            refine (HCS.out _).mono ?_
            rintro e w' ⟨rfl, rfl⟩
            go_wp2_with fail
            go_quiet ((go_at_call 21; exact quiet_left (HCL.out _)))
            go_wp2_with fail
            refine (tbad_any t _).mono ?_
            rintro e w1 ⟨rfl, hb1⟩
            have hbz : Below W.heap.size W w1 := by first | exact HBW.out.trans (hb1.mono HBW.out.size) | exact (below_drewN HBW.out _).trans (hb1.mono (below_drewN HBW.out _).size)
            have hf1 := (hbz.block w.heap.size hsz).trans HB.out.2
            have y0 := cell_block hf1 0
            have y1 := cell_block hf1 1
            have y2 := frozen_of_row _ w.heap.size 0 _ _ hf1
            have y3 := frozen_of_row _ w.heap.size 1 _ _ hf1
            simp only [List.getElem?_toArray, List.getElem?_cons_zero, List.getElem?_cons_succ] at y0 y1
            have HF := hide (And.intro (HB.out.1.trans (hbz.mono HB.out.1.size)) (fault_put hf1 (.int .i64 2) (.int .i64 t.pos)))
            clear hb1 hbz hf1
            go_wp2_with fail
            try rw [Exit.noGoto_ret]
            obtain ⟨hq0, hq1⟩ := HF.out.2
            refine bodyPost_ret (v := .tuple #[.slice none 0 0, .agg #[.int .i64 2, .int .i64 t.pos]]) (by simp [results, Try.results9, go_sem, hq0, hq1]) rfl ⟨_, by rw [← HRD.out]; rfl, by rw [← HRD.out]; exact TreeRow.nil, fault_below HF.out.1 (Nat.le_refl _) _ _⟩
          | cons x S =>
            obtain ⟨g, rfl⟩ := RowZ.addr HST.out.opened (by simp)
            obtain ⟨u, f, va⟩ := x
            obtain ⟨Aa, ca, hva, hca, hcam⟩ := (HST.out.ahead 0 _ rfl).form
            simp only at hva
            subst hva
            obtain ⟨z0, z1, z2, z3⟩ := HST.out.top
            simp only at z0 z1 z2 z3
            have hxl : f.len ≤ k := HLEN.out.2 (u, f, .slice Aa f.len ca) (by simp)
            have hcx := fun W => tcloser_any u.kind W
            have hcap : (S.length : Nat) ≤ co := by simp at hco; omega
            have q0 : ((S.length : Int) + 1 == 0) = false := by simp; omega
            have q1 : IntKind.i64.wrap ((S.length : Int) + 1 - 1) = (S.length : Int) := by rw [IntWalk.i64_in _ (by omega)]; omega
            have q2 : (0 : Int) ≤ (S.length : Nat) := by omega
            have q3 : ((S.length : Nat) : Int) < (S.length : Int) + 1 := by omega
            have q4 : (S.length : Int) ≤ co := by omega
            have hgz : g < (wr.alloc (.cells #[.int .u8 t.kind, .string t.text, .int .i64 t.pos] 35)).heap.size := RowZ.lt HST.out.opened g rfl
            have HSC := hide h24
            by_cases hm : Tr.closer u.kind = t.kind
            · have hrd := HRUN.out
              rw [show base ((u, f, Value.slice Aa f.len ca) :: S) = (u, f) :: base S from rfl, run_pop ho hc hm] at hrd
              have HRD := hide hrd
              have HCX := hide hcx
              have m1 : ((Tr.closer u.kind : Nat) : Int) = t.kind := by omega
              have m2 : (((Tr.closer u.kind : Nat) : Int) == t.kind) = true := by simpa using m1
              clear hrd hcl hcs hc ho hcx hm hco m1 h24
              go_wp2_with fail
              refine (HCL.out _).mono ?_
              rintro e w' ⟨rfl, rfl⟩
              generalize wr.alloc (.cells #[.int .u8 t.kind, .string t.text, .int .i64 t.pos] 35) = U at *
              go_wp2_with fail
              refine (HCS.out _).mono ?_
              rintro e w' ⟨rfl, rfl⟩
              go_wp2_with fail
              go_quiet ((go_at_call 21; exact quiet_left (HCX.out _)))
              have X0 : (U.drewN nq).cell? ⟨wr.heap.size, 0, none⟩ = some (.int .u8 t.kind) := x0
              have X1 : (U.drewN nq).cell? ⟨wr.heap.size, 1, none⟩ = some (.string t.text) := x1
              have X2 : (U.drewN nq).cell? ⟨wr.heap.size, 2, none⟩ = some (.int .i64 t.pos) := x2
              have Z0 : (U.drewN nq).cell? ⟨g, S.length * 4, none⟩ = some (.int .u8 u.kind) := z0
              have Z1 : (U.drewN nq).cell? ⟨g, S.length * 4 + 1, none⟩ = some (.string u.text) := z1
              have Z2 : (U.drewN nq).cell? ⟨g, S.length * 4 + 2, none⟩ = some (.int .i64 u.pos) := z2
              have Z3 : (U.drewN nq).cell? ⟨g, S.length * 4 + 3, none⟩ = some (.slice Aa f.len ca) := z3
              have HST2 := hide (HST.out.below (((Dr.refl U).drewN nq).below _))
              have HBW2 := hide (below_drewN HBW.out nq)
              have hws2 : wr.heap.size < (U.drewN nq).heap.size := HWs.out.2
              have hgz2 : g < (U.drewN nq).heap.size := hgz
              have HWs2 := hide (And.intro HWs.out.1 hws2)
              clear x0 x1 x2 z0 z1 z2 z3 HST HBW hgz HWs
              generalize U.drewN nq = U2 at *
              have HST3 := hide (HST2.out.below (below_laid U2 (.cells #[.int .u8 u.kind, .string u.text, .int .i64 u.pos, .slice Aa f.len ca] 44)))
              have HST4 := hide (HST3.out.below (below_laid _ (.cells #[.int .u8 u.kind, .string u.text, .int .i64 u.pos, .slice Ar row.len cr, .int .i64 t.pos] 37)))
              have HBW4 := hide ((HBW2.out.trans ((below_laid U2 (.cells #[.int .u8 u.kind, .string u.text, .int .i64 u.pos, .slice Aa f.len ca] 44)).mono HBW2.out.size)).trans ((below_laid (U2.alloc (.cells #[.int .u8 u.kind, .string u.text, .int .i64 u.pos, .slice Aa f.len ca] 44)) (.cells #[.int .u8 u.kind, .string u.text, .int .i64 u.pos, .slice Ar row.len cr, .int .i64 t.pos] 37)).mono (by have := HBW2.out.size; simp; omega)))
              have hblk : ((U2.alloc (.cells #[.int .u8 u.kind, .string u.text, .int .i64 u.pos, .slice Aa f.len ca] 44)).alloc (.cells #[.int .u8 u.kind, .string u.text, .int .i64 u.pos, .slice Ar row.len cr, .int .i64 t.pos] 37)).heap[U2.heap.size + 1]? = some (.cells #[.int .u8 u.kind, .string u.text, .int .i64 u.pos, .slice Ar row.len cr, .int .i64 t.pos] 37 (0, 0)) := by
                have := heap_alloc_new (U2.alloc (.cells #[.int .u8 u.kind, .string u.text, .int .i64 u.pos, .slice Aa f.len ca] 44)) (.cells #[.int .u8 u.kind, .string u.text, .int .i64 u.pos, .slice Ar row.len cr, .int .i64 t.pos] 37)
                rwa [World.size_alloc] at this
              have HBK := hide hblk
              clear hblk
              obtain ⟨xs, r1, r2, r3⟩ := HST4.out.ahead 0 _ rfl
              have HX := hide (And.intro r1 (And.intro r2 r3))
              clear r1 r2 r3
              go_wp2_with (at_builtin; refine app_rowz rfl (.tmp 78) (.tmp 85) 25 25 rfl 37 it _ 5 64 Try.underlying25 hit hzt0 hzt1 hzt2 rfl (.slice Aa f.len ca) f.len xs rfl HX.out.1 _ 1 (treeV u Ar row.len cr t.pos) rfl (tree_news HBK.out) (by unfold maxLen; omega) (by omega) ?_)
              intro A4 c4 w4 hrow4 hgr4 hob4
              have hob5 : (Value.slice A4 (f.len + 1) c4).ownBlock = (Value.slice Aa f.len ca).ownBlock ∨ (Value.slice A4 (f.len + 1) c4).ownBlock = some ((U2.alloc (.cells #[.int .u8 u.kind, .string u.text, .int .i64 u.pos, .slice Aa f.len ca] 44)).alloc (.cells #[.int .u8 u.kind, .string u.text, .int .i64 u.pos, .slice Ar row.len cr, .int .i64 t.pos] 37)).heap.size := by rw [World.size_alloc, World.size_alloc]; exact hob4
              have hnew := TrSt.pop HST4.out (by have := HWs2.out; simp; omega) rfl HX.out.2.1 HX.out.2.2 hgr4 hrow4 hob5
              have hbn := grown_new HBW4.out hgr4 (fun g hg => (HX.out.2.1 g hg).1)
              have HN := hide (And.intro hnew hbn)
              clear hrow4 hgr4 hob4 hob5 hnew hbn
              go_wp2_with fail
              refine ⟨⟨k + 1, by omega, rfl, S, _, _, HN.out.1, HRD.out, ?_, ?_, HN.out.2, ?_⟩, by simp [intOf]; omega⟩
              · rw [Tr.Fo.len_snoc]; show f.len + 1 ≤ k + 1; omega
              · intro x hx; have := HLEN.out.2 x (List.mem_cons_of_mem _ hx); omega
              · have h' := HSC.out; rw [List.length_cons] at h'; omega
            · have hrd := HRUN.out
              rw [show base ((u, f, Value.slice Aa f.len ca) :: S) = (u, f) :: base S from rfl, run_mis ho hc hm] at hrd
              have HRD := hide hrd
              have HCX := hide hcx
              have m2 : (((Tr.closer u.kind : Nat) : Int) == t.kind) = false := by simp; omega
              clear hrd hcl hcs hc ho hcx hm hco h24
              go_wp2_with fail
              refine (HCL.out _).mono ?_
              rintro e w' ⟨rfl, rfl⟩
              generalize wr.alloc (.cells #[.int .u8 t.kind, .string t.text, .int .i64 t.pos] 35) = U at *
              go_wp2_with fail
              refine (HCS.out _).mono ?_
              rintro e w' ⟨rfl, rfl⟩
              go_wp2_with fail
              go_quiet ((go_at_call 21; exact quiet_left (HCX.out _)))
              go_wp2_with fail
              refine (tbad_any t _).mono ?_
              rintro e w1 ⟨rfl, hb1⟩
              have hbz : Below W.heap.size W w1 := by first | exact HBW.out.trans (hb1.mono HBW.out.size) | exact (below_drewN HBW.out _).trans (hb1.mono (below_drewN HBW.out _).size)
              have hf1 := (hbz.block w.heap.size hsz).trans HB.out.2
              have y0 := cell_block hf1 0
              have y1 := cell_block hf1 1
              have y2 := frozen_of_row _ w.heap.size 0 _ _ hf1
              have y3 := frozen_of_row _ w.heap.size 1 _ _ hf1
              simp only [List.getElem?_toArray, List.getElem?_cons_zero, List.getElem?_cons_succ] at y0 y1
              have HF := hide (And.intro (HB.out.1.trans (hbz.mono HB.out.1.size)) (fault_put hf1 (.int .i64 2) (.int .i64 t.pos)))
              clear hb1 hbz hf1
              go_wp2_with fail
              try rw [Exit.noGoto_ret]
              obtain ⟨hq0, hq1⟩ := HF.out.2
              refine bodyPost_ret (v := .tuple #[.slice none 0 0, .agg #[.int .i64 2, .int .i64 t.pos]]) (by simp [results, Try.results9, go_sem, hq0, hq1]) rfl ⟨_, by rw [← HRD.out]; rfl, by rw [← HRD.out]; exact TreeRow.nil, fault_below HF.out.1 (Nat.le_refl _) _ _⟩
      · have hlc := Tr.closer_range t.kind
        have ho1 : ((Tr.closer t.kind : Nat) : Int) ≠ 0 := by omega
        have HCL := hide hcl
        by_cases h24' : 24 ≤ S.length
        · have h24i : (24 : Int) ≤ (S.length : Nat) := by omega
          have hrd := HRUN.out
          rw [run_full ho (by simp [base]; exact h24')] at hrd
          have HRD := hide hrd
          clear hrd hcl hcs hlc
          go_wp2_with fail
          refine (HCL.out _).mono ?_
          rintro e w' ⟨rfl, rfl⟩
          generalize wr.alloc (.cells #[.int .u8 t.kind, .string t.text, .int .i64 t.pos] 35) = U at *
          go_wp2_with fail
          refine (tbad_any t _).mono ?_
          rintro e w1 ⟨rfl, hb1⟩
          have hbz : Below W.heap.size W w1 := by first | exact HBW.out.trans (hb1.mono HBW.out.size) | exact (below_drewN HBW.out _).trans (hb1.mono (below_drewN HBW.out _).size)
          have hf1 := (hbz.block w.heap.size hsz).trans HB.out.2
          have y0 := cell_block hf1 0
          have y1 := cell_block hf1 1
          have y2 := frozen_of_row _ w.heap.size 0 _ _ hf1
          have y3 := frozen_of_row _ w.heap.size 1 _ _ hf1
          simp only [List.getElem?_toArray, List.getElem?_cons_zero, List.getElem?_cons_succ] at y0 y1
          have HF := hide (And.intro (HB.out.1.trans (hbz.mono HB.out.1.size)) (fault_put hf1 (.int .i64 2) (.int .i64 t.pos)))
          clear hb1 hbz hf1
          go_wp2_with fail
          try rw [Exit.noGoto_ret]
          obtain ⟨hq0, hq1⟩ := HF.out.2
          refine bodyPost_ret (v := .tuple #[.slice none 0 0, .agg #[.int .i64 2, .int .i64 t.pos]]) (by simp [results, Try.results9, go_sem, hq0, hq1]) rfl ⟨_, by rw [← HRD.out]; rfl, by rw [← HRD.out]; exact TreeRow.nil, fault_below HF.out.1 (Nat.le_refl _) _ _⟩
        · have h24i : ¬ (24 : Int) ≤ (S.length : Nat) := by omega
          have hrd := HRUN.out
          rw [run_push ho (by simp [base]; omega)] at hrd
          have HRD := hide hrd
          clear hrd hcl hcs hlc
          go_wp2_with fail
          refine (HCL.out _).mono ?_
          rintro e w' ⟨rfl, rfl⟩
          generalize wr.alloc (.cells #[.int .u8 t.kind, .string t.text, .int .i64 t.pos] 35) = U at *
          have hst1 := HST.out.below (below_laid U (.cells #[.int .u8 t.kind, .string t.text, .int .i64 t.pos, .slice Ar row.len cr] 44))
          have HST1 := hide hst1
          clear hst1
          go_wp2_with (at_builtin; refine app_rowz rfl (.tmp 37) (.tmp 41) 40 40 rfl 44 il _ 4 56 Try.underlying40 hil hzl0 hzl1 hzl2 rfl (.slice Ao S.length co) S.length (levelV S.reverse) rfl HST1.out.opened _ 1 (levV (t, row, .slice Ar row.len cr)) rfl (level_news (f := row) (heap_alloc_new U _)) (by unfold maxLen; omega) (by omega) ?_)
          intro A4 c4 w4 hrow4 hgr4 hob4
          have hob5 : (Value.slice A4 (S.length + 1) c4).ownBlock = (Value.slice Ao S.length co).ownBlock ∨ (Value.slice A4 (S.length + 1) c4).ownBlock = some (U.alloc (.cells #[.int .u8 t.kind, .string t.text, .int .i64 t.pos, .slice Ar row.len cr] 44)).heap.size := by rw [World.size_alloc]; exact hob4
          have hnew := TrSt.push (t := t) HST1.out (by have := HWs.out; simp; omega) hgr4 hrow4 hob5
          have hbn := grown_new (HBW.out.trans ((below_laid U (.cells #[.int .u8 t.kind, .string t.text, .int .i64 t.pos, .slice Ar row.len cr] 44)).mono HBW.out.size)) hgr4 (fun g hg => (HST1.out.own g hg).1)
          have HN := hide (And.intro hnew hbn)
          clear hrow4 hgr4 hob4 hob5 hnew hbn
          go_wp2_with fail
          refine ⟨⟨k + 1, by omega, rfl, _, _, _, HN.out.1, HRD.out, Nat.zero_le _, ?_, HN.out.2, by simp; omega⟩, by simp [intOf]; omega⟩
          intro x hx
          rcases List.mem_cons.1 hx with rfl | hx
          · have := HLEN.out.1; simp only; omega
          · have := HLEN.out.2 x hx; omega
    · obtain rfl : k = n := by omega
      have hd0 : l.drop k = [] := List.drop_of_length_le (by omega)
      rw [hd0] at hrun
      have hf1 := (hbw.block w.heap.size hsz).trans HB.out.2
      have y0 := cell_block hf1 0
      have y1 := cell_block hf1 1
      have y2 := frozen_of_row _ w.heap.size 0 _ _ hf1
      have y3 := frozen_of_row _ w.heap.size 1 _ _ hf1
      simp only [List.getElem?_toArray, List.getElem?_cons_zero, List.getElem?_cons_succ] at y0 y1
      have HBW := hide hbw
      have HST := hide hst
      cases S with
      | nil =>
        have HRD := hide (show Tr.Out.good row = Tr.read l from hrun)
        have HF := hide (And.intro (HB.out.1.trans (hbw.mono HB.out.1.size)) (fault_put hf1 (.int .i64 0) (.int .i64 0)))
        clear hbw hst hrun hf1 hd0 h24 hsl hrl
        go_wp2_with fail
        obtain ⟨hq0, hq1⟩ := HF.out.2
        refine bodyPost_ret (v := .tuple #[.slice Ar row.len cr, .agg #[.int .i64 0, .int .i64 0]]) (by simp [results, Try.results9, go_sem, hq0, hq1]) rfl ⟨_, by rw [← HRD.out]; rfl, ?_, fault_below HF.out.1 (Nat.le_refl _) _ _⟩
        rw [← HRD.out]
        refine HST.out.last.keep fun b hb => ⟨⟨by have := hb.1; omega, by have := hb.2.1; simp; exact this⟩, ?_⟩
        rw [Below.heap_setCell _ _ _ _ (fun e => by have := hb.1; simp at e; omega), Below.heap_setCell _ _ _ _ (fun e => by have := hb.1; simp at e; omega)]
      | cons x S =>
        obtain ⟨u, f, va⟩ := x
        have HRD := hide (show Tr.Out.bad u.pos = Tr.read l from hrun)
        obtain ⟨g, rfl⟩ := RowZ.addr hst.opened (by simp)
        obtain ⟨z0, z1, z2, z3⟩ := hst.top
        simp only at z0 z1 z2
        have q0 : (0 : Int) < (S.length : Int) + 1 := by omega
        have hco2 : (S.length : Nat) ≤ 24 := by simp at h24; omega
        have q1 : IntKind.i64.wrap ((S.length : Int) + 1 - 1) = (S.length : Int) := by rw [IntWalk.i64_in _ (by omega)]; omega
        have q2 : (0 : Int) ≤ (S.length : Nat) := by omega
        have q3 : ((S.length : Nat) : Int) < (S.length : Int) + 1 := by omega
        clear hbw hst hrun hf1 hd0 h24 hsl hrl z3 hco y0 y1 y2 y3
        go_wp2_with fail
        refine (tbad_any u _).mono ?_
        rintro e w1 ⟨rfl, hb1⟩
        have hbz : Below W.heap.size W w1 := by first | exact HBW.out.trans (hb1.mono HBW.out.size) | exact (below_drewN HBW.out _).trans (hb1.mono (below_drewN HBW.out _).size)
        have hf1 := (hbz.block w.heap.size hsz).trans HB.out.2
        have y0 := cell_block hf1 0
        have y1 := cell_block hf1 1
        have y2 := frozen_of_row _ w.heap.size 0 _ _ hf1
        have y3 := frozen_of_row _ w.heap.size 1 _ _ hf1
        simp only [List.getElem?_toArray, List.getElem?_cons_zero, List.getElem?_cons_succ] at y0 y1
        have HF := hide (And.intro (HB.out.1.trans (hbz.mono HB.out.1.size)) (fault_put hf1 (.int .i64 2) (.int .i64 u.pos)))
        clear hb1 hbz hf1
        go_wp2_with fail
        try rw [Exit.noGoto_ret]
        obtain ⟨hq0, hq1⟩ := HF.out.2
        refine bodyPost_ret (v := .tuple #[.slice none 0 0, .agg #[.int .i64 2, .int .i64 u.pos]]) (by simp [results, Try.results9, go_sem, hq0, hq1]) rfl ⟨_, by rw [← HRD.out]; rfl, by rw [← HRD.out]; exact TreeRow.nil, fault_below HF.out.1 (Nat.le_refl _) _ _⟩
end Go.Proofs.Ytokfcnjmgnmncaa
