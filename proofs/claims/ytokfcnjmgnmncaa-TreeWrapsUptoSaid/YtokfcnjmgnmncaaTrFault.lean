/- The walk of the document's fault: where the pieces are wrong first. -/
import Derived.Test.YtokfcnjmgnmncaaTrRead
namespace Go.Proofs.Ytokfcnjmgnmncaa
open Go.RowKit

def intsV (ps : List Nat) : List Value := ps.map fun (p : Nat) => Value.int .i64 p
theorem intsV_len (ps : List Nat) : (intsV ps).length = ps.length := by simp [intsV]
theorem info_int : (Try.prog.info? 3).map (fun i => (i.zero, i.size, i.bytes)) = some (some (.int .i64 0), 1, 8) := by kernel_rfl
theorem int_news {w : World} {b : Nat} {z : Int} (h : w.heap[b]? = some (.cells #[.int .i64 z] 3 (0, 0))) : Src Try.prog 1 52 (.slice (some ⟨b, 0, none⟩) 1 1) 1 [.int .i64 z] w :=
  Src.ofSlice _ Try.underlying52 ⟨b, 0, none⟩ 1 1 _ rfl (World.news_of_block (cs := #[.int .i64 z]) (t := 3) (fr := (0, 0)) h) (by simp [Value.oneCell'])
theorem flt_push {l : List Lx.T} {t : Lx.T} {r : List Lx.T} {i : Nat} {st : List Nat} (ho : Tr.closer t.kind ≠ 0) (h : ¬ 24 ≤ st.length) : Tr.flt l (t :: r) i st = Tr.flt l r (i + 1) (i :: st) := by
  simp only [Tr.flt]; rw [if_pos ho, if_neg h]
theorem flt_full {l : List Lx.T} {t : Lx.T} {r : List Lx.T} {i : Nat} {st : List Nat} (ho : Tr.closer t.kind ≠ 0) (h : 24 ≤ st.length) : Tr.flt l (t :: r) i st = i := by
  simp only [Tr.flt]; rw [if_pos ho, if_pos h]
theorem flt_plain {l : List Lx.T} {t : Lx.T} {r : List Lx.T} {i : Nat} {st : List Nat} (ho : Tr.closer t.kind = 0) (hc : Tr.closes t.kind = false) : Tr.flt l (t :: r) i st = Tr.flt l r (i + 1) st := by
  simp only [Tr.flt]; rw [if_neg (by omega), if_neg (by rw [hc]; simp)]
theorem flt_none {l : List Lx.T} {t : Lx.T} {r : List Lx.T} {i : Nat} (ho : Tr.closer t.kind = 0) (hc : Tr.closes t.kind = true) : Tr.flt l (t :: r) i [] = i := by
  simp only [Tr.flt]; rw [if_neg (by omega), if_pos hc]
theorem flt_pop {l : List Lx.T} {t : Lx.T} {r : List Lx.T} {i p : Nat} {st : List Nat} (ho : Tr.closer t.kind = 0) (hc : Tr.closes t.kind = true) (h : Tr.closer (Tr.kindAt l p) = t.kind) : Tr.flt l (t :: r) i (p :: st) = Tr.flt l r (i + 1) st := by
  simp only [Tr.flt]; rw [if_neg (by omega), if_pos hc, if_pos h]
theorem flt_mis {l : List Lx.T} {t : Lx.T} {r : List Lx.T} {i p : Nat} {st : List Nat} (ho : Tr.closer t.kind = 0) (hc : Tr.closes t.kind = true) (h : Tr.closer (Tr.kindAt l p) ≠ t.kind) : Tr.flt l (t :: r) i (p :: st) = i := by
  simp only [Tr.flt]; rw [if_neg (by omega), if_pos hc, if_neg h]
/-- What the loop has, at its heads. -/
def FltRel (l : List Lx.T) (w wr : World) (k : Nat) (vo : Value) (ps : List Nat) : Prop :=
  RowZ wr 3 1 vo ps.length (intsV ps.reverse) ∧ (∀ g, vo.ownBlock = some g → w.heap.size ≤ g) ∧ Tr.flt l (l.drop k) k ps = Tr.fault l ∧ (∀ p ∈ ps, p < k) ∧ ps.length ≤ 24 ∧ Below w.heap.size w wr
theorem intsV_top {p : Nat} {ps : List Nat} : (intsV (p :: ps).reverse)[ps.length]? = some (.int .i64 p) := by
  simp [intsV]

set_option maxRecDepth 100000 in
set_option maxHeartbeats 8000000 in
theorem rfault_any (n c B : Nat) (A : Option Addr) (l : List Lx.T) (w : World) (h : HasT w B A n l) (hB : B ≤ w.heap.size) (hn : n ≤ 1100000) : Calls Try.prog 24 #[.slice A n c] w fun e w' =>
    e = .returned (.int .i64 (Tr.fault l)) ∧ Below w.heap.size w w' := by
  obtain ⟨it, hit, hzt0, hzt1, hzt2⟩ := info_parts info_int
  have hln := h.1
  have HH := hide (h.more hB)
  clear h
  go_enter Try.func24, Try.ntmps24
  go_wp2_with fail
  go_loopw [3, 4] (fun vo i wr => ∃ (k : Nat) (ps : List Nat), k ≤ n ∧ i = .int .i64 k ∧ FltRel l w wr k vo ps) (fun _ i _ => n - (intOf i).toNat)
  case atStart => exact ⟨0, [], Nat.zero_le _, rfl, RowZ.nil, (fun g h => by simp [Value.ownBlock] at h), rfl, (fun p hp => by cases hp), Nat.zero_le _, Below.refl _ _⟩
  case round =>
    obtain ⟨k, ps, hk, rfl, hrow, hown, hflt, hps, h24, hbw⟩ := hrel
    obtain ⟨Ao, co, rfl, hco, hcom⟩ := RowZ.form hrow
    unfold maxLen at hcom
    have HBW := hide hbw
    have HROW := hide (And.intro hrow hown)
    by_cases hlt : k < n
    · obtain ⟨t, ht⟩ : ∃ t, l[k]? = some t := ⟨l[k]'(by omega), List.getElem?_eq_getElem _⟩
      obtain ⟨b, off, rfl, hbB, hcell⟩ := (HH.out.below hbw).2 (by omega)
      obtain ⟨d0, d1, d2⟩ := hcell k t ht
      have hk0 : (k : Int) < n := by omega
      have hk1 : (0 : Int) ≤ k := by omega
      rw [Tr.drop_at ht] at hflt
      have HCELL := hide hcell
      have HFLT := hide hflt
      have HPS := hide hps
      have hcl := fun W => rclosing_any t.kind W
      have hcs := fun W => rcloses_any t.kind W
      clear hrow hown hbw hcell hflt hps ht d1 d2
      by_cases ho : Tr.closer t.kind = 0
      · rw [ho] at hcl
        have HCL := hide hcl
        cases hc : Tr.closes t.kind
        · rw [hc] at hcs
          have HCS := hide hcs
          have hrd := HFLT.out
          rw [flt_plain ho hc] at hrd
          have HRD := hide hrd
          clear hrd hcl hcs hc ho
          go_wp2_with fail
          refine (HCL.out _).mono ?_
          rintro e w' ⟨rfl, rfl⟩
          go_wp2_with fail
          refine (HCS.out _).mono ?_
          rintro e w' ⟨rfl, rfl⟩
          go_wp2_with fail
          exact ⟨⟨k + 1, ps, by omega, rfl, HROW.out.1, HROW.out.2, HRD.out, fun p hp => by have := HPS.out p hp; omega, h24, HBW.out⟩, by simp [intOf]; omega⟩
        · rw [hc] at hcs
          have HCS := hide hcs
          cases ps with
          | nil =>
            have hrd := HFLT.out
            rw [flt_none ho hc] at hrd
            have HRD := hide hrd
            clear hrd hcl hcs hc ho
            go_wp2_with fail
            refine (HCL.out _).mono ?_
            rintro e w' ⟨rfl, rfl⟩
            go_wp2_with fail
            refine (HCS.out _).mono ?_
            rintro e w' ⟨rfl, rfl⟩
            go_wp2_with fail
            go_ret
            exact ⟨ret_int HRD.out, HBW.out⟩
          | cons p ps =>
            obtain ⟨g, rfl⟩ := RowZ.addr HROW.out.1 (by simp)
            have hpk := HPS.out p (by simp)
            obtain ⟨u, hu⟩ : ∃ u, l[p]? = some u := ⟨l[p]'(by omega), List.getElem?_eq_getElem _⟩
            have e0 := (HCELL.out p u hu).1
            have z0 : wr.cell? ⟨g, ps.length, none⟩ = some (.int .i64 p) := by rw [RowZ.cell HROW.out.1 (by simp [intsV]), intsV_top]
            have hku : Tr.kindAt l p = u.kind := by simp only [Tr.kindAt, hu]
            have hcx := fun W => rclosing_any u.kind W
            have hplen : ps.length ≤ 24 := by simp at h24; omega
            have hcap : ps.length + 1 ≤ co := by simpa using hco
            have q0 : ((ps.length : Int) + 1 == 0) = false := by simp; omega
            have q1 : IntKind.i64.wrap ((ps.length : Int) + 1 - 1) = (ps.length : Int) := by rw [IntWalk.i64_in _ (by omega)]; omega
            have q2 : (0 : Int) ≤ (ps.length : Nat) := by omega
            have q3 : ((ps.length : Nat) : Int) < (ps.length : Int) + 1 := by omega
            have q4 : (ps.length : Int) ≤ co := by omega
            have q5 : (0 : Int) ≤ p := by omega
            have q6 : (p : Int) < n := by omega
            by_cases hm : Tr.closer u.kind = t.kind
            · have hrd := HFLT.out
              rw [flt_pop ho hc (by rw [hku]; exact hm)] at hrd
              have HRD := hide hrd
              have HCX := hide hcx
              have m2 : (((Tr.closer u.kind : Nat) : Int) == t.kind) = true := by simp; omega
              clear hrd hcl hcs hc ho hcx hm hco hku hu h24
              go_wp2_with fail
              refine (HCL.out _).mono ?_
              rintro e w' ⟨rfl, rfl⟩
              go_wp2_with fail
              refine (HCS.out _).mono ?_
              rintro e w' ⟨rfl, rfl⟩
              go_wp2_with fail
              refine (HCX.out _).mono ?_
              rintro e w' ⟨rfl, rfl⟩
              go_wp2_with fail
              have hcut := RowZ.cut HROW.out.1 (k := ps.length) (c' := co) (by simp) (by omega) (Nat.le_refl _) (fun hn => by cases hn)
              rw [show (intsV (p :: ps).reverse).take (ps.length * 1) = intsV ps.reverse by simp [intsV]] at hcut
              exact ⟨⟨k + 1, ps, by omega, rfl, hcut, fun g' hg => HROW.out.2 g' hg, HRD.out, fun p hp => by have := HPS.out p (List.mem_cons_of_mem _ hp); omega, hplen, HBW.out⟩, by simp [intOf]; omega⟩
            · have hrd := HFLT.out
              rw [flt_mis ho hc (by rw [hku]; exact hm)] at hrd
              have HRD := hide hrd
              have HCX := hide hcx
              have m2 : (((Tr.closer u.kind : Nat) : Int) == t.kind) = false := by simp; omega
              clear hrd hcl hcs hc ho hcx hm hco hku hu h24
              go_wp2_with fail
              refine (HCL.out _).mono ?_
              rintro e w' ⟨rfl, rfl⟩
              go_wp2_with fail
              refine (HCS.out _).mono ?_
              rintro e w' ⟨rfl, rfl⟩
              go_wp2_with fail
              refine (HCX.out _).mono ?_
              rintro e w' ⟨rfl, rfl⟩
              go_wp2_with fail
              go_ret
              exact ⟨ret_int HRD.out, HBW.out⟩
      · have hlc := Tr.closer_range t.kind
        have ho1 : ((Tr.closer t.kind : Nat) : Int) ≠ 0 := by omega
        have HCL := hide hcl
        have hcf : Tr.closes t.kind = false := by
          cases hc : Tr.closes t.kind
          · rfl
          · exact absurd (Tr.closer_of hc) ho
        rw [hcf] at hcs
        have HCS := hide hcs
        by_cases h24' : 24 ≤ ps.length
        · have h24i : (24 : Int) ≤ (ps.length : Nat) := by omega
          have hrd := HFLT.out
          rw [flt_full ho h24'] at hrd
          have HRD := hide hrd
          clear hrd hcl hcs hlc hcf
          go_wp2_with fail
          refine (HCL.out _).mono ?_
          rintro e w' ⟨rfl, rfl⟩
          go_wp2_with fail
          go_ret
          exact ⟨ret_int HRD.out, HBW.out⟩
        · have h24i : ¬ (24 : Int) ≤ (ps.length : Nat) := by omega
          have hrd := HFLT.out
          rw [flt_push ho h24'] at hrd
          have HRD := hide hrd
          clear hrd hcl hcs hlc hcf
          go_wp2_with fail
          refine (HCL.out _).mono ?_
          rintro e w' ⟨rfl, rfl⟩
          go_wp2_with (at_builtin; refine app_rowz rfl (.tmp 24) (.tmp 26) 52 52 rfl 3 it _ 1 8 Try.underlying52 hit hzt0 hzt1 hzt2 rfl (.slice Ao ps.length co) ps.length (intsV ps.reverse) rfl (RowZ.below HROW.out.1 (below_laid wr _)) _ 1 [.int .i64 k] rfl (int_news (heap_alloc_new wr _)) (by unfold maxLen; omega) (by omega) ?_)
          intro A4 c4 w4 hrow4 hgr4 hob4
          have hbn := grown_new (HBW.out.trans ((below_laid wr (.cells #[.int .i64 k] 3)).mono HBW.out.size)) hgr4 HROW.out.2
          have hown4 : ∀ g, (Value.slice A4 (ps.length + 1) c4).ownBlock = some g → w.heap.size ≤ g := fun g hg => by
            rcases hob4 with h | h
            · exact HROW.out.2 g (h ▸ hg)
            · rw [h] at hg; have := HBW.out.size; simp at hg; omega
          have hrow5 : RowZ w4 3 1 (.slice A4 (ps.length + 1) c4) (ps.length + 1) (intsV (k :: ps).reverse) := by simpa [intsV] using hrow4
          have HN := hide (And.intro hrow5 (And.intro hown4 hbn))
          clear hrow4 hgr4 hob4 hown4 hbn hrow5
          go_wp2_with fail
          refine (HCS.out _).mono ?_
          rintro e w' ⟨rfl, rfl⟩
          go_wp2_with fail
          refine ⟨⟨k + 1, k :: ps, by omega, rfl, HN.out.1, HN.out.2.1, HRD.out, ?_, by simp; omega, HN.out.2.2⟩, by simp [intOf]; omega⟩
          intro p hp
          rcases List.mem_cons.1 hp with rfl | hp
          · omega
          · have := HPS.out p hp; omega
    · obtain rfl : k = n := by omega
      have hd0 : l.drop k = [] := List.drop_of_length_le (by omega)
      rw [hd0] at hflt
      cases ps with
      | nil =>
        have HRD := hide (show (-1 : Int) = Tr.fault l from hflt)
        clear hrow hown hbw hflt hps hd0 h24
        go_wp2_with fail
        go_ret
        exact ⟨ret_int HRD.out, HBW.out⟩
      | cons p ps =>
        have HRD := hide (show ((p : Nat) : Int) = Tr.fault l from hflt)
        obtain ⟨g, rfl⟩ := RowZ.addr HROW.out.1 (by simp)
        have z0 : wr.cell? ⟨g, ps.length, none⟩ = some (.int .i64 p) := by rw [RowZ.cell HROW.out.1 (by simp [intsV]), intsV_top]
        have hplen : ps.length ≤ 24 := by simp at h24; omega
        have q0 : (0 : Int) < (ps.length : Int) + 1 := by omega
        have q1 : IntKind.i64.wrap ((ps.length : Int) + 1 - 1) = (ps.length : Int) := by rw [IntWalk.i64_in _ (by omega)]; omega
        have q2 : (0 : Int) ≤ (ps.length : Nat) := by omega
        have q3 : ((ps.length : Nat) : Int) < (ps.length : Int) + 1 := by omega
        clear hrow hown hbw hflt hps hd0 h24 hco
        go_wp2_with fail
        go_ret
        exact ⟨ret_int HRD.out, HBW.out⟩
end Go.Proofs.Ytokfcnjmgnmncaa
