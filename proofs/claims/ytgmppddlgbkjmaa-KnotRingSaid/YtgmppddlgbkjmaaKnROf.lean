/- The walk of the reference's Of: the least node of each node's knot. -/
import Derived.Test.YtgmppddlgbkjmaaKnReach
namespace Go.Proofs.Ytgmppddlgbkjmaa
open Go.RowKit

namespace Kn
/-- The least nodes of all knots. -/
def Ofs (g : G) (l : List Nat) : Prop := l.length = g.length ∧ ∀ i, i < g.length → IsLeast g i (l.getD i 0)
theorem Ofs.uniq {g : G} {l m : List Nat} (h : Ofs g l) (h' : Ofs g m) : l = m := by
  refine List.ext_getElem (h.1.trans h'.1.symm) fun i h1 h2 => ?_
  have a1 := h.2 i (by rw [← h.1]; exact h1)
  have a2 := h'.2 i (by rw [← h.1]; exact h1)
  rw [List.getD_eq_getElem?_getD, List.getElem?_eq_getElem h1] at a1
  rw [List.getD_eq_getElem?_getD, List.getElem?_eq_getElem h2] at a2
  exact a1.uniq a2
end Kn
theorem info_ints : (Try.prog.info? 26).map (fun i => (i.zero, i.size, i.bytes)) = some (some (.slice none 0 0), 1, 24) := by kernel_rfl
theorem ints_news {w : World} {b : Nat} {v : Value} (h : w.heap[b]? = some (.cells #[v] 26 (0, 0))) (h1 : v.oneCell' = true) : Src Try.prog 1 22 (.slice (some ⟨b, 0, none⟩) 1 1) 1 [v] w :=
  Src.ofSlice _ Try.underlying22 ⟨b, 0, none⟩ 1 1 _ rfl (World.news_of_block (cs := #[v]) (t := 26) (fr := (0, 0)) h) (by simp [h1])
/-- A row of rows of numbers, all of one's own, being made. -/
structure RR (w : World) (B : Nat) (A : Option Addr) (n c : Nat) (ls : List (List Nat)) : Prop where
  ex : ∃ vals : List Value, RowZ w 26 1 (.slice A n c) n vals ∧ ls.length = n ∧ ∀ (k : Nat) (l : List Nat), ls[k]? = some l → ∃ A' m c', vals[k]? = some (.slice A' m c') ∧ IR w B A' m c' l ∧ m ≤ 1000000
  own : ∀ b, (Value.slice A n c).ownBlock = some b → B ≤ b
theorem RR.nil (w : World) (B : Nat) : RR w B none 0 0 [] := ⟨⟨[], RowZ.nil, rfl, fun k l h => by simp at h⟩, fun b h => by cases h⟩
theorem RR.below {w w' : World} {B n c : Nat} {A : Option Addr} {ls : List (List Nat)} (h : RR w B A n c ls) (hb : Below w.heap.size w w') : RR w' B A n c ls := by
  obtain ⟨vals, h1, h2, h3⟩ := h.ex
  refine ⟨⟨vals, RowZ.below h1 hb, h2, fun k l hk => ?_⟩, h.own⟩
  obtain ⟨A', m, c', h4, h5, h6⟩ := h3 k l hk
  exact ⟨A', m, c', h4, h5.below hb, h6⟩
/-- The same, made, and only read from now on. -/
structure HasR (w : World) (B : Nat) (A : Option Addr) (n : Nat) (ls : List (List Nat)) : Prop where
  len : ls.length = n
  ex : 0 < n → ∃ b, A = some ⟨b, 0, none⟩ ∧ b < B ∧ ∀ (k : Nat) (l : List Nat), ls[k]? = some l → ∃ A' m c', w.cell? ⟨b, k, none⟩ = some (.slice A' m c') ∧ Has w B A' m (intsV l) ∧ m ≤ 1000000
theorem RR.has {w : World} {B n c : Nat} {A : Option Addr} {ls : List (List Nat)} (h : RR w B A n c ls) : HasR w w.heap.size A n ls := by
  obtain ⟨vals, h1, h2, h3⟩ := h.ex
  refine ⟨h2, fun hn => ?_⟩
  obtain ⟨g, rfl⟩ := RowZ.addr h1 hn
  refine ⟨g, rfl, RowZ.lt h1 g rfl, fun k l hk => ?_⟩
  obtain ⟨A', m, c', h4, h5, h6⟩ := h3 k l hk
  exact ⟨A', m, c', by rw [RowZ.cell h1 (List.getElem?_eq_some_iff.1 h4).1]; exact h4, h5.has, h6⟩
theorem HasR.below {w w' : World} {B n : Nat} {A : Option Addr} {ls : List (List Nat)} (h : HasR w B A n ls) (hb : Below B w w') : HasR w' B A n ls := by
  refine ⟨h.len, fun hn => ?_⟩
  obtain ⟨b, h1, h2, h3⟩ := h.ex hn
  refine ⟨b, h1, h2, fun k l hk => ?_⟩
  obtain ⟨A', m, c', h4, h5, h6⟩ := h3 k l hk
  exact ⟨A', m, c', (hb.cell (p := ⟨b, k, none⟩) h2).trans h4, h5.below hb, h6⟩
/-- A row appended. -/
theorem app_ints {w : World} {ops : Array Oper} {rest : List Oper} {o : Oper} {a : Act} {Q : Exit → Act → World → Prop} (hgd : o.guard = none) (s x : Operand)
    (ho : o.op = .call { callee := .builtin .append, args := #[s, x], argTypes := #[22, 22] }) {B n c m1 c1 : Nat} {A A1 : Option Addr} {ls : List (List Nat)} {l : List Nat} {b : Nat} (hs : a.eval s = .slice A n c) (hx : a.eval x = .slice (some ⟨b, 0, none⟩) 1 1)
    (hb : w.heap[b]? = some (.cells #[.slice A1 m1 c1] 26 (0, 0))) (h : RR w B A n c ls) (hl : IR w B A1 m1 c1 l) (hm1 : m1 ≤ 1000000) (hB : B ≤ w.heap.size) (hn : n ≤ 1000000)
    (hK : ∀ A' c' w', RR w' B A' (n + 1) c' (ls ++ [l]) → Below B w w' → wpList Try.prog ops Q rest (a.put o.dst (.slice A' (n + 1) c')) w') : wpList Try.prog ops Q (o :: rest) a w := by
  obtain ⟨it, hit, hz0, hz1, hz2⟩ := info_parts info_ints
  obtain ⟨vals, h1, h2, h3⟩ := h.ex
  have hvl := h1.len
  refine app_rowz hgd s x 22 22 ho 26 it _ 1 24 Try.underlying22 hit hz0 hz1 hz2 rfl (.slice A n c) n vals hs h1 _ 1 [.slice A1 m1 c1] hx (ints_news hb rfl) (by unfold maxLen; omega) (by omega) ?_
  intro A' c' w' hr hg hob
  have hty : ∀ {A2 : Option Addr} {m2 c2 : Nat} {l2 : List Nat}, IR w B A2 m2 c2 l2 → IR w' B A2 m2 c2 l2 := fun hi => hi.keep hg fun b2 hb2 e => by
    obtain ⟨cur, hc⟩ := RowZ.block h1 e
    exact RowZ.ne_type hi.row hc (by decide) hb2
  refine hK A' c' w' ⟨⟨vals ++ [.slice A1 m1 c1], hr, by simp [h2], fun k l' hk => ?_⟩, fun b' hb' => ?_⟩ (grown_from (Below.refl B w) hB hg fun b' hb' => h.own b' hb')
  · by_cases hkl : k < ls.length
    · rw [List.getElem?_append_left hkl] at hk
      obtain ⟨A2, m2, c2, h4, h5, h6⟩ := h3 k l' hk
      exact ⟨A2, m2, c2, by rw [List.getElem?_append_left (List.getElem?_eq_some_iff.1 h4).1]; exact h4, hty h5, h6⟩
    · rw [List.getElem?_append_right (by omega)] at hk
      have hk0 : k - ls.length = 0 := by have := (List.getElem?_eq_some_iff.1 hk).1; simp at this; omega
      rw [hk0] at hk
      simp at hk
      subst hk
      refine ⟨A1, m1, c1, ?_, hty hl, hm1⟩
      rw [List.getElem?_append_right (by omega), show k - vals.length = 0 by omega]
      rfl
  · rcases hob with e | e
    · rw [e] at hb'; exact h.own b' hb'
    · rw [e] at hb'; simp only [Option.some.injEq] at hb'; omega
/-- The relations of the loops. -/
structure ROf1 (w : World) (g : Kn.G) (v kv : Value) (wr : World) : Prop where
  ex : ∃ (k c : Nat) (A : Option Addr) (ls : List (List Nat)), k ≤ g.length ∧ kv = .int .i64 (k : Nat) ∧ v = .slice A k c ∧ RR wr w.heap.size A k c ls ∧ Below w.heap.size w wr ∧ ∀ (i : Nat) (l : List Nat), ls[i]? = some l → ∀ y, y ∈ l ↔ Kn.Reach g i y
structure ROf2 (w : World) (B2 : Nat) (g : Kn.G) (Ar : Option Addr) (ls : List (List Nat)) (v kv : Value) (wr : World) : Prop where
  ex : ∃ (k c : Nat) (A : Option Addr) (l : List Nat), k ≤ g.length ∧ kv = .int .i64 (k : Nat) ∧ v = .slice A k c ∧ IR wr B2 A k c l ∧ Below w.heap.size w wr ∧ B2 ≤ wr.heap.size ∧ HasR wr B2 Ar g.length ls ∧ ∀ (i m : Nat), l[i]? = some m → Kn.IsLeast g i m
structure ROf3 (g : Kn.G) (i : Nat) (v jv : Value) : Prop where
  ex : ∃ (j m : Nat), j ≤ i ∧ jv = .int .i64 (j : Nat) ∧ v = .int .i64 (m : Nat) ∧ m ≤ i ∧ Kn.Mut g i m ∧ ∀ z, z < j → Kn.Mut g i z → m ≤ z
structure ROfE (n : Nat) (g : Kn.G) (w : World) (e : Ending) (w' : World) : Prop where
  ex : ∃ A c l, e = .returned (.slice A n c) ∧ IR w' w.heap.size A n c l ∧ Kn.Ofs g l
  below : Below w.heap.size w w'
set_option maxRecDepth 100000 in
set_option maxHeartbeats 4000000 in
theorem rof_any (n cg B : Nat) (Ag : Option Addr) (g : Kn.G) (w : World) (hG : HasG w B Ag n g) (hB : B ≤ w.heap.size) (hn : n ≤ 1000000) (hA : ∀ i, (Kn.arcs g i).length ≤ 1000000) :
    Calls Try.prog 11 #[.slice Ag n cg] w fun e w' => ROfE n g w e w' := by
  have hgl := hG.1
  subst hgl
  generalize hgn : g.length = n at *
  have HGN := hide hgn
  have HG := hide (And.intro hG (And.intro hB hA))
  clear hgn hG hB hA
  go_enter Try.func11, Try.ntmps11
  go_wp2_with fail
  go_loopw [3, 5] (fun v kv wr => ROf1 w g v kv wr) (fun _ kv _ => n - (intOf kv).toNat)
  case atStart => exact ⟨⟨0, 0, none, [], Nat.zero_le _, rfl, rfl, RR.nil _ _, Below.refl _ _, fun i l h => by simp at h⟩⟩
  case round =>
    obtain ⟨⟨k, c, A, ls, hk, rfl, rfl, hrr, hbl, hls⟩⟩ := hrel
    rw [HGN.out] at hk
    have k0 : (0 : Int) ≤ k := by omega
    by_cases hlt : k < n
    · have k1 : (k : Int) < n := by omega
      have HR := hide (And.intro hrr (And.intro hbl hls))
      have HC := hide (rreach_any n cg B k Ag g wr (HG.out.1.below (hbl.mono HG.out.2.1)) (Nat.le_trans HG.out.2.1 hbl.size) hn hlt HG.out.2.2)
      clear hrr hbl hls
      go_wp2_with (first | (go_at_call 16; refine (HC.out).mono ?_; rintro e w1 ⟨⟨A1, m1, c1, l1, rfl, hI1, hm1, hl1⟩, hb1⟩; have H1 := hide (And.intro hI1 (And.intro hm1 (And.intro hl1 hb1))); clear hI1 hm1 hl1 hb1) | (at_builtin; refine app_ints rfl (.tmp 15) (.tmp 19) rfl rfl rfl (A1 := A1) (m1 := m1) (c1 := c1) (l := l1) (heap_alloc_new w1 _) ((HR.out.1.below H1.out.2.2.2).below (below_laid _ _)) ((H1.out.1.more HR.out.2.1.size).below (below_laid _ _)) (by have := H1.out.2.1; omega) (by have := H1.out.2.2.2.size; have := HR.out.2.1.size; rw [World.size_alloc]; omega) (by omega) ?_; intro A' c' w' hr hb; have HF := hide (And.intro hr hb); clear hr hb))
      refine ⟨⟨⟨k + 1, c', A', ls ++ [l1], by rw [HGN.out]; omega, by congr 1, rfl, HF.out.1, ?_, fun i l hi y => ?_⟩⟩, by simp only [intOf]; omega⟩
      · exact HR.out.2.1.trans ((H1.out.2.2.2.mono HR.out.2.1.size).trans (((below_laid w1 _).mono (Nat.le_trans HR.out.2.1.size H1.out.2.2.2.size)).trans HF.out.2))
      · have hll : ls.length = k := by obtain ⟨_, _, h, _⟩ := HR.out.1.ex; exact h
        by_cases hik : i < ls.length
        · rw [List.getElem?_append_left hik] at hi
          exact HR.out.2.2 i l hi y
        · rw [List.getElem?_append_right (by omega)] at hi
          have hk0 : i - ls.length = 0 := by have := (List.getElem?_eq_some_iff.1 hi).1; simp at this; omega
          rw [hk0] at hi
          simp at hi
          subst hi
          rw [show i = k by omega]
          exact H1.out.2.2.1 y
    · obtain rfl : k = n := by omega
      have k1 : ¬ (k : Int) < k := by omega
      have hhr := hrr.has
      have hlk : ls.length = k := by obtain ⟨_, _, h, _⟩ := hrr.ex; exact h
      have HR := hide (And.intro hbl (And.intro hls (And.intro hhr hlk)))
      have hwz : w.heap.size ≤ wr.heap.size := hbl.size
      clear hrr hbl hls hhr hlk hlt hk
      go_wp2_with fail
      generalize wr = w1 at *
      go_loopw [4, 6] (fun v kv wr => ROf2 w w1.heap.size g A ls v kv wr) (fun _ kv _ => k - (intOf kv).toNat)
      case atStart => exact ⟨⟨0, 0, none, [], Nat.zero_le _, rfl, rfl, IR.nil _ _, HR.out.1, Nat.le_refl _, by rw [HGN.out]; exact HR.out.2.2.1, fun i l h => by simp at h⟩⟩
      case round =>
        obtain ⟨⟨i, c2, A2, l2, hi, rfl, rfl, hr2, hb2, hs2, hh2, hl2⟩⟩ := hrel
        rw [HGN.out] at hi hh2
        have i0 : (0 : Int) ≤ i := by omega
        by_cases hik : i < k
        · have i1 : (i : Int) < k := by omega
          obtain ⟨bA, rfl, hbA, hrd⟩ := hh2.ex (by omega)
          obtain ⟨li, hli⟩ : ∃ li, ls[i]? = some li := ⟨_, List.getElem?_eq_getElem (by have := HR.out.2.2.2; omega)⟩
          obtain ⟨Ai, mi, ci, hci, hhi, hmi⟩ := hrd i li hli
          have HI := hide (And.intro hrd (And.intro (HR.out.2.1 i li hli) hhi))
          have H2 := hide (And.intro hr2 (And.intro hb2 (And.intro hs2 (And.intro hh2 hl2))))
          clear hrd hhi hr2 hb2 hs2 hh2 hl2 hli
          go_wp2_with fail
          go_loop [7, 8] (fun v jv => ROf3 g i v jv) (fun _ jv => i - (intOf jv).toNat)
          case atStart => exact ⟨⟨0, i, Nat.zero_le _, rfl, rfl, Nat.le_refl _, ⟨Kn.Reach.refl _, Kn.Reach.refl _⟩, fun z hz => by omega⟩⟩
          case round =>
            obtain ⟨⟨j, m, hj, rfl, rfl, hm, hmut, hmin⟩⟩ := hrel
            have HM := hide (And.intro hmut hmin)
            clear hmut hmin
            have j0 : (0 : Int) ≤ j := by omega
            by_cases hji : j < i
            · have j1 : (j : Int) < i := by omega
              have j2 : (j : Int) < k := by omega
              obtain ⟨lj, hlj⟩ : ∃ lj, ls[j]? = some lj := ⟨_, List.getElem?_eq_getElem (by have := HR.out.2.2.2; omega)⟩
              obtain ⟨Aj, mj, cj, hcj, hhj, hmj⟩ := HI.out.1 j lj hlj
              have HJ := hide (And.intro (HR.out.2.1 j lj hlj) hhj)
              clear hlj hhj
              have HC1 := hide (in_any mi ci w1.heap.size Ai li (j : Nat) wr HI.out.2.2 hmi)
              have HC2 := hide (in_any mj cj w1.heap.size Aj lj (i : Nat) wr HJ.out.2 hmj)
              by_cases hjm : j < m
              · have j3 : (j : Int) < m := by omega
                cases h1 : Kn.inB li (j : Nat) with
                | true =>
                  have hR1 := (HI.out.2.1 j).1 ((Kn.inB_iff _ _).1 h1)
                  rw [h1] at HC1
                  cases h2 : Kn.inB lj (i : Nat) with
                  | true =>
                    have hR2 := (HJ.out.1 i).1 ((Kn.inB_iff _ _).1 h2)
                    rw [h2] at HC2
                    have HRR := hide (And.intro hR1 hR2)
                    clear h1 h2 hR1 hR2
                    go_wp2_with (go_at_call 15; (first | (with_reducible refine (HC1.out).mono ?_) | (with_reducible refine (HC2.out).mono ?_)); rintro e w3 ⟨rfl, rfl⟩)
                    refine ⟨⟨⟨j + 1, j, by omega, by congr 1, rfl, by omega, HRR.out, fun z hz hmz => ?_⟩⟩, by simp only [intOf]; omega⟩
                    by_cases hzj : z = j
                    · omega
                    · have := HM.out.2 z (by omega) hmz
                      omega
                  | false =>
                    have hR2 : ¬ Kn.Reach g j i := fun hr => by rw [(Kn.inB_iff _ _).2 ((HJ.out.1 i).2 hr)] at h2; cases h2
                    rw [h2] at HC2
                    have HRR := hide hR2
                    clear h1 h2 hR1 hR2
                    go_wp2_with (go_at_call 15; (first | (with_reducible refine (HC1.out).mono ?_) | (with_reducible refine (HC2.out).mono ?_)); rintro e w3 ⟨rfl, rfl⟩)
                    refine ⟨⟨⟨j + 1, m, by omega, by congr 1, rfl, by omega, HM.out.1, fun z hz hmz => ?_⟩⟩, by simp only [intOf]; omega⟩
                    by_cases hzj : z = j
                    · subst hzj; exact absurd hmz.2 HRR.out
                    · exact HM.out.2 z (by omega) hmz
                | false =>
                  have hR1 : ¬ Kn.Reach g i j := fun hr => by rw [(Kn.inB_iff _ _).2 ((HI.out.2.1 j).2 hr)] at h1; cases h1
                  rw [h1] at HC1
                  have HRR := hide hR1
                  clear h1 hR1
                  go_wp2_with (go_at_call 15; (first | (with_reducible refine (HC1.out).mono ?_) | (with_reducible refine (HC2.out).mono ?_)); rintro e w3 ⟨rfl, rfl⟩)
                  refine ⟨⟨⟨j + 1, m, by omega, by congr 1, rfl, by omega, HM.out.1, fun z hz hmz => ?_⟩⟩, by simp only [intOf]; omega⟩
                  by_cases hzj : z = j
                  · subst hzj; exact absurd hmz.1 HRR.out
                  · exact HM.out.2 z (by omega) hmz
              · have j3 : decide ((j : Int) < m) = false := by simp; omega
                go_wp2_with fail
                refine ⟨⟨⟨j + 1, m, by omega, by congr 1, rfl, by omega, HM.out.1, fun z hz hmz => ?_⟩⟩, by simp only [intOf]; omega⟩
                by_cases hzj : z = j
                · omega
                · exact HM.out.2 z (by omega) hmz
            · obtain rfl : j = i := by omega
              have j1 : ¬ (j : Int) < j := by omega
              go_upto_region 16 with (fail)
              have H3 := hide (And.intro (H2.out.1.below (below_laid wr (.cells #[.int .i64 (m : Nat)] 3))) (And.intro (heap_alloc_new wr (.cells #[.int .i64 (m : Nat)] 3)) (below_laid wr (.cells #[.int .i64 (m : Nat)] 3))))
              go_wp2_with (at_builtin; refine app_int rfl (.tmp 53) (.tmp 55) rfl rfl rfl H3.out.2.1 H3.out.1 (by have := H2.out.2.2.1; rw [World.size_alloc]; omega) (by omega) ?_)
              intro A' c' w' hr hg hb hob
              have hbt : Below w1.heap.size wr w' := (H3.out.2.2.mono H2.out.2.2.1).trans hb
              have HF := hide (And.intro hr (And.intro hbt hr.len))
              clear hr hg hb hob hbt
              go_wp2_with fail
              refine ⟨⟨⟨j + 1, c', A', l2 ++ [m], by rw [HGN.out]; omega, by congr 1, rfl, HF.out.1, H2.out.2.1.trans (HF.out.2.1.mono hwz), Nat.le_trans H2.out.2.2.1 HF.out.2.1.size, by rw [HGN.out]; exact H2.out.2.2.2.1.below HF.out.2.1, fun i m' him => ?_⟩⟩, by simp only [intOf]; omega⟩
              have hll := HF.out.2.2
              rw [List.length_append] at hll
              simp at hll
              by_cases hij : i < l2.length
              · rw [List.getElem?_append_left hij] at him
                exact H2.out.2.2.2.2 i m' him
              · rw [List.getElem?_append_right (by omega)] at him
                have hk0 : i - l2.length = 0 := by have := (List.getElem?_eq_some_iff.1 him).1; simp at this; omega
                rw [hk0] at him
                simp at him
                subst him
                rw [show i = j by omega]
                refine ⟨HM.out.1, fun z hz => ?_⟩
                by_cases hzj : z < j
                · exact HM.out.2 z hzj hz
                · omega
        · obtain rfl : i = k := by omega
          have i1 : ¬ (i : Int) < i := by omega
          have H2 := hide (And.intro hr2 (And.intro hb2 (And.intro hl2 hr2.len)))
          clear hr2 hb2 hs2 hh2 hl2 hi hik
          go_wp2_with fail
          go_ret
          refine ⟨⟨A2, c2, l2, rfl, H2.out.1.more hwz, H2.out.2.2.2.trans HGN.out.symm, fun j hj => ?_⟩, H2.out.2.1⟩
          have := H2.out.2.2.2
          have := HGN.out
          exact H2.out.2.2.1 j _ (by rw [List.getD_eq_getElem?_getD, List.getElem?_eq_getElem (by omega)]; rfl)
end Go.Proofs.Ytgmppddlgbkjmaa
