/- The walk of Order: the knots, one behind the other. -/
import Derived.Test.YtgmppddlgbkjmaaKnMb
import Derived.Test.YtgmppddlgbkjmaaKnROrd2
namespace Go.Proofs.Ytgmppddlgbkjmaa
open Go.RowKit

structure Ord1 (W3 : World) (of : List Nat) (Mb n : Nat) (kv : Value) (wr : World) : Prop where
  ex : ∃ (i : Nat), i ≤ n ∧ kv = .int .i64 (i : Nat) ∧ MB wr W3.heap.size Mb n (Kn.membK of i)
  kp : Kp (fun b => b = Mb ∨ W3.heap.size ≤ b) W3 wr
structure Ord2 (W4 : World) (g : Kn.G) (of left : List Nat) (R L B1 n : Nat) (kv : Value) (wr : World) : Prop where
  ex : ∃ (k m c : Nat) (A : Option Addr) (ready : List Nat), k ≤ n ∧ kv = .int .i64 (k : Nat) ∧ OW W4 R L B1 n A m c ready left wr ∧ Kn.Desc ready ∧ ∀ x, x ∈ ready ↔ x < k ∧ of.getD x 0 = x ∧ left.getD x 0 = 0
structure Ord3 (W4 : World) (g : Kn.G) (of : List Nat) (R L B1 n gk : Nat) (v : Value) (wr : World) : Prop where
  ex : ∃ (m c mx cx : Nat) (A Ax : Option Addr) (ready left out : List Nat), v = .slice Ax mx cx ∧ OW W4 R L B1 n A m c ready left wr ∧ IR wr W4.heap.size Ax mx cx out ∧ (∀ b, (Value.slice Ax mx cx).ownBlock = some b → (Value.slice A m c).ownBlock ≠ some b) ∧
    Kn.Ks g of out ready left ∧ gk + out.length = n
structure Ord4 (W4 : World) (g : Kn.G) (of out : List Nat) (a R L B1 n mx cx mm : Nat) (Ax : Option Addr) (kv : Value) (wr : World) : Prop where
  ex : ∃ (p m c : Nat) (A : Option Addr) (ready left : List Nat), p ≤ mm ∧ kv = .int .i64 (p : Nat) ∧ OW W4 R L B1 n A m c ready left wr ∧ IR wr W4.heap.size Ax mx cx (out ++ [a]) ∧ (∀ b, (Value.slice Ax mx cx).ownBlock = some b → (Value.slice A m c).ownBlock ≠ some b) ∧
    Kn.Kw g of out a ready left [] ((Kn.memb g of a).drop p)
structure Ord5 (W4 : World) (g : Kn.G) (of out ms : List Nat) (a i R L B1 n mx cx la : Nat) (Ax : Option Addr) (kv : Value) (wr : World) : Prop where
  ex : ∃ (j m c : Nat) (A : Option Addr) (ready left : List Nat), j ≤ la ∧ kv = .int .i64 (j : Nat) ∧ OW W4 R L B1 n A m c ready left wr ∧ IR wr W4.heap.size Ax mx cx (out ++ [a]) ∧ (∀ b, (Value.slice Ax mx cx).ownBlock = some b → (Value.slice A m c).ownBlock ≠ some b) ∧
    Kn.Kw g of out a ready left (Kn.outsD g i j) ms
set_option maxRecDepth 100000 in
set_option maxHeartbeats 8000000 in
theorem order_any (n cg B : Nat) (Ag : Option Addr) (g : Kn.G) (w : World) (hG : HasG w B Ag n g) (hB : B ≤ w.heap.size) (hn : n ≤ 100000) (hA : ∀ i, (Kn.arcs g i).length ≤ 1000000) :
    Calls Try.prog 12 #[.slice Ag n cg] w fun e w' => OrdE g w e w' := by
  have hgl := hG.1
  have hmf := @makes Try.prog
  have hmk := run_make_row' (P := Try.prog) 22 26 (.slice none 0 0) 24 Try.underlying22 info_ints rfl .i64 .i64 n (by omega) (by omega)
  have HC := hide (of_any n cg B Ag g w hG hB (by omega) hA)
  have HG := hide (And.intro hG (And.intro hB (And.intro hA hgl)))
  clear hG hB hA hgl
  go_enter Try.func12, Try.ntmps12
  go_upto_region 2 with (go_at_call 10; refine (HC.out).mono ?_; rintro e w1 ⟨⟨Ao, co, of, rfl, hI1, hof⟩, hb1⟩; have H1 := hide (And.intro hI1 (And.intro hof hb1)); clear hI1 hof hb1)
  have HCB := hide (blk_any n cg co w1.heap.size Ag Ao g of w1 ((HG.out.1.below (H1.out.2.2.mono HG.out.2.1)).more (Nat.le_trans HG.out.2.1 H1.out.2.2.size)) H1.out.1.has H1.out.2.1 (Nat.le_refl _) hn HG.out.2.2.1)
  go_upto_region 6 with (go_at_call 18; refine (HCB.out).mono ?_; rintro e w2 ⟨⟨L, left, rfl, hI2, hl2⟩, hb2⟩; have H2 := hide (And.intro hI2 (And.intro hl2 hb2)); clear hI2 hl2 hb2)
  have hM : ((w2.alloc (.cells (madeCells #[Value.slice none 0 0] n) 26)).alloc (.cells #[.slice none 0 0] 26)).heap[w2.heap.size]? = some (.cells (List.replicate n (Value.slice none 0 0)).toArray 26 (0, 0)) := by
    rw [Below.heap_alloc _ _ _ (by simp), heap_alloc_new, made_slices]
  have hR : ((w2.alloc (.cells (madeCells #[Value.slice none 0 0] n) 26)).alloc (.cells #[.slice none 0 0] 26)).heap[w2.heap.size + 1]? = some (boxR none 0 0) := by
    have := heap_alloc_new (w2.alloc (.cells (madeCells #[Value.slice none 0 0] n) 26)) (.cells #[.slice none 0 0] 26)
    rw [World.size_alloc] at this
    exact this
  have hb3 : Below w2.heap.size w2 ((w2.alloc (.cells (madeCells #[Value.slice none 0 0] n) 26)).alloc (.cells #[.slice none 0 0] 26)) := (below_laid w2 _).alloc (by simp) _
  have hs3 : ((w2.alloc (.cells (madeCells #[Value.slice none 0 0] n) 26)).alloc (.cells #[.slice none 0 0] 26)).heap.size = w2.heap.size + 2 := by simp
  generalize (w2.alloc (.cells (madeCells #[Value.slice none 0 0] n) 26)).alloc (.cells #[.slice none 0 0] 26) = W3 at *
  have H3 := hide (And.intro hM (And.intro hR (And.intro hb3 hs3)))
  have hk3 : MB W3 W3.heap.size w2.heap.size n (Kn.membK of 0) := (MB.start _ hM).rows fun k hk => rfl
  have HK3 := hide hk3
  clear hM hR hb3 hs3 hk3 hmk
  go_loopw [26] (fun kv wr => Ord1 W3 of w2.heap.size n kv wr) (fun kv _ => n - (intOf kv).toNat)
  case atStart => exact ⟨⟨0, Nat.zero_le _, rfl, HK3.out⟩, Kp.refl _ _⟩
  case round =>
    obtain ⟨⟨i, hi, rfl, hmb⟩, hkp⟩ := hrel
    have HR := hide (And.intro hmb hkp)
    clear hmb hkp
    have i0 : (0 : Int) ≤ i := by omega
    by_cases hlt : i < n
    · have i1 : (i : Int) < n := by omega
      have hbM : Below w2.heap.size W3 wr := HR.out.2.below (by have := H3.out.2.2.2; omega) (fun k hk => by have := H3.out.2.2.2; omega)
      have hb1r : Below w1.heap.size w1 wr := H2.out.2.2.trans ((H3.out.2.2.1.trans hbM).mono H2.out.2.2.size)
      obtain ⟨bo, oo, a, rfl, hboB, hia, hac⟩ := (H1.out.1.has.below hb1r).int hlt
      have hofi : of.getD i 0 = a := by rw [List.getD_eq_getElem?_getD, hia]; rfl
      have han : a < n := by have h1 := H1.out.2.1.lt (i := i) (by have := HG.out.2.2.2; omega); omega
      obtain ⟨A, m, c, hmc, hmI⟩ : ∃ A m c, wr.cell? ⟨w2.heap.size, a, none⟩ = some (.slice A m c) ∧ IR wr W3.heap.size A m c (Kn.membK of i a) := by
        obtain ⟨vals, h1, h2, h3, h4⟩ := HR.out.1.ex
        obtain ⟨A, m, c, h5, h6⟩ := h3 a han
        exact ⟨A, m, c, by rw [cell_block h1, List.getElem?_toArray]; exact h5, h6⟩
      have hmi : m ≤ 1000000 := by have h1 := hmI.len; have h2 := Kn.membK_le of i a; omega
      have a0 : (0 : Int) ≤ a := by omega
      have a1 : (a : Int) < n := by omega
      have hszr : W3.heap.size ≤ wr.heap.size := HR.out.2.size
      have HO := hide (And.intro hofi (And.intro hmI (And.intro hboB hia)))
      clear hofi hmI hbM hb1r hboB hia
      go_upto_region 8 with (fail)
      refine wp_region_chain [0, 1, 2, 3, 4, 5, 6, 7, 8, 9, 10, 11, 12] [(13, true), (14, true), (15, false), (16, false)] (fun w' => w'.cell? ⟨bo, oo + i, none⟩ = some (.int .i64 (a : Nat)) ∧ w'.cell? ⟨w2.heap.size, a, none⟩ = some (.slice A m c)) (by kernel_rfl) (by kernel_rfl) (fun _ _ _ _ _ h => h) (by exact ⟨hac, hmc⟩) ?_
      intro hne
      simp only [picks, picksW, List.filterMap_cons, List.filterMap_nil, List.getElem?_cons_zero, List.getElem?_cons_succ, Option.map_some]
      have hu0 : ∀ u : HoldW (fun w' => w'.cell? ⟨bo, oo + i, none⟩ = some (.int .i64 (a : Nat)) ∧ w'.cell? ⟨w2.heap.size, a, none⟩ = some (.slice A m c)), u.w.cell? ⟨bo, oo + i, none⟩ = some (.int .i64 (a : Nat)) := fun u => u.ok.1
      have hu1 : ∀ u : HoldW (fun w' => w'.cell? ⟨bo, oo + i, none⟩ = some (.int .i64 (a : Nat)) ∧ w'.cell? ⟨w2.heap.size, a, none⟩ = some (.slice A m c)), u.w.cell? ⟨w2.heap.size, a, none⟩ = some (.slice A m c) := fun u => u.ok.2
      repeat (refine wpHeld_step (fun K hK => ?_); go_simp; refine hK _ ?_; clear hK K)
      refine wpHeld_nil ?_
      clear hu0 hu1 hne
      refine wpChain_cons fun K hK => ?_
      go_wp2_with fail
      have hbl0 : Below wr.heap.size wr (wr.drew.alloc (.cells #[.int .i64 (i : Nat)] 3)) := (below_drewN (Below.refl _ _) 1).alloc (Nat.le_refl _) _
      have hbs : bo < wr.heap.size := by have h1 := HO.out.2.2.1; have h2 := H2.out.2.2.size; have h3 := H3.out.2.2.1.size; omega
      have hms : w2.heap.size < wr.heap.size := by have := H3.out.2.2.2; omega
      refine chainF (fun _ => ⟨(hbl0.cell (p := ⟨bo, oo + i, none⟩) hbs).trans hac, (hbl0.cell (p := ⟨w2.heap.size, a, none⟩) hms).trans hmc⟩) (hK _ _ ?_)
      clear hK K
      refine wpChain_cons fun K hK => ?_
      refine app_int rfl (.tmp 40) (.tmp 42) rfl rfl rfl (k := i) (heap_alloc_new wr.drew _) (HO.out.2.1.below hbl0) (Nat.le_trans hszr hbl0.size) hmi ?_
      intro A' c' w' hr hg hb hob
      obtain ⟨hm1, hm2, hm3⟩ := (HR.out.1.below hbl0).add han ((hbl0.cell (p := ⟨w2.heap.size, a, none⟩) hms).trans hmc) hr rfl hg hob
      have hwo : w'.cell? ⟨bo, oo + i, none⟩ = some (.int .i64 (a : Nat)) := (hb.cell (p := ⟨bo, oo + i, none⟩) (by have h1 := HO.out.2.2.1; have h2 := H2.out.2.2.size; have h3 := H3.out.2.2.1.size; show bo < _; omega)).trans ((hbl0.cell (p := ⟨bo, oo + i, none⟩) hbs).trans hac)
      have hkp2 : Kp (fun b => b = w2.heap.size ∨ W3.heap.size ≤ b) W3 (w'.setCell ⟨w2.heap.size, a, none⟩ (.slice A' (m + 1) c')) :=
        ((HR.out.2.trans (Kp.of_below (B := W3.heap.size) ((hbl0.mono hszr).trans hb) (fun k _ h => .inr h))).setCell (.inl (.inl rfl)) _)
      have HF := hide (And.intro hm1 hkp2)
      refine chainF (fun _ => ⟨hwo, hm2⟩) (hK _ _ ?_)
      clear hK K hr hg hb hob hm1 hkp2 hac hmc hbl0 hwo hbs hms hszr
      refine wpChain_cons fun K hK => ?_
      go_wp2_with fail
      refine chainSkip (hK _ _ ?_)
      clear hK K
      refine wpChain_cons fun K hK => ?_
      go_wp2_with fail
      refine chainSkip (hK _ _ ?_)
      clear hK K
      refine wpChain_nil ?_
      generalize w'.setCell ⟨w2.heap.size, a, none⟩ (.slice A' (m + 1) c') = X at *
      clear hm2 hm3
      go_wp2_with fail
      refine ⟨⟨⟨i + 1, by omega, by congr 1, HF.out.1.rows fun k _ => ?_⟩, HF.out.2⟩, by simp only [intOf]; omega⟩
      rw [Kn.membK_succ, HO.out.1]
      by_cases hka : k = a
      · subst hka; simp
      · rw [if_neg hka, if_neg (fun e => hka e.symm), List.append_nil]
    · obtain rfl : i = n := by omega
      have i1 : ¬ (i : Int) < i := by omega
      have hbM : Below w2.heap.size W3 wr := HR.out.2.below (by have := H3.out.2.2.2; omega) (fun k hk => by have := H3.out.2.2.2; omega)
      have hb2r : Below w2.heap.size w2 wr := H3.out.2.2.1.trans hbM
      have hb1r : Below w1.heap.size w1 wr := H2.out.2.2.trans (hb2r.mono H2.out.2.2.size)
      have hbwr : Below w.heap.size w wr := H1.out.2.2.trans (hb1r.mono H1.out.2.2.size)
      have hbox : wr.heap[w2.heap.size + 1]? = some (boxR none 0 0) := (HR.out.2.block _ (by have := H3.out.2.2.2; omega) (by have := H3.out.2.2.2; omega)).trans H3.out.2.1
      have hlw := H2.out.1.below hb2r
      obtain ⟨hLge, hLlt⟩ : w1.heap.size ≤ L ∧ L < w2.heap.size := ⟨H2.out.1.own L rfl, RowZ.lt H2.out.1.row L rfl⟩
      have hsz4 : W3.heap.size ≤ wr.heap.size := HR.out.2.size
      have hof4 := H1.out.1.has.below hb1r
      have hG4 := HG.out.1.below (hbwr.mono HG.out.2.1)
      have hmb4 := HR.out.1
      have hs3 := H3.out.2.2.2
      have hs1 := H1.out.2.2.size
      have hs12 := H2.out.2.2.size
      have hgB := HG.out.2.1
      go_upto_region 12 with (fail)
      generalize wr = W4 at *
      have H4 := hide (And.intro hbox (And.intro hlw (And.intro hof4 (And.intro hG4 (And.intro hmb4 hbwr)))))
      have hLR : L < w2.heap.size + 1 := by omega
      have hRW : w2.heap.size + 1 < W4.heap.size := by omega
      have hLW : L < W4.heap.size := by omega
      have hB1 : w1.heap.size ≤ W4.heap.size := by omega
      have hMW : w2.heap.size < W4.heap.size := by omega
      generalize hR : w2.heap.size + 1 = R at *
      have HS := hide (And.intro hLR (And.intro hRW (And.intro hLW (And.intro hB1 (And.intro hMW (And.intro hR (And.intro hLge (And.intro hLlt (And.intro hs3 (And.intro hs1 (And.intro hs12 (And.intro hgB hsz4))))))))))))
      clear hbox hlw hof4 hG4 hmb4 hbwr hbM hb2r hb1r hLR hRW hLW hB1 hMW hR hLge hLlt hs3 hs1 hs12 hgB hsz4 HR hlt hi HK3 hmf
      have h0 : OW W4 R L w1.heap.size i none 0 0 [] left W4 := ⟨H4.out.1, IR.nil _ _, H4.out.2.1, Kp.refl _ _⟩
      have HOW := hide h0
      clear h0 i1
      go_loopw [49] (fun kv wr => Ord2 W4 g of left R L w1.heap.size i kv wr) (fun kv _ => i - (intOf kv).toNat)
      case atStart => exact ⟨⟨0, 0, 0, none, [], Nat.zero_le _, rfl, HOW.out, by simp, fun x => by simp⟩⟩
      case round =>
        obtain ⟨⟨k, m, c, A, ready, hk, rfl, hOW, hD, hmem⟩⟩ := hrel
        have HR := hide (And.intro hOW (And.intro hD hmem))
        have k0 : (0 : Int) ≤ k := by omega
        have hmk : m ≤ 1000000 := by
          have h1 := hOW.rdy.len
          have h2 := Kn.desc_len hD (n := k) (fun x hx => ((hmem x).1 hx).1)
          omega
        have hbk : Below w1.heap.size W4 wr := hOW.kp.below HS.out.2.2.2.1 (fun b hb => by have h1 := HS.out; rcases hb with e | e <;> omega)
        by_cases hlt : k < i
        · have k1 : (k : Int) < i := by omega
          obtain ⟨bo, oo, a, rfl, _, hia, hac⟩ := (H4.out.2.2.1.below hbk).int hlt
          have hofk : of.getD k 0 = a := by rw [List.getD_eq_getElem?_getD, hia]; rfl
          obtain ⟨_, e, _, _, hlc⟩ := hOW.lft.cell (k := k) (x := left.getD k 0) (by rw [List.getD_eq_getElem?_getD, List.getElem?_eq_getElem (by have := hOW.lft.len; omega)]; rfl)
          cases e
          have HO := hide hofk
          clear hOW hD hmem hbk hia hofk
          by_cases hak : a = k
          · subst hak
            generalize hlk : left.getD a 0 = lk at *
            have HLK := hide hlk
            clear hlk
            by_cases hl0 : lk = 0
            · subst hl0
              have HP := hide (put_any R W4.heap.size m c a A ready wr HR.out.1.box HR.out.1.rdy HR.out.1.kp.size hmk)
              go_wp2_with (go_at_call 19; refine (HP.out).mono ?_; intro e w' hpe; have HPE := hide hpe; obtain rfl := hpe.ret; clear hpe)
              obtain ⟨A', c', q, hq, hOW', hob', hp1, hp2⟩ := HR.out.1.put HS.out.2.2.1 HPE.out
              have hl := HR.out.1.rdy.len
              refine ⟨⟨⟨a + 1, m + 1, c', A', _, by omega, by congr 1, hOW', Kn.desc_ins HR.out.2.1 (fun hm => by have := ((HR.out.2.2 a).1 hm).1; omega) hp1 hp2 (by omega), fun x => ?_⟩⟩, by simp only [intOf]; omega⟩
              rw [Kn.mem_ins, HR.out.2.2 x]
              constructor
              · rintro (rfl | ⟨h1, h2, h3⟩)
                · exact ⟨by omega, HO.out, HLK.out⟩
                · exact ⟨by omega, h2, h3⟩
              · rintro ⟨h1, h2, h3⟩
                by_cases hxa : x = a
                · exact .inl hxa
                · exact .inr ⟨by omega, h2, h3⟩
            · have hl1 : ((lk : Int) == 0) = false := by simp; omega
              have HL0 := hide hl0
              clear hl0
              go_wp2_with fail
              refine ⟨⟨⟨a + 1, m, c, A, ready, by omega, by congr 1, HR.out.1, HR.out.2.1, fun x => ?_⟩⟩, by simp only [intOf]; omega⟩
              rw [HR.out.2.2 x]
              constructor
              · rintro ⟨h1, h2, h3⟩; exact ⟨by omega, h2, h3⟩
              · rintro ⟨h1, h2, h3⟩
                refine ⟨?_, h2, h3⟩
                by_cases hxa : x = a
                · subst hxa; exact absurd (HLK.out.symm.trans h3) HL0.out
                · omega
          · have hak1 : ((a : Int) == k) = false := by simp; omega
            have HAK := hide hak
            clear hak
            go_wp2_with fail
            refine ⟨⟨⟨k + 1, m, c, A, ready, by omega, by congr 1, HR.out.1, HR.out.2.1, fun x => ?_⟩⟩, by simp only [intOf]; omega⟩
            rw [HR.out.2.2 x]
            constructor
            · rintro ⟨h1, h2, h3⟩; exact ⟨by omega, h2, h3⟩
            · rintro ⟨h1, h2, h3⟩
              refine ⟨?_, h2, h3⟩
              by_cases hxa : x = k
              · subst hxa; exact absurd (HO.out.symm.trans h2) HAK.out
              · omega
        · obtain rfl : k = i := by omega
          have k1 : ¬ (k : Int) < k := by omega
          have hks : Kn.Ks g of [] ready left := Kn.Ks.start hD (fun x => by rw [hmem x, HG.out.2.2.2]) (fun x hx => H2.out.2.1 x (by have := HG.out.2.2.2; omega))
          have HKS := hide hks
          clear hOW hD hmem hbk hks hlt hk
          go_upto_region 17 with (fail)
          obtain ⟨vals, hv1, hv2, hv3, hv4⟩ := H4.out.2.2.2.2.1.ex
          have HV := hide (And.intro hv1 (And.intro hv2 hv3))
          have HRD := hide (And.intro HR.out.1 HKS.out)
          clear hv1 hv2 hv3 hv4 HR HKS k0 k1 HOW hmk
          go_wp2_with fail
          go_loopg [10] k (fun gk v wr => Ord3 W4 g of R L w1.heap.size k gk v wr)
          case atStart => exact ⟨⟨m, c, 0, 0, A, none, ready, left, [], rfl, HRD.out.1, IR.nil _ _, (fun b hb => by cases hb), HRD.out.2, by simp⟩⟩
          case round =>
            rename Nat => gk
            clear HRD
            obtain ⟨⟨m, c, mx, cx, A, Ax, ready, lf, out, rfl, hOW, hX, hne, hks, hgk⟩⟩ := hrel
            have hml := hOW.rdy.len
            obtain ⟨hc, hcf⟩ := hOW.cell
            have hmx : mx ≤ 1000000 := by have h1 := hX.len; omega
            have hmb : m ≤ 1000000 := by
              have h1 := Kn.desc_len hks.desc (n := g.length) (fun x hx => ((hks.mem x).1 hx).1)
              have := HG.out.2.2.2
              omega
            have HR := hide (And.intro hOW (And.intro hX (And.intro hne (And.intro hks hgk))))
            clear hOW hX hne hks hgk
            by_cases hm : 0 < m
            · obtain ⟨q, rfl⟩ : ∃ q, m = q + 1 := ⟨m - 1, by omega⟩
              obtain ⟨r, a, rfl⟩ : ∃ r a, ready = r ++ [a] := ⟨ready.dropLast, ready.getLast (by intro e; rw [e] at hml; simp at hml), (List.dropLast_concat_getLast _).symm⟩
              have hq : r.length = q := by simpa using hml
              obtain ⟨bq, rfl, _, _, hac⟩ := HR.out.1.rdy.cell (k := q) (x := a) (by rw [List.getElem?_append_right (by omega), hq, Nat.sub_self]; rfl)
              have han : a < k := by have h1 := ((HR.out.2.2.2.1.mem a).1 (by simp)).1; have := HG.out.2.2.2; omega
              have a0 : (0 : Int) ≤ a := by omega
              have a1 : (a : Int) < k := by omega
              obtain ⟨Am, mm, cm, hva, hmI4⟩ := HV.out.2.2 a han
              have hmc4 : W4.cell? ⟨w2.heap.size, a, none⟩ = some (.slice Am mm cm) := by rw [cell_block HV.out.1, List.getElem?_toArray]; exact hva
              have hmm : mm ≤ 1000000 := by have h1 := hmI4.len; have h2 := Kn.membK_le of k a; omega
              have hqc : q + 1 ≤ c := HR.out.1.rdy.bound.1
              have hP := HR.out.1.pop
              have hgu : out.length + 1 ≤ k := by
                have h1 := (HR.out.2.2.2.1.gr.snoc (Kn.next_cand HR.out.2.2.2.1.next)).len
                rw [List.length_append] at h1
                have := HG.out.2.2.2
                exact Nat.le_trans h1 (by omega)
              have HM := hide (And.intro hmI4 (And.intro hmc4 (And.intro hP hgu)))
              clear hml hq hva hmI4 hmc4 hP hm han hgu
              go_upto_region 21 with (fail)
              have hneX : ∀ b, (Value.slice Ax mx cx).ownBlock = some b → b ≠ R := fun b hb e => RowZ.ne_type HR.out.2.1.row HR.out.1.box (by decide) (by rw [hb, e])
              have hX1 := HR.out.2.1.far (p := ⟨R, 0, none⟩) (fun e => hneX R e rfl) (.slice (some ⟨bq, 0, none⟩) q c)
              have hbq : ∀ b, (Value.slice Ax mx cx).ownBlock = some b → b ≠ bq := fun b hb e => HR.out.2.2.1 b hb (by rw [e]; rfl)
              have HX := hide (And.intro hX1 hbq)
              clear hneX hX1 hbq hc hcf hac
              have HP := hide HM.out.2.2.1
              generalize wr.setCell ⟨R, 0, none⟩ (.slice (some ⟨bq, 0, none⟩) q c) = X at *
              have H5 := hide (And.intro (HX.out.1.below (below_laid X (.cells #[.int .i64 (a : Nat)] 3))) (And.intro (heap_alloc_new X (.cells #[.int .i64 (a : Nat)] 3)) (below_laid X (.cells #[.int .i64 (a : Nat)] 3))))
              go_upto_region 22 with (at_builtin; refine app_int rfl (.tmp 83) (.tmp 85) rfl rfl rfl H5.out.2.1 H5.out.1 (by have := HP.out.kp.size; rw [World.size_alloc]; omega) hmx ?_; intro Ax' cx' w' hr hg hb hob; have HF := hide (And.intro hr (And.intro hg hob)); clear hr hg hb hob)
              have hOW2 : OW W4 R L w1.heap.size k (some ⟨bq, 0, none⟩) q c r lf w' := (HP.out.below H5.out.2.2).grown HS.out.2.1 HS.out.2.2.1 HF.out.2.1 (fun b hb => HX.out.1.own b hb) (fun b hb e => by
                simp only [Value.ownBlock, Option.some.injEq] at e
                exact HX.out.2 b hb e.symm)
              have hne2 : ∀ b, (Value.slice Ax' (mx + 1) cx').ownBlock = some b → (Value.slice (some ⟨bq, 0, none⟩) q c).ownBlock ≠ some b := fun b hb e => by
                have hbq := RowZ.lt HP.out.rdy.row bq rfl
                simp only [Value.ownBlock, Option.some.injEq] at e
                rcases HF.out.2.2 with h | h
                · rw [h] at hb; exact HX.out.2 b hb e.symm
                · rw [h] at hb
                  simp only [Option.some.injEq] at hb
                  rw [World.size_alloc] at hb
                  omega
              have hkw := HR.out.2.2.2.1.pop
              have hOUT := HF.out.1
              have HR2 := hide (And.intro hOW2 (And.intro hOUT (And.intro hne2 hkw)))
              have HGK := hide (And.intro HR.out.2.2.2.2 HM.out.2.2.2)
              have hmc : w'.cell? ⟨w2.heap.size, a, none⟩ = some (.slice Am mm cm) := (World.cell?_of_block (a := ⟨w2.heap.size, a, none⟩) (hOW2.kp.block w2.heap.size HS.out.2.2.2.2.1 (by have h1 := HS.out; intro hb; rcases hb with e | e <;> omega))).trans HM.out.2.1
              have HMI := hide HM.out.1
              clear hOW2 hne2 hkw hOUT HR HX HP H5 HF HM
              go_wp2_with fail
              clear hmc
              generalize mx + 1 = mx' at *
              go_loopw [92] (fun kv wr => Ord4 W4 g of out a R L w1.heap.size k mx' cx' mm Ax' kv wr) (fun kv _ => mm - (intOf kv).toNat)
              case atStart => exact ⟨⟨0, q, c, some ⟨bq, 0, none⟩, r, lf, Nat.zero_le _, rfl, HR2.out.1, HR2.out.2.1, HR2.out.2.2.1, HR2.out.2.2.2⟩⟩
              case round =>
                clear HR2
                obtain ⟨⟨p, m, c, A, ready, lf, hp, rfl, hOW, hX, hne, hkw⟩⟩ := hrel
                have HR := hide (And.intro hOW (And.intro hX (And.intro hne hkw)))
                have p0 : (0 : Int) ≤ p := by omega
                have hmlen : (Kn.membK of k a).length = mm := HMI.out.len
                have hmeq : Kn.memb g of a = Kn.membK of k a := by unfold Kn.memb Kn.membK; rw [HG.out.2.2.2]
                have HE := hide (And.intro hmlen hmeq)
                clear hOW hX hne hkw hmlen hmeq
                by_cases hpl : p < mm
                · have p1 : (p : Int) < mm := by omega
                  obtain ⟨i, hpi⟩ : ∃ i, (Kn.membK of k a)[p]? = some i := ⟨_, List.getElem?_eq_getElem (by have := HE.out.1; omega)⟩
                  have hIw : IR wr W3.heap.size Am mm cm (Kn.membK of k a) := HMI.out.kept fun b hb => HR.out.1.kp.block b (RowZ.lt HMI.out.row b hb) (by have h1 := HS.out; have h2 := HMI.out.own b hb; intro hb; rcases hb with e | e <;> omega)
                  obtain ⟨bm, rfl, _, _, hpc⟩ := hIw.cell hpi
                  have hib : i < k ∧ of.getD i 0 = a := by
                    have := Kn.memb_iff.1 (by rw [HE.out.2]; exact List.mem_of_getElem? hpi : i ∈ Kn.memb g of a)
                    have h2 := HG.out.2.2.2
                    exact ⟨by omega, this.2⟩
                  have i0 : (0 : Int) ≤ i := by omega
                  have i1 : (i : Int) < k := by omega
                  obtain ⟨bg, og, rfl, _, _⟩ := HG.out.1.2 (by omega)
                  have hGw : HasG wr B (some ⟨bg, og, none⟩) k g := H4.out.2.2.2.1.below (HR.out.1.kp.below (by have h1 := HS.out; omega) (fun b hb => by have h1 := HS.out; rcases hb with e | e <;> omega))
                  obtain ⟨hbg, Ai, ci, hrc, hrx⟩ := hGw.row hib.1
                  have hla := HG.out.2.2.1 i
                  have hdrop : (Kn.memb g of a).drop p = i :: (Kn.memb g of a).drop (p + 1) := by
                    rw [HE.out.2]
                    obtain ⟨h1, h2⟩ := List.getElem?_eq_some_iff.1 hpi
                    rw [List.drop_eq_getElem_cons h1, h2]
                  have hkw2 := HR.out.2.2.2
                  rw [hdrop] at hkw2
                  have HK := hide hkw2.take
                  generalize hlaa : (Kn.arcs g i).length = la at *
                  have HI := hide (And.intro hib (And.intro hrx hlaa))
                  clear hpi hIw hib hGw hbg hrx hdrop hkw2 hlaa
                  go_wp2_with fail
                  clear hpc hrc
                  have hBo : Below B W4 wr := HR.out.1.kp.below (by have h1 := HS.out; omega) (fun b hb => by have h1 := HS.out; rcases hb with e | e <;> omega)
                  have HBO := hide hBo
                  clear hBo
                  generalize wr = wo at *
                  go_loopw [101] (fun kv wr => Ord5 W4 g of out ((Kn.memb g of a).drop (p + 1)) a i R L w1.heap.size k mx' cx' la Ax' kv wr) (fun kv _ => la - (intOf kv).toNat)
                  case atStart => exact ⟨⟨0, m, c, A, ready, lf, Nat.zero_le _, rfl, HR.out.1, HR.out.2.1, HR.out.2.2.1, HK.out⟩⟩
                  case round =>
                    clear HR HK
                    obtain ⟨⟨j, m, c, A, ready, lf, hj, rfl, hOW, hX, hne, hkw⟩⟩ := hrel
                    have hBw : Below B W4 wr := hOW.kp.below (by have h1 := HS.out; omega) (fun b hb => by have h1 := HS.out; rcases hb with e | e <;> omega)
                    have hbk : Below w1.heap.size W4 wr := hOW.kp.below HS.out.2.2.2.1 (fun b hb => by have h1 := HS.out; rcases hb with e | e <;> omega)
                    have HR := hide (And.intro hOW (And.intro hX (And.intro hne hkw)))
                    have j0 : (0 : Int) ≤ j := by omega
                    have hmm2 : m ≤ 1000000 := by
                      have h0 := hOW.rdy.len
                      have h1 := Kn.desc_len hkw.desc (n := g.length) (fun x hx => ((hkw.mem x).1 hx).1)
                      have := HG.out.2.2.2
                      omega
                    clear hOW hX hne hkw
                    by_cases hjl : j < la
                    · have j1 : (j : Int) < la := by omega
                      obtain ⟨x, hx⟩ : ∃ x, (Kn.arcs g i)[j]? = some x := ⟨_, List.getElem?_eq_getElem (by have := HI.out.2.2; omega)⟩
                      obtain ⟨ba, oa, rfl, hba, hxs⟩ := HI.out.2.1 (by omega)
                      have hxc : wr.cell? ⟨ba, oa + j, none⟩ = some (.int .i64 x) := (hBw.cell (p := ⟨ba, oa + j, none⟩) hba).trans ((HBO.out.cell (p := ⟨ba, oa + j, none⟩) hba).symm.trans (hxs j x hx))
                      have HXX := hide hx
                      clear hx hxs hBw
                      by_cases hx0 : x < 0
                      · have hno := HR.out.2.2.2
                        rw [Kn.outsD_no HXX.out (by omega)] at hno
                        have HN := hide hno
                        clear hno hbk
                        go_wp2_with fail
                        exact ⟨⟨j + 1, m, c, A, ready, lf, by omega, by congr 1, HR.out.1, HR.out.2.1, HR.out.2.2.1, HN.out⟩, by simp only [intOf]; omega⟩
                      · have hx02 : decide (x < 0) = false := by simp; omega
                        by_cases hxn : (k : Int) ≤ x
                        · have hno := HR.out.2.2.2
                          rw [Kn.outsD_no HXX.out (by have := HG.out.2.2.2; omega)] at hno
                          have HN := hide hno
                          clear hno hbk hx0
                          go_wp2_with fail
                          exact ⟨⟨j + 1, m, c, A, ready, lf, by omega, by congr 1, HR.out.1, HR.out.2.1, HR.out.2.2.1, HN.out⟩, by simp only [intOf]; omega⟩
                        · obtain ⟨y, rfl⟩ : ∃ y : Nat, x = y := ⟨x.toNat, by omega⟩
                          have hyk : y < k := by omega
                          have d1 : decide ((k : Int) ≤ y) = false := by simp; omega
                          have d2 : decide (k ≤ y) = false := by simp; omega
                          have d3 : decide ((y : Int) < 0) = false := by simp
                          have hyes := HR.out.2.2.2
                          rw [Kn.outsD_yes HXX.out (by omega) (by have := HG.out.2.2.2; omega), Int.toNat_natCast] at hyes
                          obtain ⟨bo, oo, oy, rfl, hboB, hoy, hoyc⟩ := (H4.out.2.2.1.below hbk).int hyk
                          have hofy : of.getD y 0 = oy := by rw [List.getD_eq_getElem?_getD, hoy]; rfl
                          have y0 : (0 : Int) ≤ y := by omega
                          have y1 : (y : Int) < k := by omega
                          have HY := hide (And.intro hyes (And.intro hofy (And.intro hboB (HG.out.2.2.2))))
                          clear hyes hofy hbk hoy hx0 hxn hboB hx02
                          by_cases hoa : oy = a
                          · subst hoa
                            have hsk := HY.out.1.skip HY.out.2.1
                            have HN := hide hsk
                            clear hsk
                            go_wp2_with fail
                            exact ⟨⟨j + 1, m, c, A, ready, lf, by omega, by congr 1, HR.out.1, HR.out.2.1, HR.out.2.2.1, HN.out⟩, by simp only [intOf]; omega⟩
                          · have hoa2 : ((oy : Int) == a) = false := by simp; omega
                            have hne2 : of.getD y 0 ≠ a := by rw [HY.out.2.1]; exact hoa
                            have hoyk : oy < k := by have h1 := H1.out.2.1.lt (i := y) (by have := HG.out.2.2.2; omega); rw [HY.out.2.1] at h1; omega
                            have hpos := HY.out.1.pos hne2 (by rw [HY.out.2.1]; have := HG.out.2.2.2; omega)
                            rw [HY.out.2.1] at hpos
                            obtain ⟨ly, hly⟩ : ∃ ly, lf.getD oy 0 = ly + 1 := ⟨lf.getD oy 0 - 1, by omega⟩
                            have hll := HR.out.1.lft.len
                            have hlyg : lf[oy]? = some (ly + 1) := by
                              rw [← hly, List.getD_eq_getElem?_getD, List.getElem?_eq_getElem (by omega)]; rfl
                            obtain ⟨_, e, _, _, hlc⟩ := HR.out.1.lft.cell hlyg
                            cases e
                            have hlf := HR.out.1.lft.free oy
                            have hlb : ly ≤ 1000000000000 := by
                              have h1 := HR.out.2.2.2.bound (M := 1000000) (N := 100000) (x := oy) (fun i => Nat.le_trans (outs_len g i) (HG.out.2.2.1 i)) (Nat.le_trans (Kn.outsD_le g i j) (HG.out.2.2.1 i)) (by
                                have h2 := Kn.membK_le of k a
                                rw [List.length_drop, HE.out.2]
                                omega) (by have := HG.out.2.2.2; omega) (by have := HG.out.2.2.2; omega) hoa
                              omega
                            have oy0 : (0 : Int) ≤ oy := by omega
                            have oy1 : (oy : Int) < k := by omega
                            have hS := HR.out.1.setLeft HS.out.2.2.1 oy ly
                            have hX2 := HR.out.2.1.far (p := ⟨L, oy, none⟩) (fun e => by have := HR.out.2.1.own L e; have := HS.out; omega) (.int .i64 ly)
                            have hoyc2 : (wr.setCell ⟨L, oy, none⟩ (.int .i64 (ly : Nat))).cell? ⟨bo, oo + y, none⟩ = some (.int .i64 (oy : Nat)) :=
                              (World.cell?_of_block (a := ⟨bo, oo + y, none⟩) (Below.heap_setCell wr ⟨L, oy, none⟩ _ bo (by have := HY.out.2.2.1; have := HS.out; show bo ≠ L; omega))).trans hoyc
                            obtain ⟨_, e, _, _, hlc2⟩ := hS.lft.cell (k := oy) (x := ly) (by rw [List.getElem?_set_self (by omega)])
                            cases e
                            have HN := hide (And.intro hne2 (And.intro hly (And.intro hll (And.intro hS (And.intro hX2 (And.intro hoyc2 hlc2))))))
                            clear hne2 hpos hly hll hlyg hS hX2 hoyc2 hlc2 hoa hoyk
                            go_upto_region 30 with (fail)
                            have hoyc3 := HN.out.2.2.2.2.2.1
                            have hlc3 := HN.out.2.2.2.2.2.2
                            have H9 := hide (And.intro HN.out.2.2.2.1 HN.out.2.2.2.2.1)
                            have H10 := hide (And.intro HN.out.1 (And.intro HN.out.2.1 HN.out.2.2.1))
                            clear HN hoyc hlc hlf hxc
                            generalize wr.setCell ⟨L, oy, none⟩ (.int .i64 (ly : Nat)) = X at *
                            by_cases hl0 : ly = 0
                            · subst hl0
                              have HP := hide (put_any R W4.heap.size m c oy A ready X H9.out.1.box H9.out.1.rdy H9.out.1.kp.size hmm2)
                              go_wp2_with (go_at_call 19; refine (HP.out).mono ?_; intro e w' hpe; have HPE := hide hpe; obtain rfl := hpe.ret; clear hpe)
                              obtain ⟨A', c', q', hq', hOW', hob', hp1, hp2⟩ := H9.out.1.put HS.out.2.2.1 HPE.out
                              have hkw' := HY.out.1.put (q := q') H1.out.2.1 H10.out.1 (by have := HG.out.2.2.2; omega) (by rw [H10.out.2.2]; exact HG.out.2.2.2.symm) (by rw [HY.out.2.1]; exact H10.out.2.1)
                                ⟨i, by have := HI.out.1.1; have := HG.out.2.2.2; omega, HI.out.1.2, Kn.outs_iff.2 ⟨List.mem_of_getElem? HXX.out, by have := HG.out.2.2.2; omega⟩⟩ (by have := H9.out.1.rdy.len; omega) (by rw [HY.out.2.1]; exact hp1) (by rw [HY.out.2.1]; exact hp2)
                              rw [HY.out.2.1] at hkw'
                              refine ⟨⟨j + 1, m + 1, c', A', _, _, by omega, by congr 1, hOW', H9.out.2.kept fun b hb => ?_, fun b hb e => ?_, hkw'⟩, by simp only [intOf]; omega⟩
                              · refine HPE.out.kp.block b (RowZ.lt H9.out.2.row b hb) fun hs => ?_
                                rcases hs with e | e
                                · subst e; exact RowZ.ne_type H9.out.2.row H9.out.1.box (by decide) hb
                                · exact HR.out.2.2.1 b hb e
                              · rcases hob' b e with h | h
                                · exact HR.out.2.2.1 b hb h
                                · have := RowZ.lt H9.out.2.row b hb; omega
                            · have hl1 : ((ly : Int) == 0) = false := by simp; omega
                              have HL0 := hide hl0
                              clear hl0
                              go_wp2_with fail
                              have hdn := HY.out.1.down H10.out.1 (by rw [HY.out.2.1]; have := HG.out.2.2.2; omega) (by rw [H10.out.2.2]; exact HG.out.2.2.2.symm) (by rw [HY.out.2.1, H10.out.2.1]; have := HL0.out; omega)
                              rw [HY.out.2.1, H10.out.2.1] at hdn
                              exact ⟨⟨j + 1, m, c, A, ready, _, by omega, by congr 1, H9.out.1, H9.out.2, HR.out.2.2.1, hdn⟩, by simp only [intOf]; omega⟩
                    · obtain rfl : j = la := by omega
                      have j1 : ¬ (j : Int) < j := by omega
                      have hend := HR.out.2.2.2
                      rw [Kn.outsD_end (by have := HI.out.2.2; omega)] at hend
                      have HN := hide hend
                      clear hend hbk hBw
                      go_wp2_with fail
                      exact ⟨⟨p + 1, m, c, A, ready, lf, by omega, by congr 1, HR.out.1, HR.out.2.1, HR.out.2.2.1, HN.out⟩, by simp only [intOf]; omega⟩
                · obtain rfl : p = mm := by omega
                  have p1 : ¬ (p : Int) < p := by omega
                  go_wp2_with fail
                  have hfin := HR.out.2.2.2
                  rw [List.drop_of_length_le (by rw [HE.out.2]; have := HE.out.1; omega)] at hfin
                  go_roundg (gk - 1)
                  case measure => have := HGK.out; omega
                  case rel => exact ⟨⟨m, c, mx', cx', A, Ax', ready, lf, out ++ [a], rfl, HR.out.1, HR.out.2.1, HR.out.2.2.1, hfin.done, by have := HGK.out; rw [List.length_append, List.length_singleton]; omega⟩⟩
            · obtain rfl : m = 0 := by omega
              obtain rfl : ready = [] := List.eq_nil_of_length_eq_zero hml
              clear hml hm
              go_wp2_with fail
              go_ret
              have hst := HR.out.2.2.2.1.stop
              refine ⟨⟨Ax, mx, cx, of, rfl, ?_, H1.out.2.1⟩, ?_⟩
              · rw [← hst]
                exact HR.out.2.1.more (by have := HS.out; omega)
              · exact H4.out.2.2.2.2.2.trans (HR.out.1.kp.below (by have h1 := HS.out; omega) (fun b hb => by have h1 := HS.out; rcases hb with e | e <;> omega))
end Go.Proofs.Ytgmppddlgbkjmaa
