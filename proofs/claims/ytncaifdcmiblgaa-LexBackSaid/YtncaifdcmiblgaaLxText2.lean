/- The walk of lex.Text. -/
import Derived.Test.YtncaifdcmiblgaaLxTok
namespace Go.Proofs.Ytncaifdcmiblgaa
open Go.RowKit

def bytesV (l : List UInt8) : List Value := l.map fun b => Value.int .u8 b.toNat
theorem byteCells_eq (s : ByteArray) : byteCells s = bytesV s.data.toList := rfl
theorem bytesV_len (l : List UInt8) : (bytesV l).length = l.length := by simp [bytesV]
theorem info_u8 : (Try.prog.info? 5).map (fun i => (i.zero, i.size, i.bytes)) = some (some (.int .u8 0), 1, 1) := by kernel_rfl
/-- A row of bytes read back as a string. -/
theorem conv_row {w : World} {A : Option Addr} {c n : Nat} {l : List UInt8} (h : Row w 5 (.slice A n c) (bytesV l)) (hn : l.length = n) :
    (convert 39 9 (.slice A n c)).run Try.prog w = .ok (.string ⟨l.toArray⟩) w := by
  subst hn
  by_cases h0 : l = []
  · subst h0
    cases A with
    | none => exact run_convert_bytes_nil w 39 5 Try.underlying39 Try.underlying5 0 c 9 Try.underlying9
    | some a => exact run_convert_bytes_back w 39 9 5 a c [] Try.underlying39 Try.underlying5 Try.underlying9 fun j hj => by simp at hj
  · obtain ⟨g, rfl⟩ := h.addr (by rw [bytesV_len]; exact List.length_pos_iff.2 h0)
    refine run_convert_bytes_back w 39 9 5 ⟨g, 0, none⟩ c l Try.underlying39 Try.underlying5 Try.underlying9 fun j hj => ?_
    rw [add_plain, Nat.zero_add, h.cell (by rw [bytesV_len]; exact hj)]
    simp [bytesV, hj]

set_option maxHeartbeats 1600000 in
theorem ltext_any (n c B : Nat) (A : Option Addr) (l : List Lx.T) (w : World) (hn : n ≤ 1000) (hB : B ≤ w.heap.size) (h : HasT w B A n l) (hm : ∀ t ∈ l, t.text.size ≤ 1000) :
    Calls Try.prog 14 #[.slice A n c] w fun e w' => e = .returned (.string (Lx.text l)) ∧ Below w.heap.size w w' := by
  obtain ⟨i0, hi, hz0, hz1, hz2⟩ := info_parts info_u8
  have hlen := h.1
  have HH := hide (h.more hB)
  have HM := hide hm
  have HT := hide (Lx.tx_len hm)
  clear h hm
  go_enter Try.func14, Try.ntmps14
  go_wp2_with fail
  go_loopw [3, 8] (fun v i wr => ∃ k : Nat, k ≤ n ∧ i = .int .i64 k ∧ Row wr 5 v (bytesV (Lx.tx l k)) ∧ (∀ g, v.ownBlock = some g → w.heap.size ≤ g) ∧ Below w.heap.size w wr) (fun _ i _ => n - (intOf i).toNat)
  case atStart => exact ⟨0, Nat.zero_le _, rfl, Row.nil, fun g h => (by cases h), Below.refl _ _⟩
  case round =>
    obtain ⟨k, hk, rfl, hrow, hnew, hbw⟩ := hrel
    obtain ⟨Av, cv, rfl, _, _⟩ := hrow.form
    have hlk := HT.out k
    rw [bytesV_len] at *
    by_cases hlt : k < n
    · obtain ⟨t, ht⟩ : ∃ t, l[k]? = some t := ⟨l[k]'(by omega), List.getElem?_eq_getElem _⟩
      obtain ⟨b, off, rfl, hbB, hcell⟩ := (HH.out.below hbw).2 (by omega)
      obtain ⟨d0, d1, d2⟩ := hcell k t ht
      have htm := HM.out t (List.mem_of_getElem? ht)
      have HR := hide (And.intro hrow (And.intro hnew hbw))
      have HCell := hide hcell
      have HTt := hide ht
      have hk0 : (k : Int) < n := by omega
      have hk1 : (0 : Int) ≤ k := by omega
      clear hrow hnew hbw hcell ht
      have hbl := below_laid wr (.cells #[.int .u8 t.kind, .string t.text, .int .i64 t.pos] 31)
      have hbx := heap_alloc_new wr (.cells #[.int .u8 t.kind, .string t.text, .int .i64 t.pos] 31)
      have x0 : (wr.alloc (.cells #[.int .u8 t.kind, .string t.text, .int .i64 t.pos] 31)).cell? ⟨wr.heap.size, 0, none⟩ = some (.int .u8 t.kind) := by rw [cell_block hbx]; rfl
      have x1 : (wr.alloc (.cells #[.int .u8 t.kind, .string t.text, .int .i64 t.pos] 31)).cell? ⟨wr.heap.size, 1, none⟩ = some (.string t.text) := by rw [cell_block hbx]; rfl
      have HW := hide (And.intro (HR.out.1.below hbl) (And.intro (HR.out.2.2.trans (hbl.mono HR.out.2.2.size)) hbl))
      clear hbl hbx
      by_cases hkp : 0 < k
      · have hkp' : (0 : Int) < k := by omega
        by_cases h97 : t.kind = 97
        · have h97' : (t.kind : Int) = 97 := by omega
          obtain ⟨u, hu⟩ : ∃ u, l[k - 1]? = some u := ⟨l[k - 1]'(by omega), List.getElem?_eq_getElem _⟩
          have y0 := (HCell.out (k - 1) u hu).1
          have hw := HW.out
          rw [h97'] at hw x0 x1
          have HW := hide hw
          clear hw
          have y1 := (HW.out.2.2.cell (p := ⟨b, off + (k - 1) * 3, none⟩) (show b < wr.heap.size by have := HR.out.2.2.size; omega)).trans y0
          have j1 : IntKind.i64.wrap ((k : Int) - 1) = (k : Int) - 1 := IntWalk.i64_in _ (by omega)
          have j2 : ((k : Int) - 1).toNat = k - 1 := by omega
          have j3 : (0 : Int) ≤ (k : Int) - 1 := by omega
          have j4 : (k : Int) - 1 < n := by omega
          have HU := hide hu
          clear hu y0
          by_cases hpv : u.kind = 97
          · have hpv' : ((u.kind : Int) == 97) = true := by simp; omega
            have HTX := hide (Lx.tx_two HTt.out ⟨hkp, h97, by rw [HU.out]; exact hpv⟩)
            go_wp2_with (at_builtin; refine app_row rfl (.tmp 29) (.tmp 30) 39 39 rfl 5 i0 _ 1 Try.underlying39 hi hz0 hz1 hz2 rfl (.slice Av (Lx.tx l k).length cv) (bytesV (Lx.tx l k)) rfl (HW.out.1.below (below_laid _ _)) _ 1 [.int .u8 32] rfl (Src.ofSlice _ Try.underlying39 ⟨wr.heap.size + 1, 0, none⟩ 1 1 _ rfl (World.news_of_block (cs := #[.int .u8 32]) (t := 5) (fr := (0, 0)) (by have := heap_alloc_new (wr.alloc (.cells #[.int .u8 97, .string t.text, .int .i64 t.pos] 31)) (.cells #[.int .u8 32] 5); simpa using this)) (by simp [Value.oneCell'])) (by rw [bytesV_len]; unfold maxLen; omega) (by rw [bytesV_len]; omega) ?_)
            intro A4 c4 w4 hrow4 hgr4 hob4
            rw [bytesV_len] at hrow4 hob4 ⊢
            have hbW := HW.out.2.1.trans ((below_laid (wr.alloc (.cells #[.int .u8 97, .string t.text, .int .i64 t.pos] 31)) (.cells #[.int .u8 32] 5)).mono HW.out.2.1.size)
            have hb4 := grown_new hbW hgr4 HR.out.2.1
            have hbk := hgr4.block wr.heap.size (by simp; omega) (fun e => by have := HR.out.1.lt wr.heap.size e.symm; omega)
            rw [Below.heap_alloc _ _ _ (by simp), heap_alloc_new wr _] at hbk
            have z1 : w4.cell? ⟨wr.heap.size, 1, none⟩ = some (.string t.text) := by rw [cell_block hbk]; rfl
            have hob4' : ∀ g, (Value.slice A4 ((Lx.tx l k).length + 1) c4).ownBlock = some g → w.heap.size ≤ g := fun g hg => by
              rcases hob4 with h | h
              · exact HR.out.2.1 g (h ▸ hg)
              · rw [h] at hg; have := HR.out.2.2.size; simp at hg; omega
            have hrow4' : Row w4 5 (.slice A4 ((Lx.tx l k).length + 1) c4) (bytesV (Lx.tx l k ++ [32])) := by simpa [bytesV] using hrow4
            have HR4 := hide (And.intro hb4 (And.intro hrow4' hob4'))
            have hl32 : (bytesV (Lx.tx l k ++ [32])).length = (Lx.tx l k).length + 1 := by rw [bytesV_len, List.length_append]; rfl
            have HL32 := hide hl32
            clear hrow4 hgr4 hob4 hbW hb4 hbk hob4' hrow4' hl32
            go_wp2_with (at_builtin; refine app_row rfl (.tmp 32) (.tmp 34) 39 9 rfl 5 i0 _ 1 Try.underlying39 hi hz0 hz1 hz2 rfl (.slice A4 ((Lx.tx l k).length + 1) c4) (bytesV (Lx.tx l k ++ [32])) rfl HR4.out.2.1 _ t.text.size (byteCells t.text) rfl (Src.ofString _ Try.underlying9 _) (by rw [HL32.out]; unfold maxLen; omega) (by rw [HL32.out]; omega) ?_)
            intro A5 c5 w5 hrow5 hgr5 hob5
            rw [HL32.out] at hrow5 hob5 ⊢
            have hb5 := grown_new HR4.out.1 hgr5 HR4.out.2.2
            have hob5' : ∀ g, (Value.slice A5 ((Lx.tx l k).length + 1 + t.text.size) c5).ownBlock = some g → w.heap.size ≤ g := fun g hg => by
              rcases hob5 with h | h
              · exact HR4.out.2.2 g (h ▸ hg)
              · rw [h] at hg; have := HR4.out.1.size; simp at hg; omega
            have hrow5' : Row w5 5 (.slice A5 ((Lx.tx l k).length + 1 + t.text.size) c5) (bytesV (Lx.tx l (k + 1))) := by
              rw [HTX.out]
              simpa only [bytesV, List.map_append, byteCells_eq] using hrow5
            have HR5 := hide (And.intro hb5 (And.intro hrow5' hob5'))
            clear hrow5 hgr5 hob5 hb5 hob5' hrow5'
            go_wp2_with fail
            exact ⟨⟨k + 1, by omega, rfl, HR5.out.2.1, HR5.out.2.2, HR5.out.1⟩, by simp [intOf]; omega⟩
          · have hpv' : ((u.kind : Int) == 97) = false := by simp; omega
            have HTX := hide (Lx.tx_one HTt.out (by rintro ⟨_, _, h⟩; rw [HU.out] at h; exact hpv h))
            go_wp2_with (at_builtin; refine app_row rfl (.tmp 32) (.tmp 34) 39 9 rfl 5 i0 _ 1 Try.underlying39 hi hz0 hz1 hz2 rfl (.slice Av (Lx.tx l k).length cv) (bytesV (Lx.tx l k)) rfl HW.out.1 _ t.text.size (byteCells t.text) rfl (Src.ofString _ Try.underlying9 _) (by rw [bytesV_len]; unfold maxLen; omega) (by rw [bytesV_len]; omega) ?_)
            intro A4 c4 w4 hrow4 hgr4 hob4
            have hb4 := grown_new HW.out.2.1 hgr4 HR.out.2.1
            have hob4' : ∀ g, (Value.slice A4 ((Lx.tx l k).length + t.text.size) c4).ownBlock = some g → w.heap.size ≤ g := fun g hg => by
              rw [bytesV_len] at hob4
              rcases hob4 with h | h
              · exact HR.out.2.1 g (h ▸ hg)
              · rw [h] at hg; have := HR.out.2.2.size; simp at hg; omega
            rw [bytesV_len] at hrow4 ⊢
            have hrow4' : Row w4 5 (.slice A4 ((Lx.tx l k).length + t.text.size) c4) (bytesV (Lx.tx l (k + 1))) := by
              rw [HTX.out]
              simpa only [bytesV, List.map_append, byteCells_eq] using hrow4
            have HR4 := hide (And.intro hb4 (And.intro hrow4' hob4'))
            clear hrow4 hgr4 hob4 hb4 hob4' hrow4'
            go_wp2_with fail
            exact ⟨⟨k + 1, by omega, rfl, HR4.out.2.1, HR4.out.2.2, HR4.out.1⟩, by simp [intOf]; omega⟩
        · have h97' : ((t.kind : Int) == 97) = false := by simp; omega
          have HTX := hide (Lx.tx_one HTt.out (by rintro ⟨_, h, _⟩; exact h97 h))
          go_wp2_with (at_builtin; refine app_row rfl (.tmp 32) (.tmp 34) 39 9 rfl 5 i0 _ 1 Try.underlying39 hi hz0 hz1 hz2 rfl (.slice Av (Lx.tx l k).length cv) (bytesV (Lx.tx l k)) rfl HW.out.1 _ t.text.size (byteCells t.text) rfl (Src.ofString _ Try.underlying9 _) (by rw [bytesV_len]; unfold maxLen; omega) (by rw [bytesV_len]; omega) ?_)
          intro A4 c4 w4 hrow4 hgr4 hob4
          have hb4 := grown_new HW.out.2.1 hgr4 HR.out.2.1
          have hob4' : ∀ g, (Value.slice A4 ((Lx.tx l k).length + t.text.size) c4).ownBlock = some g → w.heap.size ≤ g := fun g hg => by
            rw [bytesV_len] at hob4
            rcases hob4 with h | h
            · exact HR.out.2.1 g (h ▸ hg)
            · rw [h] at hg; have := HR.out.2.2.size; simp at hg; omega
          rw [bytesV_len] at hrow4 ⊢
          have hrow4' : Row w4 5 (.slice A4 ((Lx.tx l k).length + t.text.size) c4) (bytesV (Lx.tx l (k + 1))) := by
            rw [HTX.out]
            simpa only [bytesV, List.map_append, byteCells_eq] using hrow4
          have HR4 := hide (And.intro hb4 (And.intro hrow4' hob4'))
          clear hrow4 hgr4 hob4 hb4 hob4' hrow4'
          go_wp2_with fail
          exact ⟨⟨k + 1, by omega, rfl, HR4.out.2.1, HR4.out.2.2, HR4.out.1⟩, by simp [intOf]; omega⟩
      · have hkp' : ¬ (0 : Int) < k := by omega
        have HTX := hide (Lx.tx_one HTt.out (by rintro ⟨h, _⟩; omega))
        go_wp2_with (at_builtin; refine app_row rfl (.tmp 32) (.tmp 34) 39 9 rfl 5 i0 _ 1 Try.underlying39 hi hz0 hz1 hz2 rfl (.slice Av (Lx.tx l k).length cv) (bytesV (Lx.tx l k)) rfl HW.out.1 _ t.text.size (byteCells t.text) rfl (Src.ofString _ Try.underlying9 _) (by rw [bytesV_len]; unfold maxLen; omega) (by rw [bytesV_len]; omega) ?_)
        intro A4 c4 w4 hrow4 hgr4 hob4
        have hb4 := grown_new HW.out.2.1 hgr4 HR.out.2.1
        have hob4' : ∀ g, (Value.slice A4 ((Lx.tx l k).length + t.text.size) c4).ownBlock = some g → w.heap.size ≤ g := fun g hg => by
          rw [bytesV_len] at hob4
          rcases hob4 with h | h
          · exact HR.out.2.1 g (h ▸ hg)
          · rw [h] at hg; have := HR.out.2.2.size; simp at hg; omega
        rw [bytesV_len] at hrow4 ⊢
        have hrow4' : Row w4 5 (.slice A4 ((Lx.tx l k).length + t.text.size) c4) (bytesV (Lx.tx l (k + 1))) := by
          rw [HTX.out]
          simpa only [bytesV, List.map_append, byteCells_eq] using hrow4
        have HR4 := hide (And.intro hb4 (And.intro hrow4' hob4'))
        clear hrow4 hgr4 hob4 hb4 hob4' hrow4'
        go_wp2_with fail
        exact ⟨⟨k + 1, by omega, rfl, HR4.out.2.1, HR4.out.2.2, HR4.out.1⟩, by simp [intOf]; omega⟩
    · obtain rfl : k = n := by omega
      have hconv := conv_row hrow rfl
      have HR := hide hbw
      clear hrow hnew hbw
      go_wp2_with fail
      go_ret
      exact ⟨by rw [← hlen]; rfl, HR.out⟩
end Go.Proofs.Ytncaifdcmiblgaa
