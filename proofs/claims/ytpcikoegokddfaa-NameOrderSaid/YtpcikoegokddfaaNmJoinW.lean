/- The walks of Join, of the program and of the reference. -/
import Derived.Test.YtpcikoegokddfaaNmFindW
import Derived.Test.YtpcikoegokddfaaAppStr
namespace Go.Proofs.Ytpcikoegokddfaa
open Go.RowKit

/-- The first k texts, one behind the other. -/
def jn (ss : List ByteArray) (sep : List UInt8) : Nat → List UInt8
  | 0 => []
  | k + 1 => (if 0 < k then jn ss sep k ++ sep else jn ss sep k) ++ (Nm.at_ ss k).data.toList

theorem jn_len {ss : List ByteArray} {sep : List UInt8} (h : ∀ k, k < ss.length → (Nm.at_ ss k).size ≤ 200) (hs : sep.length ≤ 20) : ∀ k, k ≤ ss.length → (jn ss sep k).length ≤ 220 * k
  | 0, _ => by simp [jn]
  | k + 1, hk => by
    have ih := jn_len h hs k (by omega)
    have hk' := h k (by omega)
    have hl : (Nm.at_ ss k).data.toList.length = (Nm.at_ ss k).size := by simp
    unfold jn
    split <;> simp only [List.length_append] <;> omega

def bytesV (l : List UInt8) : List Value := l.map fun b => Value.int .u8 b.toNat
theorem byteCells_eq (s : ByteArray) : byteCells s = bytesV s.data.toList := rfl
theorem info_u8 : (Try.prog.info? 5).map (fun i => (i.zero, i.size, i.bytes)) = some (some (.int .u8 0), 1, 1) := by kernel_rfl

/-- A row of bytes of the call's own, read back as a string. -/
theorem conv_own {w : World} {base : Nat} {A : Option Addr} {c : Nat} {l : List UInt8} (h : w.ownsRow base 5 1 (.slice A l.length c) l.length (bytesV l)) :
    (convert 39 9 (.slice A l.length c)).run Try.prog w = .ok (.string ⟨l.toArray⟩) w := by
  rcases h.2 with ⟨h0, h1⟩ | ⟨g, cap, cur, h0, _, hg, _⟩
  · simp only [Value.slice.injEq] at h0
    obtain ⟨rfl, _, rfl⟩ := h0
    obtain rfl : l = [] := List.eq_nil_of_length_eq_zero h1
    exact run_convert_bytes_nil w 39 5 Try.underlying39 Try.underlying5 0 0 9 Try.underlying9
  · simp only [Value.slice.injEq] at h0
    obtain ⟨rfl, _, rfl⟩ := h0
    refine run_convert_bytes_back w 39 9 5 ⟨g, 0, none⟩ c l Try.underlying39 Try.underlying5 Try.underlying9 fun j hj => ?_
    exact h.cells (g := g) rfl j _ (by simp [bytesV, hj])

set_option maxHeartbeats 800000 in
theorem join_any (n c B : Nat) (A : Option Addr) (ss : List ByteArray) (sep : ByteArray) (w : World) (hn : n ≤ 60) (hsz : ∀ k, k < ss.length → (Nm.at_ ss k).size ≤ 200) (hsep : sep.size ≤ 20) (hB : B ≤ w.heap.size) (hs : HasStr w B A n ss) :
    Calls Try.prog 21 #[.slice A n c, .string sep] w fun e w' => e = .returned (.string ⟨(jn ss sep.data.toList n).toArray⟩) ∧ Below w.heap.size w w' := by
  have hl := hs.len
  subst hl
  obtain ⟨i0, hi, hz0, hz1, hz2⟩ := info_parts info_u8
  have hsl : sep.data.toList.length = sep.size := by simp
  have hjl := jn_len hsz (by omega : sep.data.toList.length ≤ 20)
  have HJ := hide hjl
  clear hjl hsl
  go_enter Try.func21, Try.ntmps21
  go_wp2_with fail
  go_loopw [5, 9] (fun v i wr => ∃ (k : Nat) (A' : Option Addr) (c' : Nat), k ≤ ss.length ∧ i = .int .i64 k ∧ v = .slice A' (jn ss sep.data.toList k).length c' ∧
      wr.ownsRow w.heap.size 5 1 (.slice A' (jn ss sep.data.toList k).length c') (jn ss sep.data.toList k).length (bytesV (jn ss sep.data.toList k)) ∧ Below w.heap.size w wr) (fun _ i _ => ss.length - (intOf i).toNat)
  case atStart => exact ⟨0, none, 0, Nat.zero_le _, rfl, rfl, World.ownsRow_nil _ _ _ _, Below.refl _ _⟩
  case round =>
    obtain ⟨k, A', c', hk, rfl, rfl, hown, hb⟩ := hrel
    have HO := hide hown
    have HB := hide hb
    clear hown hb
    by_cases hlt : k < ss.length
    · have hs1 : HasStr wr w.heap.size A ss.length ss := Has.below (Has.more hs hB) HB.out
      obtain ⟨b, off, rfl, hbB, hcell⟩ := hs1.str hlt
      have hsk := hsz k hlt
      have hjk := HJ.out k hk
      have hzw : w.heap.size ≤ wr.heap.size := HB.out.size
      clear hs1
      by_cases hk0 : (0 : Int) < k
      · have hj : jn ss sep.data.toList (k + 1) = jn ss sep.data.toList k ++ sep.data.toList ++ (Nm.at_ ss k).data.toList := by rw [jn, if_pos (by omega)]
        have HJJ := hide hj
        clear hj
        generalize jn ss sep.data.toList k = J at HO HJJ hjk ⊢
        go_wp2_with (at_builtin; refine app_src rfl (.tmp 14) (.tmp 15) 39 9 rfl w.heap.size 5 i0 _ 1 Try.underlying39 hi hz0 hz1 hz2 rfl _ J.length (bytesV J) rfl HO.out _ sep.size (byteCells sep) rfl (Src.ofString _ Try.underlying9 _) (by unfold maxLen; omega) (by omega) hzw ?_)
        intro A2 c2 w2 hown2 hgr2
        have hb2 := HB.out.trans (grown_below HO.out (Below.refl _ _) hgr2 (Nat.le_refl _) hzw)
        have hcell2 : w2.cell? ⟨b, off + k, none⟩ = some (.string (Nm.at_ ss k)) := by
          rw [(grown_below HO.out (Below.refl _ _) hgr2 (Nat.le_refl _) hzw).cell (by exact hbB)]; exact hcell
        have hzw2 : w.heap.size ≤ w2.heap.size := hb2.size
        have HO2 := hide hown2
        have HB2 := hide hb2
        clear hown2 hgr2 hb2
        go_wp2_with (at_builtin; refine app_src rfl (.tmp 17) (.tmp 21) 39 9 rfl w.heap.size 5 i0 _ 1 Try.underlying39 hi hz0 hz1 hz2 rfl _ (J.length + sep.size) (bytesV J ++ byteCells sep) rfl HO2.out _ (Nm.at_ ss k).size (byteCells (Nm.at_ ss k)) rfl (Src.ofString _ Try.underlying9 _) (by unfold maxLen; omega) (by omega) hzw2 ?_)
        intro A3 c3 w3 hown3 hgr3
        have hb3 := HB2.out.trans (grown_below HO2.out (Below.refl _ _) hgr3 (Nat.le_refl _) hzw2)
        have HX := hide (And.intro hown3 hb3)
        clear hown3 hgr3 hb3
        go_wp2_with fail
        go_roundw
        case rel =>
          have hlen : (jn ss sep.data.toList (k + 1)).length = J.length + sep.size + (Nm.at_ ss k).size := by rw [HJJ.out]; simp only [List.length_append]; rfl
          refine ⟨k + 1, A3, c3, by omega, by go_num, by rw [hlen], ?_, HX.out.2⟩
          have := HX.out.1
          rw [hlen, HJJ.out]
          simpa only [bytesV, List.map_append, byteCells_eq, List.append_assoc] using this
        case measure => simp [intOf]; omega
      · have hj : jn ss sep.data.toList (k + 1) = jn ss sep.data.toList k ++ (Nm.at_ ss k).data.toList := by rw [jn, if_neg (by omega)]
        have HJJ := hide hj
        clear hj
        generalize jn ss sep.data.toList k = J at HO HJJ hjk ⊢
        go_wp2_with (at_builtin; refine app_src rfl (.tmp 17) (.tmp 21) 39 9 rfl w.heap.size 5 i0 _ 1 Try.underlying39 hi hz0 hz1 hz2 rfl _ J.length (bytesV J) rfl HO.out _ (Nm.at_ ss k).size (byteCells (Nm.at_ ss k)) rfl (Src.ofString _ Try.underlying9 _) (by unfold maxLen; omega) (by omega) hzw ?_)
        intro A3 c3 w3 hown3 hgr3
        have hb3 := HB.out.trans (grown_below HO.out (Below.refl _ _) hgr3 (Nat.le_refl _) hzw)
        have HX := hide (And.intro hown3 hb3)
        clear hown3 hgr3 hb3
        go_wp2_with fail
        go_roundw
        case rel =>
          have hlen : (jn ss sep.data.toList (k + 1)).length = J.length + (Nm.at_ ss k).size := by rw [HJJ.out]; simp only [List.length_append]; rfl
          refine ⟨k + 1, A3, c3, by omega, by go_num, by rw [hlen], ?_, HX.out.2⟩
          have := HX.out.1
          rw [hlen, HJJ.out]
          simpa only [bytesV, List.map_append, byteCells_eq, List.append_assoc] using this
        case measure => simp [intOf]; omega
    · obtain rfl : k = ss.length := by omega
      have hconv := conv_own HO.out
      go_wp2_with fail
      go_ret
      exact ⟨rfl, HB.out⟩

set_option maxHeartbeats 800000 in
theorem joinR_any (n c B : Nat) (A : Option Addr) (ss : List ByteArray) (sep : ByteArray) (w : World) (hn : n ≤ 60) (hsz : ∀ k, k < ss.length → (Nm.at_ ss k).size ≤ 200) (hsep : sep.size ≤ 20) (hs : HasStr w B A n ss) :
    Calls Try.prog 22 #[.slice A n c, .string sep] w fun e w' => e = .returned (.string ⟨(jn ss sep.data.toList n).toArray⟩) ∧ w = w' := by
  have hl := hs.len
  subst hl
  have hsl : sep.data.toList.length = sep.size := by simp
  have hjl := jn_len hsz (by omega : sep.data.toList.length ≤ 20)
  have HJ := hide hjl
  clear hjl hsl
  go_enter Try.func22, Try.ntmps22
  go_wp2_with fail
  go_loop [5, 6] (fun s i => ∃ k : Nat, k ≤ ss.length ∧ i = .int .i64 k ∧ s = .string ⟨(jn ss sep.data.toList k).toArray⟩) (fun _ i => ss.length - (intOf i).toNat)
  case atStart => exact ⟨0, Nat.zero_le _, rfl, rfl⟩
  case round =>
    obtain ⟨k, hk, rfl, rfl⟩ := hrel
    by_cases hlt : k < ss.length
    · obtain ⟨b, off, rfl, hbB, hcell⟩ := hs.str hlt
      have hsk := hsz k hlt
      have hjk := HJ.out k hk
      by_cases hk0 : (0 : Int) < k
      · have hj : jn ss sep.data.toList (k + 1) = jn ss sep.data.toList k ++ sep.data.toList ++ (Nm.at_ ss k).data.toList := by rw [jn, if_pos (by omega)]
        have HJJ := hide hj
        clear hj
        generalize jn ss sep.data.toList k = J at HJJ hjk ⊢
        go_wp2_with fail
        refine ⟨⟨k + 1, by omega, by go_num, ?_⟩, by simp [intOf]; omega⟩
        rw [HJJ.out]
        congr 1
      · have hj : jn ss sep.data.toList (k + 1) = jn ss sep.data.toList k ++ (Nm.at_ ss k).data.toList := by rw [jn, if_neg (by omega)]
        have HJJ := hide hj
        clear hj
        generalize jn ss sep.data.toList k = J at HJJ hjk ⊢
        go_wp2_with fail
        refine ⟨⟨k + 1, by omega, by go_num, ?_⟩, by simp [intOf]; omega⟩
        rw [HJJ.out]
        congr 1
    · obtain rfl : k = ss.length := by omega
      go_wp2_with fail
      go_ret
      exact ⟨rfl, rfl⟩

end Go.Proofs.Ytpcikoegokddfaa
