/- The walk of the document's Text. -/
import Derived.Test.YtncaifdcmiblgaaLxBig
namespace Go.Proofs.Ytncaifdcmiblgaa
open Go.RowKit

theorem app_ba (a : List UInt8) (s : ByteArray) : (⟨a.toArray⟩ : ByteArray) ++ s = ⟨(a ++ s.data.toList).toArray⟩ := by
  apply ByteArray.ext
  simp

set_option maxHeartbeats 1600000 in
theorem rtext_any (n c B : Nat) (A : Option Addr) (l : List Lx.T) (w : World) (hn : n ≤ 1000) (h : HasT w B A n l) (hm : ∀ t ∈ l, t.text.size ≤ 1000) :
    Calls Try.prog 17 #[.slice A n c] w fun e w' => e = .returned (.string (Lx.text l)) ∧ w = w' := by
  have HL := hide h.1
  have HH := hide h
  have HM := hide hm
  have HT := hide (Lx.tx_len hm)
  clear h hm
  go_enter Try.func17, Try.ntmps17
  go_wp2_with fail
  go_loop [3, 4] (fun v i => ∃ k : Nat, k ≤ n ∧ i = .int .i64 k ∧ v = .string ⟨(Lx.tx l k).toArray⟩) (fun _ i => n - (intOf i).toNat)
  case atStart => exact ⟨0, Nat.zero_le _, rfl, rfl⟩
  case round =>
    obtain ⟨k, hk, rfl, rfl⟩ := hrel
    by_cases hlt : k < n
    · obtain ⟨t, ht⟩ : ∃ t, l[k]? = some t := ⟨l[k]'(by have := HL.out; omega), List.getElem?_eq_getElem _⟩
      obtain ⟨b, off, rfl, hbB, hcell⟩ := HH.out.2 (by omega)
      obtain ⟨d0, d1, d2⟩ := hcell k t ht
      have htm := HM.out t (List.mem_of_getElem? ht)
      have HCell := hide hcell
      have HTt := hide ht
      have hk0 : (k : Int) < n := by omega
      have hk1 : (0 : Int) ≤ k := by omega
      clear hcell ht
      have hln := HT.out k
      have q1 : ¬ 9223372036854775807 < (Lx.tx l k).length + 1 := by omega
      have q2 : ¬ 9223372036854775807 < (Lx.tx l k).length + 1 + t.text.size := by omega
      have q3 : ¬ 9223372036854775807 < (Lx.tx l k).length + t.text.size := by omega
      clear hln
      by_cases hkp : 0 < k
      · have hkp' : (0 : Int) < k := by omega
        obtain ⟨u, hu⟩ : ∃ u, l[k - 1]? = some u := ⟨l[k - 1]'(by have := HL.out; omega), List.getElem?_eq_getElem _⟩
        have y0 := (HCell.out (k - 1) u hu).1
        have j1 : IntKind.i64.wrap ((k : Int) - 1) = (k : Int) - 1 := IntWalk.i64_in _ (by omega)
        have j2 : ((k : Int) - 1).toNat = k - 1 := by omega
        have j3 : (0 : Int) ≤ (k : Int) - 1 := by omega
        have j4 : (k : Int) - 1 < n := by omega
        have HU := hide hu
        clear hu
        by_cases h97 : t.kind = 97 <;> by_cases hpv : u.kind = 97
        · have h97' : ((t.kind : Int) == 97) = true := by simp; omega
          have hpv' : ((u.kind : Int) == 97) = true := by simp; omega
          have HTX := hide (Lx.tx_two HTt.out ⟨hkp, h97, by rw [HU.out]; exact hpv⟩)
          go_wp2_with fail
          exact ⟨⟨k + 1, by omega, rfl, by rw [HTX.out, app_ba, app_ba]⟩, by simp [intOf]; omega⟩
        · have h97' : ((t.kind : Int) == 97) = true := by simp; omega
          have hpv' : ((u.kind : Int) == 97) = false := by simp; omega
          have HTX := hide (Lx.tx_one HTt.out (by rintro ⟨_, _, h⟩; rw [HU.out] at h; exact hpv h))
          go_wp2_with fail
          exact ⟨⟨k + 1, by omega, rfl, by rw [HTX.out, app_ba]⟩, by simp [intOf]; omega⟩
        · have h97' : ((t.kind : Int) == 97) = false := by simp; omega
          have hpv' : ((u.kind : Int) == 97) = true := by simp; omega
          have HTX := hide (Lx.tx_one HTt.out (by rintro ⟨_, h, _⟩; exact h97 h))
          go_wp2_with fail
          exact ⟨⟨k + 1, by omega, rfl, by rw [HTX.out, app_ba]⟩, by simp [intOf]; omega⟩
        · have h97' : ((t.kind : Int) == 97) = false := by simp; omega
          have hpv' : ((u.kind : Int) == 97) = false := by simp; omega
          have HTX := hide (Lx.tx_one HTt.out (by rintro ⟨_, h, _⟩; exact h97 h))
          go_wp2_with fail
          exact ⟨⟨k + 1, by omega, rfl, by rw [HTX.out, app_ba]⟩, by simp [intOf]; omega⟩
      · have hkp' : ¬ (0 : Int) < k := by omega
        have HTX := hide (Lx.tx_one HTt.out (by rintro ⟨h, _⟩; omega))
        go_wp2_with fail
        exact ⟨⟨k + 1, by omega, rfl, by rw [HTX.out, app_ba]⟩, by simp [intOf]; omega⟩
    · obtain rfl : k = n := by omega
      go_wp2_with fail
      go_ret
      exact ⟨by rw [← HL.out]; rfl, rfl⟩
end Go.Proofs.Ytncaifdcmiblgaa
