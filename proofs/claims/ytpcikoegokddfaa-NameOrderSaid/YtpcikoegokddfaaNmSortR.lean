/- The walk of the reference's Sort: the least that is left, again and again. -/
import Derived.Test.YtpcikoegokddfaaNmSortW
import Derived.Test.YtpcikoegokddfaaNmLessW
namespace Go.Proofs.Ytpcikoegokddfaa
open Go.RowKit

def lenV : Value → Nat | .slice _ n _ => n | _ => 0

/-- The least of the first k texts that are not in out. -/
def Least (ss out : List ByteArray) (k : Nat) (v : Value) : Prop :=
  (v = .int .i64 (-1) ∧ ∀ j, j < k → Nm.at_ ss j ∈ out) ∨
  ∃ m : Nat, v = .int .i64 m ∧ m < k ∧ Nm.at_ ss m ∉ out ∧ ∀ j, j < k → Nm.at_ ss j ∉ out → Nm.ls (Nm.at_ ss j) (Nm.at_ ss m) = false

theorem least_in {ss out : List ByteArray} {k : Nat} {v : Value} (h : Least ss out k v) (hin : Nm.at_ ss k ∈ out) : Least ss out (k + 1) v := by
  rcases h with ⟨h1, h2⟩ | ⟨m, h1, h2, h3, h4⟩
  · exact .inl ⟨h1, fun j hj => by by_cases e : j = k; (· subst e; exact hin); (· exact h2 j (by omega))⟩
  · exact .inr ⟨m, h1, by omega, h3, fun j hj hn => by by_cases e : j = k; (· subst e; exact absurd hin hn); (· exact h4 j (by omega) hn)⟩

set_option maxHeartbeats 800000 in
set_option maxRecDepth 100000 in
theorem sortR_any (n c B : Nat) (A : Option Addr) (ss : List ByteArray) (w : World) (hn : n ≤ 60) (hsz : ∀ s ∈ ss, s.size ≤ maxLen) (hB : B ≤ w.heap.size) (hs : HasStr w B A n ss) :
    Calls Try.prog 20 #[.slice A n c] w fun e w' => ∃ out v, e = .returned v ∧ Nm.Sorts ss out ∧
      w'.ownsRow w.heap.size 9 1 v out.length (out.map Value.string) ∧ Below w.heap.size w w' := by
  have hl := hs.len
  subst hl
  obtain ⟨i0, hi, hz0, hz1, hz2⟩ := info_parts info_string
  go_enter Try.func20, Try.ntmps20
  go_wp2_with fail
  go_loopw [3] (fun v wr => ∃ (out : List ByteArray) (A' : Option Addr) (c' : Nat), v = .slice A' out.length c' ∧ Nm.Part ss out ∧ wr.ownsRow w.heap.size 9 1 (.slice A' out.length c') out.length (out.map Value.string) ∧ Below w.heap.size w wr)
    (fun v _ => ss.length + 1 - lenV v)
  case atStart => exact ⟨[], none, 0, rfl, Nm.part_nil ss, World.ownsRow_nil _ _ _ _, Below.refl _ _⟩
  case round =>
    obtain ⟨out, A', c', rfl, hp, hown, hb⟩ := hrel
    have hlen := hp.len
    have hle : (out.length : Int) ≤ ss.length := by omega
    have HP := hide hp
    have HO := hide hown
    have HB := hide hb
    clear hp hown hb
    obtain ⟨wo, hwo⟩ : ∃ wo : World, wo = wr := ⟨_, rfl⟩
    subst hwo
    go_wp2_with fail
    go_loopw [4, 5] (fun b i wi => ∃ k : Nat, k ≤ ss.length ∧ i = .int .i64 k ∧ Least ss out k b ∧ Dr wo wi) (fun _ i _ => ss.length - (intOf i).toNat)
    case atStart => exact ⟨0, Nat.zero_le _, rfl, .inl ⟨rfl, fun j h => by omega⟩, Dr.refl _⟩
    case round =>
      obtain ⟨k, hk, rfl, hL, hd⟩ := hrel
      have HD := hide hd
      clear hd
      by_cases hlt : k < ss.length
      · have hs1 : HasStr wr w.heap.size A ss.length ss := HasStr.dr (Has.below (Has.more hs hB) HB.out) HD.out
        obtain ⟨b, off, rfl, _, hcell⟩ := hs1.str hlt
        have hf : ∀ W, Dr wo W → Calls Try.prog 14 #[.slice A' out.length c', .string (Nm.at_ ss k)] W fun e w' => e = .returned (.int .i64 (Nm.find out (Nm.at_ ss k))) ∧ W = w' := fun W hW =>
          findR_any out.length c' wo.heap.size A' out (Nm.at_ ss k) W (by omega) (HasStr.dr (Has.of_own HO.out) hW)
        have HF := hide hf
        have HS1 := hide hs1
        clear hf hs1
        have hk0 : (0 : Int) ≤ k := by omega
        have hk1 : (k : Int) < ss.length := by omega
        have hfr := Nm.find_range out (Nm.at_ ss k)
        have hkm : Nm.at_ ss k ∈ ss := by rw [Nm.at_mem hlt]; exact List.getElem_mem hlt
        by_cases hin : Nm.at_ ss k ∈ out
        · have hnf : decide (Nm.find out (Nm.at_ ss k) < 0) = false := by simp; exact hfr.2.2.2 hin
          have HFR := hide hfr
          have HL := hide hL
          clear hfr hL
          go_wp2_with fail
          go_quiet ((go_at_call 14; exact quiet_left (HF.out _ (HD.out.drewN _))))
          go_wp2_with fail
          go_roundw
          case rel => exact ⟨k + 1, by omega, by go_num, least_in HL.out hin, HD.out.drewN _⟩
          case measure => simp [intOf]; omega
        · have hnf : decide (Nm.find out (Nm.at_ ss k) < 0) = true := by
            simp
            rcases Int.lt_or_le (Nm.find out (Nm.at_ ss k)) 0 with h | h
            · exact h
            · exact absurd (hfr.2.2.1 h) hin
          have HFR := hide hfr
          clear hfr
          rcases hL with ⟨rfl, hall⟩ | ⟨m, rfl, hm, hmo, hmin⟩
          · have HL := hide hall
            clear hall
            go_wp2_with fail
            go_quiet ((go_at_call 14; exact quiet_left (HF.out _ (HD.out.drewN _))))
            go_wp2_with fail
            go_roundw
            case rel =>
              refine ⟨k + 1, by omega, by go_num, .inr ⟨k, rfl, by omega, hin, fun j hj hno => ?_⟩, HD.out.drewN _⟩
              by_cases e : j = k
              · subst e; exact Nm.ls_irrefl _
              · exact absurd (HL.out j (by omega)) hno
            case measure => simp [intOf]; omega
          · obtain ⟨b', off', hA', _, hcell'⟩ := HS1.out.str (by omega : m < ss.length)
            simp only [Option.some.injEq, Addr.mk.injEq, and_true] at hA'
            obtain ⟨rfl, rfl⟩ := hA'
            have hm0 : (0 : Int) ≤ m := by omega
            have hm1 : (m : Int) < ss.length := by omega
            have hm2 : decide ((m : Int) < 0) = false := by simp
            have hl : ∀ W, Dr wo W → Calls Try.prog 12 #[.string (Nm.at_ ss k), .string (Nm.at_ ss m)] W fun e w' => e = .returned (.bool (Nm.ls (Nm.at_ ss k) (Nm.at_ ss m))) ∧ Dr W w' := fun W _ =>
              lessR_any _ _ W (hsz _ hkm)
            have HLs := hide hl
            have HL := hide (And.intro hm (And.intro hmo hmin))
            clear hl hm hmo hmin
            cases hlk : Nm.ls (Nm.at_ ss k) (Nm.at_ ss m)
            · have hl2 := HLs.out
              rw [hlk] at hl2
              have HLl := hide hl2
              clear hl2 HLs
              go_wp2_with fail
              go_quiet ((first | (go_at_call 14; exact quiet_left (HF.out _ (HD.out.drewN _))) | (go_at_call 12; exact quiet_dr (HLl.out _ (HD.out.drewN _)))))
              go_wp2_with fail
              go_roundw
              case rel =>
                refine ⟨k + 1, by omega, by go_num, .inr ⟨m, rfl, by have := HL.out.1; omega, HL.out.2.1, fun j hj hno => ?_⟩, HD.out.drewN _⟩
                by_cases e : j = k
                · subst e; exact hlk
                · exact HL.out.2.2 j (by omega) hno
              case measure => simp [intOf]; omega
            · have hl2 := HLs.out
              rw [hlk] at hl2
              have HLl := hide hl2
              clear hl2 HLs
              go_wp2_with fail
              go_quiet ((first | (go_at_call 14; exact quiet_left (HF.out _ (HD.out.drewN _))) | (go_at_call 12; exact quiet_dr (HLl.out _ (HD.out.drewN _)))))
              go_wp2_with fail
              go_roundw
              case rel =>
                refine ⟨k + 1, by omega, by go_num, .inr ⟨k, rfl, by omega, hin, fun j hj hno => ?_⟩, HD.out.drewN _⟩
                by_cases e : j = k
                · subst e; exact Nm.ls_irrefl _
                · rw [← Bool.not_eq_true]
                  intro hjk
                  have := HL.out.2.2 j (by omega) hno
                  rw [Nm.ls_trans hjk hlk] at this
                  cases this
              case measure => simp [intOf]; omega
      · obtain rfl : k = ss.length := by omega
        rcases hL with ⟨rfl, hall⟩ | ⟨m, rfl, hm, hmo, hmin⟩
        · go_wp2_with fail
          go_ret
          refine ⟨out, .slice A' out.length c', rfl, HP.out.done fun y hy => ?_, own_below HO.out (HD.out.below _), below_dr HB.out HD.out⟩
          obtain ⟨j, hj, rfl⟩ := List.getElem_of_mem hy
          rw [← Nm.at_mem hj]; exact hall j hj
        · have hs1 : HasStr wr w.heap.size A ss.length ss := HasStr.dr (Has.below (Has.more hs hB) HB.out) HD.out
          obtain ⟨b, off, rfl, _, hcell⟩ := hs1.str hm
          have hm0 : (0 : Int) ≤ m := by omega
          have hm1 : (m : Int) < ss.length := by omega
          have hm2 : ¬ (m : Int) < 0 := by omega
          have hP2 := HP.out.next (by rw [Nm.at_mem hm]; exact List.getElem_mem hm) hmo fun y hy hno => by
            obtain ⟨j, hj, rfl⟩ := List.getElem_of_mem hy
            rw [← Nm.at_mem hj]; exact hmin j hj (by rw [Nm.at_mem hj]; exact hno)
          have HP2 := hide hP2
          have HO2 := hide (own_below HO.out (HD.out.below _))
          have hzw : w.heap.size ≤ wr.heap.size := by have := HB.out.size; have := HD.out.size; omega
          clear hmin hmo hP2 hs1
          go_wp2_with (at_builtin; refine app_own rfl (.tmp 43) (.tmp 48) 23 rfl w.heap.size 9 i0 _ 1 16 Try.underlying23 hi hz0 hz1 hz2 rfl (by decide) _ out.length (out.map Value.string) rfl ?d0 ⟨wr.heap.size, 0, none⟩ 1 1 [.string (Nm.at_ ss m)] rfl rfl ?d1 ?d2 ?d3 ?d4 ?d5 ?_)
          case d0 => exact HO2.out.alloc _
          case d2 => rfl
          case d3 => unfold maxLen; omega
          case d4 => omega
          case d5 => omega
          intro A3 c3 w2 hown2 hgr
          have hgb := grown_below (B := w.heap.size) HO2.out (below_laid _ _) hgr (by omega) (by omega)
          have HX := hide (And.intro hown2 hgb)
          clear hown2 hgr hgb
          go_wp2_with fail
          go_roundw
          case rel =>
            refine ⟨out ++ [Nm.at_ ss m], A3, c3, by rw [List.length_append]; rfl, HP2.out, ?_, (below_dr HB.out HD.out).trans HX.out.2⟩
            have := HX.out.1
            rw [List.length_append, List.map_append]; exact this
          case measure => simp [lenV]; omega

end Go.Proofs.Ytpcikoegokddfaa
