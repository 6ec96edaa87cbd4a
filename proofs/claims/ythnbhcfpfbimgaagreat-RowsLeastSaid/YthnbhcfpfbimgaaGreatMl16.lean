/- Texts put together: RfLatt NmPlain NmPlaceW NmFindW NmTwiceW NmSort NmLess NmRight. -/
import Derived.Below
import Derived.Lib.Strings
import Derived.Test.YthnbhcfpfbimgaaGreatMl15
import Derived.Test.YthnbhcfpfbimgaaGreatMl00
/- The walk of chapter 6: Lattice. -/
namespace Go.Proofs.YthnbhcfpfbimgaaGreat
open Go.RowKit
set_option maxRecDepth 100000 in
theorem latt6_no (c : Array Value) (N : Int) (h0 : c[0]? = some (.int .i64 N)) (h : N < 1 ∨ 64 < N) (w : World) : Calls Tryz.prog 80 #[.agg c] w fun e w' => RBo e ∧ Below w.heap.size w w' := by
  have HT := hide (One.new w c)
  have k0 := HT.out.num h0
  clear h0
  rcases h with h1 | h2
  · have d1 : decide (N < 1) = true := decide_eq_true (by omega)
    go_enter Tryz.func80, Tryz.ntmps80
    go_wp2_with fail
    go_ret
    exact ⟨⟨_, rfl⟩, HT.out.below⟩
  · have d1 : decide (N < 1) = false := decide_eq_false (by omega)
    have d2 : decide (64 < N) = true := decide_eq_true (by omega)
    go_enter Tryz.func80, Tryz.ntmps80
    go_wp2_with fail
    go_ret
    exact ⟨⟨_, rfl⟩, HT.out.below⟩
set_option maxRecDepth 100000 in
theorem latt6_yes (c : Array Value) (hc : Relv c) (n : Nat) (h0 : c[0]? = some (.int .i64 (n : Nat))) (n1 : 1 ≤ n) (n8 : n ≤ 64) (w : World) : Calls Tryz.prog 80 #[.agg c] w fun e w' => RBo e ∧ Below w.heap.size w w' := by
  have HT := hide (One.new w c)
  have k0 := HT.out.num h0
  have HC := hide hc
  have H0 := hide h0
  have d1 : decide ((n : Int) < 1) = false := decide_eq_false (by omega)
  have d2 : decide (64 < (n : Int)) = false := decide_eq_false (by omega)
  have HN := hide (And.intro n1 n8)
  clear hc h0 n1
  go_enter Tryz.func80, Tryz.ntmps80
  go_upto_region 1 with fail
  generalize w.alloc (Obj.cells c 118) = w0 at *
  have HG := hide (ldRelG 1 HT.out.one HC.out.size)
  have HD := hide (order_tot c HC.out w0)
  go_upto_if 21 with (first | (with_reducible refine HG.out _ _ _ _ _ rfl rfl (by with_unfolding_all rfl) ?_) | (go_at_call 93; refine HD.out.mono ?_; rintro e w1 ⟨⟨⟨r, rfl⟩⟩, hb4⟩; have H1 := hide (HT.out.step hb4); clear hb4))
  clear HG HD k0 d1 d2 HT
  cases r
  · go_wp2_with fail
    go_ret
    exact ⟨⟨_, rfl⟩, H1.out.below⟩
  simp only [Bool.not_true]
  go_wp2_with fail
  go_loopw [3] (fun kv wr => (∃ k : Nat, k ≤ n ∧ kv = .int .i64 (k : Nat)) ∧ One w c wr) (fun kv _ => n - (intOf kv).toNat)
  case atStart => exact ⟨⟨0, by omega, rfl⟩, H1.out⟩
  case round =>
    obtain ⟨⟨k, hk, rfl⟩, ho⟩ := hrel
    have HO := hide ho
    clear ho
    have k0 := HO.out.num H0.out
    by_cases hlt : k < n
    · have i0 : (k : Int) < n := by omega
      go_wp2_with fail
      clear k0
      generalize wr = wo at *
      go_loopw [4] (fun jv wr => (∃ j : Nat, j ≤ k ∧ jv = .int .i64 (j : Nat)) ∧ One w c wr) (fun jv _ => k - (intOf jv).toNat)
      case atStart => exact ⟨⟨0, by omega, rfl⟩, HO.out⟩
      case round =>
        clear HO
        obtain ⟨⟨j, hj, rfl⟩, ho⟩ := hrel
        have HO := hide ho
        clear ho
        by_cases hjk : j < k
        · have j0 : (j : Int) < k := by omega
          go_upto_region 9 with fail
          have HL := hide (ldRel 1 HO.out.one HC.out.size)
          have HJ := hide (join6_tot c HC.out k j wr)
          have HM := hide (meet6_tot c HC.out k j)
          go_upto_region 11 with (first | (with_reducible refine HL.out _ _ _ _ _ rfl rfl rfl ?_) | (with_reducible refine HL2.out _ _ _ _ _ rfl rfl rfl ?_) | (go_at_call 94; refine HJ.out.mono ?_; rintro e w4 ⟨⟨⟨z1, b1, rfl⟩⟩, hb4⟩; have H4 := hide (HO.out.step hb4); clear hb4; have HL2 := hide (ldRel 1 H4.out.one HC.out.size)) | (go_at_call 95; refine (HM.out w4).mono ?_; rintro e w5 ⟨⟨⟨z2, b2, rfl⟩⟩, hb5⟩; have H5 := hide (H4.out.step hb5); clear hb5))
          clear HL HL2 HJ HM
          cases b1
          · go_wp2_with fail
            go_ret
            exact ⟨⟨_, rfl⟩, H5.out.below⟩
          · cases b2
            · go_wp2_with fail
              go_ret
              exact ⟨⟨_, rfl⟩, H5.out.below⟩
            · go_wp2_with fail
              exact ⟨⟨⟨j + 1, by omega, rfl⟩, H5.out⟩, by simp [intOf]; omega⟩
        · obtain rfl : j = k := by omega
          go_wp2_with fail
          exact ⟨⟨⟨j + 1, by omega, rfl⟩, HO.out⟩, by simp [intOf]; omega⟩
    · obtain rfl : k = n := by omega
      go_wp2_with fail
      go_ret
      exact ⟨⟨_, rfl⟩, HO.out.below⟩
theorem latt6_tot (c : Array Value) (hc : Relv c) (w : World) : Calls Tryz.prog 80 #[.agg c] w fun e w' => RBo e ∧ Below w.heap.size w w' := by
  obtain ⟨N, h0⟩ := hc.num
  by_cases h1 : N < 1
  · exact latt6_no c N h0 (.inl h1) w
  by_cases h2 : 64 < N
  · exact latt6_no c N h0 (.inr h2) w
  obtain ⟨n, rfl⟩ := Int.eq_ofNat_of_zero_le (by omega : 0 ≤ N)
  exact latt6_yes c hc n h0 (by omega) (by omega) w
end Go.Proofs.YthnbhcfpfbimgaaGreat
/- The plain law of names: what Find, Twice, Same, Less, Right, Sort and Join of the program and of the reference compute, as functions on lists; no program in sight. -/
namespace Go.Proofs.YthnbhcfpfbimgaaGreat.Nm

/-- The first index below n at which p holds; -1: none. -/
def first (p : Nat → Bool) : Nat → Nat → Int
  | _, 0 => -1
  | i, n + 1 => if p i then (i : Int) else first p (i + 1) n

theorem first_none {p : Nat → Bool} : ∀ (n i : Nat), (∀ j, i ≤ j → j < i + n → p j = false) → first p i n = -1
  | 0, _, _ => rfl
  | n + 1, i, h => by
    rw [first, h i (by omega) (by omega), if_neg (by simp)]
    exact first_none n (i + 1) fun j h1 h2 => h j (by omega) (by omega)

theorem first_at {p : Nat → Bool} (k : Nat) (hp : p k = true) : ∀ (n i : Nat), (∀ j, i ≤ j → j < k → p j = false) → i ≤ k → k < i + n → first p i n = k
  | 0, i, _, h1, h2 => by omega
  | n + 1, i, h, h1, h2 => by
    rw [first]
    by_cases e : i = k
    · subst e; rw [hp, if_pos rfl]
    · rw [h i (by omega) (by omega), if_neg (by simp)]
      exact first_at k hp n (i + 1) (fun j a b => h j (by omega) (by omega)) (by omega) (by omega)

theorem first_cases (p : Nat → Bool) (n i : Nat) :
    (first p i n = -1 ∧ ∀ j, i ≤ j → j < i + n → p j = false) ∨ (∃ k : Nat, first p i n = k ∧ p k = true ∧ i ≤ k ∧ k < i + n ∧ ∀ j, i ≤ j → j < k → p j = false) := by
  induction n generalizing i with
  | zero => exact .inl ⟨rfl, fun j h1 h2 => by omega⟩
  | succ n ih =>
    rw [first]
    cases hp : p i with
    | true => exact .inr ⟨i, by simp, hp, by omega, by omega, fun j h1 h2 => by omega⟩
    | false =>
      rw [if_neg (by simp)]
      rcases ih (i + 1) with ⟨h1, h2⟩ | ⟨k, h1, h2, h3, h4, h5⟩
      · exact .inl ⟨h1, fun j a b => by by_cases e : j = i; (· subst e; exact hp); (· exact h2 j (by omega) (by omega))⟩
      · exact .inr ⟨k, h1, h2, by omega, by omega, fun j a b => by by_cases e : j = i; (· subst e; exact hp); (· exact h5 j (by omega) (by omega))⟩

theorem first_congr {p q : Nat → Bool} : ∀ (n i : Nat), (∀ j, i ≤ j → j < i + n → p j = q j) → first p i n = first q i n
  | 0, _, _ => rfl
  | n + 1, i, h => by
    rw [first, first, h i (by omega) (by omega), first_congr n (i + 1) fun j a b => h j (by omega) (by omega)]

theorem bytesLess_eq : ∀ (x y : List UInt8), Op.bytesLess x y = decide (x < y)
  | [], [] => by simp [Op.bytesLess]
  | _ :: _, [] => by simp [Op.bytesLess]
  | [], _ :: _ => by simp [Op.bytesLess]
  | a :: x, b :: y => by
    rw [Op.bytesLess, bytesLess_eq x y]
    simp only [List.cons_lt_cons_iff]
    by_cases h1 : a < b <;> by_cases h2 : a = b <;> by_cases h3 : x < y <;> simp [h1, h2, h3]

/-- The string at an index. -/
def at_ (l : List ByteArray) (i : Nat) : ByteArray := l.getD i ByteArray.empty

/-- Are two strings one? As the model asks it. -/
def eqs (a b : ByteArray) : Bool := a.toList == b.toList
theorem eqs_iff {a b : ByteArray} : eqs a b = true ↔ a = b := by
  unfold eqs
  rw [beq_iff_eq, Lib.toList_data, Lib.toList_data]
  constructor
  · intro h; exact ByteArray.ext (Array.ext' h)
  · rintro rfl; rfl
theorem eqs_false {a b : ByteArray} : eqs a b = false ↔ a ≠ b := by
  rw [← Bool.not_eq_true, eqs_iff]
theorem eqs_self (a : ByteArray) : eqs a a = true := eqs_iff.2 rfl

/-- name.Find. -/
def find (l : List ByteArray) (s : ByteArray) : Int := first (fun i => eqs (at_ l i) s) 0 l.length
/-- name.Twice. -/
def twice (l : List ByteArray) : Int := first (fun i => decide (0 ≤ find (l.take i) (at_ l i))) 0 l.length
/-- the reference's Twice. -/
def twiceR (l : List ByteArray) : Int := first (fun i => decide (find l (at_ l i) < i)) 0 l.length
/-- name.Same. -/
def same (a b : List ByteArray) : Bool := decide (a.length = b.length) && decide (first (fun i => !eqs (at_ a i) (at_ b i)) 0 a.length < 0)

theorem find_range (l : List ByteArray) (s : ByteArray) : -1 ≤ find l s ∧ find l s < l.length ∧ (0 ≤ find l s ↔ s ∈ l) := by
  unfold find
  rcases first_cases (fun i => eqs (at_ l i) s) l.length 0 with ⟨h1, h2⟩ | ⟨k, h1, h2, _, h4, _⟩
  · refine ⟨by omega, by omega, ⟨fun h => by omega, fun hm => ?_⟩⟩
    obtain ⟨i, hi, rfl⟩ := List.getElem_of_mem hm
    have := h2 i (by omega) (by omega)
    rw [eqs_false] at this
    exact absurd (by simp [at_, hi]) this
  · refine ⟨by omega, by omega, ⟨fun _ => ?_, fun _ => by omega⟩⟩
    rw [eqs_iff] at h2
    have hk : k < l.length := by omega
    rw [← h2]
    simp [at_, hk]

theorem twice_eq (l : List ByteArray) : twice l = twiceR l := by
  refine first_congr _ _ fun i _ hi => ?_
  have hi' : i < l.length := by omega
  rw [Bool.eq_iff_iff, decide_eq_true_eq, decide_eq_true_eq, (find_range _ _).2.2]
  have hat : at_ l i = l[i] := by simp [at_, hi']
  constructor
  · intro h
    obtain ⟨j, hj, e⟩ := List.getElem_of_mem h
    rw [List.length_take] at hj
    unfold find
    rcases first_cases (fun k => eqs (at_ l k) (at_ l i)) l.length 0 with ⟨h1, _⟩ | ⟨k, h1, _, _, _, h5⟩
    · omega
    · rw [h1]
      rcases Nat.lt_or_ge k i with hlt | hge
      · omega
      · have := h5 j (by omega) (by omega)
        rw [eqs_false] at this
        refine absurd ?_ this
        rw [← e, List.getElem_take]
        simp [at_, show j < l.length by omega]
  · intro h
    unfold find at h
    rcases first_cases (fun k => eqs (at_ l k) (at_ l i)) l.length 0 with ⟨_, h2⟩ | ⟨k, h1, h2, _, h4, _⟩
    · have := h2 i (by omega) (by omega)
      rw [eqs_self] at this
      cases this
    · rw [h1] at h
      rw [eqs_iff] at h2
      rw [← h2, List.mem_take_iff_getElem]
      exact ⟨k, by omega, by simp [at_, show k < l.length by omega]⟩

end Go.Proofs.YthnbhcfpfbimgaaGreat.Nm
/- The walk of place: the first index at which a closure that changes nothing says yes. -/
namespace Go.Proofs.YthnbhcfpfbimgaaGreat
open Go.RowKit

set_option maxHeartbeats 400000 in
theorem place_any (f : Nat) (caps : Array Value) (p : Nat → Bool) (n : Nat) (w : World) (hn : n ≤ 9223372036854775807)
    (hcf : ∀ (a : Array Value) (w : World), (callFunc f a).run Tryz.prog w = .ok (.enter f a) w)
    (hf : ∀ (i : Nat) (w' : World), i < n → Below w.heap.size w w' → Calls Tryz.prog f (#[.int .i64 i] ++ caps) w' fun e w'' => e = .returned (.bool (p i)) ∧ Below w.heap.size w w'') :
    Calls Tryz.prog 57 #[.int .i64 0, .int .i64 n, .func (.func f) #[] caps] w fun e w' => e = .returned (.int .i64 (Nm.first p 0 n)) ∧ Below w.heap.size w w' := by
  have HF := hide hf
  clear hf
  go_enter Tryz.func57, Tryz.ntmps57
  go_wp2_with fail
  go_loopw [7] (fun i wr => ∃ k : Nat, k ≤ n ∧ i = .int .i64 k ∧ (∀ j, j < k → p j = false) ∧ Below w.heap.size w wr) (fun i _ => n - (intOf i).toNat)
  case atStart => exact ⟨0, Nat.zero_le _, rfl, fun j h => by omega, Below.refl _ w⟩
  case round =>
    obtain ⟨k, hk, rfl, hg, hw⟩ := hrel
    have HG := hide hg
    clear hg
    by_cases hlt : k < n
    · have hc := HF.out k wr hlt hw
      have HC := hide hc
      clear hc
      cases hp : p k
      · go_wp2_with fail
        refine HC.out.mono ?_
        rintro e w' ⟨rfl, hw'⟩
        rw [hp]
        go_wp2_with fail
        go_roundw
        case rel =>
          refine ⟨k + 1, by omega, by go_num, fun j hj => ?_, hw'⟩
          by_cases e : j = k
          · subst e; exact hp
          · exact HG.out j (by omega)
        case measure => simp [intOf]; omega
      · have hr := Nm.first_at (p := p) k hp n 0 (fun j _ hj => HG.out j hj) (by omega) (by omega)
        have HR := hide hr
        clear hr
        go_wp2_with fail
        refine HC.out.mono ?_
        rintro e w' ⟨rfl, hw'⟩
        rw [hp]
        go_wp2_with fail
        go_ret
        exact ⟨ret_int HR.out.symm, hw'⟩
    · have hr := Nm.first_none (p := p) n 0 (fun j _ hj => HG.out j (by omega))
      have HR := hide hr
      clear hr
      go_wp2_with fail
      go_ret
      exact ⟨ret_int HR.out.symm, hw⟩

end Go.Proofs.YthnbhcfpfbimgaaGreat
/- The walks of Find, Twice and Same, of the program and of the reference, and of long. -/
namespace Go.Proofs.YthnbhcfpfbimgaaGreat
open Go.RowKit

/-- The slice value '.slice A n c' holds the strings ss. -/
def HasStr (w : World) (B : Nat) (A : Option Addr) (n : Nat) (ss : List ByteArray) : Prop := Has w B A n (ss.map Value.string)
section
variable {w w' : World} {B n : Nat} {A : Option Addr} {ss : List ByteArray}
theorem HasStr.len (h : HasStr w B A n ss) : ss.length = n := by simpa using h.1
theorem HasStr.str (h : HasStr w B A n ss) {i : Nat} (hi : i < n) : ∃ b off, A = some ⟨b, off, none⟩ ∧ b < B ∧ w.cell? ⟨b, off + i, none⟩ = some (.string (Nm.at_ ss i)) := by
  obtain ⟨b, off, u, e, hb, hu, hc⟩ := Has.at_ h hi
  have hl := h.len
  have : u = .string (Nm.at_ ss i) := by
    rw [List.getElem?_map] at hu
    simp only [Nm.at_, List.getD_eq_getElem?_getD]
    rw [List.getElem?_eq_getElem (by omega)] at hu ⊢
    simp at hu ⊢
    exact hu.symm
  subst this
  exact ⟨b, off, e, hb, hc⟩
theorem HasStr.take (h : HasStr w B A n ss) {k : Nat} (hk : k ≤ n) : HasStr w B A k (ss.take k) := by
  have hl := h.len
  refine ⟨by simp; omega, fun h0 => ?_⟩
  obtain ⟨b, off, e, hb, hc⟩ := h.2 (by omega)
  refine ⟨b, off, e, hb, fun j u hu => hc j u ?_⟩
  rw [List.map_take, List.getElem?_take] at hu
  split at hu
  · exact hu
  · cases hu
theorem HasStr.dr (h : HasStr w B A n ss) (hd : Dr w w') : HasStr w' B A n ss := h.keep fun p _ => hd.cell p
end
set_option maxHeartbeats 400000 in
theorem findR_any (n c B : Nat) (A : Option Addr) (ss : List ByteArray) (s : ByteArray) (w : World) (hn : n ≤ 9223372036854775807) (hs : HasStr w B A n ss) :
    Calls Tryz.prog 64 #[.slice A n c, .string s] w fun e w' => e = .returned (.int .i64 (Nm.find ss s)) ∧ w = w' := by
  have hl := hs.len
  subst hl
  go_enter Tryz.func64, Tryz.ntmps64
  go_wp2_with fail
  go_loop [5] (fun i => ∃ k : Nat, k ≤ ss.length ∧ i = .int .i64 k ∧ (∀ j, j < k → Nm.eqs (Nm.at_ ss j) s = false)) (fun i => ss.length - (intOf i).toNat)
  case atStart => exact ⟨0, Nat.zero_le _, rfl, fun j h => by omega⟩
  case round =>
    obtain ⟨k, hk, rfl, hg⟩ := hrel
    have HG := hide hg
    clear hg
    by_cases hlt : k < ss.length
    · obtain ⟨b, off, rfl, _, hc⟩ := hs.str hlt
      cases hp : Nm.eqs (Nm.at_ ss k) s
      · have hp' : ((Nm.at_ ss k).toList == s.toList) = false := hp
        have HP := hide hp
        clear hp
        go_wp2_with fail
        go_round
        case rel =>
          refine ⟨k + 1, by omega, by go_num, fun j hj => ?_⟩
          by_cases e : j = k
          · subst e; exact HP.out
          · exact HG.out j (by omega)
        case measure => simp [intOf]; omega
      · have hp' : ((Nm.at_ ss k).toList == s.toList) = true := hp
        have HP := hide hp
        clear hp
        go_wp2_with fail
        go_ret
        exact ⟨ret_int (Nm.first_at (p := fun i => Nm.eqs (Nm.at_ ss i) s) k HP.out ss.length 0 (fun j _ hj => HG.out j hj) (by omega) (by omega)).symm, rfl⟩
    · go_wp2_with fail
      go_ret
      exact ⟨ret_int (Nm.first_none (p := fun i => Nm.eqs (Nm.at_ ss i) s) ss.length 0 (fun j _ hj => HG.out j (by omega))).symm, rfl⟩

end Go.Proofs.YthnbhcfpfbimgaaGreat
/- The walks of Twice and Same, of the program and of the reference, and of long. -/
namespace Go.Proofs.YthnbhcfpfbimgaaGreat
open Go.RowKit
set_option maxHeartbeats 400000 in
theorem twiceR_any (n c B : Nat) (A : Option Addr) (ss : List ByteArray) (w : World) (hn : n ≤ 9223372036854775807) (hs : HasStr w B A n ss) :
    Calls Tryz.prog 39 #[.slice A n c] w fun e w' => e = .returned (.int .i64 (Nm.twice ss)) ∧ w = w' := by
  rw [Nm.twice_eq]
  have hl := hs.len
  subst hl
  go_enter Tryz.func39, Tryz.ntmps39
  go_wp2_with fail
  go_loop [3] (fun i => ∃ k : Nat, k ≤ ss.length ∧ i = .int .i64 k ∧ (∀ j, j < k → decide (Nm.find ss (Nm.at_ ss j) < j) = false)) (fun i => ss.length - (intOf i).toNat)
  case atStart => exact ⟨0, Nat.zero_le _, rfl, fun j h => by omega⟩
  case round =>
    obtain ⟨k, hk, rfl, hg⟩ := hrel
    have HG := hide hg
    clear hg
    by_cases hlt : k < ss.length
    · obtain ⟨b, off, rfl, _, hc⟩ := hs.str hlt
      have hf := findR_any ss.length c B (some ⟨b, off, none⟩) ss (Nm.at_ ss k) w hn hs
      have HF := hide hf
      clear hf
      by_cases hp : Nm.find ss (Nm.at_ ss k) < (k : Int)
      · go_wp2_with fail
        refine HF.out.mono ?_
        rintro e w' ⟨rfl, rfl⟩
        go_wp2_with fail
        go_ret
        exact ⟨ret_int (Nm.first_at (p := fun i => decide (Nm.find ss (Nm.at_ ss i) < i)) k (by simpa using hp) ss.length 0 (fun j _ hj => HG.out j hj) (by omega) (by omega)).symm, rfl⟩
      · go_wp2_with fail
        refine HF.out.mono ?_
        rintro e w' ⟨rfl, rfl⟩
        go_wp2_with fail
        go_round
        case rel =>
          refine ⟨k + 1, by omega, by go_num, fun j hj => ?_⟩
          by_cases e : j = k
          · subst e; simpa using hp
          · exact HG.out j (by omega)
        case measure => simp [intOf]; omega
    · go_wp2_with fail
      go_ret
      exact ⟨ret_int (Nm.first_none (p := fun i => decide (Nm.find ss (Nm.at_ ss i) < i)) ss.length 0 (fun j _ hj => HG.out j (by omega))).symm, rfl⟩

end Go.Proofs.YthnbhcfpfbimgaaGreat
/- The plain law of sorting: the program's insertions and the reference's selections both end in the one strictly rising list with the texts of the given list. -/
namespace Go.Proofs.YthnbhcfpfbimgaaGreat.Nm

/-- Does a stand ahead of b? As the model asks it. -/
def ls (a b : ByteArray) : Bool := Op.bytesLess a.toList b.toList
theorem ls_iff {a b : ByteArray} : ls a b = true ↔ a.data.toList < b.data.toList := by
  unfold ls
  rw [bytesLess_eq, Lib.toList_data, Lib.toList_data, decide_eq_true_eq]
theorem data_inj {a b : ByteArray} (h : a.data.toList = b.data.toList) : a = b := ByteArray.ext (Array.ext' h)
theorem ls_irrefl (a : ByteArray) : ls a a = false := by
  rw [← Bool.not_eq_true, ls_iff]; exact List.lt_irrefl _
theorem ls_trans {a b c : ByteArray} (h : ls a b = true) (k : ls b c = true) : ls a c = true := by
  rw [ls_iff] at *; exact List.lt_trans h k
theorem ls_asymm {a b : ByteArray} (h : ls a b = true) : ls b a = false := by
  rw [← Bool.not_eq_true]; intro k
  have := ls_trans h k
  rw [ls_irrefl] at this; cases this
theorem ls_total {a b : ByteArray} (h : ls a b = false) : ls b a = true ∨ a = b := by
  rw [← Bool.not_eq_true, ls_iff, List.not_lt] at h
  rcases List.le_iff_lt_or_eq.1 h with h | h
  · exact .inl (ls_iff.2 h)
  · exact .inr (data_inj h.symm)

/-- Strictly rising. -/
def Up (l : List ByteArray) : Prop := l.Pairwise fun a b => ls a b = true

theorem Up.nodup {l : List ByteArray} (h : Up l) : l.Nodup := h.imp fun h e => by subst e; rw [ls_irrefl] at h; cases h

/-- A strictly rising list is known by its texts. -/
theorem Up.unique : ∀ {l m : List ByteArray}, Up l → Up m → (∀ x, x ∈ l ↔ x ∈ m) → l = m
  | [], [], _, _, _ => rfl
  | [], b :: m, _, _, h => absurd ((h b).2 (by simp)) (by simp)
  | a :: l, [], _, _, h => absurd ((h a).1 (by simp)) (by simp)
  | a :: l, b :: m, ha, hb, h => by
    obtain ⟨ha1, ha2⟩ := List.pairwise_cons.1 ha
    obtain ⟨hb1, hb2⟩ := List.pairwise_cons.1 hb
    have hab : a = b := by
      rcases List.mem_cons.1 ((h a).1 (by simp)) with e | e
      · exact e
      · rcases List.mem_cons.1 ((h b).2 (by simp)) with f | f
        · exact f.symm
        · have := ls_asymm (hb1 a e)
          rw [ha1 b f] at this; cases this
    subst hab
    have hna : a ∉ l := fun e => by have := ha1 a e; rw [ls_irrefl] at this; cases this
    have hnb : a ∉ m := fun e => by have := hb1 a e; rw [ls_irrefl] at this; cases this
    rw [Up.unique ha2 hb2 fun x => ?_]
    constructor
    · intro hx
      rcases List.mem_cons.1 ((h x).1 (by simp [hx])) with e | e
      · subst e; exact absurd hx hna
      · exact e
    · intro hx
      rcases List.mem_cons.1 ((h x).2 (by simp [hx])) with e | e
      · subst e; exact absurd hx hnb
      · exact e

/-- l is sorted as m: strictly rising, with the texts of m. -/
def Sorts (m l : List ByteArray) : Prop := Up l ∧ ∀ x, x ∈ l ↔ x ∈ m

/-- Where a text goes in name.Sort. -/
def place (out : List ByteArray) (x : ByteArray) : Int := first (fun k => !ls (at_ out k) x) 0 out.length

theorem up_insert {l r : List ByteArray} {x : ByteArray} (h : Up (l ++ r)) (hl : ∀ y ∈ l, ls y x = true) (hr : ∀ y ∈ r, ls x y = true) : Up (l ++ x :: r) := by
  obtain ⟨h1, h2, h3⟩ := List.pairwise_append.1 h
  refine List.pairwise_append.2 ⟨h1, List.pairwise_cons.2 ⟨hr, h2⟩, fun a ha b hb => ?_⟩
  rcases List.mem_cons.1 hb with rfl | hb
  · exact hl a ha
  · exact h3 a ha b hb

theorem at_mem {l : List ByteArray} {k : Nat} (h : k < l.length) : at_ l k = l[k] := by simp [at_, h]

/-- The text goes to the end. -/
theorem insert_end {out m : List ByteArray} {x : ByteArray} (h : Sorts m out) (hp : place out x < 0) : Sorts (m ++ [x]) (out ++ [x]) := by
  obtain ⟨h1, h2⟩ := h
  refine ⟨?_, fun y => by simp [h2]⟩
  have : Up (out ++ x :: []) := by
    refine up_insert (by simpa using h1) (fun y hy => ?_) (by simp)
    obtain ⟨i, hi, rfl⟩ := List.getElem_of_mem hy
    rcases first_cases (fun k => !ls (at_ out k) x) out.length 0 with ⟨_, a⟩ | ⟨k, a, _⟩
    · have := a i (by omega) (by omega)
      rw [at_mem hi] at this
      simpa using this
    · unfold place at hp; omega
  exact this

/-- It is there already. -/
theorem insert_there {out m : List ByteArray} {x : ByteArray} {k : Nat} (h : Sorts m out) (hk : k < out.length) (he : at_ out k = x) : Sorts (m ++ [x]) out := by
  refine ⟨h.1, fun y => ?_⟩
  rw [List.mem_append, List.mem_singleton, ← h.2]
  constructor
  · exact .inl
  · rintro (a | rfl)
    · exact a
    · rw [← he, at_mem hk]; exact List.getElem_mem hk

/-- It goes in between. -/
theorem insert_mid {out m : List ByteArray} {x : ByteArray} {k : Nat} (h : Sorts m out) (hp : place out x = k) (he : at_ out k ≠ x) :
    k < out.length ∧ Sorts (m ++ [x]) (out.take k ++ x :: out.drop k) := by
  obtain ⟨h1, h2⟩ := h
  unfold place at hp
  rcases first_cases (fun k => !ls (at_ out k) x) out.length 0 with ⟨a, _⟩ | ⟨k', a, a2, _, a4, a5⟩
  · omega
  · obtain rfl : k' = k := by omega
    have hk : k' < out.length := by omega
    refine ⟨hk, up_insert (by rw [List.take_append_drop]; exact h1) (fun y hy => ?_) (fun y hy => ?_), fun y => ?_⟩
    · obtain ⟨i, hi, rfl⟩ := List.mem_take_iff_getElem.1 hy
      have := a5 i (by omega) (by omega)
      rw [at_mem (by omega)] at this
      simpa using this
    · have hx : ls x (at_ out k') = true := by
        rcases ls_total (by simpa using a2 : ls (at_ out k') x = false) with q | q
        · exact q
        · exact absurd q he
      obtain ⟨i, hi, rfl⟩ := List.mem_drop_iff_getElem.1 hy
      rcases Nat.eq_zero_or_pos i with rfl | hpos
      · rw [at_mem hk] at hx; simpa using hx
      · rw [at_mem hk] at hx
        exact ls_trans hx (List.pairwise_iff_getElem.1 h1 k' (k' + i) hk (by omega) (by omega))
    · rw [List.mem_append, List.mem_cons, List.mem_append, List.mem_singleton, ← h2]
      conv => rhs; rw [← List.take_append_drop k' out, List.mem_append]
      constructor
      · rintro (p | p | p)
        · exact .inl (.inl p)
        · exact .inr p
        · exact .inl (.inr p)
      · rintro ((p | p) | p)
        · exact .inl p
        · exact .inr (.inr p)
        · exact .inr (.inl p)

theorem sorts_nil : Sorts [] [] := ⟨List.Pairwise.nil, fun _ => Iff.rfl⟩

theorem Sorts.length_le {m l : List ByteArray} (h : Up l) (hs : ∀ x ∈ l, x ∈ m) : l.length ≤ m.length :=
  h.nodup.length_le_of_subset fun _ hx => hs _ hx

theorem Sorts.eq {m l l' : List ByteArray} (h : Sorts m l) (h' : Sorts m l') : l = l' :=
  Up.unique h.1 h'.1 fun x => (h.2 x).trans (h'.2 x).symm

/-- The reference: what is there is the least of the list, in order. -/
def Part (m out : List ByteArray) : Prop := Up out ∧ (∀ x ∈ out, x ∈ m) ∧ ∀ y ∈ m, y ∉ out → ∀ x ∈ out, ls x y = true
theorem Part.len {m out : List ByteArray} (h : Part m out) : out.length ≤ m.length := Sorts.length_le h.1 h.2.1
theorem Part.done {m out : List ByteArray} (h : Part m out) (hd : ∀ y ∈ m, y ∈ out) : Sorts m out := ⟨h.1, fun x => ⟨h.2.1 x, hd x⟩⟩
theorem Part.next {m out : List ByteArray} {b : ByteArray} (h : Part m out) (hb : b ∈ m) (hn : b ∉ out) (hl : ∀ y ∈ m, y ∉ out → ls y b = false) : Part m (out ++ [b]) := by
  obtain ⟨h1, h2, h3⟩ := h
  refine ⟨?_, ?_, ?_⟩
  · have : Up (out ++ b :: []) := up_insert (by simpa using h1) (fun y hy => h3 b hb hn y hy) (by simp)
    exact this
  · intro x hx
    rcases List.mem_append.1 hx with hx | hx
    · exact h2 x hx
    · rw [List.mem_singleton.1 hx]; exact hb
  · intro y hy hny x hx
    have hny' : y ∉ out ∧ y ≠ b := by
      constructor
      · exact fun e => hny (List.mem_append.2 (.inl e))
      · exact fun e => hny (List.mem_append.2 (.inr (List.mem_singleton.2 e)))
    rcases List.mem_append.1 hx with hx | hx
    · exact h3 y hy hny'.1 x hx
    · rw [List.mem_singleton.1 hx]
      rcases ls_total (hl y hy hny'.1) with q | q
      · exact q
      · exact absurd q hny'.2

end Go.Proofs.YthnbhcfpfbimgaaGreat.Nm
/- The plain law of the order of strings, byte by byte, and of what is a name. -/
namespace Go.Proofs.YthnbhcfpfbimgaaGreat.Nm

theorem less_lists : ∀ (x y : List UInt8) (i : Nat), (∀ j, j < i → x[j]? = y[j]?) → i ≤ x.length → i ≤ y.length →
    Op.bytesLess x y = Op.bytesLess (x.drop i) (y.drop i)
  | x, y, 0, _, _, _ => by simp
  | [], y, i + 1, _, h, _ => by simp at h
  | a :: x, [], i + 1, _, _, h => by simp at h
  | a :: x, b :: y, i + 1, h, h1, h2 => by
    have h0 := h 0 (by omega)
    simp at h0
    subst h0
    simp only [List.length_cons] at h1 h2
    rw [List.drop_succ_cons, List.drop_succ_cons, ← less_lists x y i (fun j hj => by have := h (j + 1) (by omega); simpa using this) (by omega) (by omega)]
    simp [Op.bytesLess]

/-- Do two strings begin with the same i bytes? -/
def Begin (a b : ByteArray) (i : Nat) : Prop := i ≤ a.size ∧ i ≤ b.size ∧ ∀ j, j < i → a.data.toList[j]? = b.data.toList[j]?

theorem begin_zero (a b : ByteArray) : Begin a b 0 := ⟨by omega, by omega, fun j h => by omega⟩
theorem begin_next {a b : ByteArray} {i : Nat} (h : Begin a b i) (ha : i < a.size) (hb : i < b.size) (he : (a[i]'ha).toNat = (b[i]'hb).toNat) : Begin a b (i + 1) := by
  refine ⟨by omega, by omega, fun j hj => ?_⟩
  by_cases e : j = i
  · subst e
    have h1 : a.data.toList[j]? = some (a[j]'ha) := by rw [List.getElem?_eq_getElem (by simpa using ha)]; rfl
    have h2 : b.data.toList[j]? = some (b[j]'hb) := by rw [List.getElem?_eq_getElem (by simpa using hb)]; rfl
    rw [h1, h2, UInt8.toNat_inj.1 he]
  · exact h.2.2 j (by omega)

theorem less_diff {a b : ByteArray} {i : Nat} (h : Begin a b i) (ha : i < a.size) (hb : i < b.size) (he : ¬ (a[i]'ha).toNat = (b[i]'hb).toNat) :
    ls a b = decide ((a[i]'ha).toNat < (b[i]'hb).toNat) := by
  unfold ls
  rw [Lib.toList_data, Lib.toList_data, less_lists _ _ i h.2.2 (by simpa using h.1) (by simpa using h.2.1)]
  have h1 : a.data.toList.drop i = a[i]'ha :: a.data.toList.drop (i + 1) := by
    rw [List.drop_eq_getElem_cons (by simpa using ha)]; rfl
  have h2 : b.data.toList.drop i = b[i]'hb :: b.data.toList.drop (i + 1) := by
    rw [List.drop_eq_getElem_cons (by simpa using hb)]; rfl
  rw [h1, h2, Op.bytesLess]
  have hne : (a[i]'ha == b[i]'hb) = false := by
    rw [beq_eq_false_iff_ne]; intro e; exact he (by rw [e])
  rw [hne]
  simp [UInt8.lt_iff_toNat_lt]

theorem less_end {a b : ByteArray} {i : Nat} (h : Begin a b i) (he : i = a.size ∨ i = b.size) : ls a b = decide (a.size < b.size) := by
  unfold ls
  rw [Lib.toList_data, Lib.toList_data, less_lists _ _ i h.2.2 (by simpa using h.1) (by simpa using h.2.1)]
  have h1 := h.1
  have h2 := h.2.1
  rcases he with rfl | rfl
  · rw [List.drop_of_length_le (by simp)]
    by_cases hlt : a.size < b.size
    · rw [List.drop_eq_getElem_cons (by simpa using hlt)]
      simp [Op.bytesLess, hlt]
    · rw [List.drop_of_length_le (by simp; omega)]
      simp [Op.bytesLess, hlt]
  · rw [List.drop_of_length_le (l := b.data.toList) (by simp)]
    have : ¬ a.size < b.size := by omega
    cases a.data.toList.drop b.size <;> simp [Op.bytesLess, this]

/-- A lower-case letter. -/
def letter (c : Nat) : Bool := decide (97 ≤ c ∧ c ≤ 122)
/-- What may stand behind the first byte. -/
def goes (c : Nat) : Bool := decide ((97 ≤ c ∧ c ≤ 122) ∨ (48 ≤ c ∧ c ≤ 57) ∨ c = 95)
/-- The byte at an index. -/
def byte (s : ByteArray) (i : Nat) : Nat := (s.data.toList.getD i 0).toNat
theorem byte_eq {s : ByteArray} {i : Nat} (h : i < s.size) : byte s i = (s[i]'h).toNat := by
  unfold byte
  rw [List.getD_eq_getElem?_getD, List.getElem?_eq_getElem (by simpa using h)]
  rfl
/-- name.Right. -/
def right (s : ByteArray) : Bool := decide (1 ≤ s.size ∧ s.size ≤ 16 ∧ letter (byte s 0) = true ∧ ∀ i, i < s.size → goes (byte s i) = true)

theorem right_small {s : ByteArray} (h : s.size = 0) : right s = false := by simp [right]; omega
theorem right_long {s : ByteArray} (h : 16 < s.size) : right s = false := by simp [right]; omega
theorem right_first {s : ByteArray} (h : letter (byte s 0) = false) : right s = false := by simp [right, h]
theorem right_bad {s : ByteArray} {i : Nat} (h : i < s.size) (hg : goes (byte s i) = false) : right s = false := by
  simp only [right, decide_eq_false_iff_not]
  rintro ⟨_, _, _, h4⟩
  rw [h4 i h] at hg; cases hg
theorem right_good {s : ByteArray} (h1 : 1 ≤ s.size) (h2 : s.size ≤ 16) (h3 : letter (byte s 0) = true) (h4 : ∀ i, i < s.size → goes (byte s i) = true) : right s = true := by
  simp only [right, decide_eq_true_eq]
  exact ⟨h1, h2, h3, h4⟩
theorem goes_letter {c : Nat} (h : letter c = true) : goes c = true := by
  simp only [letter, goes, decide_eq_true_eq] at *; omega

end Go.Proofs.YthnbhcfpfbimgaaGreat.Nm
/- The walks of letter, goes and Right, of the program and of the reference: each returns what Nm.right says, and changes nothing. -/
namespace Go.Proofs.YthnbhcfpfbimgaaGreat
open Go.RowKit
theorem letterR_any (c : Nat) (w : World) : Calls Tryz.prog 63 #[.int .u8 c] w fun e w' => e = .returned (.bool (Nm.letter c)) ∧ w = w' := by
  by_cases h1 : (97 : Int) ≤ c <;> by_cases h2 : (c : Int) ≤ 122
  all_goals
    go_enter Tryz.func63, Tryz.ntmps63
    go_wp2
    go_ret
    exact ⟨by simp [Nm.letter]; omega, rfl⟩

set_option maxHeartbeats 400000 in
set_option maxRecDepth 100000 in
theorem rightR_any (s : ByteArray) (w : World) (hs : s.size ≤ maxLen) : Calls Tryz.prog 38 #[.string s] w fun e w' => e = .returned (.bool (Nm.right s)) ∧ w = w' := by
  unfold maxLen at hs
  by_cases h0 : s.size = 0
  · have hn : (s.size : Int) < 1 := by omega
    have hr := Nm.right_small h0
    clear h0
    go_enter Tryz.func38, Tryz.ntmps38
    go_wp2_with fail
    go_ret
    exact ⟨by first | rfl | simp [hr], rfl⟩
  · have hp : 0 < s.size := by omega
    have hn : ¬ (s.size : Int) < 1 := by omega
    clear h0
    by_cases h1 : (16 : Int) < s.size
    · have hr := Nm.right_long (by omega : 16 < s.size)
      go_enter Tryz.func38, Tryz.ntmps38
      go_wp2_with fail
      go_ret
      exact ⟨by first | rfl | simp [hr], rfl⟩
    · cases hl : Nm.letter (s[0]'hp).toNat
      · have hr := Nm.right_first (s := s) (by rw [Nm.byte_eq hp]; exact hl)
        go_enter Tryz.func38, Tryz.ntmps38
        go_wp2_with (go_at_call 63; refine (letterR_any _ _).mono ?_; rintro e w' ⟨rfl, rfl⟩)
        go_ret
        exact ⟨by first | rfl | simp [hr], rfl⟩
      · go_enter Tryz.func38, Tryz.ntmps38
        go_wp2_with (go_at_call 63; refine (letterR_any _ _).mono ?_; rintro e w' ⟨rfl, rfl⟩)
        go_loop [3] (fun i => ∃ k : Nat, 1 ≤ k ∧ k ≤ s.size ∧ i = .int .i64 k ∧ ∀ j, j < k → Nm.goes (Nm.byte s j) = true) (fun i => s.size - (intOf i).toNat)
        case atStart =>
          refine ⟨1, by omega, by omega, rfl, fun j h => ?_⟩
          obtain rfl : j = 0 := by omega
          rw [Nm.byte_eq hp]; exact Nm.goes_letter hl
        case round =>
          obtain ⟨k, hk1, hk, rfl, hg⟩ := hrel
          have HG := hide hg
          clear hg
          have HL := hide hl
          clear hl
          by_cases hlt : k < s.size
          · cases hlk : Nm.letter (s[k]'hlt).toNat <;> by_cases h3 : ((s[k]'hlt).toNat : Int) < 48 <;> by_cases h4 : (57 : Int) < (s[k]'hlt).toNat <;> cases h5 : (((s[k]'hlt).toNat : Int) != 95)
            all_goals
              go_wp2_with (go_at_call 63; refine (letterR_any _ _).mono ?_; rintro e w' ⟨rfl, rfl⟩)
              all_goals first
                | (go_round
                   case rel =>
                     refine ⟨k + 1, by omega, by omega, by go_num, fun j hj => ?_⟩
                     by_cases e : j = k
                     · subst e
                       rw [Nm.byte_eq hlt]
                       simp [Nm.letter] at hlk
                       simp at h5
                       simp [Nm.goes] <;> omega
                     · exact HG.out j (by omega)
                   case measure => simp [intOf]; omega)
                | (go_ret
                   refine ⟨ret_bool ?_, rfl⟩
                   rw [Nm.right_bad hlt]
                   rw [Nm.byte_eq hlt]
                   simp [Nm.letter] at hlk
                   simp at h5
                   simp [Nm.goes] <;> omega)
          · have hr := Nm.right_good (s := s) hp (by omega) (by rw [Nm.byte_eq hp]; exact HL.out) (fun i hi => HG.out i (by omega))
            go_wp2_with fail
            go_ret
            exact ⟨by first | rfl | simp [hr], rfl⟩

end Go.Proofs.YthnbhcfpfbimgaaGreat
