/- A region that draws its order, of operations that read and of a chain of operations that write: walked once, the reads first, then the writers one behind the other. No program in sight. -/
import Derived.OrdersHeld
import Derived.Still
import Derived.KernelRfl
import Derived.Tactics
import Derived.Tactics2
namespace Go.Proofs.Ythnbhcfpfbimgaa
section
variable {P : Program} {ops : Array Oper} {Q : Exit → Act → World → Prop} {md : Region.Mode} {S : World → Prop} {need : Nat → Bool}


/-- Whatever order is picked from here on; S holds behind each operation that a read may follow. -/
def wpAnyN (P : Program) (md : Region.Mode) (ops : Array Oper) (Q : Exit → Act → World → Prop) (S : World → Prop) (need : Nat → Bool) : Nat → Array Bool → Act → World → Prop
  | 0, listed, a, w => Region.ready md ops listed = [] ∧ Q .normal a w
  | fuel + 1, listed, a, w =>
    (Region.ready md ops listed = [] → Q .normal a w) ∧
    ∀ i ∈ Region.ready md ops listed, wpOp P ops Q i (fun a' w' => (need i = true → S w') ∧ wpAnyN P md ops Q S need fuel (listed.setIfInBounds i true) a' w') a w

theorem wpAny_of_need : ∀ (fuel : Nat) (listed : Array Bool) (a : Act) (w : World), wpAnyN P md ops Q S need fuel listed a w → wpAny P md ops Q fuel listed a w
  | 0, _, _, _, h => h
  | fuel + 1, _, _, _, h => ⟨h.1, fun i hi => wpOp_mono (fun a' w' h' => wpAny_of_need fuel _ a' w' h'.2) (h.2 i hi)⟩

theorem wpAnyN_first {i : Nat} {oi : Oper} {v : Value} (hi : ops[i]? = some oi) (hsel : ∀ (j : Nat) (o : Oper) cs b, ops[j]? = some o → o.op ≠ .select cs b)
    (hneed : ∀ j oj, ops[j]? = some oj → need j = false → ∃ e ∈ oj.after, Region.binds md e = true ∧ e.on = i)
    (hQ : ∀ c a w, Q (.panic c) (a.put oi.dst v) w → Q (.panic c) a w) :
    ∀ (fuel : Nat) (listed : Array Bool) (a : Act) (w : World),
      (∀ j oj, ops[j]? = some oj → j ≠ i → listed.getD j true = false → (∀ e ∈ oj.after, Region.binds md e = true → e.on ≠ i) → oi.apart ops oj = true) →
      i ∈ Region.ready md ops listed → YieldsIf P ops S oi v a → S w →
      wpAnyN P md ops Q S need fuel (listed.setIfInBounds i true) (a.put oi.dst v) w → wpAnyN P md ops Q S need (fuel + 1) listed a w := by
  intro fuel
  induction fuel with
  | zero =>
    intro listed a w _ hr hy hS H
    refine ⟨fun h => (by rw [h] at hr; cases hr), fun j hj => ?_⟩
    by_cases hji : j = i
    · subst hji; exact hy.wpOp hi hS ⟨fun _ => hS, H⟩
    · have := ready_mono hj hji
      rw [H.1] at this
      cases this
  | succ fuel ih =>
    intro listed a w hfree hr hy hS H
    refine ⟨fun h => (by rw [h] at hr; cases hr), fun j hj => ?_⟩
    by_cases hji : j = i
    · subst hji; exact hy.wpOp hi hS ⟨fun _ => hS, H⟩
    · have h1 := H.2 j (ready_mono hj hji)
      obtain ⟨hjun, oj, hoj, hall⟩ := mem_ready.1 hj
      have hnot : ∀ e ∈ oj.after, Region.binds md e = true → e.on ≠ i := fun e he hb heq => by
        have h1 := hall e he hb
        have h0 := (mem_ready.1 hr).1
        rw [heq] at h1
        rcases Nat.lt_or_ge i listed.size with h' | h'
        · simp [h'] at h0 h1; rw [h0] at h1; cases h1
        · simp [Array.getElem?_eq_none h'] at h1
      have hnj : need j = true := by
        cases hn : need j with
        | true => rfl
        | false =>
          obtain ⟨e, he, hb, heq⟩ := hneed j oj hoj hn
          exact absurd heq (hnot e he hb)
      have h2 := wpOp_putIf hoj (hfree j oj hoj hji hjun hnot) (fun cs b => hsel i oi cs b hi) (fun cs b => hsel j oj cs b hoj) hQ hy h1
      have hfree' : ∀ k ok, ops[k]? = some ok → k ≠ i → (listed.setIfInBounds j true).getD k true = false →
          (∀ e ∈ ok.after, Region.binds md e = true → e.on ≠ i) → oi.apart ops ok = true := fun k ok hk hki hun hno => by
        refine hfree k ok hk hki ?_ hno
        by_cases hjk : j = k
        · subst hjk; exact hjun
        · rw [getD_set_ne true hjk] at hun; exact hun
      refine wpOp_mono (fun a' w' h3 => ⟨h3.2.1, ih (listed.setIfInBounds j true) a' w' hfree' (ready_mono hr (Ne.symm hji)) h3.1 (h3.2.1 hnj) ?_⟩) h2
      rw [Array.setIfInBounds_comm _ _ hji]
      exact h3.2.2

/-- An operation that reads: its value in every world that meets S, which it leaves alone. -/
def held (P : Program) (o : Oper) (a : Act) (S : World → Prop) (next : Act → Prop) : Prop := ∃ v, (∀ w, S w → (execOp a.eval o).run P w = .ok (.value v) w) ∧ next (a.put o.dst v)

/-- The reads, one behind the other. -/
def wpHeld (P : Program) (ops : Array Oper) (S : World → Prop) (K : Act → Prop) : List Oper → Act → Prop
  | [], a => K a
  | o :: rest, a => if Region.wanted o (yielded ops a.tmps) then held P o a S (wpHeld P ops S K rest) else wpHeld P ops S K rest (a.put o.dst undef)

theorem wpHeld_nil {K : Act → Prop} {a : Act} (h : K a) : wpHeld P ops S K [] a := h
theorem wpHeld_step {K : Act → Prop} {a : Act} {o : Oper} {rest : List Oper}
    (h : ∀ K' : Act → Prop, (∀ a, wpHeld P ops S K rest a → K' a) → if Region.wanted o (yielded ops a.tmps) then held P o a S K' else K' (a.put o.dst undef)) : wpHeld P ops S K (o :: rest) a :=
  h _ (fun _ h => h)

/-- What stands behind a writer: S, and what follows. -/
def chainPost (S : World → Prop) (b : Bool) (K : Act → World → Prop) : Exit → Act → World → Prop
  | .normal, a, w => (b = true → S w) ∧ K a w
  | _, _, _ => False
theorem chainPost_normal {b : Bool} {K : Act → World → Prop} {a : Act} {w : World} (hS : b = true → S w) (hK : K a w) : chainPost S b K .normal a w := ⟨hS, hK⟩

/-- The writers, one behind the other. -/
def wpChain (P : Program) (ops : Array Oper) (Q : Exit → Act → World → Prop) (S : World → Prop) : List (Bool × Oper) → Act → World → Prop
  | [], a, w => Q .normal a w
  | (b, o) :: rest, a, w => wpList P ops (chainPost S b (wpChain P ops Q S rest)) [o] a w
theorem wpChain_nil {a : Act} {w : World} (h : Q .normal a w) : wpChain P ops Q S [] a w := h
theorem wpChain_cons {b : Bool} {o : Oper} {rest : List (Bool × Oper)} {a : Act} {w : World}
    (h : ∀ K : Act → World → Prop, (∀ a w, wpChain P ops Q S rest a w → K a w) → wpList P ops (chainPost S b K) [o] a w) : wpChain P ops Q S ((b, o) :: rest) a w := h _ fun _ _ h => h

theorem chain_list {b : Bool} {o : Oper} {K : Act → World → Prop} {a : Act} {w : World} {i : Nat} (hi : ops[i]? = some o) (h : wpList P ops (chainPost S b K) [o] a w) :
    wpOp P ops Q i (fun a' w' => (b = true → S w') ∧ K a' w') a w := by
  unfold wpOp
  simp only [hi]
  unfold wpList at h
  split
  · rename_i hw
    rw [if_pos hw] at h
    rcases h with h | ⟨_, h⟩
    · refine .inl ?_
      unfold Oper.wp at *
      generalize (execOp a.eval o).run P w = r at *
      cases r with
      | ok n w' =>
        cases n <;> simp only [Oper.upon] at h ⊢
        case value u => exact h
        case skip => exact h
        case defer d => exact h
        case enter f args =>
          refine Calls.mono h fun e w'' he => ?_
          cases e with
          | returned u => exact he
          | panicked c => exact he.elim
          | outgrown => obtain ⟨_, _, h⟩ := he; exact h.elim
        case row row args => exact h
      | halt x w' =>
        cases x <;> simp only [Oper.upon] at h ⊢
        case panic u => exact h.elim
    · obtain ⟨_, _, h⟩ := h; exact h.elim
  · rename_i hw
    rw [if_neg hw] at h
    exact h

/-- The Bool over a region: the reads may be taken in this order, each ahead of what does not wait for it; then the writers are forced. -/
def readsB (md : Region.Mode) (ops : Array Oper) : List Nat → Array Bool → Bool
  | [], _ => true
  | k :: ks, listed => (Region.ready md ops listed).contains k && Region.free md ops listed k && (ops[k]?).isSome && readsB md ops ks (listed.setIfInBounds k true)
def writesB (md : Region.Mode) (ops : Array Oper) : List (Nat × Bool) → Array Bool → Bool
  | [], listed => (Region.ready md ops listed).isEmpty
  | (k, _) :: ks, listed => (Region.ready md ops listed == [k]) && (ops[k]?).isSome && writesB md ops ks (listed.setIfInBounds k true)
def needB (md : Region.Mode) (ops : Array Oper) (rs : List Nat) (ws : List (Nat × Bool)) : Bool :=
  ws.all fun x => x.2 || match ops[x.1]? with | some o => rs.all fun i => o.after.any fun e => Region.binds md e && e.on == i | none => true
def chainB (md : Region.Mode) (ops : Array Oper) (rs : List Nat) (ws : List (Nat × Bool)) : Bool :=
  Region.noSelect ops && readsB md ops rs (Array.replicate ops.size false) && writesB md ops ws (rs.foldl (fun l k => l.setIfInBounds k true) (Array.replicate ops.size false)) && needB md ops rs ws &&
    (rs.length + ws.length == ops.size)

def picks (l : List Oper) (ks : List Nat) : List Oper := ks.filterMap fun k => l[k]?
def picksW (l : List Oper) (ks : List (Nat × Bool)) : List (Bool × Oper) := ks.filterMap fun k => (l[k.1]?).map fun o => (k.2, o)

theorem writes_any {l : List Oper} : ∀ (ws : List (Nat × Bool)) (listed : Array Bool) (a : Act) (w : World), (∀ k b, (k, b) ∈ ws → b = false → need k = false) → (∀ k b, (k, b) ∈ ws → need k = true → b = true) →
    writesB md l.toArray ws listed = true → wpChain P l.toArray Q S (picksW l ws) a w → wpAnyN P md l.toArray Q S need ws.length listed a w
  | [], listed, a, w, _, _, hB, h => ⟨by simpa [writesB] using hB, h⟩
  | (k, b) :: ws, listed, a, w, hn, hn2, hB, h => by
    simp only [writesB, Bool.and_eq_true] at hB
    obtain ⟨⟨hr, hs⟩, hB'⟩ := hB
    have hr' : Region.ready md l.toArray listed = [k] := by simpa using hr
    obtain ⟨o, ho⟩ := Option.isSome_iff_exists.1 hs
    have ho' : l[k]? = some o := by simpa using ho
    refine ⟨fun h0 => (by rw [hr'] at h0; cases h0), fun i hi => ?_⟩
    rw [hr'] at hi
    obtain rfl := List.mem_singleton.1 hi
    simp only [picksW, List.filterMap_cons, ho', Option.map_some] at h
    refine wpOp_mono (fun a' w' h' => ⟨fun hnk => h'.1 (hn2 i b (by simp) hnk), writes_any ws _ a' w' (fun k' b' hk => hn k' b' (by simp [hk])) (fun k' b' hk => hn2 k' b' (by simp [hk])) hB' h'.2⟩) (chain_list ho h)

theorem reads_any {l : List Oper} (ws : List (Nat × Bool)) (hsel : Region.noSelect l.toArray = true) (hpan : ∀ c a w o v, Q (.panic c) (Act.put a (Oper.dst o) v) w → Q (.panic c) a w)
    (hn : ∀ k b, (k, b) ∈ ws → b = false → need k = false) (hn2 : ∀ k b, (k, b) ∈ ws → need k = true → b = true) :
    ∀ (rs : List Nat) (listed : Array Bool) (a : Act) (w : World), (∀ i ∈ rs, ∀ j oj, l.toArray[j]? = some oj → need j = false → ∃ e ∈ oj.after, Region.binds md e = true ∧ e.on = i) →
    readsB md l.toArray rs listed = true → writesB md l.toArray ws (rs.foldl (fun l k => l.setIfInBounds k true) listed) = true → S w →
    wpHeld P l.toArray S (fun a' => wpChain P l.toArray Q S (picksW l ws) a' w) (picks l rs) a → wpAnyN P md l.toArray Q S need (rs.length + ws.length) listed a w
  | [], listed, a, w, _, _, hW, _, h => by
    rw [List.length_nil, Nat.zero_add]
    exact writes_any ws listed a w hn hn2 hW h
  | k :: rs, listed, a, w, hneed, hB, hW, hS, h => by
    simp only [readsB, Bool.and_eq_true] at hB
    obtain ⟨⟨⟨hr, hf⟩, hs⟩, hB'⟩ := hB
    obtain ⟨o, ho⟩ := Option.isSome_iff_exists.1 hs
    have ho' : l[k]? = some o := by simpa using ho
    simp only [picks, List.filterMap_cons, ho'] at h
    rw [show (k :: rs).length + ws.length = rs.length + ws.length + 1 from by simp; omega]
    have key : ∃ v, YieldsIf P l.toArray S o v a ∧ wpHeld P l.toArray S (fun a' => wpChain P l.toArray Q S (picksW l ws) a' w) (picks l rs) (a.put o.dst v) := by
      unfold wpHeld at h
      split at h
      · rename_i hw
        obtain ⟨v, h1, h2⟩ := h
        exact ⟨v, .inl ⟨hw, h1⟩, h2⟩
      · rename_i hw
        exact ⟨undef, .inr ⟨by simpa using hw, rfl⟩, h⟩
    obtain ⟨v, hy, hK⟩ := key
    exact wpAnyN_first ho (Region.noSelect_spec hsel) (fun j oj hj hnj => hneed k (by simp) j oj hj hnj) (fun c a w h => hpan c a w o v h) _ listed a w (Region.free_spec ho hf) (by simpa using hr) hy hS
      (reads_any ws hsel hpan hn hn2 rs _ _ w (fun i hi => hneed i (by simp [hi])) hB' hW hS hK)
end

/-- A world that meets a condition, told by itself: a letter that the walk does not look into. -/
structure HoldW (F : World → Prop) where
  w : World
  ok : F w

theorem wp_region_chain {P : Program} {id : Nat} {Q : Exit → Act → World → Prop} {a : Act} {w : World} {l : List Oper} (rs : List Nat) (ws : List (Nat × Bool)) (F : World → Prop) (hm : P.follows .mixedOrders = true)
    (hB : chainB .any l.toArray rs ws = true) (hpan0 : ∀ c a w d v, Q (.panic c) (Act.put a (some d) v) w → Q (.panic c) a w) (hF : F w.drew)
    (h : Nonempty (HoldW F) → wpHeld P l.toArray (fun w' => ∃ u : HoldW F, w' = u.w) (fun a' => wpChain P l.toArray Q (fun w' => ∃ u : HoldW F, w' = u.w) (picksW l ws) a' w.drew) (picks l rs) a) :
    (Code.region id l.toArray true).wp P Q a w := by
  have hpan : ∀ c a w o v, Q (.panic c) (Act.put a (Oper.dst o) v) w → Q (.panic c) a w := fun c a w o v h => by
    cases hd : o.dst with
    | none => rw [hd] at h; exact h
    | some d => rw [hd] at h; exact hpan0 c a w d v h
  simp only [chainB, Bool.and_eq_true, beq_iff_eq] at hB
  obtain ⟨⟨⟨⟨h1, h2⟩, h3⟩, h4⟩, h5⟩ := hB
  refine wp_region_any hm ?_
  have hne : Nonempty (HoldW F) := ⟨⟨_, hF⟩⟩
  have hmem : ∀ k b, (k, b) ∈ ws → b = true ∨ ∀ o, l.toArray[k]? = some o → ∀ i ∈ rs, ∃ e ∈ o.after, Region.binds .any e = true ∧ e.on = i := fun k b hk => by
    have h4' := List.all_eq_true.1 h4 (k, b) hk
    simp only [Bool.or_eq_true] at h4'
    refine h4'.imp (fun h => h) fun h o ho i hi => ?_
    rw [ho] at h
    have := List.all_eq_true.1 h i hi
    obtain ⟨e, he, hb⟩ := Array.any_eq_true'.1 this
    simp only [Bool.and_eq_true, beq_iff_eq] at hb
    exact ⟨e, he, hb⟩
  have key := reads_any (S := fun w' => ∃ u : HoldW F, w' = u.w) (need := fun k => !(ws.any fun x => x.1 == k && !x.2)) ws h1 hpan (fun k b hk hb => ?_) (fun k b hk hb => ?_) rs _ _ _ (fun i hi j oj hj hnj => ?_) h2 h3 ⟨⟨_, hF⟩, rfl⟩ (h hne)
  · rw [h5] at key; exact wpAny_of_need _ _ _ _ key
  · subst hb
    simp only [Bool.not_eq_false', List.any_eq_true]
    exact ⟨(k, false), hk, by simp⟩
  · simp only [Bool.not_eq_true', List.any_eq_false] at hb
    have := hb (k, b) hk
    simpa using this
  · simp only [Bool.not_eq_false', List.any_eq_true] at hnj
    obtain ⟨⟨k, b⟩, hk, hb⟩ := hnj
    simp only [Bool.and_eq_true, beq_iff_eq, Bool.not_eq_true'] at hb
    obtain ⟨rfl, rfl⟩ := hb
    rcases hmem k false hk with h | h
    · cases h
    · exact h oj hj i hi

attribute [go_sem] held
end Go.Proofs.Ythnbhcfpfbimgaa
