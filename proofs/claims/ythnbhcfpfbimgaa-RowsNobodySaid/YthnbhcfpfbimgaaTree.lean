/- A region that draws its order, of operations that read and of some that write in more than one order: the reads first, then the writers in each order that they may take. No program in sight. -/
import Derived.Test.YthnbhcfpfbimgaaChain
namespace Go.Proofs.Ythnbhcfpfbimgaa

/-- The orders: at each place the operations that may come next, with what follows each; 'take': one that only reads is taken first. -/
inductive WT where
  | done
  | step (k : Nat) (b : Bool) (next alt : WT)
  | take (k : Nat) (next : WT)

def WT.keys : WT → List Nat
  | .done => []
  | .step k _ _ alt => k :: alt.keys
  | .take _ _ => []
/-- All writers with their flags. -/
def WT.all : WT → List (Nat × Bool)
  | .done => []
  | .step k b next alt => (k, b) :: (next.all ++ alt.all)
  | .take _ next => next.all
def WT.takes : WT → List Nat
  | .done => []
  | .step _ _ next alt => next.takes ++ alt.takes
  | .take k next => k :: next.takes
def WT.isTake : WT → Bool
  | .take _ _ => true
  | _ => false

section
variable {P : Program} {ops : Array Oper} {Q : Exit → Act → World → Prop} {md : Region.Mode} {S : World → Prop} {need : Nat → Bool}

/-- The writers, in each order. -/
def wpTree (P : Program) (ops : Array Oper) (Q : Exit → Act → World → Prop) (S : World → Prop) : WT → Bool → Act → World → Prop
  | .done, top, a, w => top = true → Q .normal a w
  | .step k b next alt, _, a, w => (∀ o, ops[k]? = some o → wpList P ops (chainPost S b (wpTree P ops Q S next true)) [o] a w) ∧ wpTree P ops Q S alt false a w
  | .take k next, _, a, w => ∀ o, ops[k]? = some o → if Region.wanted o (yielded ops a.tmps) then held P o a S (fun a' => wpTree P ops Q S next true a' w) else wpTree P ops Q S next true (a.put o.dst undef) w
theorem wpTree_end {a : Act} {w : World} (h : Q .normal a w) : wpTree P ops Q S .done true a w := fun _ => h
theorem wpTree_step {k : Nat} {b : Bool} {next : WT} {top : Bool} {a : Act} {w : World} {o : Oper} (ho : ops[k]? = some o)
    (h : ∀ K : Act → World → Prop, (∀ a w, wpTree P ops Q S next true a w → K a w) → wpList P ops (chainPost S b K) [o] a w) : wpTree P ops Q S (.step k b next .done) top a w :=
  ⟨fun o' ho' => by rw [ho] at ho'; cases ho'; exact h _ fun _ _ h => h, fun h => by cases h⟩
theorem wpTree_both {k : Nat} {b : Bool} {next alt : WT} {top : Bool} {a : Act} {w : World} {o : Oper} (ho : ops[k]? = some o)
    (h : ∀ K : Act → World → Prop, (∀ a w, wpTree P ops Q S next true a w → K a w) → wpList P ops (chainPost S b K) [o] a w) (h2 : wpTree P ops Q S alt false a w) : wpTree P ops Q S (.step k b next alt) top a w :=
  ⟨fun o' ho' => by rw [ho] at ho'; cases ho'; exact h _ fun _ _ h => h, h2⟩

theorem wpTree_take {k : Nat} {next : WT} {top : Bool} {a : Act} {w : World} {o : Oper} (ho : ops[k]? = some o)
    (h : ∀ K : Act → Prop, (∀ a, wpTree P ops Q S next true a w → K a) → if Region.wanted o (yielded ops a.tmps) then held P o a S K else K (a.put o.dst undef)) : wpTree P ops Q S (.take k next) top a w :=
  fun o' ho' => by rw [ho] at ho'; cases ho'; exact h _ fun _ h => h

/-- The Bool over the orders: at each place just these may come next. n is the number of operations still to come. -/
def okB (md : Region.Mode) (ops : Array Oper) : WT → Bool → Nat → Array Bool → Bool
  | .done, top, n, listed => !top || (n == 0 && Region.ready md ops listed == [])
  | .step k b next alt, top, n, listed => (!top || Region.ready md ops listed == k :: alt.keys) && (b || !next.isTake) && !alt.isTake && (match n with
      | 0 => false
      | m + 1 => (ops[k]?).isSome && okB md ops next true m (listed.setIfInBounds k true)) && okB md ops alt false n listed
  | .take k next, _, n, listed => (match n with
      | 0 => false
      | m + 1 => (Region.ready md ops listed).contains k && Region.free md ops listed k && (ops[k]?).isSome && okB md ops next true m (listed.setIfInBounds k true))

theorem tree_any {l : List Oper} (hsel : Region.noSelect l.toArray = true) (hpan : ∀ c a w o v, Q (.panic c) (Act.put a (Oper.dst o) v) w → Q (.panic c) a w) : ∀ (t : WT) (top : Bool) (n : Nat) (listed : Array Bool) (a : Act) (w : World),
    (∀ k b, (k, b) ∈ t.all → need k = true → b = true) → (∀ i ∈ t.takes, ∀ j oj, l.toArray[j]? = some oj → need j = false → ∃ e ∈ oj.after, Region.binds md e = true ∧ e.on = i) → (t.isTake = true → S w) →
    okB md l.toArray t top n listed = true → wpTree P l.toArray Q S t top a w →
    ((top = true ∨ t.isTake = true) → wpAnyN P md l.toArray Q S need n listed a w) ∧
    ∀ i ∈ t.keys, ∃ m, n = m + 1 ∧ wpOp P l.toArray Q i (fun a' w' => (need i = true → S w') ∧ wpAnyN P md l.toArray Q S need m (listed.setIfInBounds i true) a' w') a w
  | .done, top, n, listed, a, w, _, _, _, hB, h => by
    refine ⟨fun ht => ?_, fun i hi => by cases hi⟩
    obtain rfl : top = true := by
      rcases ht with ht | ht
      · exact ht
      · cases ht
    simp only [okB, Bool.not_true, Bool.false_or, Bool.and_eq_true, beq_iff_eq] at hB
    obtain ⟨hn, hr⟩ := hB
    subst hn
    exact ⟨hr, h rfl⟩
  | .step k b next alt, top, n, listed, a, w, hf, ht, _, hB, h => by
    match n, hB with
    | 0, hB => simp [okB] at hB
    | m + 1, hB =>
      simp only [okB, Bool.and_eq_true, Bool.or_eq_true, Bool.not_eq_true', beq_iff_eq] at hB
      obtain ⟨⟨⟨⟨hr, hbt⟩, hat⟩, ⟨hs, hn⟩⟩, ha⟩ := hB
      obtain ⟨o, ho⟩ := Option.isSome_iff_exists.1 hs
      have h2 : ∀ i ∈ (WT.step k b next alt).keys, ∃ m', m + 1 = m' + 1 ∧ wpOp P l.toArray Q i (fun a' w' => (need i = true → S w') ∧ wpAnyN P md l.toArray Q S need m' (listed.setIfInBounds i true) a' w') a w := fun i hi => by
        rcases List.mem_cons.1 hi with hi | hi
        · subst hi
          refine ⟨m, rfl, wpOp_mono (fun a' w' h' => ⟨fun hn => h'.1 (hf i b (by simp [WT.all]) hn), ?_⟩) (chain_list (by simpa using ho) (h.1 o ho))⟩
          refine (tree_any hsel hpan next true m _ a' w' (fun k' b' hk => hf k' b' (by simp [WT.all, hk])) (fun i hi => ht i (by simp [WT.takes, hi])) (fun htk => h'.1 ?_) hn h'.2).1 (.inl rfl)
          rcases hbt with hb | hb
          · exact hb
          · rw [htk] at hb; cases hb
        · exact (tree_any hsel hpan alt false (m + 1) listed a w (fun k' b' hk => hf k' b' (by simp [WT.all, hk])) (fun i hi => ht i (by simp [WT.takes, hi])) (fun h => by rw [hat] at h; cases h) ha h.2).2 i hi
      refine ⟨fun htop => ?_, h2⟩
      obtain rfl : top = true := by
        rcases htop with h | h
        · exact h
        · cases h
      have hr : Region.ready md l.toArray listed = k :: alt.keys := by
        rcases hr with h | h
        · cases h
        · exact h
      refine ⟨fun h0 => ?_, fun i hi => ?_⟩
      · rw [hr] at h0; cases h0
      · rw [hr] at hi
        obtain ⟨m', hm, hw⟩ := h2 i hi
        obtain rfl : m = m' := by omega
        exact hw
  | .take k next, top, n, listed, a, w, hf, ht, hS, hB, h => by
    match n, hB with
    | 0, hB => simp [okB] at hB
    | m + 1, hB =>
      simp only [okB, Bool.and_eq_true] at hB
      obtain ⟨⟨⟨hr, hfr⟩, hs⟩, hn⟩ := hB
      obtain ⟨o, ho⟩ := Option.isSome_iff_exists.1 hs
      refine ⟨fun _ => ?_, fun i hi => by cases hi⟩
      have hSw := hS rfl
      have key : ∃ v, YieldsIf P l.toArray S o v a ∧ wpTree P l.toArray Q S next true (a.put o.dst v) w := by
        have h' := h o ho
        split at h'
        · rename_i hw
          obtain ⟨v, h1, h2⟩ := h'
          exact ⟨v, .inl ⟨hw, h1⟩, h2⟩
        · rename_i hw
          exact ⟨undef, .inr ⟨by simpa using hw, rfl⟩, h'⟩
      obtain ⟨v, hy, hK⟩ := key
      exact wpAnyN_first ho (Region.noSelect_spec hsel) (fun j oj hj hnj => ht k (by simp [WT.takes]) j oj hj hnj) (fun c a w h => hpan c a w o v h) _ listed a w (Region.free_spec ho hfr) (by simpa using hr) hy hSw
        ((tree_any hsel hpan next true m _ _ w (fun k' b' hk => hf k' b' (by simpa [WT.all] using hk)) (fun i hi => ht i (by simp [WT.takes, hi])) (fun _ => hSw) hn hK).1 (.inl rfl))

theorem reads_tree {l : List Oper} (t : WT) (m : Nat) (hsel : Region.noSelect l.toArray = true) (hpan : ∀ c a w o v, Q (.panic c) (Act.put a (Oper.dst o) v) w → Q (.panic c) a w)
    (hn2 : ∀ k b, (k, b) ∈ t.all → need k = true → b = true) (ht : ∀ i ∈ t.takes, ∀ j oj, l.toArray[j]? = some oj → need j = false → ∃ e ∈ oj.after, Region.binds md e = true ∧ e.on = i) :
    ∀ (rs : List Nat) (listed : Array Bool) (a : Act) (w : World), (∀ i ∈ rs, ∀ j oj, l.toArray[j]? = some oj → need j = false → ∃ e ∈ oj.after, Region.binds md e = true ∧ e.on = i) →
    readsB md l.toArray rs listed = true → okB md l.toArray t true m (rs.foldl (fun l k => l.setIfInBounds k true) listed) = true → S w →
    wpHeld P l.toArray S (fun a' => wpTree P l.toArray Q S t true a' w) (picks l rs) a → wpAnyN P md l.toArray Q S need (rs.length + m) listed a w
  | [], listed, a, w, hneed, hB, hW, hS, h => by
    rw [List.length_nil, Nat.zero_add]
    exact (tree_any hsel hpan t true m listed a w hn2 ht (fun _ => hS) hW h).1 (.inl rfl)
  | k :: rs, listed, a, w, hneed, hB, hW, hS, h => by
    simp only [readsB, Bool.and_eq_true] at hB
    obtain ⟨⟨⟨hr, hf⟩, hs⟩, hB'⟩ := hB
    obtain ⟨o, ho⟩ := Option.isSome_iff_exists.1 hs
    have ho' : l[k]? = some o := by simpa using ho
    simp only [picks, List.filterMap_cons, ho'] at h
    rw [show (k :: rs).length + m = rs.length + m + 1 from by simp; omega]
    have key : ∃ v, YieldsIf P l.toArray S o v a ∧ wpHeld P l.toArray S (fun a' => wpTree P l.toArray Q S t true a' w) (picks l rs) (a.put o.dst v) := by
      unfold wpHeld at h
      split at h
      · rename_i hw
        obtain ⟨v, h1, h2⟩ := h
        exact ⟨v, .inl ⟨hw, h1⟩, h2⟩
      · rename_i hw
        exact ⟨undef, .inr ⟨by simpa using hw, rfl⟩, h⟩
    obtain ⟨v, hy, hK⟩ := key
    exact wpAnyN_first ho (Region.noSelect_spec hsel) (fun j oj hj hnj => hneed k (by simp) j oj hj hnj) (fun c a w h => hpan c a w o v h) _ listed a w (Region.free_spec ho hf) (by simpa using hr) hy hS
      (reads_tree t m hsel hpan hn2 ht rs _ _ w (fun i hi => hneed i (by simp [hi])) hB' hW hS hK)
end

def treeB (md : Region.Mode) (ops : Array Oper) (rs : List Nat) (t : WT) : Bool :=
  Region.noSelect ops && readsB md ops rs (Array.replicate ops.size false) &&
    okB md ops t true (ops.size - rs.length) (rs.foldl (fun l k => l.setIfInBounds k true) (Array.replicate ops.size false)) && needB md ops (rs ++ t.takes) t.all && (rs.length + (ops.size - rs.length) == ops.size)

theorem wp_region_tree {P : Program} {id : Nat} {Q : Exit → Act → World → Prop} {a : Act} {w : World} {l : List Oper} (rs : List Nat) (t : WT) (F : World → Prop) (hm : P.follows .mixedOrders = true)
    (hB : treeB .any l.toArray rs t = true) (hpan0 : ∀ c a w d v, Q (.panic c) (Act.put a (some d) v) w → Q (.panic c) a w) (hF : F w.drew)
    (h : Nonempty (HoldW F) → wpHeld P l.toArray (fun w' => ∃ u : HoldW F, w' = u.w) (fun a' => wpTree P l.toArray Q (fun w' => ∃ u : HoldW F, w' = u.w) t true a' w.drew) (picks l rs) a) :
    (Code.region id l.toArray true).wp P Q a w := by
  have hpan : ∀ c a w o v, Q (.panic c) (Act.put a (Oper.dst o) v) w → Q (.panic c) a w := fun c a w o v h => by
    cases hd : o.dst with
    | none => rw [hd] at h; exact h
    | some d => rw [hd] at h; exact hpan0 c a w d v h
  simp only [treeB, Bool.and_eq_true, beq_iff_eq] at hB
  obtain ⟨⟨⟨⟨h1, h2⟩, h3⟩, h4⟩, h5⟩ := hB
  refine wp_region_any hm ?_
  have hne : Nonempty (HoldW F) := ⟨⟨_, hF⟩⟩
  have hmem : ∀ k b, (k, b) ∈ t.all → b = true ∨ ∀ o, l.toArray[k]? = some o → ∀ i ∈ rs ++ t.takes, ∃ e ∈ o.after, Region.binds .any e = true ∧ e.on = i := fun k b hk => by
    have h4' := List.all_eq_true.1 h4 (k, b) hk
    simp only [Bool.or_eq_true] at h4'
    refine h4'.imp (fun h => h) fun h o ho i hi => ?_
    rw [ho] at h
    have := List.all_eq_true.1 h i hi
    obtain ⟨e, he, hb⟩ := Array.any_eq_true'.1 this
    simp only [Bool.and_eq_true, beq_iff_eq] at hb
    exact ⟨e, he, hb⟩
  have hed : ∀ i ∈ rs ++ t.takes, ∀ j oj, l.toArray[j]? = some oj → (!(t.all.any fun x => x.1 == j && !x.2)) = false → ∃ e ∈ oj.after, Region.binds .any e = true ∧ e.on = i := fun i hi j oj hj hnj => by
    simp only [Bool.not_eq_false', List.any_eq_true] at hnj
    obtain ⟨⟨k, b⟩, hk, hb⟩ := hnj
    simp only [Bool.and_eq_true, beq_iff_eq, Bool.not_eq_true'] at hb
    obtain ⟨rfl, rfl⟩ := hb
    rcases hmem k false hk with h | h
    · cases h
    · exact h oj hj i hi
  have key := reads_tree (S := fun w' => ∃ u : HoldW F, w' = u.w) (need := fun k => !(t.all.any fun x => x.1 == k && !x.2)) t (l.toArray.size - rs.length) h1 hpan (fun k b hk hb => ?_) (fun i hi => hed i (List.mem_append_right _ hi)) rs _ _ _ (fun i hi => hed i (List.mem_append_left _ hi)) h2 h3 ⟨⟨_, hF⟩, rfl⟩ (h hne)
  · rw [h5] at key; exact wpAny_of_need _ _ _ _ key
  · simp only [Bool.not_eq_true', List.any_eq_false] at hb
    have := hb (k, b) hk
    simpa using this
end Go.Proofs.Ythnbhcfpfbimgaa
