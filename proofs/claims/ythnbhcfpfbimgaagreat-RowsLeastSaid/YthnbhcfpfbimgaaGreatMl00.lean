/- Texts put together: Words AppStr Chain Row. -/
import Derived.Test.YthnbhcfpfbimgaaGreatRows
import Derived.WalkKit
import Derived.WalkSpells
import Derived.WalkLawsBesides
import Derived.Deep.QuietTactic
import Derived.BigQuiet
import Derived.StillTailTactics
import Derived.Deep.RegionHeld3
import Derived.Deep.AppendLies
import Derived.Deep.RegionLaw
import Derived.Deep.AppendSrc
import Derived.Deep.Upon
import Derived.Laws.IdiomStrings
import Derived.Laws.BytesArg
import Derived.OrdersHeld
import Derived.Still
import Derived.KernelRfl
import Derived.Tactics
import Derived.Tactics2
/- Small words that all walks of mine use: hiding a fact from the walk, results, a slice that reads as a list of cells. -/
namespace Go.Proofs.YthnbhcfpfbimgaaGreat
open Go.RowKit

theorem hide {p : Prop} (h : p) : Hid p := h
theorem ret_bool {a b : Bool} (h : a = true ↔ b = true) : Ending.returned (.bool a) = .returned (.bool b) := by rw [Bool.eq_iff_iff.2 h]
theorem ret_int {k : IntKind} {a b : Int} (h : a = b) : Ending.returned (.int k a) = .returned (.int k b) := by rw [h]

/-- Nothing but draws lies between two worlds. -/
def Dr (w w' : World) : Prop := ∃ n, w' = w.drewN n
theorem Dr.refl (w : World) : Dr w w := ⟨0, rfl⟩
theorem Dr.drewN {w w' : World} (h : Dr w w') (n : Nat) : Dr w (w'.drewN n) := by
  obtain ⟨m, rfl⟩ := h
  exact ⟨m + n, World.drewN_drewN _ _ _⟩
theorem Dr.drew {w w' : World} (h : Dr w w') : Dr w w'.drew := h.drewN 1
theorem Dr.trans {a b c : World} (h : Dr a b) (k : Dr b c) : Dr a c := by
  obtain ⟨m, rfl⟩ := k
  exact h.drewN m
theorem Dr.cell {w w' : World} (h : Dr w w') (a : Addr) : w'.cell? a = w.cell? a := by
  obtain ⟨n, rfl⟩ := h; rfl
theorem Dr.frozen {w w' : World} (h : Dr w w') (a : Addr) : w'.frozen? a = w.frozen? a := by
  obtain ⟨n, rfl⟩ := h; rfl
theorem Dr.size {w w' : World} (h : Dr w w') : w'.heap.size = w.heap.size := by
  obtain ⟨n, rfl⟩ := h; rfl
theorem Dr.below {w w' : World} (h : Dr w w') (B : Nat) : Below B w w' := by
  obtain ⟨n, rfl⟩ := h
  exact ⟨rfl, rfl, rfl, Nat.le_refl _, fun _ _ => rfl⟩
theorem below_drewN {B : Nat} {a w : World} (h : Below B a w) (n : Nat) : Below B a (w.drewN n) := h.trans ((Dr.refl w).drewN n |>.below B)
theorem below_dr {B : Nat} {a w w' : World} (h : Below B a w) (k : Dr w w') : Below B a w' := h.trans (k.below B)
/-- Two steps, the second one seen from its own start. -/
theorem below_next {a b c : World} (h : Below a.heap.size a b) (k : Below b.heap.size b c) : Below a.heap.size a c := h.trans (k.mono h.size)
/-- What the call owns stays owned, whatever is done to new blocks. -/
theorem own_below {w w' : World} {base : Nat} {e : TypeId} {size : Nat} {v : Value} {n : Nat} {xs : List Value} (h : w.ownsRow base e size v n xs) (hb : Below w.heap.size w w') : w'.ownsRow base e size v n xs :=
  h.kept (row := none) ⟨hb.os, hb.tape, hb.output, hb.size, fun k hk _ => hb.block k hk⟩ (by cases v.ownBlock <;> simp)
theorem own_form {w : World} {base : Nat} {e : TypeId} {size : Nat} {v : Value} {n : Nat} {xs : List Value} (h : w.ownsRow base e size v n xs) : ∃ A c, v = .slice A n c := by
  rcases h.2 with ⟨rfl, h0⟩ | ⟨g, cap, cur, rfl, _⟩
  · exact ⟨none, 0, by rw [h0]⟩
  · exact ⟨_, _, rfl⟩
/-- An append to a row of the call's own, the value's form told. -/
theorem app_own {P : Program} {w : World} {ops : Array Oper} {rest : List Oper} {o : Oper} {a : Act} {Q : Exit → Act → World → Prop} (hgd : o.guard = none) (s x : Operand) (t : TypeId)
    (ho : o.op = .call { callee := .builtin .append, args := #[s, x], argTypes := #[t, t] })
    (base : Nat) (e : TypeId) (i : TypeInfo) (z : Value) (size bytes : Nat) (ht : P.underlying t = some (.slice e)) (hi : P.info? e = some i) (hz : i.zero = some z)
    (hsize : i.size = size) (hby : i.bytes = bytes) (hzs : z.cells.size = size) (hsz : 0 < size)
    (v : Value) (n : Nat) (xs : List Value) (hs : a.eval s = v) (hown : w.ownsRow base e size v n xs)
    (ad : Addr) (m c : Nat) (news : List Value) (hx : a.eval x = .slice (some ad) m c) (hl : news.length = m * size) (hnews : ∀ j u, news[j]? = some u → w.cell? (ad.add j) = some u) (h1 : ∀ u ∈ news, u.oneCell' = true)
    (h63 : n + m ≤ maxLen) (hbytes : (n + m) * bytes ≤ 140737488355328) (hbase : base ≤ w.heap.size)
    (h : ∀ A' c' w', w'.ownsRow base e size (.slice A' (n + m) c') (n + m) (xs ++ news) → w.grownBy w' v.ownBlock → wpList P ops Q rest (a.put o.dst (.slice A' (n + m) c')) w') : wpList P ops Q (o :: rest) a w :=
  wpList_append_own w hgd s x t ho base e i z size bytes ht hi hz hsize hby hzs hsz v n xs hs hown ad m c news hx hl hnews h1 h63 hbytes hbase fun v' w' h2 h3 _ => by
    obtain ⟨A', c', rfl⟩ := own_form h2
    exact h A' c' w' h2 h3
/-- Behind an append an older cell reads as it did. -/
theorem grown_old {w1 W w2 : World} {base : Nat} {e : TypeId} {size : Nat} {v : Value} {n : Nat} {xs : List Value} (hown : w1.ownsRow base e size v n xs) (hW : Below w1.heap.size w1 W)
    (hg : W.grownBy w2 v.ownBlock) {a : Addr} (ha : a.block < base) (hb : a.block < w1.heap.size) : w2.cell? a = w1.cell? a ∧ w2.frozen? a = w1.frozen? a := by
  have hne : some a.block ≠ v.ownBlock := fun h => by have := (hown.lt a.block h.symm).1; omega
  have h1 : w2.heap[a.block]? = w1.heap[a.block]? := by
    rw [hg.block a.block (by have := hW.size; omega) hne]
    exact hW.block a.block hb
  exact ⟨World.cell?_of_block h1, World.frozen?_of_block h1⟩
theorem grown_below {w1 W w2 : World} {base B : Nat} {e : TypeId} {size : Nat} {v : Value} {n : Nat} {xs : List Value} (hown : w1.ownsRow base e size v n xs) (hW : Below w1.heap.size w1 W)
    (hg : W.grownBy w2 v.ownBlock) (hB : B ≤ base) (hb : B ≤ w1.heap.size) : Below B w1 w2 := by
  refine Below.grown (a := w1) (w := W) (hW.mono hb) hg (by have := hW.size; omega) fun k hk => ?_
  have := (hown.lt k hk).1; omega
/-- A block laid, and draws. -/
theorem below_laid (w : World) (o : Obj) : Below w.heap.size w (w.alloc o) := (Below.refl _ _).alloc (Nat.le_refl _) o
theorem below_laidN (w : World) (o : Obj) (n : Nat) : Below w.heap.size w ((w.alloc o).drewN n) := below_drewN (below_laid w o) n
theorem below_laidD (w : World) (o : Obj) : Below w.heap.size w (w.alloc o).drew := below_drewN (below_laid w o) 1
theorem add_plain (b off j : Nat) : (⟨b, off, none⟩ : Addr).add j = ⟨b, off + j, none⟩ := by
  unfold Addr.add
  split
  · rename_i h; subst h; rfl
  · rfl
/-- Blocks of unlike element types are not one. -/
theorem blocks_ne {w : World} {g g' : Nat} {t t' : TypeId} {cs cs' : Array Value} (h : w.heap[g]? = some (.cells cs t (0, 0))) (h' : w.heap[g']? = some (.cells cs' t' (0, 0))) (hne : t ≠ t') : g ≠ g' := by
  rintro rfl
  rw [h] at h'
  injection h' with h'
  injection h' with _ ht
  exact hne ht
theorem cell_block {w : World} {g : Nat} {t : TypeId} {cs : Array Value} (h : w.heap[g]? = some (.cells cs t (0, 0))) (j : Nat) : w.cell? ⟨g, j, none⟩ = cs[j]? := cell_of_row w g j cs t (0, 0) h
/-- One new box. -/
theorem box1 (w : World) (x : Value) (t : TypeId) : Below w.heap.size w (w.alloc (.cells #[x] t)) ∧ (w.alloc (.cells #[x] t)).heap.size = w.heap.size + 1 ∧
    (w.alloc (.cells #[x] t)).cell? ⟨w.heap.size, 0, none⟩ = some x :=
  ⟨(Below.refl _ _).alloc (Nat.le_refl _) _, by simp, by rw [World.cell?_alloc_at _ _ _ _ rfl]; rfl⟩
/-- Two new boxes. -/
theorem box2 (w : World) (x y : Value) (t u : TypeId) : Below w.heap.size w ((w.alloc (.cells #[x] t)).alloc (.cells #[y] u)) ∧
    ((w.alloc (.cells #[x] t)).alloc (.cells #[y] u)).heap.size = w.heap.size + 2 ∧
    ((w.alloc (.cells #[x] t)).alloc (.cells #[y] u)).cell? ⟨w.heap.size, 0, none⟩ = some x ∧
    ((w.alloc (.cells #[x] t)).alloc (.cells #[y] u)).cell? ⟨w.heap.size + 1, 0, none⟩ = some y := by
  refine ⟨((Below.refl _ _).alloc (Nat.le_refl _) _).alloc (by simp) _, by simp, ?_, ?_⟩
  · rw [World.cell?_alloc_past _ _ _ (by simp)]; exact (box1 w x t).2.2
  · have := (box1 (w.alloc (.cells #[x] t)) y u).2.2
    rw [(box1 w x t).2.1] at this
    exact this
theorem makes {P : Program} : ∀ (fn : Fn) (first cap : Array Value) (w : World), (Instr.makeFunc fn first cap).run P w = .ok (.func fn first cap) w := fun _ _ _ _ => rfl
/-- The slice value '.slice A n c' holds the cells xs (n elements of one cell each), in a block below B. -/
def Has (w : World) (B : Nat) (A : Option Addr) (n : Nat) (xs : List Value) : Prop :=
  xs.length = n ∧ (0 < n → ∃ b off, A = some ⟨b, off, none⟩ ∧ b < B ∧ ∀ j u, xs[j]? = some u → w.cell? ⟨b, off + j, none⟩ = some u)

section
variable {w w' : World} {B B' n : Nat} {A : Option Addr} {xs : List Value}
theorem Has.nil : Has w B A 0 [] := ⟨rfl, fun h => absurd h (by omega)⟩
theorem Has.keep (h : Has w B A n xs) (hk : ∀ p : Addr, p.block < B → w'.cell? p = w.cell? p) : Has w' B A n xs :=
  ⟨h.1, fun hn => by
    obtain ⟨b, off, e, hb, hc⟩ := h.2 hn
    exact ⟨b, off, e, hb, fun j u hu => (hk _ hb).trans (hc j u hu)⟩⟩
theorem Has.more (h : Has w B A n xs) (hB : B ≤ B') : Has w B' A n xs :=
  ⟨h.1, fun hn => by
    obtain ⟨b, off, e, hb, hc⟩ := h.2 hn
    exact ⟨b, off, e, by omega, hc⟩⟩
theorem Has.below (h : Has w B A n xs) (hb : Below B w w') : Has w' B A n xs := h.keep fun _ hp => hb.cell hp
theorem Has.drewN (h : Has w B A n xs) (k : Nat) : Has (w.drewN k) B A n xs := h
theorem Has.alloc (h : Has w B A n xs) (hB : B ≤ w.heap.size) (o : Obj) : Has (w.alloc o) B A n xs := h.keep fun p hp => World.cell?_alloc_lt w o p (by omega)
theorem Has.at_ (h : Has w B A n xs) {k : Nat} (hk : k < n) : ∃ b off u, A = some ⟨b, off, none⟩ ∧ b < B ∧ xs[k]? = some u ∧ w.cell? ⟨b, off + k, none⟩ = some u := by
  obtain ⟨b, off, e, hb, hc⟩ := h.2 (by omega)
  have hl : k < xs.length := by have := h.1; omega
  exact ⟨b, off, xs[k], e, hb, List.getElem?_eq_getElem hl, hc k _ (List.getElem?_eq_getElem hl)⟩
/-- A row of the call's own, read as such. -/
theorem Has.of_own {base : Nat} {e : TypeId} {c : Nat} (h : w.ownsRow base e 1 (.slice A n c) n xs) : Has w w.heap.size A n xs := by
  refine ⟨by simpa using h.1, fun hn => ?_⟩
  rcases h.2 with ⟨_, h0⟩ | ⟨g, cap, cur, hv, _, hg, _⟩
  · omega
  have hA : A = some ⟨g, 0, none⟩ := by injection hv
  have hlt : g < w.heap.size := (Array.getElem?_eq_some_iff.1 hg).1
  subst hA
  refine ⟨g, 0, rfl, hlt, fun j u hu => ?_⟩
  have := h.cells (g := g) rfl j u hu
  unfold Addr.add at this
  by_cases hj : j = 0
  · subst hj; simpa using this
  · rw [if_neg hj] at this; exact this
end

/-- A world of which only blocks from B on have turned, told by itself: a letter that the walk does not look into. -/
structure Calm (B : Nat) (w0 : World) where
  w : World
  below : Below B w0 w

instance (B : Nat) (w : World) : Nonempty (Calm B w) := ⟨⟨w, Below.refl B w⟩⟩

/-- A region that draws its order, whose operations read, and whose calls leave all below B as it was: walked once, in the order of the text. -/
theorem wp_region_calm {P : Program} {id : Nat} {Q : Exit → Act → World → Prop} {a : Act} {w : World} {l : List Oper} (B : Nat) (hm : P.follows .mixedOrders = true) (hB : Region.lexB .any l.toArray = true)
    (h : wpQuiet P l.toArray (fun w' => ∃ u : Calm B w, w' = u.w) (fun a' => ∀ w', (∃ u : Calm B w, w' = u.w) → Q .normal a' w') l a) : (Code.region id l.toArray true).wp P Q a w :=
  wp_region_quiet (C := fun w' => ∃ u : Calm B w, w' = u.w) hm hB ⟨⟨_, below_drewN (Below.refl B w) 1⟩, rfl⟩ (by simpa using h)

/-- A contract that leaves all that was there, met in such a region. -/
theorem calm_call {P : Program} {f : FuncId} {args : Array Value} {B : Nat} {w : World} {u : Calm B w} {v : Value} (hB : B ≤ w.heap.size)
    (h : Calls P f args u.w fun e w' => e = .returned v ∧ Below u.w.heap.size u.w w') : Calls P f args u.w fun e w'' => e = .returned v ∧ ∃ u' : Calm B w, w'' = u'.w :=
  h.mono fun _ w'' ⟨he, hb⟩ => ⟨he, ⟨w'', u.below.trans (hb.mono (Nat.le_trans hB u.below.size))⟩, rfl⟩
theorem calm_dr {P : Program} {f : FuncId} {args : Array Value} {B : Nat} {w : World} {u : Calm B w} {v : Value}
    (h : Calls P f args u.w fun e w' => e = .returned v ∧ Dr u.w w') : Calls P f args u.w fun e w'' => e = .returned v ∧ ∃ u' : Calm B w, w'' = u'.w :=
  h.mono fun _ w'' ⟨he, hd⟩ => ⟨he, ⟨w'', below_dr u.below hd⟩, rfl⟩
theorem calm_same {P : Program} {f : FuncId} {args : Array Value} {B : Nat} {w : World} {u : Calm B w} {v : Value}
    (h : Calls P f args u.w fun e w' => e = .returned v ∧ u.w = w') : Calls P f args u.w fun e w'' => e = .returned v ∧ ∃ u' : Calm B w, w'' = u'.w :=
  h.mono fun _ _ ⟨he, hd⟩ => ⟨he, u, hd.symm⟩
end Go.Proofs.YthnbhcfpfbimgaaGreat
/- append of a string's bytes to a row of the call's own; a row of bytes read back as a string. -/
namespace Go.Proofs.YthnbhcfpfbimgaaGreat
open Go.RowKit

theorem setCells_block (g : Nat) (t : TypeId) : ∀ (vs : List Value) (o : Nat) (w : World) (cur : Array Value), w.heap[g]? = some (.cells cur t (0, 0)) → o + vs.length ≤ cur.size →
    ∃ cur' : Array Value, (w.setCells g o vs).heap[g]? = some (.cells cur' t (0, 0)) ∧ cur'.size = cur.size ∧ cur'.toList = cur.toList.take o ++ (vs ++ cur.toList.drop (o + vs.length))
  | [], o, w, cur, hg, _ => ⟨cur, hg, rfl, by simp⟩
  | v :: r, o, w, cur, hg, hle => by
    simp only [List.length_cons] at hle
    obtain ⟨cur', h1, h2, h3⟩ := setCells_block g t r (o + 1) _ _ (heap_setCell_same w g o cur t v hg) (by simp; omega)
    refine ⟨cur', h1, by simpa using h2, ?_⟩
    rw [h3]
    have ho : o < cur.toList.length := by simp; omega
    rw [show (cur.setIfInBounds o v).toList = cur.toList.set o v from by simp]
    rw [List.take_succ_eq_append_getElem (by simp; omega), List.take_set_of_le (by omega), List.getElem_set_self]
    rw [List.drop_set_of_lt (by omega)]
    simp [List.append_assoc, Nat.add_assoc, Nat.add_comm 1]

theorem setCells_rest (g : Nat) : ∀ (vs : List Value) (o : Nat) (w : World), (w.setCells g o vs).os = w.os ∧ (w.setCells g o vs).tape = w.tape ∧ (w.setCells g o vs).output = w.output ∧ w.heap.size ≤ (w.setCells g o vs).heap.size
  | [], _, _ => ⟨rfl, rfl, rfl, Nat.le_refl _⟩
  | v :: r, o, w => by
    have h := setCells_rest g r (o + 1) (w.setCell ⟨g, o, none⟩ v)
    simpa [World.setCells, World.setCell] using h

end Go.Proofs.YthnbhcfpfbimgaaGreat
/- A region that draws its order, of operations that read and of a chain of operations that write: walked once, the reads first, then the writers one behind the other. No program in sight. -/
namespace Go.Proofs.YthnbhcfpfbimgaaGreat
section
variable {P : Program} {ops : Array Oper} {Q : Exit → Act → World → Prop} {md : Region.Mode} {S : World → Prop} {need : Nat → Bool}


/-- Whatever order is picked from here on; S holds behind each operation that a read may follow. -/
def wpAnyN (P : Program) (md : Region.Mode) (ops : Array Oper) (Q : Exit → Act → World → Prop) (S : World → Prop) (need : Nat → Bool) : Nat → Array Bool → Act → World → Prop
  | 0, listed, a, w => Region.ready md ops listed = [] ∧ Q .normal a w
  | fuel + 1, listed, a, w =>
    (Region.ready md ops listed = [] → Q .normal a w) ∧
    ∀ i ∈ Region.ready md ops listed, wpOp P ops Q i (fun a' w' => (need i = true → S w') ∧ wpAnyN P md ops Q S need fuel (listed.setIfInBounds i true) a' w') a w

theorem wpAny_of_need : ∀ (fuel : Nat) (listed : Array Bool) (a : Act) (w : World), wpAnyN P md ops Q S need fuel listed a w → wpAny P md ops Q fuel listed a w
  | 0, _, _, _, h => h
  | fuel + 1, _, _, _, h => ⟨h.1, fun i hi => wpOp_mono (fun a' w' h' => wpAny_of_need fuel _ a' w' h'.2) (h.2 i hi)⟩

theorem wpAnyN_first {i : Nat} {oi : Oper} {v : Value} (hi : ops[i]? = some oi) (hsel : ∀ (j : Nat) (o : Oper) cs b, ops[j]? = some o → o.op ≠ .select cs b)
    (hneed : ∀ j oj, ops[j]? = some oj → need j = false → ∃ e ∈ oj.after, Region.binds md e = true ∧ e.on = i)
    (hQ : ∀ c a w, Q (.panic c) (a.put oi.dst v) w → Q (.panic c) a w) :
    ∀ (fuel : Nat) (listed : Array Bool) (a : Act) (w : World),
      (∀ j oj, ops[j]? = some oj → j ≠ i → listed.getD j true = false → (∀ e ∈ oj.after, Region.binds md e = true → e.on ≠ i) → oi.apart ops oj = true) →
      i ∈ Region.ready md ops listed → YieldsIf P ops S oi v a → S w →
      wpAnyN P md ops Q S need fuel (listed.setIfInBounds i true) (a.put oi.dst v) w → wpAnyN P md ops Q S need (fuel + 1) listed a w := by
  intro fuel
  induction fuel with
  | zero =>
    intro listed a w _ hr hy hS H
    refine ⟨fun h => (by rw [h] at hr; cases hr), fun j hj => ?_⟩
    by_cases hji : j = i
    · subst hji; exact hy.wpOp hi hS ⟨fun _ => hS, H⟩
    · have := ready_mono hj hji
      rw [H.1] at this
      cases this
  | succ fuel ih =>
    intro listed a w hfree hr hy hS H
    refine ⟨fun h => (by rw [h] at hr; cases hr), fun j hj => ?_⟩
    by_cases hji : j = i
    · subst hji; exact hy.wpOp hi hS ⟨fun _ => hS, H⟩
    · have h1 := H.2 j (ready_mono hj hji)
      obtain ⟨hjun, oj, hoj, hall⟩ := mem_ready.1 hj
      have hnot : ∀ e ∈ oj.after, Region.binds md e = true → e.on ≠ i := fun e he hb heq => by
        have h1 := hall e he hb
        have h0 := (mem_ready.1 hr).1
        rw [heq] at h1
        rcases Nat.lt_or_ge i listed.size with h' | h'
        · simp [h'] at h0 h1; rw [h0] at h1; cases h1
        · simp [Array.getElem?_eq_none h'] at h1
      have hnj : need j = true := by
        cases hn : need j with
        | true => rfl
        | false =>
          obtain ⟨e, he, hb, heq⟩ := hneed j oj hoj hn
          exact absurd heq (hnot e he hb)
      have h2 := wpOp_putIf hoj (hfree j oj hoj hji hjun hnot) (fun cs b => hsel i oi cs b hi) (fun cs b => hsel j oj cs b hoj) hQ hy h1
      have hfree' : ∀ k ok, ops[k]? = some ok → k ≠ i → (listed.setIfInBounds j true).getD k true = false →
          (∀ e ∈ ok.after, Region.binds md e = true → e.on ≠ i) → oi.apart ops ok = true := fun k ok hk hki hun hno => by
        refine hfree k ok hk hki ?_ hno
        by_cases hjk : j = k
        · subst hjk; exact hjun
        · rw [getD_set_ne true hjk] at hun; exact hun
      refine wpOp_mono (fun a' w' h3 => ⟨h3.2.1, ih (listed.setIfInBounds j true) a' w' hfree' (ready_mono hr (Ne.symm hji)) h3.1 (h3.2.1 hnj) ?_⟩) h2
      rw [Array.setIfInBounds_comm _ _ hji]
      exact h3.2.2

/-- An operation that reads: its value in every world that meets S, which it leaves alone. -/
def held (P : Program) (o : Oper) (a : Act) (S : World → Prop) (next : Act → Prop) : Prop := ∃ v, (∀ w, S w → (execOp a.eval o).run P w = .ok (.value v) w) ∧ next (a.put o.dst v)

/-- The reads, one behind the other. -/
def wpHeld (P : Program) (ops : Array Oper) (S : World → Prop) (K : Act → Prop) : List Oper → Act → Prop
  | [], a => K a
  | o :: rest, a => if Region.wanted o (yielded ops a.tmps) then held P o a S (wpHeld P ops S K rest) else wpHeld P ops S K rest (a.put o.dst undef)

theorem wpHeld_nil {K : Act → Prop} {a : Act} (h : K a) : wpHeld P ops S K [] a := h
theorem wpHeld_step {K : Act → Prop} {a : Act} {o : Oper} {rest : List Oper}
    (h : ∀ K' : Act → Prop, (∀ a, wpHeld P ops S K rest a → K' a) → if Region.wanted o (yielded ops a.tmps) then held P o a S K' else K' (a.put o.dst undef)) : wpHeld P ops S K (o :: rest) a :=
  h _ (fun _ h => h)

/-- What stands behind a writer: S, and what follows. -/
def chainPost (S : World → Prop) (b : Bool) (K : Act → World → Prop) : Exit → Act → World → Prop
  | .normal, a, w => (b = true → S w) ∧ K a w
  | _, _, _ => False
theorem chainPost_normal {b : Bool} {K : Act → World → Prop} {a : Act} {w : World} (hS : b = true → S w) (hK : K a w) : chainPost S b K .normal a w := ⟨hS, hK⟩

/-- The writers, one behind the other. -/
def wpChain (P : Program) (ops : Array Oper) (Q : Exit → Act → World → Prop) (S : World → Prop) : List (Bool × Oper) → Act → World → Prop
  | [], a, w => Q .normal a w
  | (b, o) :: rest, a, w => wpList P ops (chainPost S b (wpChain P ops Q S rest)) [o] a w
theorem wpChain_nil {a : Act} {w : World} (h : Q .normal a w) : wpChain P ops Q S [] a w := h
theorem wpChain_cons {b : Bool} {o : Oper} {rest : List (Bool × Oper)} {a : Act} {w : World}
    (h : ∀ K : Act → World → Prop, (∀ a w, wpChain P ops Q S rest a w → K a w) → wpList P ops (chainPost S b K) [o] a w) : wpChain P ops Q S ((b, o) :: rest) a w := h _ fun _ _ h => h

theorem chain_list {b : Bool} {o : Oper} {K : Act → World → Prop} {a : Act} {w : World} {i : Nat} (hi : ops[i]? = some o) (h : wpList P ops (chainPost S b K) [o] a w) :
    wpOp P ops Q i (fun a' w' => (b = true → S w') ∧ K a' w') a w := by
  unfold wpOp
  simp only [hi]
  unfold wpList at h
  split
  · rename_i hw
    rw [if_pos hw] at h
    rcases h with h | ⟨_, h⟩
    · refine .inl ?_
      unfold Oper.wp at *
      generalize (execOp a.eval o).run P w = r at *
      cases r with
      | ok n w' =>
        cases n <;> simp only [Oper.upon] at h ⊢
        case value u => exact h
        case skip => exact h
        case defer d => exact h
        case enter f args =>
          refine Calls.mono h fun e w'' he => ?_
          cases e with
          | returned u => exact he
          | panicked c => exact he.elim
          | outgrown => obtain ⟨_, _, h⟩ := he; exact h.elim
        case row row args => exact h
      | halt x w' =>
        cases x <;> simp only [Oper.upon] at h ⊢
        case panic u => exact h.elim
    · obtain ⟨_, _, h⟩ := h; exact h.elim
  · rename_i hw
    rw [if_neg hw] at h
    exact h

/-- The Bool over a region: the reads may be taken in this order, each ahead of what does not wait for it; then the writers are forced. -/
def readsB (md : Region.Mode) (ops : Array Oper) : List Nat → Array Bool → Bool
  | [], _ => true
  | k :: ks, listed => (Region.ready md ops listed).contains k && Region.free md ops listed k && (ops[k]?).isSome && readsB md ops ks (listed.setIfInBounds k true)
def writesB (md : Region.Mode) (ops : Array Oper) : List (Nat × Bool) → Array Bool → Bool
  | [], listed => (Region.ready md ops listed).isEmpty
  | (k, _) :: ks, listed => (Region.ready md ops listed == [k]) && (ops[k]?).isSome && writesB md ops ks (listed.setIfInBounds k true)
def needB (md : Region.Mode) (ops : Array Oper) (rs : List Nat) (ws : List (Nat × Bool)) : Bool :=
  ws.all fun x => x.2 || match ops[x.1]? with | some o => rs.all fun i => o.after.any fun e => Region.binds md e && e.on == i | none => true
def chainB (md : Region.Mode) (ops : Array Oper) (rs : List Nat) (ws : List (Nat × Bool)) : Bool :=
  Region.noSelect ops && readsB md ops rs (Array.replicate ops.size false) && writesB md ops ws (rs.foldl (fun l k => l.setIfInBounds k true) (Array.replicate ops.size false)) && needB md ops rs ws &&
    (rs.length + ws.length == ops.size)

def picks (l : List Oper) (ks : List Nat) : List Oper := ks.filterMap fun k => l[k]?
def picksW (l : List Oper) (ks : List (Nat × Bool)) : List (Bool × Oper) := ks.filterMap fun k => (l[k.1]?).map fun o => (k.2, o)

theorem writes_any {l : List Oper} : ∀ (ws : List (Nat × Bool)) (listed : Array Bool) (a : Act) (w : World), (∀ k b, (k, b) ∈ ws → b = false → need k = false) → (∀ k b, (k, b) ∈ ws → need k = true → b = true) →
    writesB md l.toArray ws listed = true → wpChain P l.toArray Q S (picksW l ws) a w → wpAnyN P md l.toArray Q S need ws.length listed a w
  | [], listed, a, w, _, _, hB, h => ⟨by simpa [writesB] using hB, h⟩
  | (k, b) :: ws, listed, a, w, hn, hn2, hB, h => by
    simp only [writesB, Bool.and_eq_true] at hB
    obtain ⟨⟨hr, hs⟩, hB'⟩ := hB
    have hr' : Region.ready md l.toArray listed = [k] := by simpa using hr
    obtain ⟨o, ho⟩ := Option.isSome_iff_exists.1 hs
    have ho' : l[k]? = some o := by simpa using ho
    refine ⟨fun h0 => (by rw [hr'] at h0; cases h0), fun i hi => ?_⟩
    rw [hr'] at hi
    obtain rfl := List.mem_singleton.1 hi
    simp only [picksW, List.filterMap_cons, ho', Option.map_some] at h
    refine wpOp_mono (fun a' w' h' => ⟨fun hnk => h'.1 (hn2 i b (by simp) hnk), writes_any ws _ a' w' (fun k' b' hk => hn k' b' (by simp [hk])) (fun k' b' hk => hn2 k' b' (by simp [hk])) hB' h'.2⟩) (chain_list ho h)

theorem reads_any {l : List Oper} (ws : List (Nat × Bool)) (hsel : Region.noSelect l.toArray = true) (hpan : ∀ c a w o v, Q (.panic c) (Act.put a (Oper.dst o) v) w → Q (.panic c) a w)
    (hn : ∀ k b, (k, b) ∈ ws → b = false → need k = false) (hn2 : ∀ k b, (k, b) ∈ ws → need k = true → b = true) :
    ∀ (rs : List Nat) (listed : Array Bool) (a : Act) (w : World), (∀ i ∈ rs, ∀ j oj, l.toArray[j]? = some oj → need j = false → ∃ e ∈ oj.after, Region.binds md e = true ∧ e.on = i) →
    readsB md l.toArray rs listed = true → writesB md l.toArray ws (rs.foldl (fun l k => l.setIfInBounds k true) listed) = true → S w →
    wpHeld P l.toArray S (fun a' => wpChain P l.toArray Q S (picksW l ws) a' w) (picks l rs) a → wpAnyN P md l.toArray Q S need (rs.length + ws.length) listed a w
  | [], listed, a, w, _, _, hW, _, h => by
    rw [List.length_nil, Nat.zero_add]
    exact writes_any ws listed a w hn hn2 hW h
  | k :: rs, listed, a, w, hneed, hB, hW, hS, h => by
    simp only [readsB, Bool.and_eq_true] at hB
    obtain ⟨⟨⟨hr, hf⟩, hs⟩, hB'⟩ := hB
    obtain ⟨o, ho⟩ := Option.isSome_iff_exists.1 hs
    have ho' : l[k]? = some o := by simpa using ho
    simp only [picks, List.filterMap_cons, ho'] at h
    rw [show (k :: rs).length + ws.length = rs.length + ws.length + 1 from by simp; omega]
    have key : ∃ v, YieldsIf P l.toArray S o v a ∧ wpHeld P l.toArray S (fun a' => wpChain P l.toArray Q S (picksW l ws) a' w) (picks l rs) (a.put o.dst v) := by
      unfold wpHeld at h
      split at h
      · rename_i hw
        obtain ⟨v, h1, h2⟩ := h
        exact ⟨v, .inl ⟨hw, h1⟩, h2⟩
      · rename_i hw
        exact ⟨undef, .inr ⟨by simpa using hw, rfl⟩, h⟩
    obtain ⟨v, hy, hK⟩ := key
    exact wpAnyN_first ho (Region.noSelect_spec hsel) (fun j oj hj hnj => hneed k (by simp) j oj hj hnj) (fun c a w h => hpan c a w o v h) _ listed a w (Region.free_spec ho hf) (by simpa using hr) hy hS
      (reads_any ws hsel hpan hn hn2 rs _ _ w (fun i hi => hneed i (by simp [hi])) hB' hW hS hK)
end

/-- A world that meets a condition, told by itself: a letter that the walk does not look into. -/
structure HoldW (F : World → Prop) where
  w : World
  ok : F w

theorem wp_region_chain {P : Program} {id : Nat} {Q : Exit → Act → World → Prop} {a : Act} {w : World} {l : List Oper} (rs : List Nat) (ws : List (Nat × Bool)) (F : World → Prop) (hm : P.follows .mixedOrders = true)
    (hB : chainB .any l.toArray rs ws = true) (hpan0 : ∀ c a w d v, Q (.panic c) (Act.put a (some d) v) w → Q (.panic c) a w) (hF : F w.drew)
    (h : Nonempty (HoldW F) → wpHeld P l.toArray (fun w' => ∃ u : HoldW F, w' = u.w) (fun a' => wpChain P l.toArray Q (fun w' => ∃ u : HoldW F, w' = u.w) (picksW l ws) a' w.drew) (picks l rs) a) :
    (Code.region id l.toArray true).wp P Q a w := by
  have hpan : ∀ c a w o v, Q (.panic c) (Act.put a (Oper.dst o) v) w → Q (.panic c) a w := fun c a w o v h => by
    cases hd : o.dst with
    | none => rw [hd] at h; exact h
    | some d => rw [hd] at h; exact hpan0 c a w d v h
  simp only [chainB, Bool.and_eq_true, beq_iff_eq] at hB
  obtain ⟨⟨⟨⟨h1, h2⟩, h3⟩, h4⟩, h5⟩ := hB
  refine wp_region_any hm ?_
  have hne : Nonempty (HoldW F) := ⟨⟨_, hF⟩⟩
  have hmem : ∀ k b, (k, b) ∈ ws → b = true ∨ ∀ o, l.toArray[k]? = some o → ∀ i ∈ rs, ∃ e ∈ o.after, Region.binds .any e = true ∧ e.on = i := fun k b hk => by
    have h4' := List.all_eq_true.1 h4 (k, b) hk
    simp only [Bool.or_eq_true] at h4'
    refine h4'.imp (fun h => h) fun h o ho i hi => ?_
    rw [ho] at h
    have := List.all_eq_true.1 h i hi
    obtain ⟨e, he, hb⟩ := Array.any_eq_true'.1 this
    simp only [Bool.and_eq_true, beq_iff_eq] at hb
    exact ⟨e, he, hb⟩
  have key := reads_any (S := fun w' => ∃ u : HoldW F, w' = u.w) (need := fun k => !(ws.any fun x => x.1 == k && !x.2)) ws h1 hpan (fun k b hk hb => ?_) (fun k b hk hb => ?_) rs _ _ _ (fun i hi j oj hj hnj => ?_) h2 h3 ⟨⟨_, hF⟩, rfl⟩ (h hne)
  · rw [h5] at key; exact wpAny_of_need _ _ _ _ key
  · subst hb
    simp only [Bool.not_eq_false', List.any_eq_true]
    exact ⟨(k, false), hk, by simp⟩
  · simp only [Bool.not_eq_true', List.any_eq_false] at hb
    have := hb (k, b) hk
    simpa using this
  · simp only [Bool.not_eq_false', List.any_eq_true] at hnj
    obtain ⟨⟨k, b⟩, hk, hb⟩ := hnj
    simp only [Bool.and_eq_true, beq_iff_eq, Bool.not_eq_true'] at hb
    obtain ⟨rfl, rfl⟩ := hb
    rcases hmem k false hk with h | h
    · cases h
    · exact h oj hj i hi

attribute [go_sem] held
end Go.Proofs.YthnbhcfpfbimgaaGreat
/- A slice value that lies at the head of a block whose first cells are known: kept, cut, written, appended to. Nothing is asked of the block's end: so a cut slice is a row, too. -/
namespace Go.Proofs.YthnbhcfpfbimgaaGreat
open Go.RowKit

/-- The slice value v lies at the head of a block of element type e (one cell an element); its elements are xs. -/
def Row (w : World) (e : TypeId) (v : Value) (xs : List Value) : Prop :=
  (v = .slice none 0 0 ∧ xs = []) ∨
  ∃ g cap cur, v = .slice (some ⟨g, 0, none⟩) xs.length cap ∧ w.heap[g]? = some (.cells cur e (0, 0)) ∧ xs.length ≤ cap ∧ cap ≤ cur.size ∧ cap ≤ maxLen ∧ cur.toList.take xs.length = xs

section
variable {w w' : World} {e : TypeId} {v : Value} {xs : List Value}
theorem Row.nil : Row w e (.slice none 0 0) [] := .inl ⟨rfl, rfl⟩
theorem Row.form (h : Row w e v xs) : ∃ A c, v = .slice A xs.length c ∧ xs.length ≤ c ∧ c ≤ maxLen := by
  rcases h with ⟨rfl, rfl⟩ | ⟨g, cap, cur, rfl, _, h1, _, h3, _⟩
  · exact ⟨none, 0, rfl, Nat.le_refl _, Nat.zero_le _⟩
  · exact ⟨_, cap, rfl, h1, h3⟩
theorem Row.lt (h : Row w e v xs) : ∀ g, v.ownBlock = some g → g < w.heap.size := by
  intro g hg
  rcases h with ⟨rfl, rfl⟩ | ⟨g', cap, cur, rfl, hh, _⟩
  · simp [Value.ownBlock] at hg
  · simp [Value.ownBlock] at hg
    subst hg
    exact (Array.getElem?_eq_some_iff.1 hh).1
theorem Row.keep (h : Row w e v xs) (hk : ∀ g, v.ownBlock = some g → w'.heap[g]? = w.heap[g]?) : Row w' e v xs := by
  rcases h with h0 | ⟨g, cap, cur, rfl, hh, r⟩
  · exact .inl h0
  · exact .inr ⟨g, cap, cur, rfl, (hk g rfl).trans hh, r⟩
theorem Row.below (h : Row w e v xs) (hb : Below w.heap.size w w') : Row w' e v xs := h.keep fun g hg => hb.block g (h.lt g hg)
theorem Row.dr (h : Row w e v xs) (hd : Dr w w') : Row w' e v xs := h.below (hd.below _)
/-- The block's own element type. -/
theorem Row.block (h : Row w e v xs) {g : Nat} (hg : v.ownBlock = some g) : ∃ cur, w.heap[g]? = some (.cells cur e (0, 0)) := by
  rcases h with ⟨rfl, rfl⟩ | ⟨g', cap, cur, rfl, hh, _⟩
  · simp [Value.ownBlock] at hg
  · simp [Value.ownBlock] at hg
    subst hg
    exact ⟨cur, hh⟩
theorem Row.ne_type (h : Row w e v xs) {g : Nat} {t : TypeId} {cs : Array Value} (hg : w.heap[g]? = some (.cells cs t (0, 0))) (hne : e ≠ t) : v.ownBlock ≠ some g := by
  intro he
  obtain ⟨cur, hc⟩ := h.block he
  exact blocks_ne hc hg hne rfl
theorem Row.cell {g c : Nat} {n : Nat} (h : Row w e (.slice (some ⟨g, 0, none⟩) n c) xs) {j : Nat} (hj : j < xs.length) : w.cell? ⟨g, j, none⟩ = xs[j]? := by
  rcases h with ⟨h0, _⟩ | ⟨g', cap, cur, h0, hh, _, _, _, ht⟩
  · cases h0
  · simp only [Value.slice.injEq, Option.some.injEq, Addr.mk.injEq, and_true] at h0
    obtain ⟨rfl, _, _⟩ := h0
    rw [cell_block hh, ← ht, List.getElem?_take, if_pos hj]
    simp
theorem Row.free {g c : Nat} {n : Nat} (h : Row w e (.slice (some ⟨g, 0, none⟩) n c) xs) (j : Nat) : w.frozen? ⟨g, j, none⟩ = false := by
  rcases h with ⟨h0, _⟩ | ⟨g', cap, cur, h0, hh, _⟩
  · cases h0
  · simp only [Value.slice.injEq, Option.some.injEq, Addr.mk.injEq, and_true] at h0
    obtain ⟨rfl, _, _⟩ := h0
    exact frozen_of_row w g j cur e hh
/-- With an element there is an address. -/
theorem Row.addr {A : Option Addr} {n c : Nat} (h : Row w e (.slice A n c) xs) (hp : 0 < xs.length) : ∃ g, A = some ⟨g, 0, none⟩ := by
  rcases h with ⟨_, h0⟩ | ⟨g', cap, cur, h0, _⟩
  · subst h0; simp at hp
  · simp only [Value.slice.injEq] at h0
    exact ⟨g', h0.1⟩
theorem Row.has {A : Option Addr} {c : Nat} (h : Row w e (.slice A xs.length c) xs) : Has w w.heap.size A xs.length xs := by
  refine ⟨rfl, fun hn => ?_⟩
  obtain ⟨g, rfl⟩ := h.addr hn
  exact ⟨g, 0, rfl, h.lt g rfl, fun j u hu => by rw [Nat.zero_add, h.cell (List.getElem?_eq_some_iff.1 hu).1]; exact hu⟩
/-- 's[:k:k]'. -/
theorem Row.cut {A : Option Addr} {n c k : Nat} (h : Row w e (.slice A n c) xs) (hk : k ≤ xs.length) : Row w e (.slice A k k) (xs.take k) := by
  have hl : (xs.take k).length = k := by rw [List.length_take]; omega
  rcases h with ⟨h0, rfl⟩ | ⟨g', cap, cur, h0, hh, h1, h2, h3, h4⟩
  · simp at hk
    subst hk
    simp only [Value.slice.injEq] at h0
    rw [h0.1]
    exact .inl ⟨rfl, rfl⟩
  · simp only [Value.slice.injEq] at h0
    obtain ⟨rfl, _, rfl⟩ := h0
    refine .inr ⟨g', k, cur, by rw [hl], hh, by omega, by omega, by omega, ?_⟩
    rw [hl]
    rw [← h4, List.take_take]
    congr 1
    omega
/-- A store to an element. -/
theorem Row.set {g c : Nat} (h : Row w e (.slice (some ⟨g, 0, none⟩) xs.length c) xs) (j : Nat) (u : Value) : Row (w.setCell ⟨g, j, none⟩ u) e (.slice (some ⟨g, 0, none⟩) xs.length c) (xs.set j u) := by
  rcases h with ⟨h0, _⟩ | ⟨g', cap, cur, h0, hh, h1, h2, h3, h4⟩
  · cases h0
  · simp only [Value.slice.injEq, Option.some.injEq, Addr.mk.injEq, and_true, true_and] at h0
    obtain ⟨rfl, rfl⟩ := h0
    refine .inr ⟨g, c, _, by rw [List.length_set], heap_setCell_same w g j cur e u hh, by rw [List.length_set]; exact h1, by simpa using h2, h3, ?_⟩
    rw [List.length_set]
    have : (cur.setIfInBounds j u).toList = cur.toList.set j u := by simp
    rw [this, List.take_set, h4]
theorem Row.far (h : Row w e v xs) {p : Addr} (hp : v.ownBlock ≠ some p.block) (u : Value) : Row (w.setCell p u) e v xs :=
  h.keep fun g hg => Below.heap_setCell w p u g (fun he => hp (by rw [hg, he]))
/-- A row that is laid as written. -/
theorem Row.laid (w : World) (e : TypeId) (cs : List Value) (hm : cs.length ≤ maxLen) : Row (w.alloc (.cells cs.toArray e)) e (.slice (some ⟨w.heap.size, 0, none⟩) cs.length cs.length) cs :=
  .inr ⟨w.heap.size, cs.length, cs.toArray, rfl, heap_alloc_new w _, Nat.le_refl _, by simp, hm, by simp⟩
end
/-- The end of a writer in a chain. -/
theorem chainF {F : World → Prop} {b : Bool} {K : Act → World → Prop} {a : Act} {w : World} (hF : b = true → F w) (hK : K a w) : chainPost (fun w' => ∃ u : HoldW F, w' = u.w) b K .normal a w :=
  chainPost_normal (fun hb => ⟨⟨w, hF hb⟩, rfl⟩) hK
theorem chainSkip {S : World → Prop} {K : Act → World → Prop} {a : Act} {w : World} (hK : K a w) : chainPost S false K .normal a w :=
  chainPost_normal (fun h => by cases h) hK
end Go.Proofs.YthnbhcfpfbimgaaGreat
