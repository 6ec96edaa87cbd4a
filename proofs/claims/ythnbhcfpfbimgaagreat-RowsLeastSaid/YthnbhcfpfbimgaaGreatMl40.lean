/- Texts put together: RyPlain2 RyPlain3. -/
import Derived.Test.YthnbhcfpfbimgaaGreatMl37
/- Plain: what one round of chapter 22's reference does. No walk. -/
namespace Go.Proofs.YthnbhcfpfbimgaaGreat
namespace Hd
open Rw (El At Fld Val sem Off NoDup findN Has tv)
def tc (c : Nat → Option El) (t : Int) : Option El := if t < 0 then none else c t.toNat
theorem tc_comp (R : List (List Vl)) (t : Int) (f : ByteArray) : getV (tailV R t) f = tc (comp R f) t := by
  unfold tc tailV comp
  split <;> rfl
def semC (L : List El) (fs : List Fld) (t : Int) (f : ByteArray) (c : Nat → Option El) : Option El := match findN fs f with
  | some g => some (etaL L g.at_)
  | none => tc c t
theorem semC_eq (L : List El) (R : List (List Vl)) (fs : List Fld) (t : Int) (f : ByteArray) : sem (etaL L) fs (getV (tailV R t)) f = semC L fs t f (comp R f) := by
  unfold sem semC
  rw [tc_comp]
  cases findN fs f <;> rfl
def giveC (t : Int) (l m : Option El) (c : Nat → Option El) : Nat → Option El := fun v => if (v : Int) = t ∧ l = none ∧ m.isSome = true then m else c v
def stepC (L : List El) (x : As) (f : ByteArray) (c : Nat → Option El) : Nat → Option El :=
  if x.op = 10 then c else
    giveC x.b.tail (semC L x.b.fields x.b.tail f c) (semC L x.a.fields x.a.tail f c) (giveC x.a.tail (semC L x.a.fields x.a.tail f c) (semC L x.b.fields x.b.tail f c) c)
def MonoC (c d : Nat → Option El) : Prop := ∀ v e, c v = some e → d v = some e
theorem semC_none {L : List El} {fs : List Fld} {t : Int} {f : ByteArray} {c : Nat → Option El} (h : semC L fs t f c = none) {v : Nat} (hv : (v : Int) = t) : findN fs f = none ∧ c v = none := by
  unfold semC at h
  cases hf : findN fs f with
  | some g => rw [hf] at h; cases h
  | none =>
    rw [hf] at h
    refine ⟨rfl, ?_⟩
    unfold tc at h
    rw [if_neg (by omega)] at h
    have : t.toNat = v := by omega
    rw [← this]
    exact h
theorem stepC_mono (L : List El) (x : As) (f : ByteArray) (c : Nat → Option El) : MonoC c (stepC L x f c) := fun v e h => by
  unfold stepC
  split
  · exact h
  · unfold giveC
    rw [if_neg, if_neg]
    · exact h
    · rintro ⟨h1, h2, _⟩
      rw [(semC_none h2 h1).2] at h
      cases h
    · rintro ⟨h1, h2, _⟩
      rw [(semC_none h2 h1).2] at h
      cases h
/-- What raise leaves. -/
structure RsS (L : List El) (x : As) (R R' : List (List Vl)) (c' : Bool) : Prop where
  len : R'.length = R.length
  comp : ∀ f, comp R' f = stepC L x f (comp R f)
  up : ∀ r ∈ R', UpV r
  mem : ∀ r ∈ R', ∀ y ∈ r, (∃ q ∈ R, ∃ z ∈ q, z.name = y.name) ∨ (x.op = 9 ∧ ∃ f ∈ x.a.fields ++ x.b.fields, f.name = y.name)
  yes : c' = true → ∃ f v, Hd.comp R f v = none ∧ (Hd.comp R' f v).isSome = true
  no : c' = false → R' = R ∧ oneV L R x = true
theorem raise_spec {L : List El} {x : As} {R R' : List (List Vl)} {c' : Bool} (hu : ∀ r ∈ R, UpV r) (hop : x.op = 9 ∨ x.op = 10) (h : raiseV L x R = some (R', c')) : RsS L x R R' c' := by
  unfold raiseV at h
  by_cases h10 : x.op = 10
  · rw [if_pos h10] at h
    split at h
    · cases h
    · next hn =>
      injection h with h
      injection h with h1 h2
      subst h1 h2
      refine ⟨rfl, fun f => by unfold stepC; rw [if_pos h10], hu, fun r hr y hy => .inl ⟨r, hr, y, hy, rfl⟩, fun h => (by cases h), fun _ => ⟨rfl, ?_⟩⟩
      unfold oneV
      rw [if_pos h10]
      simpa using hn
  · rw [if_neg h10] at h
    have h9 : x.op = 9 := by omega
    cases hl : rowH L R x.a with
    | none => rw [hl] at h; cases h
    | some l =>
      cases hm : rowH L R x.b with
      | none => rw [hl, hm] at h; cases h
      | some m =>
        rw [hl, hm] at h
        simp only at h
        obtain ⟨a1, _, _, a4⟩ := rowH_sem hl
        obtain ⟨b1, _, _, b4⟩ := rowH_sem hm
        have a5 : ∀ f, getV l f = semC L x.a.fields x.a.tail f (Hd.comp R f) := fun f => (a4 f).trans (semC_eq L R _ _ f)
        have b5 : ∀ f, getV m f = semC L x.b.fields x.b.tail f (Hd.comp R f) := fun f => (b4 f).trans (semC_eq L R _ _ f)
        have hlu := rowH_up hl
        have hmu := rowH_up hm
        cases hp : giveV x.a.tail l m R false with
        | none => rw [hp] at h; cases h
        | some p =>
          rw [hp] at h
          simp only at h
          obtain ⟨p1, p2⟩ := p
          have g1 := give_spec hmu.nodup a1 hp
          cases hq : giveV x.b.tail m l p1 false with
          | none => rw [hq] at h; cases h
          | some q =>
            rw [hq] at h
            simp only at h
            obtain ⟨q1, q2⟩ := q
            have g2 := give_spec hlu.nodup (by rw [g1.len]; exact b1) hq
            injection h with h
            injection h with h1 h2
            subst h1
            have hc : ∀ f v, Hd.comp q1 f v = if (v : Int) = x.b.tail ∧ getV m f = none ∧ (getV l f).isSome = true then getV l f else if (v : Int) = x.a.tail ∧ getV l f = none ∧ (getV m f).isSome = true then getV m f else Hd.comp R f v := fun f v => by rw [g2.comp, g1.comp]
            have old : ∀ y, y ∈ l ∨ y ∈ m → (∃ q ∈ R, ∃ z ∈ q, z.name = y.name) ∨ (x.op = 9 ∧ ∃ f ∈ x.a.fields ++ x.b.fields, f.name = y.name) := fun y hy => by
              rcases hy with hy | hy
              · rcases rowH_mem hl y hy with ⟨r, h1, h2⟩ | ⟨f, h1, h2⟩
                · exact .inl ⟨r, h1, y, h2, rfl⟩
                · exact .inr ⟨h9, f, by simp [h1], h2⟩
              · rcases rowH_mem hm y hy with ⟨r, h1, h2⟩ | ⟨f, h1, h2⟩
                · exact .inl ⟨r, h1, y, h2, rfl⟩
                · exact .inr ⟨h9, f, by simp [h1], h2⟩
            refine ⟨g2.len.trans g1.len, fun f => funext fun v => ?_, g2.up (g1.up hu), fun r hr y hy => ?_, fun hy => ?_, fun hn => ?_⟩
            · rw [hc, a5, b5]
              unfold stepC giveC
              rw [if_neg h10]
            · rcases g2.mem r hr y hy with h1 | ⟨q, hq, h1⟩
              · exact old y (.inl h1)
              · rcases g1.mem q hq y h1 with h1 | ⟨q0, hq0, h1⟩
                · exact old y (.inr h1)
                · exact .inl ⟨q0, hq0, y, h1, rfl⟩
            · rw [← h2, Bool.or_eq_true] at hy
              rcases hy with hy | hy
              · rcases g1.yes hy with h0 | ⟨y, hy, hn⟩
                · cases h0
                · have ht := g1.tail y hy hn
                  have hv : ((x.a.tail.toNat : Nat) : Int) = x.a.tail := by omega
                  refine ⟨y.name, x.a.tail.toNat, (semC_none ((a5 _).symm.trans hn) hv).2, ?_⟩
                  have hs : getV m y.name = some y.el := getV_mem hmu.nodup hy
                  rw [hc, if_neg (by rw [hs]; simp), if_pos ⟨hv, hn, by rw [hs]; rfl⟩, hs]
                  rfl
              · rcases g2.yes hy with h0 | ⟨y, hy, hn⟩
                · cases h0
                · have ht := g2.tail y hy hn
                  have hv : ((x.b.tail.toNat : Nat) : Int) = x.b.tail := by omega
                  refine ⟨y.name, x.b.tail.toNat, (semC_none ((b5 _).symm.trans hn) hv).2, ?_⟩
                  have hs : getV l y.name = some y.el := getV_mem hlu.nodup hy
                  rw [hc, if_pos ⟨hv, hn, by rw [hs]; rfl⟩, hs]
                  rfl
            · rw [← h2, Bool.or_eq_false_iff] at hn
              obtain ⟨_, e1, k1⟩ := g1.no hn.1
              obtain ⟨_, e2, k2⟩ := g2.no hn.2
              refine ⟨e2.trans e1, ?_⟩
              have hlm : l = m := hlu.unique hmu fun f => by
                cases hf : getV m f with
                | some e =>
                  obtain ⟨y, hy, rfl, rfl⟩ := getV_some hf
                  obtain ⟨e', he'⟩ := k1 y hy
                  rw [he', g1.same y hy e' he']
                | none =>
                  cases hf2 : getV l f with
                  | none => rfl
                  | some e =>
                    obtain ⟨y, hy, rfl, rfl⟩ := getV_some hf2
                    obtain ⟨e', he'⟩ := k2 y hy
                    rw [he'] at hf; cases hf
              unfold oneV
              rw [if_neg h10, hl, hm]
              exact sameV_iff.2 hlm
/-- Rows under which the assertions of a solution K hold as far as they are told. -/
def KLe (K : Nat → Val El) (R : List (List Vl)) : Prop := ∀ v f e, comp R f v = some e → K v f = some e
structure HoK (L : List El) (K : Nat → Val El) (x : As) : Prop where
  lk : x.op = 10 → K x.var.toNat x.field = none
  eq : x.op = 9 → NoDup x.a.fields ∧ NoDup x.b.fields ∧ Off x.a.fields (tv K x.a.tail) ∧ Off x.b.fields (tv K x.b.tail) ∧ sem (etaL L) x.a.fields (tv K x.a.tail) = sem (etaL L) x.b.fields (tv K x.b.tail)
theorem tc_le {K : Nat → Val El} {R : List (List Vl)} (h : KLe K R) {t : Int} {f : ByteArray} {e : El} (he : tc (comp R f) t = some e) : tv K t f = some e := by
  unfold tc at he
  unfold tv
  split at he
  · cases he
  · next h0 => rw [if_neg h0]; exact h _ _ _ he
theorem semC_le {L : List El} {K : Nat → Val El} {R : List (List Vl)} (h : KLe K R) {fs : List Fld} {t : Int} {f : ByteArray} {e : El} (he : semC L fs t f (comp R f) = some e) : sem (etaL L) fs (tv K t) f = some e := by
  unfold semC at he
  unfold sem
  cases hf : findN fs f with
  | some g => rw [hf] at he; exact he
  | none => rw [hf] at he; exact tc_le h he
/-- Where the other side has a value that a side lacks, its tail is a variable, whose solution has it. -/
theorem lack_tail {L : List El} {K : Nat → Val El} {R : List (List Vl)} (h : KLe K R) {fs gs : List Fld} {t u : Int} (heq : sem (etaL L) fs (tv K t) = sem (etaL L) gs (tv K u)) {f : ByteArray} {e : El} (h1 : semC L fs t f (comp R f) = none) (h2 : semC L gs u f (comp R f) = some e) : 0 ≤ t ∧ K t.toNat f = some e := by
  have h3 := semC_le h h2
  rw [← heq] at h3
  unfold semC at h1
  cases hf : findN fs f with
  | some g => rw [hf] at h1; cases h1
  | none =>
    rw [Rw.sem_not (η := etaL L) (Rw.findN_none.1 hf)] at h3
    unfold tv at h3
    split at h3
    · cases h3
    · next h0 => exact ⟨by omega, h3⟩
theorem raise_some {L : List El} {K : Nat → Val El} {x : As} {R : List (List Vl)} (hu : ∀ r ∈ R, UpV r) (hK : KLe K R) (hx : AoR R.length x) (hL : L.length = R.length) (hh : HoK L K x) : ∃ p, raiseV L x R = some p ∧ KLe K p.1 := by
  have key : ∃ p, raiseV L x R = some p := by
    unfold raiseV
    rcases hx.op with h9 | h10
    · obtain ⟨ha, hb⟩ := hx.ok.rows h9
      obtain ⟨d1, d2, o1, o2, he⟩ := hh.eq h9
      have hat : ∀ fs : List Fld, (∀ f ∈ fs, f.at_.var < R.length) → ∀ f ∈ fs, (atomV L f.at_).isSome = true := fun fs hf f hm => by
        unfold atomV
        split
        · rfl
        · have := hf f hm
          rw [List.getElem?_eq_getElem (by omega)]
          rfl
      have hof : ∀ {fs : List Fld} {t : Int}, Off fs (tv K t) → Off fs (getV (tailV R t)) := fun {fs t} ho g hg => by
        cases hc : getV (tailV R t) g.name with
        | none => rfl
        | some e =>
          rw [tc_comp] at hc
          have := tc_le hK hc
          rw [ho g hg] at this
          cases this
      obtain ⟨l, hl⟩ := rowH_some (L := L) ha.tail (hat _ ha.at_) d1 (hof o1) hu
      obtain ⟨m, hm⟩ := rowH_some (L := L) hb.tail (hat _ hb.at_) d2 (hof o2) hu
      have a5 : ∀ f, getV l f = semC L x.a.fields x.a.tail f (comp R f) := fun f => ((rowH_sem hl).2.2.2 f).trans (semC_eq L R _ _ f)
      have b5 : ∀ f, getV m f = semC L x.b.fields x.b.tail f (comp R f) := fun f => ((rowH_sem hm).2.2.2 f).trans (semC_eq L R _ _ f)
      have both : ∀ f e e', getV l f = some e → getV m f = some e' → e = e' := fun f e e' h1 h2 => by
        rw [a5] at h1
        rw [b5] at h2
        have k1 := semC_le hK h1
        have k2 := semC_le hK h2
        rw [he, k2] at k1
        injection k1 with k1
        exact k1.symm
      rw [if_neg (by omega), hl, hm]
      simp only
      obtain ⟨p, hp⟩ := give_some (t := x.a.tail) (own := l) (other := m) (R := R) (c := false) (fun y hy e h1 => both _ _ _ h1 (getV_mem (rowH_up hm).nodup hy)) fun y hy h1 => by
        have h2 := getV_mem (rowH_up hm).nodup hy
        rw [a5] at h1
        rw [b5] at h2
        exact (lack_tail hK he h1 h2).1
      obtain ⟨q, hq⟩ := give_some (t := x.b.tail) (own := m) (other := l) (R := p.1) (c := false) (fun y hy e h1 => (both _ _ _ (getV_mem (rowH_up hl).nodup hy) h1).symm) fun y hy h1 => by
        have h2 := getV_mem (rowH_up hl).nodup hy
        rw [b5] at h1
        rw [a5] at h2
        exact (lack_tail hK he.symm h1 h2).1
      rw [hp]
      simp only
      rw [hq]
      exact ⟨_, rfl⟩
    · rw [if_pos h10]
      cases hg : getV (R.getD x.var.toNat []) x.field with
      | none => exact ⟨_, rfl⟩
      | some e =>
        have := hK x.var.toNat x.field e hg
        rw [hh.lk h10] at this
        cases this
  obtain ⟨p, hp⟩ := key
  refine ⟨p, hp, fun v f e he => ?_⟩
  have hs := raise_spec hu hx.op hp
  rw [hs.comp] at he
  unfold stepC at he
  split at he
  · exact hK v f e he
  · next h10 =>
    have h9 : x.op = 9 := by have := hx.op; omega
    obtain ⟨_, _, _, _, heq⟩ := hh.eq h9
    unfold giveC at he
    split at he
    · next hc =>
      have := (lack_tail hK heq.symm hc.2.1 he).2
      rw [← hc.1, Int.toNat_natCast] at this
      exact this
    · split at he
      · next hc =>
        have := (lack_tail hK heq hc.2.1 he).2
        rw [← hc.1, Int.toNat_natCast] at this
        exact this
      · exact hK v f e he
end Hd
end Go.Proofs.YthnbhcfpfbimgaaGreat
/- Plain: what chapter 22's reference ends with: the least solution. No walk. -/
namespace Go.Proofs.YthnbhcfpfbimgaaGreat
namespace Hd
open Rw (El At Fld T Asr W64 Val tv sem Off NoDup findN Has Mod Cl Tr Holds Acc)
def foldC (L : List El) (as_ : List As) (f : ByteArray) (c : Nat → Option El) : Nat → Option El := as_.foldl (fun d x => stepC L x f d) c
theorem MonoC.trans {a b c : Nat → Option El} (h : MonoC a b) (k : MonoC b c) : MonoC a c := fun v e he => k v e (h v e he)
theorem foldC_mono (L : List El) (f : ByteArray) : ∀ (as_ : List As) (c : Nat → Option El), MonoC c (foldC L as_ f c)
  | [], _ => fun _ _ h => h
  | x :: r, c => (stepC_mono L x f c).trans (foldC_mono L f r _)
/-- What the reference keeps of its rows. -/
structure Rst (U : List ByteArray) (n : Nat) (R : List (List Vl)) : Prop where
  len : R.length = n
  up : ∀ r ∈ R, UpV r
  nm : ∀ r ∈ R, ∀ x ∈ r, x.name ∈ U
theorem Rst.few {U : List ByteArray} {n : Nat} {R : List (List Vl)} (h : Rst U n R) : ∀ r ∈ R, r.length ≤ U.length := fun r hr => by
  have h1 := Rw.nodup_len (l := r.map (·.name)) (U := U) (Nm.Up.nodup (show Nm.Up (r.map (·.name)) from h.up r hr)) fun x hx => by
    obtain ⟨y, hy, rfl⟩ := List.mem_map.1 hx
    exact h.nm r hr y hy
  simpa using h1
theorem names_in {as_ : List As} {x : As} (hx : x ∈ as_) (h9 : x.op = 9) {f : Fld} (hf : f ∈ x.a.fields ++ x.b.fields) : f.name ∈ namesU as_ := by
  refine List.mem_flatMap.2 ⟨x, hx, ?_⟩
  rw [if_pos h9]
  refine List.mem_cons_of_mem _ ?_
  rw [← List.map_append]
  exact List.mem_map.2 ⟨f, hf, rfl⟩
theorem Rst.raise {as_ : List As} {n : Nat} {R R' : List (List Vl)} (h : Rst (namesU as_) n R) {L : List El} {x : As} {c : Bool} (hx : x ∈ as_) (hs : RsS L x R R' c) : Rst (namesU as_) n R' :=
  ⟨hs.len.trans h.len, hs.up, fun r hr y hy => by
    rcases hs.mem r hr y hy with ⟨q, hq, z, hz, he⟩ | ⟨h9, f, hf, he⟩
    · rw [← he]; exact h.nm q hq z hz
    · rw [← he]; exact names_in hx h9 hf⟩
/-- What a round leaves. -/
structure RdS (L : List El) (U : List ByteArray) (n : Nat) (as_ : List As) (R R' : List (List Vl)) (c c' : Bool) : Prop where
  st : Rst U n R'
  comp : ∀ f, comp R' f = foldC L as_ f (comp R f)
  yes : c' = true → c = true ∨ ∃ f v, Hd.comp R f v = none ∧ (Hd.comp R' f v).isSome = true
  no : c' = false → c = false ∧ R' = R ∧ ∀ x ∈ as_, oneV L R x = true
theorem round_spec {L : List El} {all : List As} {n : Nat} : ∀ {as_ : List As} {R R' : List (List Vl)} {c c' : Bool}, (∀ x ∈ as_, x ∈ all ∧ (x.op = 9 ∨ x.op = 10)) → Rst (namesU all) n R → roundV L as_ R c = some (R', c') → RdS L (namesU all) n as_ R R' c c'
  | [], R, R', c, c', _, hR, h => by
    simp only [roundV] at h
    injection h with h
    injection h with h1 h2
    subst h1 h2
    exact ⟨hR, fun f => rfl, fun h => .inl h, fun h => ⟨h, rfl, fun x hx => (by cases hx)⟩⟩
  | x :: r, R, R', c, c', ho, hR, h => by
    simp only [roundV] at h
    cases hp : raiseV L x R with
    | none => rw [hp] at h; cases h
    | some p =>
      rw [hp] at h
      simp only at h
      obtain ⟨p1, p2⟩ := p
      obtain ⟨hx, hop⟩ := ho x (by simp)
      have hs := raise_spec hR.up hop hp
      have ih := round_spec (fun y hy => ho y (by simp [hy])) (hR.raise hx hs) h
      refine ⟨ih.st, fun f => by rw [ih.comp f, hs.comp f]; rfl, fun hy => ?_, fun hn => ?_⟩
      · rcases ih.yes hy with h1 | ⟨f, v, h1, h2⟩
        · rw [Bool.or_eq_true] at h1
          rcases h1 with h1 | h1
          · exact .inl h1
          · right
            obtain ⟨f, v, k1, k2⟩ := hs.yes h1
            obtain ⟨e, he⟩ := Option.isSome_iff_exists.1 k2
            refine ⟨f, v, k1, ?_⟩
            rw [ih.comp f, foldC_mono L f r _ v e he]
            rfl
        · right
          refine ⟨f, v, ?_, h2⟩
          cases hc : Hd.comp R f v with
          | none => rfl
          | some e =>
            have := stepC_mono L x f _ v e hc
            rw [← hs.comp f] at this
            rw [this] at h1
            cases h1
      · obtain ⟨h1, h2, h3⟩ := ih.no hn
        rw [Bool.or_eq_false_iff] at h1
        obtain ⟨k1, k2⟩ := hs.no h1.2
        subst k1
        refine ⟨h1.1, h2, fun y hy => ?_⟩
        rcases List.mem_cons.1 hy with rfl | hy
        · exact k2
        · exact h3 y hy
theorem rows_one {L : List El} {as_ : List As} {n : Nat} (ho : ∀ x ∈ as_, x.op = 9 ∨ x.op = 10) : ∀ (k : Nat) {R R' : List (List Vl)}, Rst (namesU as_) n R → rowsV L as_ k R = some R' → Rst (namesU as_) n R' ∧ ∀ x ∈ as_, oneV L R' x = true
  | 0, _, _, _, h => by cases h
  | k + 1, R, R', hR, h => by
    simp only [rowsV] at h
    cases hp : roundV L as_ R false with
    | none => rw [hp] at h; cases h
    | some p =>
      obtain ⟨p1, p2⟩ := p
      rw [hp] at h
      have hs := round_spec (fun x hx => ⟨hx, ho x hx⟩) hR hp
      cases p2 with
      | false =>
        simp only at h
        injection h with h
        subst h
        obtain ⟨_, h2, h3⟩ := hs.no rfl
        rw [h2] at hs ⊢
        exact ⟨hs.st, h3⟩
      | true => exact rows_one ho k hs.st h
def cnt (d : Nat → Option El) : Nat → Nat
  | 0 => 0
  | n + 1 => cnt d n + if (d n).isSome then 1 else 0
theorem cnt_le {c d : Nat → Option El} (h : MonoC c d) : ∀ n, cnt c n ≤ cnt d n
  | 0 => Nat.le_refl _
  | n + 1 => by
    have ih := cnt_le h n
    simp only [cnt]
    by_cases hc : (c n).isSome = true
    · obtain ⟨e, he⟩ := Option.isSome_iff_exists.1 hc
      rw [if_pos hc, if_pos (by rw [h n e he]; rfl)]
      omega
    · rw [if_neg hc]; omega
theorem cnt_lt {c d : Nat → Option El} (h : MonoC c d) {v : Nat} (h1 : c v = none) (h2 : (d v).isSome = true) : ∀ n, v < n → cnt c n < cnt d n
  | 0, hv => by omega
  | n + 1, hv => by
    simp only [cnt]
    by_cases hn : v = n
    · subst hn
      have := cnt_le h v
      rw [if_neg (by rw [h1]; simp), if_pos h2]
      omega
    · have ih := cnt_lt h h1 h2 n (by omega)
      by_cases hc : (c n).isSome = true
      · obtain ⟨e, he⟩ := Option.isSome_iff_exists.1 hc
        rw [if_pos hc, if_pos (by rw [h n e he]; rfl)]
        omega
      · rw [if_neg hc]; omega
theorem cnt_max (d : Nat → Option El) : ∀ n, cnt d n ≤ n
  | 0 => Nat.le_refl _
  | n + 1 => by
    have := cnt_max d n
    simp only [cnt]
    split <;> omega
theorem comp_lt {R : List (List Vl)} {f : ByteArray} {v : Nat} (h : (comp R f v).isSome = true) : v < R.length := by
  refine Nat.lt_of_not_le fun hle => ?_
  unfold comp at h
  rw [List.getD_eq_getElem?_getD, List.getElem?_eq_none hle] at h
  simp [getV] at h
theorem round_some {L : List El} {K : Nat → Val El} {all : List As} {n : Nat} (hL : L.length = n) : ∀ {as_ : List As} {R : List (List Vl)} {c : Bool}, (∀ x ∈ as_, x ∈ all ∧ AoR n x ∧ HoK L K x) → Rst (namesU all) n R → KLe K R → ∃ p, roundV L as_ R c = some p ∧ KLe K p.1
  | [], R, c, _, _, hK => ⟨_, rfl, hK⟩
  | x :: r, R, c, ho, hR, hK => by
    obtain ⟨hx, ha, hh⟩ := ho x (by simp)
    obtain ⟨p, hp, hk⟩ := raise_some hR.up hK (by rw [hR.len]; exact ha) (hL.trans hR.len.symm) hh
    simp only [roundV, hp]
    exact round_some hL (fun y hy => ho y (by simp [hy])) (hR.raise hx (raise_spec hR.up ha.op hp)) hk
theorem rows_some {L : List El} {K : Nat → Val El} {as_ : List As} {n : Nat} (hL : L.length = n) (ho : ∀ x ∈ as_, AoR n x ∧ HoK L K x) : ∀ (m k : Nat) {R : List (List Vl)}, Rst (namesU as_) n R → KLe K R → (∀ f, foldC L as_ f (comp R f) = comp R f ∨ k ≤ cnt (comp R f) n) → k ≤ n → n < k + m → ∃ R', rowsV L as_ m R = some R' ∧ KLe K R'
  | 0, k, R, _, _, _, h1, h2 => by omega
  | m + 1, k, R, hR, hK, hP, h1, h2 => by
    obtain ⟨p, hp, hk⟩ := round_some (c := false) hL (fun x hx => ⟨hx, ho x hx⟩) hR hK
    obtain ⟨p1, p2⟩ := p
    have hs := round_spec (fun x hx => ⟨hx, (ho x hx).1.op⟩) hR hp
    simp only [rowsV, hp]
    cases p2 with
    | false => exact ⟨p1, rfl, hk⟩
    | true =>
      simp only
      have key : ∀ f v, comp R f v = none → (comp p1 f v).isSome = true → k + 1 ≤ cnt (comp p1 f) n := fun f v h3 h4 => by
        have hlt := cnt_lt (foldC_mono L f as_ (comp R f)) h3 (by rw [← hs.comp f]; exact h4) n (by rw [← hs.st.len]; exact comp_lt h4)
        rw [← hs.comp f] at hlt
        rcases hP f with h5 | h5
        · rw [← hs.comp f] at h5
          rw [h5, h3] at h4
          cases h4
        · omega
      refine rows_some hL ho m (k + 1) hs.st hk (fun f => ?_) ?_ (by omega)
      · by_cases he : comp p1 f = comp R f
        · left
          rw [he, ← hs.comp f, he]
        · right
          have hex : ∃ v, comp p1 f v ≠ comp R f v := Classical.byContradiction fun hn => he (funext fun v => Classical.byContradiction fun h => hn ⟨v, h⟩)
          obtain ⟨v, hv⟩ := hex
          have h3 : comp R f v = none := by
            cases hc : comp R f v with
            | none => rfl
            | some e =>
              have := foldC_mono L f as_ _ v e hc
              rw [← hs.comp f] at this
              rw [this, hc] at hv
              exact absurd rfl hv
          refine key f v h3 ?_
          cases hc : comp p1 f v with
          | some _ => rfl
          | none => rw [hc, h3] at hv; exact absurd rfl hv
      · rcases hs.yes rfl with h | ⟨f, v, h3, h4⟩
        · cases h
        · exact Nat.le_trans (key f v h3 h4) (cnt_max _ _)
theorem getD_nil (n : Nat) (v : Nat) : (List.replicate n ([] : List Vl)).getD v [] = [] := by
  rw [List.getD_eq_getElem?_getD, List.getElem?_replicate]
  split <;> rfl
theorem Rst.begun (U : List ByteArray) (n : Nat) : Rst U n (List.replicate n []) :=
  ⟨List.length_replicate, fun r hr => by rw [List.eq_of_mem_replicate hr]; simp [UpV, Nm.Up], fun r hr x hx => by rw [List.eq_of_mem_replicate hr] at hx; cases hx⟩
/-- The assertions hold of the known fields alone. -/
theorem canon_hok {L : List El} {n : Nat} {as_ : List As} (h64 : as_.length ≤ 64) (hok : ∀ x ∈ as_, AoR n x) (hs : (fedT n as_ allW).stuck = false) (he : ∀ e ∈ (fedT n as_ allW).eqs, etaL L e.a = etaL L e.b) : ∀ x ∈ as_, HoK L (Rw.canon (etaL L) (fedT n as_ allW)) x := by
  intro x hx
  have hb := Rw.begunT_beg n
  have hg := (Rw.feed_gd (feedL allW 0 as_) hb.gd).1
  change Rw.Gd (fedT n as_ allW) at hg
  have hm := Rw.canon_mod (etaL L) hg.ow hg.inv hs he
  have hat : ∀ t : Int, t < n → tv (Rw.canon (etaL L) (fedT n as_ allW)) ((Rw.begunT n).at_ t) = tv (Rw.canon (etaL L) (fedT n as_ allW)) t := fun t ht => by
    unfold Rw.T.at_
    by_cases h0 : t < 0
    · rw [if_pos h0, Rw.tv_neg (by omega), Rw.tv_neg h0]
    · rw [if_neg h0, hb.own, Rw.tv_nat, List.getD_eq_getElem?_getD, List.getElem?_range (by omega)]
      unfold tv
      rw [if_neg h0]
      rfl
  obtain ⟨j, hj, hjx⟩ := List.mem_iff_getElem.1 hx
  have hx' : as_[j]? = some x := by rw [← hjx]; exact List.getElem?_eq_getElem hj
  have hh : ∀ a, asr x = some a → Acc n a → Holds (etaL L) (Rw.canon (etaL L) (fedT n as_ allW)) (Rw.begunT n) a := fun a ha hacc => by
    have hmem := mem_feedL allW (i := 0) hx' (by rw [Nat.zero_add, allW_bit]; exact decide_eq_true (by omega)) ha
    exact Rw.feed_complete (feedL allW 0 as_) hb.gd hs _ hmem (by rw [hb.own, List.length_range]; exact hacc) El _ _ hm
  refine ⟨fun h10 => ?_, fun h9 => ?_⟩
  · obtain ⟨h0, h1⟩ := (hok x hx).ok.lacks h10
    have := hh (.lk x.var x.field) (by unfold asr; rw [if_neg (by omega), if_pos h10]) ⟨h0, h1⟩
    change tv _ ((Rw.begunT n).at_ x.var) x.field = none at this
    rw [hat _ h1] at this
    unfold tv at this
    rw [if_neg (by omega)] at this
    exact this
  · obtain ⟨ha, hb'⟩ := (hok x hx).ok.rows h9
    have := hh (.eq x.a x.b) (by unfold asr; rw [if_pos h9]) ⟨ha.tail, hb'.tail⟩
    obtain ⟨k1, k2, k3, k4, k5⟩ := this
    rw [hat _ ha.tail] at k3 k5
    rw [hat _ hb'.tail] at k4 k5
    exact ⟨k1, k2, k3, k4, k5⟩
/-- What the reference tells: nothing, and then the table does not fit; or the known fields. -/
structure LeastS (L : List El) (n : Nat) (as_ : List As) (R : List (List Vl)) : Prop where
  stuck : (fedT n as_ allW).stuck = false
  eqs : ∀ e ∈ (fedT n as_ allW).eqs, etaL L e.a = etaL L e.b
  st : Rst (namesU as_) n R
  one : ∀ x ∈ as_, oneV L R x = true
  val : ∀ v, v < n → ∀ f, getV (R.getD v []) f = sem (etaL L) ((fedT n as_ allW).spreads [] (v : Nat)).fields (fun _ => none) f
theorem least_some {L : List El} {n : Nat} {as_ : List As} (h64 : as_.length ≤ 64) (hok : ∀ x ∈ as_, AoR n x) {k : Nat} {R : List (List Vl)} (h : rowsV L as_ k (List.replicate n []) = some R) (hK : (fedT n as_ allW).stuck = false → (∀ e ∈ (fedT n as_ allW).eqs, etaL L e.a = etaL L e.b) → KLe (Rw.canon (etaL L) (fedT n as_ allW)) R) : LeastS L n as_ R := by
  obtain ⟨h1, h2⟩ := rows_one (fun x hx => (hok x hx).op) k (Rst.begun _ n) h
  have hs := sound (L := L) (R := R) h64 h2
  rw [h1.len] at hs
  obtain ⟨s1, s2, s3⟩ := hs
  refine ⟨s1, s2, h1, h2, fun v hv f => ?_⟩
  have hle := hK s1 s2
  have hkn := s3 v hv
  cases hf : findN ((fedT n as_ allW).spreads [] (v : Nat)).fields f with
  | some g =>
    obtain ⟨hg, hn⟩ := Rw.findN_some hf
    rw [Rw.sem_has (η := etaL L) hf, ← hn]
    exact hkn.has g hg
  | none =>
    rw [Rw.sem_not (η := etaL L) (Rw.findN_none.1 hf)]
    cases hc : getV (R.getD v []) f with
    | none => rfl
    | some e =>
      have := hle v f e hc
      unfold Rw.canon at this
      rw [Rw.sem_not (η := etaL L) (Rw.findN_none.1 hf)] at this
      cases this
theorem least {L : List El} {n : Nat} {as_ : List As} (hL : L.length = n) (h64 : as_.length ≤ 64) (hn : n ≤ 64) (hok : ∀ x ∈ as_, AoR n x) :
    (rowsV L as_ 2000 (List.replicate n []) = none ∧ ¬ ((fedT n as_ allW).stuck = false ∧ ∀ e ∈ (fedT n as_ allW).eqs, etaL L e.a = etaL L e.b)) ∨ ∃ R, rowsV L as_ 2000 (List.replicate n []) = some R ∧ LeastS L n as_ R := by
  by_cases hf : (fedT n as_ allW).stuck = false ∧ ∀ e ∈ (fedT n as_ allW).eqs, etaL L e.a = etaL L e.b
  · right
    obtain ⟨R, hR, hK⟩ := rows_some (K := Rw.canon (etaL L) (fedT n as_ allW)) hL (fun x hx => ⟨hok x hx, canon_hok h64 hok hf.1 hf.2 x hx⟩) 2000 0 (Rst.begun _ n) (fun v f e he => by
      unfold comp at he
      rw [getD_nil] at he
      cases he) (fun f => .inr (Nat.zero_le _)) (Nat.zero_le _) (by omega)
    exact ⟨R, hR, least_some h64 hok hR fun _ _ => hK⟩
  · left
    refine ⟨?_, hf⟩
    cases h : rowsV L as_ 2000 (List.replicate n []) with
    | none => rfl
    | some R =>
      exfalso
      obtain ⟨h1, h2⟩ := rows_one (fun x hx => (hok x hx).op) 2000 (Rst.begun _ n) h
      have hs := sound (L := L) (R := R) h64 h2
      rw [h1.len] at hs
      exact hf ⟨hs.1, hs.2.1⟩
/-- The known fields as values, in the order of their names, are the row. -/
theorem pick_names {fs : List Fld} : ∀ {ns : List ByteArray}, (∀ n ∈ ns, n ∈ fs.map (·.name)) → (Rw.pick fs ns).map (·.name) = ns
  | [], _ => rfl
  | n :: ns, h => by
    have ih := pick_names (fs := fs) (ns := ns) fun m hm => h m (by simp [hm])
    obtain ⟨f, hf, hn⟩ := List.mem_map.1 (h n (by simp))
    cases hfd : fs.find? (fun x => x.name.toList == n.toList) with
    | none =>
      rw [List.find?_eq_none] at hfd
      exact absurd (name_eq.2 hn) (hfd f hf)
    | some g =>
      have hg : g.name = n := name_eq.1 (by simpa using List.find?_some hfd)
      unfold Rw.pick at *
      rw [List.filterMap_cons, hfd]
      simp [ih, hg]
def valsV (L : List El) (fs : List Fld) : List Vl := fs.map fun f => ⟨f.name, etaL L f.at_⟩
theorem vals_row {L : List El} {sp : Rw.Sp} (hd : NoDup sp.fields) {ns : List ByteArray} (hs : Nm.Sorts (sp.fields.map (·.name)) ns) {row : List Vl} (hu : UpV row) (hv : ∀ f, getV row f = sem (etaL L) sp.fields (fun _ => none) f) : valsV L (Rw.pick sp.fields ns) = row := by
  have hn : (Rw.pick sp.fields ns).map (·.name) = ns := pick_names fun n hn => (hs.2 n).1 hn
  have hnv : (valsV L (Rw.pick sp.fields ns)).map (·.name) = ns := by
    unfold valsV
    rw [List.map_map]
    exact hn
  have hup : UpV (valsV L (Rw.pick sp.fields ns)) := by unfold UpV; rw [hnv]; exact hs.1
  refine hup.unique hu fun f => ?_
  rw [hv f]
  cases hc : getV (valsV L (Rw.pick sp.fields ns)) f with
  | some e =>
    obtain ⟨x, hx, rfl, rfl⟩ := getV_some hc
    obtain ⟨g, hg, rfl⟩ := List.mem_map.1 hx
    rw [Rw.sem_has (η := etaL L) (Rw.findN_mem hd (pick_mem hg))]
  | none =>
    cases hf : findN sp.fields f with
    | none => rw [Rw.sem_not (η := etaL L) (Rw.findN_none.1 hf)]
    | some g =>
      exfalso
      obtain ⟨hg, hgn⟩ := Rw.findN_some hf
      have : f ∈ (valsV L (Rw.pick sp.fields ns)).map (·.name) := by
        rw [hnv, hs.2, ← hgn]
        exact List.mem_map.2 ⟨g, hg, rfl⟩
      have := getV_isSome.2 this
      rw [hc] at this
      cases this
end Hd
end Go.Proofs.YthnbhcfpfbimgaaGreat
