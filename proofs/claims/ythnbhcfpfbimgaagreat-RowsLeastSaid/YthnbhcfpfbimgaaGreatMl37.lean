/- Texts put together: RyPlain RyMem. -/
import Derived.Test.YthnbhcfpfbimgaaGreatMl36
import Derived.Test.YthnbhcfpfbimgaaGreatMl27
/- Plain: what chapter 22's reference computes, step by step. No walk. -/
namespace Go.Proofs.YthnbhcfpfbimgaaGreat
namespace Hd
open Rw (El At Fld Val sem Off NoDup findN Has)
/-- What a tail gets of the other side. -/
def giveV (tail : Int) (own : List Vl) : List Vl → List (List Vl) → Bool → Option (List (List Vl) × Bool)
  | [], R, c => some (R, c)
  | x :: r, R, c => match getV own x.name with
    | some e => if eqEl e x.el then giveV tail own r R c else none
    | none => if tail < 0 then none else giveV tail own r (R.modify tail.toNat fun l => withV l x.name x.el) true
def raiseV (L : List El) (x : As) (R : List (List Vl)) : Option (List (List Vl) × Bool) :=
  if x.op = 10 then (if (getV (R.getD x.var.toNat []) x.field).isSome then none else some (R, false))
  else match rowH L R x.a, rowH L R x.b with
    | some l, some m => match giveV x.a.tail l m R false with
      | none => none
      | some p => match giveV x.b.tail m l p.1 false with
        | none => none
        | some q => some (q.1, p.2 || q.2)
    | _, _ => none
def roundV (L : List El) : List As → List (List Vl) → Bool → Option (List (List Vl) × Bool)
  | [], R, c => some (R, c)
  | x :: r, R, c => match raiseV L x R with
    | none => none
    | some p => roundV L r p.1 (c || p.2)
def rowsV (L : List El) (as_ : List As) : Nat → List (List Vl) → Option (List (List Vl))
  | 0, _ => none
  | k + 1, R => match roundV L as_ R false with
    | none => none
    | some (R', false) => some R'
    | some (R', true) => rowsV L as_ k R'
/-- What the variables have at one name. -/
def comp (R : List (List Vl)) (f : ByteArray) : Nat → Option El := fun v => getV (R.getD v []) f
def UpV (l : List Vl) : Prop := Nm.Up (l.map (·.name))
theorem UpV.nodup {l : List Vl} (h : UpV l) : l.Pairwise fun a b => a.name ≠ b.name := List.pairwise_map.1 (Nm.Up.nodup h)
theorem getV_mem {l : List Vl} (h : l.Pairwise fun a b => a.name ≠ b.name) {x : Vl} (hx : x ∈ l) : getV l x.name = some x.el := by
  induction l with
  | nil => cases hx
  | cons y l ih =>
    obtain ⟨h1, h2⟩ := List.pairwise_cons.1 h
    rw [getV_cons]
    rcases List.mem_cons.1 hx with rfl | hx
    · rw [if_pos rfl]
    · rw [if_neg (h1 x hx)]
      exact ih h2 hx
theorem getV_some {l : List Vl} {f : ByteArray} {e : El} (h : getV l f = some e) : ∃ x ∈ l, x.name = f ∧ x.el = e := by
  unfold getV at h
  obtain ⟨x, hx, he⟩ := Option.map_eq_some_iff.1 h
  exact ⟨x, List.mem_of_find?_eq_some hx, name_eq.1 (by simpa using List.find?_some hx), he⟩
theorem getV_isSome {l : List Vl} {f : ByteArray} : (getV l f).isSome = true ↔ f ∈ l.map (·.name) := by
  constructor
  · intro h
    obtain ⟨e, he⟩ := Option.isSome_iff_exists.1 h
    obtain ⟨x, hx, hn, _⟩ := getV_some he
    exact List.mem_map.2 ⟨x, hx, hn⟩
  · intro h
    obtain ⟨x, hx, hn⟩ := List.mem_map.1 h
    cases hg : getV l f with
    | none => exact absurd hn (getV_none.1 hg x hx)
    | some e => rfl
/-- Two rising rows of values are one if they have the same. -/
theorem UpV.unique {l m : List Vl} (hl : UpV l) (hm : UpV m) (h : ∀ f, getV l f = getV m f) : l = m := by
  have hn : l.map (·.name) = m.map (·.name) := Nm.Up.unique hl hm fun x => by rw [← getV_isSome, ← getV_isSome, h x]
  have hlen : l.length = m.length := by simpa using congrArg List.length hn
  refine List.ext_getElem hlen fun i h1 h2 => ?_
  have e1 : l[i].name = m[i].name := by
    have := List.getElem_of_eq hn (i := i) (by simpa using h1)
    simpa using this
  have e2 : l[i].el = m[i].el := by
    have k1 := getV_mem hl.nodup (List.getElem_mem h1)
    have k2 := getV_mem hm.nodup (List.getElem_mem h2)
    rw [e1, h, k2] at k1
    injection k1 with k1
    exact k1.symm
  cases hx : l[i]
  cases hy : m[i]
  rw [hx, hy] at e1 e2
  simp_all
theorem repV_names (f : ByteArray) (e : El) : ∀ l : List Vl, (repV f e l).map (·.name) = l.map (·.name)
  | [] => rfl
  | x :: r => by
    simp only [repV]
    split
    · next h => simp [name_eq.1 h]
    · simp [repV_names f e r]
theorem insV_up {f : ByteArray} {e : El} : ∀ {l : List Vl}, UpV l → (∀ x ∈ l, x.name ≠ f) → UpV (insV f e l)
  | [], _, _ => by simp [insV, UpV, Nm.Up]
  | x :: r, h, hn => by
    obtain ⟨h1, h2⟩ := List.pairwise_cons.1 (show (x.name :: r.map (·.name)).Pairwise _ from h)
    simp only [insV]
    split
    · next hlt =>
      refine List.pairwise_cons.2 ⟨fun y hy => ?_, h⟩
      rcases List.mem_cons.1 hy with rfl | hy
      · exact hlt
      · exact Nm.ls_trans hlt (h1 y hy)
    · next hlt =>
      have hx : Nm.ls x.name f = true := by
        rcases Nm.ls_total (Bool.eq_false_iff.2 hlt) with h | h
        · exact h
        · exact absurd h.symm (hn x (by simp))
      refine List.pairwise_cons.2 ⟨fun y hy => ?_, insV_up h2 fun z hz => hn z (by simp [hz])⟩
      have hy' : getV (insV f e r) y ≠ none := by
        have := getV_isSome.2 hy
        intro h0; rw [h0] at this; cases this
      rw [getV_ins fun z hz => hn z (by simp [hz])] at hy'
      split at hy'
      · next he => rw [← he]; exact hx
      · refine h1 y (getV_isSome.1 ?_)
        cases hg : getV r y with
        | none => exact absurd hg hy'
        | some _ => rfl
theorem withV_up {l : List Vl} (h : UpV l) (f : ByteArray) (e : El) : UpV (withV l f e) := by
  unfold withV
  split
  · unfold UpV; rw [repV_names]; exact h
  · next hn =>
    refine insV_up h ?_
    rw [← getV_none]
    cases hg : getV l f with
    | none => rfl
    | some y => rw [hg] at hn; exact absurd rfl hn
theorem gather_up : ∀ {l out o : List Vl}, UpV out → gather out l = some o → UpV o
  | [], out, o, h, hg => by simp only [gather] at hg; injection hg with hg; subst hg; exact h
  | x :: r, out, o, h, hg => by
    simp only [gather] at hg
    split at hg
    · cases hg
    · exact gather_up (withV_up h _ _) hg
theorem gather_mem : ∀ {l out o : List Vl}, gather out l = some o → ∀ x ∈ o, x ∈ out ∨ x ∈ l
  | [], out, o, hg, x, hx => by simp only [gather] at hg; injection hg with hg; subst hg; exact .inl hx
  | y :: r, out, o, hg, x, hx => by
    simp only [gather] at hg
    split at hg
    · cases hg
    · rcases gather_mem hg x hx with h | h
      · rcases mem_with h with rfl | h
        · exact .inr (by simp)
        · exact .inl h
      · exact .inr (by simp [h])
theorem gather_some : ∀ {l out : List Vl}, (l.Pairwise fun a b => a.name ≠ b.name) → (∀ x ∈ l, getV out x.name = none) → ∃ o, gather out l = some o
  | [], out, _, _ => ⟨out, rfl⟩
  | x :: r, out, h, hn => by
    obtain ⟨h1, h2⟩ := List.pairwise_cons.1 h
    simp only [gather, hn x (by simp)]
    refine gather_some h2 fun y hy => ?_
    rw [getV_with, if_neg (h1 y hy)]
    exact hn y (by simp [hy])
theorem gather_len : ∀ {l out o : List Vl}, gather out l = some o → o.length ≤ out.length + l.length
  | [], out, o, hg => by simp only [gather] at hg; injection hg with hg; subst hg; simp
  | x :: r, out, o, hg => by
    simp only [gather] at hg
    split at hg
    · cases hg
    · have := gather_len hg
      have := withV_len out x.name x.el
      simp only [List.length_cons]
      omega
theorem rowH_up {L : List El} {R : List (List Vl)} {t : Rw.Term} {o : List Vl} (h : rowH L R t = some o) : UpV o := by
  unfold rowH at h
  split at h
  · cases h
  · split at h
    · cases h
    · exact gather_up (by simp [UpV, Nm.Up]) h
theorem fieldsV_mem {L : List El} : ∀ {fs : List Fld} {l : List Vl}, fieldsV L fs = some l → ∀ x ∈ l, ∃ f ∈ fs, f.name = x.name := fun {fs l} h x hx => by
  have h1 := (fieldsV_get L h).1
  have : x.name ∈ l.map (·.name) := List.mem_map.2 ⟨x, hx, rfl⟩
  rw [h1] at this
  obtain ⟨f, hf, he⟩ := List.mem_map.1 this
  exact ⟨f, hf, he⟩
theorem rowH_mem {L : List El} {R : List (List Vl)} {t : Rw.Term} {o : List Vl} (h : rowH L R t = some o) : ∀ x ∈ o, (∃ r ∈ R, x ∈ r) ∨ ∃ f ∈ t.fields, f.name = x.name := by
  unfold rowH at h
  split at h
  · cases h
  · next hlt =>
    cases hf : fieldsV L t.fields with
    | none => rw [hf] at h; cases h
    | some l =>
      rw [hf] at h
      intro x hx
      rcases gather_mem h x hx with hx | hx
      · cases hx
      · rcases List.mem_append.1 hx with hx | hx
        · left
          unfold tailV at hx
          split at hx
          · cases hx
          · next h0 =>
            have hl : t.tail.toNat < R.length := by omega
            rw [List.getD_eq_getElem?_getD, List.getElem?_eq_getElem hl] at hx
            exact ⟨_, List.getElem_mem hl, hx⟩
        · exact .inr (fieldsV_mem hf x hx)
theorem fieldsV_some {L : List El} : ∀ {fs : List Fld}, (∀ f ∈ fs, (atomV L f.at_).isSome = true) → ∃ l, fieldsV L fs = some l
  | [], _ => ⟨[], rfl⟩
  | f :: r, h => by
    obtain ⟨e, he⟩ := Option.isSome_iff_exists.1 (h f (by simp))
    obtain ⟨l, hl⟩ := fieldsV_some (L := L) (fs := r) fun g hg => h g (by simp [hg])
    exact ⟨⟨f.name, e⟩ :: l, by simp only [fieldsV, he, hl]⟩
theorem tailV_up {R : List (List Vl)} (h : ∀ r ∈ R, UpV r) (t : Int) : UpV (tailV R t) := by
  unfold tailV
  split
  · simp [UpV, Nm.Up]
  · rw [List.getD_eq_getElem?_getD]
    cases hg : R[t.toNat]? with
    | none => simp [UpV, Nm.Up]
    | some r => exact h r (List.mem_of_getElem? hg)
theorem rowH_some {L : List El} {R : List (List Vl)} {t : Rw.Term} (ht : t.tail < R.length) (hat : ∀ f ∈ t.fields, (atomV L f.at_).isSome = true) (hd : NoDup t.fields) (hoff : Off t.fields (getV (tailV R t.tail))) (hu : ∀ r ∈ R, UpV r) : ∃ o, rowH L R t = some o := by
  obtain ⟨l, hl⟩ := fieldsV_some hat
  obtain ⟨h1, _⟩ := fieldsV_get L hl
  unfold rowH
  rw [if_neg (by omega), hl]
  refine gather_some (List.pairwise_append.2 ⟨(tailV_up hu _).nodup, ?_, fun x hx y hy e => ?_⟩) fun x _ => rfl
  · have : (t.fields.map (·.name)).Pairwise (· ≠ ·) := List.pairwise_map.2 hd
    rw [← h1] at this
    exact List.pairwise_map.1 this
  · obtain ⟨f, hf, he⟩ := fieldsV_mem hl y hy
    have := hoff f hf
    rw [he, ← e, getV_mem (tailV_up hu _).nodup hx] at this
    cases this
theorem rowH_len {L : List El} {R : List (List Vl)} {t : Rw.Term} {o : List Vl} {k : Nat} (h : rowH L R t = some o) (hk : ∀ r ∈ R, r.length ≤ k) : o.length ≤ k + t.fields.length := by
  unfold rowH at h
  split at h
  · cases h
  · cases hf : fieldsV L t.fields with
    | none => rw [hf] at h; cases h
    | some l =>
      rw [hf] at h
      have h1 := gather_len h
      have h2 : l.length = t.fields.length := by simpa using congrArg List.length (fieldsV_get L hf).1
      have h3 : (tailV R t.tail).length ≤ k := by
        unfold tailV
        split
        · exact Nat.zero_le _
        · rw [List.getD_eq_getElem?_getD]
          cases hg : R[t.tail.toNat]? with
          | none => exact Nat.zero_le _
          | some r => exact hk r (List.mem_of_getElem? hg)
      simp only [List.length_append, List.length_nil] at h1
      omega
/-- What give leaves. -/
structure GvS (t : Int) (own other : List Vl) (R R' : List (List Vl)) (c c' : Bool) : Prop where
  len : R'.length = R.length
  same : ∀ x ∈ other, ∀ e, getV own x.name = some e → e = x.el
  tail : ∀ x ∈ other, getV own x.name = none → 0 ≤ t
  comp : ∀ f v, comp R' f v = if (v : Int) = t ∧ getV own f = none ∧ (getV other f).isSome = true then getV other f else comp R f v
  up : (∀ r ∈ R, UpV r) → ∀ r ∈ R', UpV r
  mem : ∀ r ∈ R', ∀ x ∈ r, x ∈ other ∨ ∃ q ∈ R, x ∈ q
  yes : c' = true → c = true ∨ ∃ x ∈ other, getV own x.name = none
  no : c' = false → c = false ∧ R' = R ∧ ∀ x ∈ other, ∃ e, getV own x.name = some e
theorem comp_modify {R : List (List Vl)} {k : Nat} (hk : k < R.length) (x : Vl) (f : ByteArray) (v : Nat) : comp (R.modify k fun l => withV l x.name x.el) f v = if v = k ∧ x.name = f then some x.el else comp R f v := by
  unfold comp
  rw [List.getD_eq_getElem?_getD, List.getD_eq_getElem?_getD, List.getElem?_modify]
  by_cases hv : k = v
  · subst hv
    rw [List.getElem?_eq_getElem hk]
    show getV (if k = k then withV R[k] x.name x.el else R[k]) f = _
    rw [if_pos rfl, getV_with]
    by_cases hf : x.name = f
    · rw [if_pos hf, if_pos ⟨rfl, hf⟩]
    · rw [if_neg hf, if_neg (fun h => hf h.2)]
      rfl
  · rw [if_neg (fun h => hv h.1.symm)]
    cases R[v]? <;> simp [hv]
theorem give_spec {t : Int} {own : List Vl} : ∀ {other : List Vl} {R R' : List (List Vl)} {c c' : Bool}, (other.Pairwise fun a b => a.name ≠ b.name) → t < R.length → giveV t own other R c = some (R', c') → GvS t own other R R' c c'
  | [], R, R', c, c', _, _, h => by
    simp only [giveV] at h
    injection h with h
    injection h with h1 h2
    subst h1 h2
    exact ⟨rfl, fun x hx => (by cases hx), fun x hx => (by cases hx), fun f v => by rw [if_neg]; simp [getV], fun h => h, fun r hr x hx => .inr ⟨r, hr, hx⟩, fun h => .inl h, fun h => ⟨h, rfl, fun x hx => (by cases hx)⟩⟩
  | x :: r, R, R', c, c', hp, ht, h => by
    obtain ⟨hp1, hp2⟩ := List.pairwise_cons.1 hp
    have hxr : getV r x.name = none := getV_none.2 fun y hy e => hp1 y hy e.symm
    simp only [giveV] at h
    cases hg : getV own x.name with
    | some e =>
      rw [hg] at h
      simp only at h
      split at h
      · next he =>
        have he := eqEl_iff.1 he
        obtain ⟨k1, k2, k3, k4, k5, k6, k7, k8⟩ := give_spec hp2 ht h
        refine ⟨k1, fun y hy e' hy' => ?_, fun y hy hn => ?_, fun f v => ?_, k5, fun q hq y hy => ?_, fun hc => ?_, fun hc => ?_⟩
        · rcases List.mem_cons.1 hy with rfl | hy
          · rw [hg] at hy'; injection hy' with hy'; rw [← hy', he]
          · exact k2 y hy e' hy'
        · rcases List.mem_cons.1 hy with rfl | hy
          · rw [hg] at hn; cases hn
          · exact k3 y hy hn
        · rw [k4, getV_cons]
          by_cases hf : x.name = f
          · subst hf
            rw [if_neg (by rw [hg]; simp), if_neg (by rw [hg]; simp)]
          · rw [if_neg hf]
        · rcases k6 q hq y hy with h | h
          · exact .inl (by simp [h])
          · exact .inr h
        · rcases k7 hc with h | ⟨y, hy, hn⟩
          · exact .inl h
          · exact .inr ⟨y, by simp [hy], hn⟩
        · obtain ⟨a, b, d⟩ := k8 hc
          refine ⟨a, b, fun y hy => ?_⟩
          rcases List.mem_cons.1 hy with rfl | hy
          · exact ⟨e, hg⟩
          · exact d y hy
      · cases h
    | none =>
      rw [hg] at h
      simp only at h
      by_cases h0 : t < 0
      · rw [if_pos h0] at h; cases h
      · rw [if_neg h0] at h
        have hk : t.toNat < R.length := by omega
        have htn : ((t.toNat : Nat) : Int) = t := by omega
        obtain ⟨k1, k2, k3, k4, k5, k6, k7, k8⟩ := give_spec hp2 (by rw [List.length_modify]; exact ht) h
        refine ⟨by rw [k1, List.length_modify], fun y hy e' hy' => ?_, fun _ _ _ => by omega, fun f v => ?_, fun hu => k5 fun q hq => ?_, fun q hq y hy => ?_, fun hc => .inr ⟨x, by simp, hg⟩, fun hc => ?_⟩
        · rcases List.mem_cons.1 hy with rfl | hy
          · rw [hg] at hy'; cases hy'
          · exact k2 y hy e' hy'
        · rw [k4, getV_cons, comp_modify hk]
          by_cases hf : x.name = f
          · subst hf
            rw [if_neg (by rw [hxr]; simp)]
            by_cases hv : (v : Int) = t
            · rw [if_pos ⟨by omega, rfl⟩, if_pos rfl, if_pos ⟨hv, hg, rfl⟩]
            · rw [if_neg (fun h => hv (by rw [h.1, htn])), if_neg (fun h => hv h.1)]
          · rw [if_neg hf, if_neg (c := (v = t.toNat ∧ x.name = f)) (fun h => hf h.2)]
        · obtain ⟨j, hj⟩ := List.mem_iff_getElem?.1 hq
          rw [List.getElem?_modify] at hj
          obtain ⟨q0, h1, h2⟩ := Option.map_eq_some_iff.1 hj
          have := hu q0 (List.mem_of_getElem? h1)
          split at h2
          · rw [← h2]; exact withV_up this _ _
          · rw [← h2]; exact this
        · rcases k6 q hq y hy with h | ⟨q1, hq1, hy⟩
          · exact .inl (by simp [h])
          · obtain ⟨j, hj⟩ := List.mem_iff_getElem?.1 hq1
            rw [List.getElem?_modify] at hj
            obtain ⟨q0, h1, h2⟩ := Option.map_eq_some_iff.1 hj
            have hm := List.mem_of_getElem? h1
            split at h2
            · rw [← h2] at hy
              rcases mem_with hy with rfl | hy
              · exact .inl (by simp)
              · exact .inr ⟨q0, hm, hy⟩
            · rw [← h2] at hy; exact .inr ⟨q0, hm, hy⟩
        · obtain ⟨a, _⟩ := k8 hc
          cases a
theorem give_some {t : Int} {own : List Vl} : ∀ {other : List Vl} {R : List (List Vl)} {c : Bool}, (∀ x ∈ other, ∀ e, getV own x.name = some e → e = x.el) → (∀ x ∈ other, getV own x.name = none → 0 ≤ t) → ∃ p, giveV t own other R c = some p
  | [], R, c, _, _ => ⟨_, rfl⟩
  | x :: r, R, c, h1, h2 => by
    simp only [giveV]
    cases hg : getV own x.name with
    | some e =>
      simp only
      rw [if_pos (eqEl_iff.2 (h1 x (by simp) e hg))]
      exact give_some (fun y hy => h1 y (by simp [hy])) fun y hy => h2 y (by simp [hy])
    | none =>
      simp only
      rw [if_neg (by have := h2 x (by simp) hg; omega)]
      exact give_some (fun y hy => h1 y (by simp [hy])) fun y hy => h2 y (by simp [hy])
end Hd
end Go.Proofs.YthnbhcfpfbimgaaGreat
/- Rows of values in a row of one's own, one of them turned at a time. -/
namespace Go.Proofs.YthnbhcfpfbimgaaGreat
open Go.RowKit
open Rw (El At Fld)
/-- Rows of values, their slices in a row of one's own from B on. -/
structure OwR (w : World) (B C : Nat) (v : Value) (R : List (List Vl)) : Prop where
  ex : ∃ vs, RowZ w 57 1 v R.length vs ∧ (∀ g, v.ownBlock = some g → C ≤ g) ∧ ∀ (i : Nat) (r : List Vl), R[i]? = some r → ∃ u, vs[i]? = some u ∧ u.oneCell' = true ∧ Vls w B u r
theorem OwR.below {w w' : World} {B C : Nat} {v : Value} {R : List (List Vl)} (h : OwR w B C v R) (hb : Below w.heap.size w w') : OwR w' B C v R := by
  obtain ⟨⟨vs, h1, h2, h3⟩⟩ := h
  refine ⟨⟨vs, RowZ.below h1 hb, h2, fun i r hr => ?_⟩⟩
  obtain ⟨u, k1, k2, k3⟩ := h3 i r hr
  exact ⟨u, k1, k2, k3.below hb⟩
theorem OwR.rws {w : World} {B C : Nat} {v : Value} {R : List (List Vl)} (h : OwR w B C v R) : Rws w B v R := by
  obtain ⟨⟨vs, h1, h2, h3⟩⟩ := h
  refine ⟨⟨vs, SlAt.of_row h1, fun i r hr => ?_⟩⟩
  obtain ⟨u, k1, _, k3⟩ := h3 i r hr
  exact ⟨u, k1, k3⟩
theorem OwR.form {w : World} {B C : Nat} {v : Value} {R : List (List Vl)} (h : OwR w B C v R) : ∃ A c, v = .slice A R.length c ∧ R.length ≤ c ∧ c ≤ maxLen := h.rws.form
theorem OwR.at {w : World} {B C i : Nat} {v : Value} {R : List (List Vl)} (h : OwR w B C v R) (hi : i < R.length) : ∃ g c u, v = .slice (some ⟨g, 0, none⟩) R.length c ∧ C ≤ g ∧ g < w.heap.size ∧ w.cell? ⟨g, i, none⟩ = some u ∧ w.frozen? ⟨g, i, none⟩ = false ∧ u.oneCell' = true ∧ Vls w B u R[i] := by
  obtain ⟨A, c, rfl, _, _⟩ := h.form
  obtain ⟨⟨vs, h1, h2, h3⟩⟩ := h
  obtain ⟨g, rfl⟩ := RowZ.addr h1 (by omega)
  obtain ⟨u, k1, k2, k3⟩ := h3 i _ (List.getElem?_eq_getElem hi)
  exact ⟨g, c, u, rfl, h2 g rfl, RowZ.lt h1 g rfl, by rw [RowZ.cell h1 (List.getElem?_eq_some_iff.1 k1).1]; exact k1, RowZ.free h1 i, k2, k3⟩
theorem Vls.far {w : World} {B g j : Nat} {v x : Value} {l : List Vl} {cur : Array Value} (h : Vls w B v l) (hg : B ≤ g) (hc : w.heap[g]? = some (.cells cur 57 (0, 0))) : Vls (w.setCell ⟨g, j, none⟩ x) B v l :=
  ⟨h.at_.keep (by simp) fun b _ hb => Below.heap_setCell _ _ _ _ fun e => by
    change b = g at e
    subst e
    rcases hb with hb | ⟨cs, hb⟩
    · omega
    · rw [hc] at hb
      injection hb with hb
      injection hb with _ hb
      revert hb
      decide, h.small⟩
theorem OwR.set {w : World} {B C g i n c : Nat} {u : Value} {R : List (List Vl)} {l : List Vl} (h : OwR w B C (.slice (some ⟨g, 0, none⟩) n c) R) (hBC : B ≤ C) (hu : Vls w B u l) (h1 : u.oneCell' = true) : OwR (w.setCell ⟨g, i, none⟩ u) B C (.slice (some ⟨g, 0, none⟩) n c) (R.set i l) := by
  obtain ⟨⟨vs, k1, k2, k3⟩⟩ := h
  obtain ⟨cur, hc⟩ := RowZ.block k1 (g := g) rfl
  have hl : vs.length = R.length := by have := RowZ.len k1; omega
  refine ⟨⟨vs.set i u, by rw [List.length_set]; exact RowZ.set k1 i u, k2, fun j r hr => ?_⟩⟩
  by_cases hj : j = i
  · subst hj
    have hlt := (List.getElem?_eq_some_iff.1 hr).1
    rw [List.length_set] at hlt
    rw [List.getElem?_set_self hlt] at hr
    injection hr with hr
    subst hr
    exact ⟨u, List.getElem?_set_self (by omega), h1, hu.far (Nat.le_trans hBC (k2 g rfl)) hc⟩
  · rw [List.getElem?_set_ne (fun e => hj e.symm)] at hr
    obtain ⟨x, e1, e2, e3⟩ := k3 j r hr
    exact ⟨x, by rw [List.getElem?_set_ne (fun e => hj e.symm)]; exact e1, e2, e3.far (Nat.le_trans hBC (k2 g rfl)) hc⟩
theorem rws_cells {w : World} {B : Nat} {v : Value} {R : List (List Vl)} (h : Rws w B v R) : ∃ vs, SlAt w B 57 1 v R.length vs ∧ vs.length = R.length ∧ (∀ u ∈ vs, u.oneCell' = true) ∧ ∀ (i : Nat) (r : List Vl), R[i]? = some r → ∃ u, vs[i]? = some u ∧ u.oneCell' = true ∧ Vls w B u r := by
  obtain ⟨⟨vs, h1, h2⟩⟩ := h
  have hl : vs.length = R.length := by
    obtain ⟨A, c, _, _, _, h4, _⟩ := h1.ex
    omega
  have key : ∀ (i : Nat) (r : List Vl), R[i]? = some r → ∃ u, vs[i]? = some u ∧ u.oneCell' = true ∧ Vls w B u r := fun i r hr => by
    obtain ⟨u, k1, k2⟩ := h2 i r hr
    obtain ⟨A, c, rfl, _⟩ := SlAt.form k2.at_
    exact ⟨_, k1, rfl, k2⟩
  refine ⟨vs, h1, hl, fun u hu => ?_, key⟩
  obtain ⟨i, hi, rfl⟩ := List.mem_iff_getElem.1 hu
  obtain ⟨u', k1, k2, _⟩ := key i R[i] (List.getElem?_eq_getElem (by omega))
  rw [List.getElem?_eq_getElem hi] at k1
  injection k1 with k1
  rw [k1]
  exact k2
/-- Rows of values copied to a row of one's own. -/
theorem OwR.copy {w0 w' : World} {B C : Nat} {v : Value} {R : List (List Vl)} {vs : List Value} (hr : RowZ w' 57 1 v R.length vs) (ho : ∀ g, v.ownBlock = some g → C ≤ g) (hb : Below w0.heap.size w0 w') (h : ∀ (i : Nat) (r : List Vl), R[i]? = some r → ∃ u, vs[i]? = some u ∧ u.oneCell' = true ∧ Vls w0 B u r) : OwR w' B C v R := by
  refine ⟨⟨vs, hr, ho, fun i r hi => ?_⟩⟩
  obtain ⟨u, k1, k2, k3⟩ := h i r hi
  exact ⟨u, k1, k2, k3.below hb⟩
theorem info_vls : ∃ i, Tryz.prog.info? 57 = some i ∧ i.zero = some (.slice none 0 0) ∧ i.size = 1 ∧ i.bytes = 24 := by
  obtain ⟨i, h⟩ := Option.isSome_iff_exists.1 (show (Tryz.prog.info? 57).isSome = true by kernel_rfl)
  refine ⟨i, h, ?_, ?_, ?_⟩
  · have : (Tryz.prog.info? 57).bind (·.zero) = some (.slice none 0 0) := by kernel_rfl
    rw [h] at this; exact this
  · have : (Tryz.prog.info? 57).map (·.size) = some 1 := by kernel_rfl
    rw [h] at this; simpa using this
  · have : (Tryz.prog.info? 57).map (·.bytes) = some 24 := by kernel_rfl
    rw [h] at this; simpa using this
theorem asn_info : (Tryz.prog.info? 32).map (·.size) = some 2 := by kernel_rfl
theorem results_cell_two {fn : Func} {tmps : Array Value} {k j i : Nat} {T : TypeId} {p : Addr} {v : Value} {w : World} (hres : fn.results = #[.cell k T, .tmp j, .tmp i]) (hp : tmps.getD k undef = .pointer (some p)) (hl : (loadVar T p).run Tryz.prog w = .ok v w) : (results fn tmps).run Tryz.prog w = .ok (.tuple #[v, tmps.getD j undef, tmps.getD i undef]) w := by
  simp only [results, hres, List.mapM_toArray, List.mapM_cons, List.mapM_nil, hp, asAddr]
  simp [hl]
theorem ld_asn {w : World} {p : Nat} {a b : Value} (h : w.heap[p]? = some (.cells #[a, b] 32 (0, 0))) : (loadVar 32 ⟨p, 0, none⟩).run Tryz.prog w = .ok (.agg #[a, b]) w :=
  run_loadVar_row _ p _ _ _ (0, 0) _ h Tryz.underlying32 rfl asn_info
theorem modify_is_set {R : List (List Vl)} {k : Nat} (hk : k < R.length) (f : List Vl → List Vl) : R.modify k f = R.set k (f R[k]) := by
  rw [List.modify_eq_set]
  simp [List.getElem?_eq_getElem hk]
theorem Hd.give_len {t : Int} {own : List Vl} {N : Nat} : ∀ {other : List Vl} {R R' : List (List Vl)} {c c' : Bool}, (∀ r ∈ R, r.length ≤ N) → Hd.giveV t own other R c = some (R', c') → ∀ r ∈ R', r.length ≤ N + other.length
  | [], R, R', c, c', hN, h => by
    simp only [Hd.giveV] at h
    injection h with h
    injection h with h1 h2
    subst h1
    exact hN
  | x :: r, R, R', c, c', hN, h => by
    have go : ∀ {N' : Nat} {Q : List (List Vl)} {d : Bool}, (∀ r ∈ Q, r.length ≤ N') → N' ≤ N + 1 → Hd.giveV t own r Q d = some (R', c') → ∀ q ∈ R', q.length ≤ N + (x :: r).length := fun {N' Q d} hQ hN' hg q hq => by
      have := Hd.give_len hQ hg q hq
      simp only [List.length_cons]
      omega
    simp only [Hd.giveV] at h
    cases hg : Hd.getV own x.name with
    | some e =>
      rw [hg] at h
      simp only at h
      split at h
      · exact go hN (by omega) h
      · cases h
    | none =>
      rw [hg] at h
      simp only at h
      by_cases h0 : t < 0
      · rw [if_pos h0] at h; cases h
      · rw [if_neg h0] at h
        refine go (N' := N + 1) (fun q hq => ?_) (Nat.le_refl _) h
        obtain ⟨j, hj⟩ := List.mem_iff_getElem?.1 hq
        rw [List.getElem?_modify] at hj
        obtain ⟨q0, h1, h2⟩ := Option.map_eq_some_iff.1 hj
        have := hN q0 (List.mem_of_getElem? h1)
        split at h2
        · rw [← h2]; have := Hd.withV_len q0 x.name x.el; omega
        · rw [← h2]; omega
end Go.Proofs.YthnbhcfpfbimgaaGreat
