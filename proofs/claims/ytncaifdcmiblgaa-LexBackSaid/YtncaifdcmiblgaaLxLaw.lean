/- The plain law of lines, further: the ways through a line, where the pieces stand, what stands ahead of a fault, and the text of pieces read again. -/
import Derived.Test.YtncaifdcmiblgaaLxTextR
namespace Go.Proofs.Ytncaifdcmiblgaa.Lx

inductive Way (s : ByteArray) : Nat → List T → Prop
  | start : Way s 0 []
  | skip {i n : Nat} {out : List T} (h : Way s i out) (hi : i < s.size) (hl : look s i = .skip n) : Way s n out
  | tok {i n : Nat} {out : List T} {t : T} (h : Way s i out) (hi : i < s.size) (hl : look s i = .tok t n) : Way s n (out ++ [t])

theorem Way.reach {s : ByteArray} {i : Nat} {out : List T} (h : Way s i out) : Reach s i out := by
  induction h with
  | start => exact reach_start s
  | skip h hi hl ih => exact reach_skip ih hi hl
  | tok h hi hl ih => exact reach_tok ih hi hl

theorem way_total (s : ByteArray) : ∀ (f i : Nat) (out : List T), Way s i out → s.size - i < f → ∃ j o, Way s j o ∧
    ((¬ j < s.size ∧ read s = (o, none)) ∨ (j < s.size ∧ look s j = .stop ∧ read s = (o, none)) ∨ (j < s.size ∧ look s j = .bad ∧ read s = ([], some j)))
  | 0, _, _, _, h => by omega
  | f + 1, i, out, hw, h => by
    by_cases hi : i < s.size
    · cases hl : look s i with
      | stop => exact ⟨i, out, hw, .inr (.inl ⟨hi, hl, reach_stop hw.reach hi hl⟩)⟩
      | bad => exact ⟨i, out, hw, .inr (.inr ⟨hi, hl, reach_bad hw.reach hi hl⟩)⟩
      | tok t n => have := readF_next (.inr ⟨t, hl⟩); exact way_total s f n _ (hw.tok hi hl) (by omega)
      | skip n => have := readF_next (.inl hl); exact way_total s f n _ (hw.skip hi hl) (by omega)
    · exact ⟨i, out, hw, .inl ⟨hi, reach_end hw.reach hi⟩⟩

def blank (c : Nat) : Prop := c = 32 ∨ c = 9
theorem look_skip {s : ByteArray} {i n : Nat} (h : look s i = .skip n) : (Nm.byte s i = 32 ∨ Nm.byte s i = 9) ∧ n = i + 1 := by
  unfold look at h
  split at h
  · rename_i hb; cases h; exact ⟨hb, rfl⟩
  split at h
  · cases h
  split at h
  · cases h
  split at h <;> cases h
def Com (s : ByteArray) (i : Nat) : Prop := Nm.byte s i = 45 ∧ i + 1 < s.size ∧ Nm.byte s (i + 1) = 45
theorem look_tok {s : ByteArray} {i n : Nat} {t : T} (h : look s i = .tok t n) : ¬ (Nm.byte s i = 32 ∨ Nm.byte s i = 9) ∧ ¬ Com s i ∧
    ((sg (Nm.byte s i) = true ∧ t = ⟨Nm.byte s i, s.extract i (i + 1), i⟩ ∧ n = i + 1) ∨
     (sg (Nm.byte s i) = false ∧ Nm.right (s.extract i (end_ s i)) = true ∧ t = ⟨97, s.extract i (end_ s i), i⟩ ∧ n = end_ s i)) := by
  unfold look at h
  split at h
  · cases h
  rename_i h1
  split at h
  · cases h
  rename_i h2
  refine ⟨h1, h2, ?_⟩
  split at h
  · rename_i h3; cases h; exact .inl ⟨h3, rfl, rfl⟩
  rename_i h3
  split at h
  · rename_i h4; cases h; exact .inr ⟨by simpa using h3, h4, rfl, rfl⟩
  · cases h
theorem look_skip_mk {s : ByteArray} {i : Nat} (h : Nm.byte s i = 32 ∨ Nm.byte s i = 9) : look s i = .skip (i + 1) := by
  unfold look; rw [if_pos h]
theorem look_sign_mk {s : ByteArray} {i : Nat} (h1 : ¬ (Nm.byte s i = 32 ∨ Nm.byte s i = 9)) (h2 : ¬ Com s i) (h3 : sg (Nm.byte s i) = true) : look s i = .tok ⟨Nm.byte s i, s.extract i (i + 1), i⟩ (i + 1) := by
  have h2' : ¬ (Nm.byte s i = 45 ∧ i + 1 < s.size ∧ Nm.byte s (i + 1) = 45) := h2
  unfold look; rw [if_neg h1, if_neg h2', if_pos h3]
theorem look_name_mk {s : ByteArray} {i : Nat} (h1 : ¬ (Nm.byte s i = 32 ∨ Nm.byte s i = 9)) (h2 : ¬ Com s i) (h3 : sg (Nm.byte s i) = false) (h4 : Nm.right (s.extract i (end_ s i)) = true) :
    look s i = .tok ⟨97, s.extract i (end_ s i), i⟩ (end_ s i) := by
  have h2' : ¬ (Nm.byte s i = 45 ∧ i + 1 < s.size ∧ Nm.byte s (i + 1) = 45) := h2
  unfold look; rw [if_neg h1, if_neg h2', if_neg (by simp [h3]), if_pos h4]

theorem byte_extract {s : ByteArray} {i n j : Nat} (h : i + j < n) : Nm.byte (s.extract i n) j = Nm.byte s (i + j) := by
  unfold Nm.byte
  congr 1
  rw [List.getD_eq_getElem?_getD, List.getD_eq_getElem?_getD]
  congr 1
  simp [List.getElem?_take, List.getElem?_drop]
  intro h'
  omega
theorem size_extract {s : ByteArray} {i n : Nat} (h : n ≤ s.size) : (s.extract i n).size = n - i := by
  simp; omega

theorem end_spec (s : ByteArray) : ∀ (f i : Nat), s.size - i < f → i ≤ s.size → (∀ j, i ≤ j → j < end_ s i → Nm.goes (Nm.byte s j) = true) ∧ (end_ s i < s.size → Nm.goes (Nm.byte s (end_ s i)) = false)
  | 0, _, h, _ => by omega
  | f + 1, i, h, hi => by
    by_cases hg : i < s.size ∧ Nm.goes (Nm.byte s i) = true
    · have he := end_step hg.1 hg.2
      obtain ⟨h1, h2⟩ := end_spec s f (i + 1) (by omega) (by omega)
      rw [he] at h1 h2
      refine ⟨fun j hj hlt => ?_, h2⟩
      rcases Nat.eq_or_lt_of_le hj with rfl | hj'
      · exact hg.2
      · exact h1 j hj' hlt
    · rw [end_stop hg]
      refine ⟨fun j _ _ => by omega, fun hlt => ?_⟩
      cases hgo : Nm.goes (Nm.byte s i)
      · rfl
      · exact absurd ⟨hlt, hgo⟩ hg
theorem end_unique (s : ByteArray) : ∀ (d i m : Nat), m = i + d → m ≤ s.size → (∀ j, i ≤ j → j < m → Nm.goes (Nm.byte s j) = true) → (m < s.size → Nm.goes (Nm.byte s m) = false) → end_ s i = m
  | 0, i, m, hm, hs, h1, h2 => by
    obtain rfl : m = i := by omega
    refine end_stop ?_
    rintro ⟨h3, h4⟩
    rw [h2 h3] at h4; cases h4
  | d + 1, i, m, hm, hs, h1, h2 => by
    rw [← end_step (by omega) (h1 i (by omega) (by omega))]
    exact end_unique s d (i + 1) m (by omega) hs (fun j hj hlt => h1 j (by omega) hlt) h2

/-- Where the piece ahead of a place ends. -/
def ends (l : List T) (k : Nat) : Nat := match k with | 0 => 0 | k + 1 => match l[k]? with | some t => t.pos.toNat + t.text.size | none => 0
/-- Each piece stands where it says. -/
def Good (s : ByteArray) (l : List T) : Prop := ∀ (k : Nat) (t : T), l[k]? = some t → ∃ p : Nat, t.pos = p ∧ ends l k ≤ p ∧ p + t.text.size ≤ s.size ∧ s.extract p (p + t.text.size) = t.text ∧ ok t = true ∧
  ∀ j, ends l k ≤ j → j < p → blank (Nm.byte s j)
theorem ends_snoc {l : List T} {t : T} {k : Nat} (h : k ≤ l.length) : ends (l ++ [t]) k = ends l k := by
  cases k with
  | zero => rfl
  | succ k => simp only [ends]; rw [List.getElem?_append_left (by omega)]
theorem ok_sign {c : Nat} {x : ByteArray} {p : Int} (hs : sg c = true) (hx : x.size = 1) (hb : Nm.byte x 0 = c) : ok ⟨c, x, p⟩ = true := by
  have hc : c ≠ 97 := by rintro rfl; cases hs
  simp [ok, hc, hx, hb, hs]
theorem Way.good {s : ByteArray} {i : Nat} {out : List T} (h : Way s i out) : i ≤ s.size ∧ Good s out ∧ ends out out.length ≤ i ∧ ∀ j, ends out out.length ≤ j → j < i → blank (Nm.byte s j) := by
  induction h with
  | start => exact ⟨Nat.zero_le _, fun k t h => by simp at h, Nat.le_refl _, fun j _ h => by omega⟩
  | @skip i n out h hi hl ih =>
    obtain ⟨h1, h2, h3, h4⟩ := ih
    obtain ⟨hb, rfl⟩ := look_skip hl
    refine ⟨hi, h2, by omega, fun j hj hlt => ?_⟩
    rcases Nat.lt_or_ge j _ with h' | h'
    · exact h4 j hj h'
    · obtain rfl : j = i := by omega
      exact hb
  | @tok i n out t h hi hl ih =>
    obtain ⟨h1, h2, h3, h4⟩ := ih
    obtain ⟨hb, hc, hk⟩ := look_tok hl
    have key : t.pos = i ∧ n ≤ s.size ∧ i ≤ n ∧ t.text = s.extract i n ∧ ok t = true := by
      rcases hk with ⟨g1, rfl, rfl⟩ | ⟨g1, g2, rfl, rfl⟩
      · refine ⟨rfl, hi, by omega, rfl, ok_sign g1 (by rw [size_extract hi]; omega) ?_⟩
        rw [byte_extract (by omega)]; rfl
      · exact ⟨rfl, end_size (by omega), end_le s i, rfl, by simp [ok, g2]⟩
    obtain ⟨k1, k2, k3, k4, k5⟩ := key
    have hsz : t.text.size = n - i := by rw [k4, size_extract k2]
    have hend : ends (out ++ [t]) (out ++ [t]).length = n := by
      rw [List.length_append, List.length_singleton]
      simp only [ends]
      rw [List.getElem?_append_right (Nat.le_refl _)]
      simp only [Nat.sub_self, List.getElem?_cons_zero]
      rw [k1, hsz]; omega
    refine ⟨k2, ?_, by omega, fun j _ _ => by omega⟩
    intro k u hu
    rcases Nat.lt_or_ge k out.length with hlt | hge
    · rw [List.getElem?_append_left hlt] at hu
      rw [ends_snoc (by omega)]
      exact h2 k u hu
    · have hkl := (List.getElem?_eq_some_iff.1 hu).1
      simp at hkl
      obtain rfl : k = out.length := by omega
      rw [List.getElem?_append_right (Nat.le_refl _)] at hu
      simp at hu
      subst hu
      rw [ends_snoc (Nat.le_refl _)]
      refine ⟨i, k1, h3, by omega, ?_, k5, h4⟩
      rw [hsz, show i + (n - i) = n by omega, ← k4]

/-- What a line's pieces are, or what is known of the fault. -/
theorem read_good (s : ByteArray) : ((read s).2 = none ∧ Good s (read s).1) ∨ ∃ i, i < s.size ∧ read s = ([], some i) ∧ (read (s.extract 0 i)).2 = none := by
  obtain ⟨i, out, hw, h⟩ := way_total s (s.size + 1) 0 [] .start (by omega)
  rcases h with ⟨_, h⟩ | ⟨_, _, h⟩ | ⟨hi, hbad, h⟩
  · left; rw [h]; exact ⟨rfl, hw.good.2.1⟩
  · left; rw [h]; exact ⟨rfl, hw.good.2.1⟩
  · right
    refine ⟨i, hi, h, ?_⟩
    have hps : (s.extract 0 i).size = i := by rw [size_extract (by omega)]; omega
    have hpb : ∀ j, j < i → Nm.byte (s.extract 0 i) j = Nm.byte s j := fun j hj => by rw [byte_extract (by omega), Nat.zero_add]
    have hex : ∀ a b, b ≤ i → (s.extract 0 i).extract a b = s.extract a b := fun a b hb => by
      apply ByteArray.ext
      simp only [ByteArray.data_extract, Array.extract_extract]
      rw [Nat.zero_add, Nat.zero_add, Nat.min_eq_left hb]
    have key : ∀ n o, Way s n o → n ≤ i → Way (s.extract 0 i) n o := by
      intro n o hw
      induction hw with
      | start => exact fun _ => .start
      | @skip j n out h hj hl ih =>
        intro hn
        have hlt := readF_next (.inl hl)
        obtain ⟨hb, rfl⟩ := look_skip hl
        exact (ih (by omega)).skip (by omega) (look_skip_mk (by rw [hpb j (by omega)]; exact hb))
      | @tok j n out t h hj hl ih =>
        intro hn
        have hlt := readF_next (.inr ⟨t, hl⟩)
        obtain ⟨hb, hc, hk⟩ := look_tok hl
        refine (ih (by omega)).tok (by omega) ?_
        have hb' : ¬ (Nm.byte (s.extract 0 i) j = 32 ∨ Nm.byte (s.extract 0 i) j = 9) := by rw [hpb j (by omega)]; exact hb
        have hc' : ¬ Com (s.extract 0 i) j := by
          rintro ⟨c1, c2, c3⟩
          rw [hps] at c2
          rw [hpb _ (by omega)] at c1 c3
          exact hc ⟨c1, by omega, c3⟩
        rcases hk with ⟨g1, rfl, rfl⟩ | ⟨g1, g2, rfl, rfl⟩
        · have := look_sign_mk hb' hc' (by rw [hpb j (by omega)]; exact g1)
          rw [this, hpb j (by omega), hex _ _ (by omega)]
        · have hsp := end_spec s (s.size + 1) j (by omega) (by omega)
          have he : end_ (s.extract 0 i) j = end_ s j := by
            refine end_unique _ (end_ s j - j) j _ (by omega) (by omega) (fun a ha hb => ?_) (fun hlt => ?_)
            · rw [hpb a (by omega)]; exact hsp.1 a ha hb
            · rw [hpb _ (by omega)]; exact hsp.2 (by omega)
          have := look_name_mk hb' hc' (by rw [hpb j (by omega)]; exact g1) (by rw [he, hex _ _ (by omega)]; exact g2)
          rw [this, he, hex _ _ (by omega)]
    have := reach_end (key i out hw (Nat.le_refl _)).reach (by omega)
    rw [this]
end Go.Proofs.Ytncaifdcmiblgaa.Lx
