/- What is read may be, and is told in so many bytes: the plain law. -/
import Derived.Test.YtnnhkajjifmlfaaDoorT1
namespace Go.Proofs.YtnnhkajjifmlfaaDoor
open Go.RowKit Go.Maps

section
variable {s : ByteArray}
/-- parts that are told one more -/
theorem items_snoc (k : Int) (nm : List ByteArray) (j : J) : ∀ (list : List J) (names : List ByteArray) (first : Bool), (k = 6 → names.length = list.length) → (k ≠ 6 → names = []) →
    itemsJ k first (names ++ nm) (list ++ [j]) = itemsJ k first names list ++ itemsJ k (first && list.isEmpty) nm [j]
  | [], names, first, h6, h5 => by
    have : names = [] := by
      by_cases e : k = 6
      · exact List.eq_nil_of_length_eq_zero (h6 e)
      · exact h5 e
    subst this
    rw [items_nil]
    simp
  | x :: r, names, first, h6, h5 => by
    by_cases e : k = 6
    · cases names with
      | nil => have := h6 e; simp at this
      | cons a ns =>
        have ih := items_snoc k nm j r ns false (fun e => by have := h6 e; simpa using this) (fun e' => absurd e e')
        simp only [List.cons_append]
        rw [itemsJ, itemsJ]
        simp only [List.tail_cons]
        rw [ih]
        have hn : nameL k (a :: (ns ++ nm)) = nameL k (a :: ns) := by unfold nameL; rfl
        rw [hn]
        simp
    · have hnil := h5 e
      subst hnil
      have ih := items_snoc k nm j r [] false (fun e' => absurd e' e) (fun _ => rfl)
      have ht : itemsJ k false ([] ++ nm).tail (r ++ [j]) = itemsJ k false ([] ++ nm) (r ++ [j]) := by
        have key : ∀ (l : List J) (f : Bool) (n1 n2 : List ByteArray), itemsJ k f n1 l = itemsJ k f n2 l := by
          intro l
          induction l with
          | nil => intro f n1 n2; rw [items_nil, items_nil]
          | cons y l ihl =>
            intro f n1 n2
            rw [itemsJ, itemsJ, ihl false n1.tail n2.tail]
            have : nameL k n1 = nameL k n2 := by unfold nameL; rw [if_neg e, if_neg e]
            rw [this]
        exact key _ _ _ _
      have hn : nameL k ([] ++ nm) = nameL k [] := by unfold nameL; rw [if_neg e, if_neg e]
      rw [List.cons_append, itemsJ, itemsJ, ht, ih, hn]
      simp
theorem needS_ok : ∀ (t : List Nat) {σ : PS}, σ.p ≤ s.size → (needS s t σ).e = 0 → (needS s t σ).p = σ.p + t.length
  | [], σ, _, _ => rfl
  | c :: r, σ, hp, h => by
    rw [needS] at h ⊢
    by_cases ht : takeB s σ c
    · rw [if_pos ht] at h ⊢
      have e : takeS s σ c = stepP σ := tkS_yes ht
      have hle := takeS_le (s := s) (c := c) hp
      have := needS_ok r hle h
      rw [this, e]
      show σ.p + 1 + r.length = _
      simp only [List.length_cons]; omega
    · rw [if_neg ht] at h ⊢
      exfalso
      have hf := goes_fail (s := s) hp 4 (σ.p : Int) (by decide)
      have hg := goes_need (s := s) r hf.le
      have hfe : (failS σ 4 σ.p).e ≠ 0 := by
        unfold failS
        split
        · simp
        · rename_i h0; exact h0
      exact hg.er hfe h
theorem textF_len : ∀ (n : Nat) (acc : List UInt8) {σ : PS}, σ.p ≤ s.size → (textF s n acc σ).2.e = 0 → (textF s n acc σ).1.length + σ.p ≤ acc.length + (textF s n acc σ).2.p
  | 0, acc, σ, _, _ => by rw [textF]; exact Nat.le_refl _
  | n + 1, acc, σ, hp, h => by
    rw [textF] at h ⊢
    by_cases he : σ.e = 0
    · rw [if_pos he] at h ⊢
      by_cases h1 : takeB s σ 34
      · rw [if_pos h1] at h ⊢
        have := takeS_p s σ 34
        simp only; omega
      · rw [if_neg h1] at h ⊢
        by_cases h2 : nextS s σ < 32
        · rw [if_pos h2] at h ⊢
          exfalso
          have hf := goes_fail (s := s) hp 4 (σ.p : Int) (by decide)
          have hg := goes_textF (s := s) n acc hf.le
          exact hg.er (by unfold failS; rw [if_pos he]; simp) h
        · rw [if_neg h2] at h ⊢
          by_cases h3 : takeB s σ 92
          · rw [if_pos h3] at h ⊢
            have e : takeS s σ 92 = stepP σ := tkS_yes h3
            have g1 := goes_take (s := s) hp 92
            have g2 := goes_esc (s := s) g1.le
            have := textF_len n _ g2.le h
            have hge := g2.ge
            rw [e] at this hge ⊢
            have hsp : (stepP σ).p = σ.p + 1 := rfl
            simp only [List.length_append, List.length_singleton] at this
            omega
          · rw [if_neg h3] at h ⊢
            have g1 := goes_step (s := s) (σ := σ) (by omega)
            have := textF_len n _ g1.le h
            have hsp : (stepP σ).p = σ.p + 1 := rfl
            simp only [List.length_append, List.length_singleton] at this
            omega
    · rw [if_neg he] at h; exact absurd h he
/-- a text in quotes takes this many bytes -/
theorem textS_len {σ : PS} (hp : σ.p ≤ s.size) (h : (textS s σ).2.e = 0) : (textS s σ).1.length + σ.p + 1 ≤ (textS s σ).2.p := by
  unfold textS at h ⊢
  have g1 := goes_need (s := s) (nats ⟨#[34]⟩) hp
  have g2 := goes_textF (s := s) (s.size + 2) [] g1.le
  have h0 : (needS s (nats ⟨#[34]⟩) σ).e = 0 := by
    by_cases h0 : (needS s (nats ⟨#[34]⟩) σ).e = 0
    · exact h0
    · exact absurd h (g2.er h0)
  have e1 := needS_ok (s := s) (nats ⟨#[34]⟩) hp h0
  have e2 := textF_len (s := s) (s.size + 2) [] g1.le h
  have e3 : (nats ⟨#[34]⟩).length = 1 := rfl
  simp only [List.length_nil] at e2
  omega
theorem quoteA_len (l : List UInt8) : (quoteL ⟨l.toArray⟩).length ≤ 6 * l.length + 2 := by
  have := quoteL_len ⟨l.toArray⟩
  have e : (⟨l.toArray⟩ : ByteArray).size = l.length := by show l.toArray.size = _; simp
  omega
theorem pi_range {l : List UInt8} (h : PIok l = true) : -9223372036854775808 ≤ PIn l ∧ PIn l ≤ 9223372036854775807 := by
  unfold PIok at h
  unfold PIn
  cases hp : Lib.parseIntB 64 l with
  | ok v =>
    simp only
    unfold Lib.parseIntB at hp
    split at hp
    · cases hp
    · simp only at hp
      split at hp
      · cases hp
      · cases hp
      · split at hp
        · cases hp
        · split at hp
          · cases hp
          · injection hp with hp
            rename_i c r _ u _ h1 h2
            split at hp <;> omega
  | _ => rw [hp] at h; cases h

/-- a value that was read from a to b -/
def Good (m : Nat) (j : J) (a b : Nat) : Prop := JBd j ∧ fineP j = true ∧ deepP j m = false ∧ (textJ j).length + 30 * a ≤ 30 * b ∧ a < b
theorem Good.from {m : Nat} {j : J} {a a' b : Nat} (h : Good m j a b) (ha : a' ≤ a) : Good m j a' b := by
  obtain ⟨h1, h2, h3, h4, h5⟩ := h
  exact ⟨h1, h2, h3, by omega, by omega⟩
def ValGood (s : ByteArray) (val : PS → J × PS) (m : Nat) : Prop := ∀ σ : PS, σ.p ≤ s.size → (val σ).2.e = 0 → Good m (val σ).1 σ.p (val σ).2.p
theorem JBd.bare {k n : Int} (h0 : -9223372036854775808 ≤ n) (h1 : n ≤ 9223372036854775807) : JBd (YtnnhkajjifmlfaaDoor.bare k n) := .mk h0 h1 (by decide) (by simp) (by simp) (fun x hx => by cases hx) (fun x hx => by cases hx)
theorem er_of {σ τ : PS} (g : Goes s σ τ) (h : τ.e = 0) : σ.e = 0 := by
  by_cases e : σ.e = 0
  · exact e
  · exact absurd h (g.er e)

/-- what the loop has -/
structure LI (s : ByteArray) (m : Nat) (kind : Int) (names : List ByteArray) (list : List J) (p0 p : Nat) : Prop where
  each : ∀ j ∈ list, JBd j ∧ fineP j = true ∧ deepP j m = false
  six : kind = 6 → names.length = list.length
  five : kind ≠ 6 → names = []
  nm : ∀ x ∈ names, x.size ≤ s.size
  len : list.length + p0 ≤ p
  sz : (itemsJ kind true names list).length + 30 * p0 ≤ 30 * p
theorem LI.to {m : Nat} {kind : Int} {names : List ByteArray} {list : List J} {p0 p p' : Nat} (h : LI s m kind names list p0 p) (hp : p ≤ p') : LI s m kind names list p0 p' :=
  ⟨h.each, h.six, h.five, h.nm, by have := h.len; omega, by have := h.sz; omega⟩
theorem LI.more {m : Nat} {kind : Int} {names nm : List ByteArray} {list : List J} {j : J} {p0 p p' : Nat} (h : LI s m kind names list p0 p) (hj : JBd j ∧ fineP j = true ∧ deepP j m = false)
    (hn : (kind = 6 → nm.length = 1) ∧ (kind ≠ 6 → nm = []) ∧ ∀ x ∈ nm, x.size ≤ s.size) (hp : p < p') (hl : (nameL kind nm).length + (textJ j).length + 1 + 30 * p ≤ 30 * p') : LI s m kind (names ++ nm) (list ++ [j]) p0 p' := by
  refine ⟨?_, ?_, ?_, ?_, ?_, ?_⟩
  · intro x hx
    rcases List.mem_append.1 hx with hx | hx
    · exact h.each x hx
    · rw [List.mem_singleton.1 hx]; exact hj
  · intro e
    rw [List.length_append, List.length_append, h.six e, hn.1 e]; rfl
  · intro e
    rw [h.five e, hn.2.1 e]; rfl
  · intro x hx
    rcases List.mem_append.1 hx with hx | hx
    · exact h.nm x hx
    · exact hn.2.2 x hx
  · have := h.len
    simp only [List.length_append, List.length_singleton]; omega
  · rw [items_snoc kind nm j list names true h.six h.five]
    have e : itemsJ kind (true && list.isEmpty) nm [j] = (if (true && list.isEmpty) = true then [] else [44]) ++ (nameL kind nm ++ (textJ j ++ [])) := by
      rw [itemsJ, items_nil]
    rw [e]
    have e1 : (if (true && list.isEmpty) = true then ([] : List UInt8) else [44]).length ≤ 1 := by split <;> simp
    have := h.sz
    simp only [List.length_append, List.length_nil]
    omega
theorem LI.good {m : Nat} {kind : Int} {names : List ByteArray} {list : List J} {p0 p : Nat} (hs : s.size ≤ 1048576) (hk : kind = 5 ∨ kind = 6) (h : LI s m kind names list (p0 + 1) p) (hp : p ≤ s.size) : Good (m + 1) (.mk kind 0 ⟨#[]⟩ names list) p0 p := by
  have hln := h.len
  have hsz := h.sz
  have hnl : names.length ≤ list.length := by
    by_cases e : kind = 6
    · rw [h.six e]; exact Nat.le_refl _
    · rw [h.five e]; exact Nat.zero_le _
  refine ⟨.mk (by decide) (by decide) (by decide) (by omega) (by omega) (fun x hx => by have := h.nm x hx; omega) (fun x hx => (h.each x hx).1), ?_, ?_, ?_, by omega⟩
  · have hf : finePs list = true := finePs_of fun x hx => (h.each x hx).2.1
    rw [fineP]
    rcases hk with rfl | rfl
    · have := h.five (by decide)
      subst this
      simp [hf]; rfl
    · have := h.six rfl
      simp [hf, this]; rfl
  · have : deepPs list (m + 1) = false := deepPs_of fun x hx => (h.each x hx).2.2
    rw [deepP, this]; simp
  · have e : textJ (.mk kind 0 ⟨#[]⟩ names list) = opn kind :: (itemsJ kind true names list ++ [cls kind]) := by
      rw [textJ]
      rcases hk with rfl | rfl <;> rfl
    rw [e]
    simp only [List.length_cons, List.length_append, List.length_nil]
    omega
theorem good_manyF {val : PS → J × PS} {m : Nat} (hs : s.size ≤ 1048576) (hv : ValGoes s val) (hg : ValGood s val m) {kind en : Int} (hk : kind = 5 ∨ kind = 6) (p0 : Nat) : ∀ (n : Nat) (names : List ByteArray) (list : List J) {σ : PS}, σ.p ≤ s.size →
    LI s m kind names list (p0 + 1) σ.p → (manyF s val kind en n names list σ).2.e = 0 → Good (m + 1) (manyF s val kind en n names list σ).1 p0 (manyF s val kind en n names list σ).2.p
  | 0, names, list, σ, hp, hI, h => by rw [manyF]; exact hI.good hs hk hp
  | n + 1, names, list, σ, hp, hI, h => by
    have he : σ.e = 0 := er_of (goes_manyF hv kind en (n + 1) names list hp) h
    rw [manyF, if_pos he] at h ⊢
    simp only at h ⊢
    have g1 := goes_blanks (s := s) hp
    have g2 := goes_name (s := s) g1.le kind names
    have g3 := hv _ g2.le
    have g4 := goes_blanks (s := s) g3.le
    have hok : (blanksS s (val (nameS s kind names (blanksS s σ)).2).2).e = 0 := by
      by_cases hT : takeB s (blanksS s (val (nameS s kind names (blanksS s σ)).2).2) en
      · rw [if_pos hT] at h
        exact er_of (goes_take g4.le en) h
      · rw [if_neg hT] at h
        have g5 := goes_need (s := s) (nats ⟨#[44]⟩) g4.le
        exact er_of (g5.trans (goes_manyF hv kind en n _ _ g5.le)) h
    have hve : (val (nameS s kind names (blanksS s σ)).2).2.e = 0 := er_of g4 hok
    have hne : (nameS s kind names (blanksS s σ)).2.e = 0 := er_of g3 hve
    have hG := hg _ g2.le hve
    obtain ⟨nm, hnm, hn6, hnl⟩ : ∃ nm : List ByteArray, (nameS s kind names (blanksS s σ)).1 = names ++ nm ∧ ((kind = 6 → nm.length = 1) ∧ (kind ≠ 6 → nm = []) ∧ ∀ x ∈ nm, x.size ≤ s.size) ∧ (nameL kind nm).length + 30 * (blanksS s σ).p ≤ 30 * (nameS s kind names (blanksS s σ)).2.p := by
      unfold nameS at hne ⊢
      by_cases e6 : kind = 6
      · rw [if_pos e6] at hne ⊢
        simp only at hne ⊢
        have t1 := goes_text (s := s) g1.le
        have t2 := goes_blanks (s := s) t1.le
        have t3 := goes_need (s := s) (nats ⟨#[58]⟩) t2.le
        have e1 : (blanksS s (textS s (blanksS s σ)).2).e = 0 := er_of t3 hne
        have e2 : (textS s (blanksS s σ)).2.e = 0 := er_of t2 e1
        have l1 := textS_len (s := s) g1.le e2
        have l2 := needS_ok (s := s) (nats ⟨#[58]⟩) t2.le hne
        have l3 : (nats ⟨#[58]⟩).length = 1 := rfl
        have l4 := quoteA_len (textS s (blanksS s σ)).1
        have l5 := t2.ge
        have l6 := t1.le
        refine ⟨[⟨(textS s (blanksS s σ)).1.toArray⟩], rfl, ⟨fun _ => rfl, fun e => absurd e6 e, fun x hx => ?_⟩, ?_⟩
        · rw [List.mem_singleton.1 hx]
          show (textS s (blanksS s σ)).1.toArray.size ≤ _
          rw [List.size_toArray]; omega
        · unfold nameL
          rw [if_pos e6]
          simp only [List.headD_cons, List.length_append, List.length_singleton]
          omega
      · rw [if_neg e6]
        refine ⟨[], by simp, ⟨fun e => absurd e e6, fun _ => rfl, fun x hx => by cases hx⟩, ?_⟩
        unfold nameL
        rw [if_neg e6]
        exact Nat.le_of_eq (by simp)
    obtain ⟨G1, G2, G3, G4, G5⟩ := hG
    have q1 := g1.ge
    have q4 := g4.ge
    have q2 := g2.ge
    by_cases hT : takeB s (blanksS s (val (nameS s kind names (blanksS s σ)).2).2) en
    · rw [if_pos hT] at h ⊢
      have eT := tkS_yes hT
      have hle := (goes_take g4.le en).le
      rw [eT] at hle ⊢
      have hsp : (stepP (blanksS s (val (nameS s kind names (blanksS s σ)).2).2)).p = (blanksS s (val (nameS s kind names (blanksS s σ)).2).2).p + 1 := rfl
      rw [hnm]
      exact LI.good hs hk (hI.more (nm := nm) (p' := (stepP (blanksS s (val (nameS s kind names (blanksS s σ)).2).2)).p) ⟨G1, G2, G3⟩ hn6 (by omega) (by omega)) hle
    · rw [if_neg hT] at h ⊢
      have g5 := goes_need (s := s) (nats ⟨#[44]⟩) g4.le
      have h5 : (needS s (nats ⟨#[44]⟩) (blanksS s (val (nameS s kind names (blanksS s σ)).2).2)).e = 0 := er_of (goes_manyF hv kind en n _ _ g5.le) h
      have l5 := needS_ok (s := s) (nats ⟨#[44]⟩) g4.le h5
      have l6 : (nats ⟨#[44]⟩).length = 1 := rfl
      rw [hnm] at h ⊢
      exact good_manyF hs hv hg hk p0 n _ _ g5.le (hI.more (nm := nm) ⟨G1, G2, G3⟩ hn6 (by omega) (by omega)) h
theorem good_valueW {many : Int → Int → PS → J × PS} {m : Nat} (hs : s.size ≤ 1048576)
    (hm : ∀ kind en σ, (kind = 5 ∨ kind = 6) → σ.p < s.size → (many kind en σ).2.e = 0 → Good m (many kind en σ).1 σ.p (many kind en σ).2.p) : ValGood s (valueW s many) m := by
  intro σ hp h
  have g1 := goes_blanks (s := s) hp
  have q1 := g1.ge
  unfold valueW at h ⊢
  simp only at h ⊢
  have word : ∀ (k n : Int) (t : ByteArray), (k = 1 ∧ n = 0 ∨ k = 2 ∧ n = 0 ∨ k = 2 ∧ n = 1) → (textJ (bare k n)).length ≤ 5 → 1 ≤ (nats t).length → (needS s (nats t) (blanksS s σ)).e = 0 → Good m (bare k n) σ.p (needS s (nats t) (blanksS s σ)).p := by
    intro k n t hk hl ht he
    have l := needS_ok (s := s) (nats t) g1.le he
    refine ⟨JBd.bare (by omega) (by omega), ?_, ?_, by omega, by omega⟩
    · rcases hk with ⟨rfl, rfl⟩ | ⟨rfl, rfl⟩ | ⟨rfl, rfl⟩ <;> rfl
    · unfold bare
      rw [deepP, deepPs]
      rcases hk with ⟨rfl, rfl⟩ | ⟨rfl, rfl⟩ | ⟨rfl, rfl⟩ <;> simp
  by_cases c1 : nextS s (blanksS s σ) = 110
  · rw [if_pos c1] at h ⊢
    exact word 1 0 bNull (.inl ⟨rfl, rfl⟩) (by unfold bare; rw [textJ]; decide) (by decide) h
  rw [if_neg c1] at h ⊢
  by_cases c2 : nextS s (blanksS s σ) = 102
  · rw [if_pos c2] at h ⊢
    exact word 2 0 bFalse (.inr (.inl ⟨rfl, rfl⟩)) (by unfold bare; rw [textJ]; decide) (by decide) h
  rw [if_neg c2] at h ⊢
  by_cases c3 : nextS s (blanksS s σ) = 116
  · rw [if_pos c3] at h ⊢
    exact word 2 1 bTrue (.inr (.inr ⟨rfl, rfl⟩)) (by unfold bare; rw [textJ]; decide) (by decide) h
  rw [if_neg c3] at h ⊢
  by_cases c4 : nextS s (blanksS s σ) = 34
  · rw [if_pos c4] at h ⊢
    simp only at h ⊢
    have l := textS_len (s := s) g1.le h
    have l4 := quoteA_len (textS s (blanksS s σ)).1
    have l6 := (goes_text (s := s) g1.le).le
    refine ⟨.mk (by decide) (by decide) ?_ (by simp) (by simp) (fun x hx => by cases hx) (fun x hx => by cases hx), ?_, ?_, ?_, by omega⟩
    · show (textS s (blanksS s σ)).1.toArray.size ≤ _
      rw [List.size_toArray]; omega
    · rw [fineP]; rfl
    · rw [deepP, deepPs]; simp
    · have e : textJ (.mk 4 0 ⟨(textS s (blanksS s σ)).1.toArray⟩ [] []) = quoteL ⟨(textS s (blanksS s σ)).1.toArray⟩ := by rw [textJ]; rfl
      rw [e]; omega
  rw [if_neg c4] at h ⊢
  by_cases c5 : nextS s (blanksS s σ) = 45 ∨ (48 ≤ nextS s (blanksS s σ) ∧ nextS s (blanksS s σ) ≤ 57)
  · rw [if_pos c5] at h ⊢
    simp only at h ⊢
    have h1 := takeS_le (s := s) (c := 45) g1.le
    have h2 := takeS_p s (blanksS s σ) 45
    have h3 := dsk_bd h1
    unfold numS at h ⊢
    simp only at h ⊢
    generalize hd : (takeS s (blanksS s σ) 45).p = d at *
    have hE : (numE s (blanksS s σ).p d (dsk s d) { blanksS s σ with p := dsk s d }) = { blanksS s σ with p := dsk s d } ∧ d ≠ dsk s d ∧ PIok (subL s (blanksS s σ).p (dsk s d)) = true := by
      have hff : ∀ x y, x ≠ 0 → (failS { blanksS s σ with p := dsk s d } x y).e ≠ 0 := by
        intro x y hx
        unfold failS
        split
        · exact hx
        · rename_i h0; exact h0
      unfold numE at h ⊢
      by_cases a1 : d = dsk s d
      · rw [if_pos a1] at h
        exact absurd h (hff _ _ (by decide))
      · rw [if_neg a1] at h ⊢
        by_cases a2 : (zeroBad s (blanksS s σ).p d (dsk s d) || !PIok (subL s (blanksS s σ).p (dsk s d))) = true
        · rw [if_pos a2] at h
          exact absurd h (hff _ _ (by decide))
        · rw [if_neg a2]
          refine ⟨rfl, a1, ?_⟩
          cases hP : PIok (subL s (blanksS s σ).p (dsk s d)) with
          | true => rfl
          | false => rw [hP] at a2; simp at a2
    obtain ⟨e1, e2, e3⟩ := hE
    rw [e1]
    have hr := pi_range e3
    have hl := Lib.itoa_length_le _ hr.1 hr.2
    refine ⟨JBd.bare hr.1 hr.2, ?_, ?_, ?_, ?_⟩
    · unfold bare; rw [fineP]; rfl
    · unfold bare; rw [deepP, deepPs]; simp
    · have e : textJ (bare 3 (PIn (subL s (blanksS s σ).p (dsk s d)))) = Lib.itoa (PIn (subL s (blanksS s σ).p (dsk s d))) := by unfold bare; rw [textJ]; rfl
      rw [e]
      simp only
      omega
    · simp only; omega
  rw [if_neg c5] at h ⊢
  by_cases c6 : nextS s (blanksS s σ) = 91
  · rw [if_pos c6] at h ⊢
    exact (hm 5 93 _ (.inl rfl) (next_in (s := s) (by omega)).2 h).from q1
  rw [if_neg c6] at h ⊢
  by_cases c7 : nextS s (blanksS s σ) = 123
  · rw [if_pos c7] at h ⊢
    exact (hm 6 125 _ (.inr rfl) (next_in (s := s) (by omega)).2 h).from q1
  rw [if_neg c7] at h ⊢
  exfalso
  simp only at h
  revert h
  unfold failS
  split
  · simp
  · rename_i h0; exact h0
theorem good_manyD (hs : s.size ≤ 1048576) : ∀ (m : Nat) (kind en : Int) (σ : PS), (kind = 5 ∨ kind = 6) → σ.p < s.size → (manyD s m kind en σ).2.e = 0 → Good m (manyD s m kind en σ).1 σ.p (manyD s m kind en σ).2.p
  | 0, kind, en, σ, hk, hp, h => by
    exfalso
    rw [manyD] at h
    simp only at h
    revert h
    unfold failS
    split
    · simp
    · rename_i h0; exact h0
  | m + 1, kind, en, σ, hk, hp, h => by
    have hv : ValGoes s (valueW s (manyD s m)) := goes_valueW (goes_manyD m)
    have hg : ValGood s (valueW s (manyD s m)) m := good_valueW hs (good_manyD hs m)
    have g1 := goes_blanks (s := s) (σ := inD σ) hp
    have q1 := g1.ge
    have hin : (inD σ).p = σ.p + 1 := rfl
    rw [manyD] at h ⊢
    unfold manyW at h ⊢
    simp only at h ⊢
    have hI : LI s m kind [] [] (σ.p + 1) (blanksS s (inD σ)).p := ⟨(fun j hj => by cases hj), (fun _ => rfl), (fun _ => rfl), (fun x hx => by cases hx), by simp only [List.length_nil]; omega, by rw [items_nil]; simp only [List.length_nil]; omega⟩
    by_cases hT : takeB s (blanksS s (inD σ)) en
    · rw [if_pos hT] at h ⊢
      have gt := goes_take (s := s) g1.le en
      have hge := gt.ge
      exact LI.good hs hk (hI.to (p' := (takeS s (blanksS s (inD σ)) en).p) hge) gt.le
    · rw [if_neg hT] at h ⊢
      exact good_manyF hs hv hg hk σ.p (s.size + 2) [] [] g1.le hI h
/-- **what is read may be** -/
theorem parse_good (s : ByteArray) (h : (parseS s).2.2 = 0) : JBd (parseS s).1 ∧ fineP (parseS s).1 = true ∧ deepP (parseS s).1 64 = false ∧ (textJ (parseS s).1).length ≤ 30 * s.size ∧ s.size ≤ 1048576 := by
  unfold parseS at h ⊢
  by_cases hs : 1048576 < s.size
  · rw [if_pos hs] at h; exact absurd h (by decide)
  · rw [if_neg hs] at h ⊢
    have hs' : s.size ≤ 1048576 := by omega
    unfold outP at h ⊢
    by_cases he : (topS s).2.e = 0
    · rw [if_pos he] at h ⊢
      have gv := goes_valueD (s := s) 64 ⟨0, 0, 0, 0⟩ (Nat.zero_le _)
      have gb := goes_blanks (s := s) gv.le
      have hve : (valueD s 64 ⟨0, 0, 0, 0⟩).2.e = 0 := by
        refine er_of gb ?_
        unfold topS endS at he
        simp only at he
        split at he
        · exact er_of (goes_fail gb.le _ _ (by decide)) he
        · exact he
      have hG : Good 64 (valueD s 64 ⟨0, 0, 0, 0⟩).1 0 (valueD s 64 ⟨0, 0, 0, 0⟩).2.p := good_valueW hs' (good_manyD hs' 64) ⟨0, 0, 0, 0⟩ (Nat.zero_le _) hve
      obtain ⟨G1, G2, G3, G4, G5⟩ := hG
      have hle := gv.le
      refine ⟨G1, G2, G3, ?_, hs'⟩
      show (textJ (valueD s 64 ⟨0, 0, 0, 0⟩).1).length ≤ _
      omega
    · rw [if_neg he] at h
      exact absurd h he
end
end Go.Proofs.YtnnhkajjifmlfaaDoor
