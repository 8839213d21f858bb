/- Policies: how far the document's reader goes, how many nodes it puts. -/
import Derived.Test.YtnnhkajjifmlfaaDoorDm
import Derived.Test.YtnnhkajjifmlfaaDoorPa
namespace Go.Proofs.YtnnhkajjifmlfaaDoor.Pl
open Go.RowKit

/-- the document's reader's state as it may be -/
structure RL (s : ByteArray) (ρ : RQ) : Prop where
  ps : ρ.p ≤ s.size
  t0 : 0 ≤ ρ.ta
  le : ρ.ta ≤ (ρ.p : Int)
  lt : ρ.k ≠ 0 → ρ.ta < (ρ.p : Int)
  xs : ρ.x.size ≤ s.size
  dg : ρ.k = 3 → Digs ρ.x
  bd : 0 ≤ ρ.bad → ρ.k = 0
/-- from one state to a later one: m nodes more at most, beside two for each token -/
structure Gr (s : ByteArray) (m : Nat) (ρ τ : RQ) : Prop where
  lk : RL s τ
  ta : ρ.ta ≤ τ.ta
  ns : (τ.ns.length : Int) + 2 * ρ.ta ≤ (ρ.ns.length : Int) + m + 2 * τ.ta
section
variable {s : ByteArray} {ρ τ υ : RQ} {m n : Nat}
theorem Gr.refl (h : RL s ρ) : Gr s 0 ρ ρ := ⟨h, by omega, by omega⟩
theorem Gr.trans (h : Gr s m ρ τ) (k : Gr s n τ υ) : Gr s (m + n) ρ υ := ⟨k.lk, by have := h.ta; have := k.ta; omega, by have := h.ns; have := k.ns; omega⟩
theorem Gr.mono (h : Gr s m ρ τ) (k : m ≤ n) : Gr s n ρ τ := ⟨h.lk, h.ta, by have := h.ns; omega⟩
theorem RL.ta_le (h : RL s ρ) : ρ.ta ≤ (s.size : Int) := by have := h.le; have := h.ps; omega
theorem onR_ns (s : ByteArray) (ρ : RQ) : (onR s ρ).ns = ρ.ns := by unfold onR onR1 wrongR; split <;> rfl
theorem digs_numOk {x : ByteArray} (h : numOk x = true) : Digs x := by
  unfold numOk at h
  rw [Bool.and_eq_true] at h
  exact (digTo_iff x x.size).1 h.2
theorem lexR_bd (s : ByteArray) {i : Nat} (hi : i ≤ s.size) : i ≤ (lexR s i).2.2.1 ∧ (lexR s i).2.2.1 ≤ s.size ∧ (lexR s i).2.1.size ≤ s.size ∧ ((lexR s i).2.2.2 = true → (lexR s i).1 ≠ 0 → i < (lexR s i).2.2.1) ∧ ((lexR s i).2.2.2 = true → (lexR s i).1 = 3 → Digs (lexR s i).2.1) := by
  unfold lexR
  split
  · exact ⟨Nat.le_refl _, hi, Nat.zero_le _, fun _ h => absurd rfl h, fun _ h => by simp at h⟩
  · rename_i h1
    split
    · rename_i h2
      obtain ⟨w1, w2⟩ := wsk_pos h2
      split
      · exact ⟨by simp only; omega, w2, ext_le _ _ _, fun _ _ => w1, fun h _ => digs_numOk h⟩
      · exact ⟨by simp only; omega, w2, ext_le _ _ _, fun _ _ => w1, fun _ h => by simp at h⟩
    · split
      · split
        · rename_i h4
          obtain ⟨r1, _⟩ := rskF_spec s (s.size - (i + 1)) (i + 1) rfl
          have r1 : i + 1 ≤ rsk s (i + 1) := r1
          exact ⟨by simp only; omega, by simp only; omega, ext_le _ _ _, fun _ _ => by simp only; omega, fun _ h => by simp at h⟩
        · exact ⟨Nat.le_refl _, hi, Nat.zero_le _, fun h => by simp at h, fun h => by simp at h⟩
      · split
        · exact ⟨by simp only; omega, by simp only; omega, ext_le _ _ _, fun _ _ => by simp only; omega, fun _ h => by simp at h⟩
        · exact ⟨Nat.le_refl _, hi, Nat.zero_le _, fun h => by simp at h, fun h => by simp at h⟩
theorem rl_on (h : RL s ρ) (hb : ρ.bad < 0) : RL s (onR s ρ) ∧ (ρ.p : Int) ≤ (onR s ρ).ta := by
  have hbs := bsk_bd h.ps
  unfold onR onR1
  generalize bsk s ρ.p = i at *
  obtain ⟨h1, h2, h3, h4, h5⟩ := lexR_bd s hbs.2
  generalize lexR s i = y at *
  obtain ⟨k, x, t, g⟩ := y
  simp only at *
  cases g with
  | true =>
    simp only [if_true]
    exact ⟨⟨h2, by simp only; omega, by simp only; omega, fun hk => by have := h4 rfl hk; simp only; omega, h3, h5 rfl, fun h => by simp only at h; omega⟩, by omega⟩
  | false =>
    simp only [Bool.false_eq_true, if_false]
    unfold wrongR
    exact ⟨⟨h2, by simp only; omega, by simp only; omega, fun hk => absurd rfl hk, Nat.zero_le _, fun h => by simp at h, fun _ => rfl⟩, by simp only; omega⟩
theorem gr_on (h : RL s ρ) (hb : ρ.bad < 0) : Gr s 0 ρ (onR s ρ) := by
  obtain ⟨h1, h2⟩ := rl_on h hb
  refine ⟨h1, by have := h.le; omega, ?_⟩
  rw [onR_ns]
  have := h.le
  omega
/-- a token is behind: there is room for two nodes -/
theorem gr_tok (h : RL s ρ) (hk : ρ.k ≠ 0) : ρ.bad < 0 ∧ (onR s ρ).ta ≥ ρ.ta + 1 ∧ RL s (onR s ρ) ∧ (onR s ρ).ns = ρ.ns := by
  have hb : ρ.bad < 0 := by
    rcases Int.lt_or_le ρ.bad 0 with hb | hb
    · exact hb
    · exact absurd (h.bd hb) hk
  obtain ⟨h1, h2⟩ := rl_on h hb
  have := h.lt hk
  exact ⟨hb, by omega, h1, onR_ns s ρ⟩
theorem signR_k {c : UInt8} (h : signR c ρ = true) : ρ.k ≠ 0 := by
  unfold signR at h
  rw [Bool.and_eq_true, Bool.and_eq_true] at h
  have := eq_of_beq h.1.2
  omega
theorem gr_wrong (h : RL s ρ) : Gr s 0 ρ (wrongR ρ.ta ρ) := by
  unfold wrongR
  exact ⟨⟨h.ps, h.t0, h.le, fun hk => absurd rfl hk, Nat.zero_le _, fun h => by simp at h, fun _ => rfl⟩, Int.le_refl _, by simp only; omega⟩
theorem gr_quoted (h : RL s ρ) : Gr s 0 ρ (quotedR s ρ).2 := by
  unfold quotedR
  split
  · rename_i hk
    exact gr_on h (gr_tok h (by omega)).1
  · exact gr_wrong h
theorem rl_lg (h : RL s ρ) (g : Bool) : RL s { ρ with lg := g } := ⟨h.ps, h.t0, h.le, h.lt, h.xs, h.dg, h.bd⟩
theorem gr_on_lg (h : RL s ρ) (hb : ρ.bad < 0) (g : Bool) : Gr s 0 ρ (onR s { ρ with lg := g }) :=
  have h1 := gr_on (rl_lg h g) hb
  ⟨h1.lk, h1.ta, h1.ns⟩
theorem gr_num (h : RL s ρ) : Gr s 0 ρ (numberR s ρ).2 := by
  unfold numberR
  split
  · rename_i hk
    exact gr_on_lg h (gr_tok h (by omega)).1 _
  · exact gr_wrong h
theorem gr_need (h : RL s ρ) (c : UInt8) : Gr s 0 ρ (needR s c ρ) := by
  unfold needR; split
  · rename_i hs
    exact gr_on h (gr_tok h (signR_k hs)).1
  · exact gr_wrong h
theorem gr_put (h : RL s ρ) (x : PN) : Gr s 1 ρ (putR x ρ).2 := by
  unfold putR
  exact ⟨⟨h.ps, h.t0, h.le, h.lt, h.xs, h.dg, h.bd⟩, Int.le_refl _, by simp only [List.length_append, List.length_cons, List.length_nil]; omega⟩
theorem gr_tag (h : RL s ρ) : Gr s 1 ρ (tagR s ρ).2 := by
  have h1 := gr_quoted h
  unfold tagR
  split
  · rename_i hs
    have h2 := gr_on h1.lk (gr_tok h1.lk (signR_k hs)).1
    have h3 := gr_quoted h2.lk
    exact (((h1.trans h2).trans h3).trans (gr_put h3.lk _)).mono (by omega)
  · exact (h1.trans (gr_wrong h1.lk)).mono (by omega)
theorem gr_word (h : RL s ρ) (x : ByteArray) : Gr s 1 ρ (wordR s x ρ).2 := by
  unfold wordR
  repeat' split
  · exact gr_put h _
  · exact gr_put h _
  · exact ((gr_num h).trans (gr_put (gr_num h).lk _)).mono (by omega)
  · exact ((gr_num h).trans (gr_put (gr_num h).lk _)).mono (by omega)
  · exact ((gr_quoted h).trans (gr_put (gr_quoted h).lk _)).mono (by omega)
  · exact gr_tag h
/-- what a reader of things leaves -/
def FGr (s : ByteArray) (F : RQ → Int × RQ) : Prop := ∀ ρ, RL s ρ → Gr s 1 ρ (F ρ).2
theorem gr_atom {F : RQ → Int × RQ} (hF : FGr s F) : ∀ f, FGr s (atomF s F f)
  | 0 => fun _ h => (Gr.refl h).mono (by omega)
  | f + 1 => by
    intro ρ h
    unfold atomF
    split
    · rename_i hs
      obtain ⟨_, h1, h2, h3⟩ := gr_tok h (signR_k hs)
      have h4 := gr_atom hF f _ h2
      have h5 := gr_put h4.lk ⟨7, 0, ⟨#[]⟩, ⟨#[]⟩, (atomF s F f (onR s ρ)).1, 0⟩
      refine ⟨h5.lk, ?_, ?_⟩
      · have := h4.ta; have := h5.ta; omega
      · have := h4.ns; have := h5.ns; rw [h3] at *; omega
    · split
      · rename_i hs
        obtain ⟨_, h1, h2, h3⟩ := gr_tok h (signR_k hs)
        have h4 := hF _ h2
        have h5 := gr_need h4.lk 41
        refine ⟨h5.lk, ?_, ?_⟩ <;> simp only
        · have := h4.ta; have := h5.ta; omega
        · have := h4.ns; have := h5.ns; rw [h3] at *; omega
      · split
        · exact (gr_wrong h).mono (by omega)
        · rename_i hk
          have hk1 : ρ.k = 1 := by omega
          have h1 := gr_on h (by omega)
          exact (h1.trans (gr_word h1.lk ρ.x)).mono (by omega)
theorem gr_many {F : RQ → Int × RQ} (hF : FGr s F) (c : UInt8) (k : Int) : ∀ (f : Nat) (i : Int) (ρ : RQ), RL s ρ → Gr s 0 ρ (manyR s c k F f i ρ).2
  | 0, _, _, h => .refl h
  | f + 1, i, ρ, h => by
    unfold manyR
    split
    · rename_i hs
      obtain ⟨_, h1, h2, h3⟩ := gr_tok h (signR_k hs)
      have h4 := hF _ h2
      have h5 := gr_put h4.lk ⟨k, 0, ⟨#[]⟩, ⟨#[]⟩, i, (F (onR s ρ)).1⟩
      have h6 := gr_many hF c k f (putR ⟨k, 0, ⟨#[]⟩, ⟨#[]⟩, i, (F (onR s ρ)).1⟩ (F (onR s ρ)).2).1 _ h5.lk
      refine ⟨h6.lk, ?_, ?_⟩
      · have := h4.ta; have := h5.ta; have := h6.ta; omega
      · have := h4.ns; have := h5.ns; have := h6.ns; rw [h3] at *; omega
    · exact .refl h
theorem gr_both {F : RQ → Int × RQ} (hF : FGr s F) : FGr s (bothR s F) := by
  intro ρ h
  have h1 := gr_atom hF (s.size + 2) ρ h
  exact (h1.trans (gr_many (gr_atom hF (s.size + 2)) 38 8 _ _ _ h1.lk)).mono (Nat.le_refl _)
theorem gr_anyW {F : RQ → Int × RQ} (hF : FGr s F) : FGr s (anyW s F) := by
  intro ρ h
  have h1 := gr_both hF ρ h
  exact (h1.trans (gr_many (gr_both hF) 124 9 _ _ _ h1.lk)).mono (Nat.le_refl _)
theorem gr_anyD (s : ByteArray) : ∀ d, FGr s (anyD s d)
  | 0 => fun _ h => (Gr.refl h).mono (by omega)
  | d + 1 => gr_anyW (gr_anyD s d)
end
end Go.Proofs.YtnnhkajjifmlfaaDoor.Pl
