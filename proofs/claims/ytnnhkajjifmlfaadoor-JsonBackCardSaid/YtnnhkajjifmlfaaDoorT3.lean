/- Blanks ahead of a text and behind it change nothing: the plain law. -/
import Derived.Test.YtnnhkajjifmlfaaDoorT2
namespace Go.Proofs.YtnnhkajjifmlfaaDoor
open Go.RowKit Go.Maps

/-- q is s with four blanks ahead and two behind -/
structure Wr (s q : ByteArray) : Prop where
  size : q.size = s.size + 6
  pre : ∀ i, i < 4 → blank (chr q i) = true
  mid : ∀ i, i < s.size → chr q (i + 4) = chr s i
  e0 : chr q (s.size + 4) = 32
  e1 : chr q (s.size + 5) = 10
section
variable {s q : ByteArray} {σ τ : PS}
/-- places -/
def Po (s : ByteArray) (a b : Nat) : Prop := (a < s.size ∧ b = a + 4) ∨ (a = s.size ∧ s.size + 4 ≤ b ∧ b ≤ s.size + 6)
def Px (s : ByteArray) (a b : Nat) : Prop := (a < s.size ∧ b = a + 4) ∨ (a = s.size ∧ b = s.size + 6)
theorem Px.po {a b : Nat} (h : Px s a b) : Po s a b := by
  rcases h with h | ⟨h1, h2⟩
  · exact .inl h
  · exact .inr ⟨h1, by omega, by omega⟩
theorem Wr.e2 (W : Wr s q) : chr q (s.size + 6) = 0 := chr_out (by have := W.size; omega)
theorem Wr.end_chr (W : Wr s q) {b : Nat} (h1 : s.size + 4 ≤ b) (h2 : b ≤ s.size + 6) : chr q b = 32 ∨ chr q b = 10 ∨ chr q b = 0 := by
  obtain rfl | rfl | rfl : b = s.size + 4 ∨ b = s.size + 5 ∨ b = s.size + 6 := by omega
  · exact .inl W.e0
  · exact .inr (.inl W.e1)
  · exact .inr (.inr W.e2)
theorem Po.ch (W : Wr s q) {a b : Nat} (h : Po s a b) : chr q b = chr s a ∨ (chr s a = 0 ∧ a = s.size ∧ (chr q b = 32 ∨ chr q b = 10 ∨ chr q b = 0)) := by
  rcases h with ⟨h1, rfl⟩ | ⟨rfl, h2, h3⟩
  · exact .inl (W.mid a h1)
  · exact .inr ⟨chr_out (Nat.le_refl _), rfl, W.end_chr h2 h3⟩
theorem Px.ch (W : Wr s q) {a b : Nat} (h : Px s a b) : chr q b = chr s a := by
  rcases h with ⟨h1, rfl⟩ | ⟨rfl, rfl⟩
  · exact W.mid a h1
  · rw [W.e2, chr_out (Nat.le_refl _)]
theorem Po.iff (W : Wr s q) {a b : Nat} (h : Po s a b) {c : Int} (h0 : c ≠ 0) (h1 : c ≠ 32) (h2 : c ≠ 10) : ((chr q b : Int) = c) ↔ ((chr s a : Int) = c) := by
  rcases h.ch W with e | ⟨e, _, e'⟩
  · rw [e]
  · rw [e]; constructor
    · intro x; omega
    · intro x; omega
theorem Po.up {a b : Nat} (h : Po s a b) (ha : a < s.size) : Po s (a + 1) (b + 1) := by
  rcases h with ⟨h1, rfl⟩ | ⟨h1, _⟩
  · by_cases e : a + 1 < s.size
    · exact .inl ⟨e, by omega⟩
    · exact .inr ⟨by omega, by omega, by omega⟩
  · omega
theorem skip_end (W : Wr s q) {b : Nat} (h1 : s.size + 4 ≤ b) (h2 : b ≤ s.size + 6) : skip q b = s.size + 6 := by
  have k6 : skip q (s.size + 6) = s.size + 6 := skip_stop (by rw [W.e2]; rfl)
  have k5 : skip q (s.size + 5) = s.size + 6 := by rw [skip_step (by rw [W.e1]; rfl)]; exact k6
  have k4 : skip q (s.size + 4) = s.size + 6 := by rw [skip_step (by rw [W.e0]; rfl)]; exact k5
  obtain rfl | rfl | rfl : b = s.size + 4 ∨ b = s.size + 5 ∨ b = s.size + 6 := by omega
  · exact k4
  · exact k5
  · exact k6
theorem skip_po (W : Wr s q) : ∀ (k a b : Nat), s.size - a = k → Po s a b → Px s (skip s a) (skip q b)
  | k, a, b, hk, .inr ⟨ha, h1, h2⟩ => by
    subst ha
    rw [skip_stop (by rw [chr_out (Nat.le_refl _)]; rfl), skip_end W h1 h2]
    exact .inr ⟨rfl, rfl⟩
  | k, a, b, hk, .inl ⟨ha, hb⟩ => by
    subst hb
    have hc := W.mid a ha
    cases hbl : blank (chr s a) with
    | false =>
      rw [skip_stop hbl, skip_stop (by rw [hc]; exact hbl)]
      exact .inl ⟨ha, rfl⟩
    | true =>
      have e1 := skip_step hbl
      have e2 : skip q (a + 4) = skip q (a + 4 + 1) := skip_step (by rw [hc]; exact hbl)
      rw [e1, e2]
      cases k with
      | zero => omega
      | succ k => exact skip_po W k (a + 1) (a + 4 + 1) (by omega) ((show Po s a (a + 4) from .inl ⟨ha, rfl⟩).up ha)

/-- the reader of s, the reader of q -/
def Wl (s : ByteArray) (σ τ : PS) : Prop := (σ.e = 0 ∧ τ.e = 0 ∧ Po s σ.p τ.p) ∨ (σ.e ≠ 0 ∧ τ.e = σ.e)
def Wx (s : ByteArray) (σ τ : PS) : Prop := (σ.e = 0 ∧ τ.e = 0 ∧ Px s σ.p τ.p) ∨ (σ.e ≠ 0 ∧ τ.e = σ.e)
theorem Wx.wl (h : Wx s σ τ) : Wl s σ τ := by
  rcases h with ⟨a, b, c⟩ | h
  · exact .inl ⟨a, b, c.po⟩
  · exact .inr h
theorem Wl.eq (h : Wl s σ τ) : τ.e = σ.e := by
  rcases h with ⟨a, b, _⟩ | ⟨_, b⟩
  · rw [a, b]
  · exact b
theorem Wl.po (h : Wl s σ τ) (he : σ.e = 0) : Po s σ.p τ.p := by
  rcases h with ⟨_, _, c⟩ | ⟨a, _⟩
  · exact c
  · exact absurd he a
theorem wl_fail (h : Wl s σ τ) {x : Int} (hx : x ≠ 0) (a b : Int) : Wl s (failS σ x a) (failS τ x b) := by
  by_cases he : σ.e = 0
  · have he' : τ.e = 0 := by rw [h.eq]; exact he
    right; unfold failS; rw [if_pos he, if_pos he']; exact ⟨hx, rfl⟩
  · have he' : τ.e ≠ 0 := by rw [h.eq]; exact he
    rw [failS_no he, failS_no he']; exact h
theorem wx_blanks (W : Wr s q) (h : Wl s σ τ) : Wx s (blanksS s σ) (blanksS q τ) := by
  unfold blanksS
  by_cases he : σ.e = 0
  · have he' : τ.e = 0 := by rw [h.eq]; exact he
    rw [if_pos he, if_pos he']
    exact .inl ⟨he, he', skip_po W _ _ _ rfl (h.po he)⟩
  · have he' : τ.e ≠ 0 := by rw [h.eq]; exact he
    rw [if_neg he, if_neg he']
    exact .inr ⟨he, h.eq⟩
theorem wx_next (W : Wr s q) (h : Wx s σ τ) : nextS q τ = nextS s σ := by
  have he := h.wl.eq
  unfold nextS
  rw [he]
  split
  · rename_i h0
    rcases h with ⟨_, _, c⟩ | ⟨a, _⟩
    · exact c.ch W
    · exact absurd h0 a
  · rfl
theorem wl_next (W : Wr s q) (h : Wl s σ τ) : nextS q τ = nextS s σ ∨ (nextS s σ = 0 ∧ σ.e = 0 ∧ σ.p = s.size ∧ (nextS q τ = 32 ∨ nextS q τ = 10 ∨ nextS q τ = 0)) := by
  have he := h.eq
  unfold nextS
  rw [he]
  by_cases h0 : σ.e = 0
  · rw [if_pos h0, if_pos h0]
    rcases (h.po h0).ch W with e | ⟨e1, e2, e3⟩
    · exact .inl e
    · exact .inr ⟨e1, h0, e2, e3⟩
  · rw [if_neg h0, if_neg h0]; exact .inl rfl
theorem takeB_z (σ : PS) (he : σ.e = 0) {c : Int} (hc : c ≠ 0) : takeB s σ c = decide ((chr s σ.p : Int) = c) := by
  have h : Sm σ ⟨σ.p, -1, 0⟩ := .inl ⟨he, (by decide : (-1 : Int) < 0), rfl⟩
  exact takeB_chr h he hc
theorem wl_takeB (W : Wr s q) (h : Wl s σ τ) {c : Int} (h0 : c ≠ 0) (h1 : c ≠ 32) (h2 : c ≠ 10) : takeB q τ c = takeB s σ c := by
  by_cases he : σ.e = 0
  · have he' : τ.e = 0 := by rw [h.eq]; exact he
    rw [takeB_z τ he' h0, takeB_z σ he h0]
    exact decide_eq_decide.2 ((h.po he).iff W h0 h1 h2)
  · have he' : τ.e ≠ 0 := by rw [h.eq]; exact he
    rw [takeB_no he, takeB_no he']
theorem wl_step (h : Wl s σ τ) (hs : σ.e = 0 → σ.p < s.size) : Wl s (stepP σ) (stepP τ) := by
  rcases h with ⟨a, b, c⟩ | ⟨a, b⟩
  · exact .inl ⟨a, b, c.up (hs a)⟩
  · exact .inr ⟨a, b⟩
theorem wl_take (W : Wr s q) (h : Wl s σ τ) {c : Int} (h0 : c ≠ 0) (h1 : c ≠ 32) (h2 : c ≠ 10) : Wl s (takeS s σ c) (takeS q τ c) := by
  have ht := wl_takeB W h h0 h1 h2
  cases hb : takeB s σ c with
  | true =>
    rw [hb] at ht
    rw [tkS_yes hb, tkS_yes ht]
    exact wl_step h fun _ => (takeB_in hb).2.1
  | false =>
    rw [hb] at ht
    rw [tkS_not hb, tkS_not ht]
    exact h
theorem wl_need (W : Wr s q) : ∀ (t : List Nat) {σ τ : PS}, (∀ c ∈ t, c ≠ 0 ∧ c ≠ 32 ∧ c ≠ 10) → Wl s σ τ → Wl s (needS s t σ) (needS q t τ)
  | [], _, _, _, h => h
  | c :: r, σ, τ, hz, h => by
    have hc := hz c (by simp)
    have ht := wl_takeB W h (c := (c : Int)) (by omega) (by omega) (by omega)
    rw [needS, needS, ht]
    refine wl_need W r (fun x hx => hz x (by simp [hx])) ?_
    split
    · exact wl_take W h (by omega) (by omega) (by omega)
    · exact wl_fail h (by decide) _ _
/-- values beside states -/
def Wv {α : Type} (s : ByteArray) (x y : α × PS) : Prop := Wl s x.2 y.2 ∧ (x.2.e = 0 → x.1 = y.1)
theorem wl_hex (W : Wr s q) (h : Wl s σ τ) : hexS (nextS q τ) = hexS (nextS s σ) := by
  rcases wl_next W h with e | ⟨e1, _, _, e2 | e2 | e2⟩
  · rw [e]
  all_goals (rw [e1, e2]; first | done | rfl)
theorem wl_escU (W : Wr s q) (h : Wl s σ τ) : Wv s (escU s σ) (escU q τ) := by
  have a1 := wl_hex W h
  by_cases h1 : hexS (nextS s σ) < 0
  · have h1' : hexS (nextS q τ) < 0 := by rw [a1]; exact h1
    have e1 : escU s σ = (0, failS σ 4 σ.p) := by unfold escU; rw [if_pos h1]
    have e2 : escU q τ = (0, failS τ 4 τ.p) := by unfold escU; rw [if_pos h1']
    rw [e1, e2]
    exact ⟨wl_fail h (by decide) _ _, fun _ => rfl⟩
  · have h1' : ¬ hexS (nextS q τ) < 0 := by rw [a1]; exact h1
    have g := hex_next (s := s) (σ := σ) (by omega)
    have hs := wl_step h fun _ => g.2
    have a2 := wl_hex W hs
    by_cases h2 : hexS (nextS s (stepP σ)) < 0
    · have h2' : hexS (nextS q (stepP τ)) < 0 := by rw [a2]; exact h2
      have e1 : escU s σ = (0, failS (stepP σ) 4 (stepP σ).p) := by unfold escU; rw [if_neg h1, if_pos h2]
      have e2 : escU q τ = (0, failS (stepP τ) 4 (stepP τ).p) := by unfold escU; rw [if_neg h1', if_pos h2']
      rw [e1, e2]
      exact ⟨wl_fail hs (by decide) _ _, fun _ => rfl⟩
    · have h2' : ¬ hexS (nextS q (stepP τ)) < 0 := by rw [a2]; exact h2
      have g2 := hex_next (s := s) (σ := stepP σ) (by omega)
      have e1 : escU s σ = (16 * hexS (nextS s σ) + hexS (nextS s (stepP σ)), stepP (stepP σ)) := by unfold escU; rw [if_neg h1, if_neg h2]
      have e2 : escU q τ = (16 * hexS (nextS q τ) + hexS (nextS q (stepP τ)), stepP (stepP τ)) := by unfold escU; rw [if_neg h1', if_neg h2']
      rw [e1, e2]
      exact ⟨wl_step hs fun _ => g2.2, fun _ => by rw [a1, a2]⟩
theorem wl_esc (W : Wr s q) (h : Wl s σ τ) : Wv s (escS s σ) (escS q τ) := by
  unfold escS
  have hstep : nextS s σ ≠ 0 → Wl s (stepP σ) (stepP τ) := fun hn => wl_step h fun _ => (next_in (s := s) hn).2
  rcases wl_next W h with e | ⟨e1, he, _, e2⟩
  · rw [e]
    split
    · exact wl_escU W (wl_need W _ (by decide) h)
    · split
      · rename_i h1; exact ⟨hstep (by omega), fun _ => rfl⟩
      · split
        · exact ⟨wl_fail h (by decide) _ _, fun _ => rfl⟩
        · rename_i h3
          exact ⟨hstep (fun h0 => by rw [h0] at h3; exact h3 (by decide)), fun _ => rfl⟩
  · have b1 : unesc (nextS q τ) < 0 := by rcases e2 with e | e | e <;> rw [e] <;> decide
    rw [e1, if_neg (by decide), if_neg (by decide), if_pos (by decide), if_neg (by omega), if_neg (by omega), if_pos b1]
    exact ⟨wl_fail h (by decide) _ _, fun _ => rfl⟩
theorem textF_err {n : Nat} {acc : List UInt8} (he : σ.e ≠ 0) : textF s n acc σ = (acc, σ) := by
  cases n with
  | zero => rfl
  | succ n => rw [textF, if_neg he]
theorem fail_e (he : σ.e = 0) (x y : Int) : (failS σ x y).e = x := by unfold failS; rw [if_pos he]
/-- behind the text's end -/
theorem text_end (W : Wr s q) : ∀ (n : Nat) (acc : List UInt8) {τ : PS}, τ.e = 0 → s.size + 4 ≤ τ.p → τ.p ≤ s.size + 6 → q.size - τ.p < n → (textF q n acc τ).2.e = 4
  | 0, _, τ, _, _, _, h => by omega
  | n + 1, acc, τ, he, h1, h2, h3 => by
    have hc := W.end_chr h1 h2
    have hn : nextS q τ = chr q τ.p := by unfold nextS; rw [if_pos he]
    have t34 : takeB q τ 34 = false := by rw [takeB_z τ he (by decide)]; exact decide_eq_false (by omega)
    have t92 : takeB q τ 92 = false := by rw [takeB_z τ he (by decide)]; exact decide_eq_false (by omega)
    rw [textF, if_pos he, if_neg (by simp [t34]), hn]
    by_cases h4 : chr q τ.p < 32
    · rw [if_pos h4, textF_err (by rw [fail_e he]; decide)]
      exact fail_e he _ _
    · rw [if_neg h4, if_neg (by simp [t92])]
      have hp : τ.p ≠ s.size + 6 := fun e => by rw [e, W.e2] at h4; exact h4 (by decide)
      have hsz := W.size
      exact text_end W n _ (τ := stepP τ) he (by show _ ≤ τ.p + 1; omega) (by show τ.p + 1 ≤ _; omega) (by show q.size - (τ.p + 1) < n; omega)
theorem wl_textF (W : Wr s q) : ∀ (n n' : Nat) (acc : List UInt8) {σ τ : PS}, Wl s σ τ → σ.p ≤ s.size → (σ.e = 0 → s.size - σ.p < n) → (σ.e = 0 → q.size - τ.p < n') → Wv s (textF s n acc σ) (textF q n' acc τ)
  | 0, n', acc, σ, τ, h, hp, hn, hn' => by
    have he : σ.e ≠ 0 := fun e => by have := hn e; omega
    have he' : τ.e ≠ 0 := by rw [h.eq]; exact he
    rw [textF_err he, textF_err he']
    exact ⟨h, fun e => absurd e he⟩
  | n + 1, n', acc, σ, τ, h, hp, hn, hn' => by
    by_cases he : σ.e = 0
    · have he' : τ.e = 0 := by rw [h.eq]; exact he
      have hl := hn he
      have hl' := hn' he
      have hP := h.po he
      by_cases hlt : σ.p < s.size
      · cases n' with
        | zero => omega
        | succ n' =>
          have hb : τ.p = σ.p + 4 := by
            rcases hP with ⟨_, e⟩ | ⟨e, _⟩
            · exact e
            · omega
          have hnx : nextS q τ = nextS s σ := by
            unfold nextS; rw [if_pos he, if_pos he', hb]; exact W.mid _ hlt
          have t34 := wl_takeB W h (c := 34) (by decide) (by decide) (by decide)
          have t92 := wl_takeB W h (c := 92) (by decide) (by decide) (by decide)
          rw [textF, textF, if_pos he, if_pos he', t34, hnx, t92]
          have hst := wl_step h fun _ => hlt
          have hsp : (stepP σ).p = σ.p + 1 := rfl
          have hsp' : (stepP τ).p = τ.p + 1 := rfl
          have hqz := W.size
          split
          · exact ⟨wl_take W h (by decide) (by decide) (by decide), fun _ => rfl⟩
          · split
            · rw [textF_err (by rw [fail_e he]; decide), textF_err (by rw [fail_e he']; decide)]
              exact ⟨wl_fail h (by decide) _ _, fun _ => rfl⟩
            · split
              · rename_i h92
                have h92' : takeB q τ 92 = true := by rw [t92]; exact h92
                rw [tkS_yes h92, tkS_yes h92']
                have hes := wl_esc W hst
                have ge := goes_esc (s := s) (σ := stepP σ) (by rw [hsp]; omega)
                have geq := goes_esc (s := q) (σ := stepP τ) (by rw [hsp', W.size]; omega)
                have g1 := ge.ge
                have g2 := geq.ge
                have hqz := W.size
                by_cases h0 : (escS s (stepP σ)).2.e = 0
                · rw [hes.2 h0]
                  exact wl_textF W n n' _ hes.1 ge.le (fun _ => by omega) (fun _ => by omega)
                · have h0' : (escS q (stepP τ)).2.e ≠ 0 := by rw [hes.1.eq]; exact h0
                  rw [textF_err h0, textF_err h0']
                  exact ⟨hes.1, fun e => absurd e h0⟩
              · exact wl_textF W n n' _ hst (by rw [hsp]; omega) (fun _ => by rw [hsp]; omega) (fun _ => by rw [hsp']; omega)
      · have hps : σ.p = s.size := by omega
        have hpe : s.size + 4 ≤ τ.p ∧ τ.p ≤ s.size + 6 := by
          rcases hP with ⟨e, _⟩ | ⟨_, e⟩
          · omega
          · exact e
        have hE := text_end W n' acc he' hpe.1 hpe.2 hl'
        have hc0 : chr s σ.p = 0 := chr_out (by omega)
        have t34 : takeB s σ 34 = false := by rw [takeB_z σ he (by decide), hc0]; rfl
        have hn0 : nextS s σ = 0 := by unfold nextS; rw [if_pos he, hc0]
        have e4 : (failS σ 4 σ.p).e = 4 := fail_e he _ _
        have e1 : textF s (n + 1) acc σ = (acc, failS σ 4 σ.p) := by
          rw [textF, if_pos he, if_neg (by simp [t34]), hn0, if_pos (by decide), textF_err (by rw [e4]; decide)]
        rw [e1]
        exact ⟨.inr ⟨by rw [e4]; decide, by rw [hE, e4]⟩, fun e => absurd e (by rw [e4]; decide)⟩
    · have he' : τ.e ≠ 0 := by rw [h.eq]; exact he
      rw [textF_err he, textF_err he']
      exact ⟨h, fun e => absurd e he⟩
theorem Po.ge {a b : Nat} (h : Po s a b) : a + 4 ≤ b ∧ b ≤ s.size + 6 := by
  rcases h with ⟨h1, h2⟩ | ⟨h1, h2, h3⟩ <;> omega
theorem wl_text (W : Wr s q) (h : Wl s σ τ) (hp : σ.p ≤ s.size) : Wv s (textS s σ) (textS q τ) := by
  have hm := wl_need W (nats ⟨#[34]⟩) (by decide) h
  have hg := (goes_need (s := s) (nats ⟨#[34]⟩) hp).le
  exact wl_textF W (s.size + 2) (q.size + 2) [] hm hg (fun _ => by omega) (fun _ => by omega)
/-! numbers -/
theorem dsk_po (W : Wr s q) : ∀ (k a : Nat), s.size - a = k → a ≤ s.size → dsk q (a + 4) = dsk s a + 4
  | k, a, hk, ha => by
    by_cases hlt : a < s.size
    · have hc := W.mid a hlt
      cases hd : isDig (chr s a) with
      | false => rw [dsk_stop hd, dsk_stop (by rw [hc]; exact hd)]
      | true =>
        rw [dsk_step hd, dsk_step (by rw [hc]; exact hd)]
        cases k with
        | zero => omega
        | succ k => exact dsk_po W k (a + 1) (by omega) (by omega)
    · obtain rfl : a = s.size := by omega
      have e1 : dsk s s.size = s.size := dsk_stop (by rw [chr_out (Nat.le_refl _)]; rfl)
      have e2 : dsk q (s.size + 4) = s.size + 4 := dsk_stop (by rw [W.e0]; rfl)
      rw [e1, e2]
theorem subL_po (W : Wr s q) : ∀ (k a e : Nat), e - a = k → e ≤ s.size → subL q (a + 4) (e + 4) = subL s a e
  | 0, a, e, hk, he => by rw [subL_nil (by omega), subL_nil (by omega)]
  | k + 1, a, e, hk, he => by
    have hsz := W.size
    have hlt : a < s.size := by omega
    rw [subL_cons (show a < e by omega) he, subL_cons (show a + 4 < e + 4 by omega) (by omega), show a + 4 + 1 = a + 1 + 4 from by omega, subL_po W k (a + 1) e (by omega) he]
    congr 1
    have hc := W.mid a hlt
    rw [chr_in hlt, chr_in (by omega)] at hc
    exact UInt8.toNat_inj.1 hc
theorem zero_po (W : Wr s q) {f d e : Nat} (hd : d ≤ s.size) : zeroBad q (f + 4) (d + 4) (e + 4) = zeroBad s f d e := by
  have h48 : (chr q (d + 4) == 48) = (chr s d == 48) := by
    by_cases hlt : d < s.size
    · rw [W.mid d hlt]
    · obtain rfl : d = s.size := by omega
      rw [W.e0, chr_out (Nat.le_refl _)]; rfl
  unfold zeroBad
  rw [h48, show e + 4 - (d + 4) = e - d from by omega]
  have : decide (f + 4 < d + 4) = decide (f < d) := decide_eq_decide.2 (by omega)
  rw [this]
theorem wl_num (W : Wr s q) (h : Wl s σ τ) (he : σ.e = 0) (hlt : σ.p < s.size) : Wv s (numS s σ) (numS q τ) := by
  have he' : τ.e = 0 := by rw [h.eq]; exact he
  have hb : τ.p = σ.p + 4 := by
    rcases h.po he with ⟨_, e⟩ | ⟨e, _⟩
    · exact e
    · omega
  have t45 := wl_takeB W h (c := 45) (by decide) (by decide) (by decide)
  have hd : (takeS q τ 45).p = (takeS s σ 45).p + 4 := by
    cases hk : takeB s σ 45 with
    | true => rw [hk] at t45; rw [tkS_yes hk, tkS_yes t45]; show τ.p + 1 = σ.p + 1 + 4; omega
    | false => rw [hk] at t45; rw [tkS_not hk, tkS_not t45]; exact hb
  have hdl := takeS_le (s := s) (c := 45) (Nat.le_of_lt hlt)
  have hdg := takeS_p s σ 45
  unfold numS
  simp only
  rw [hd]
  generalize (takeS s σ 45).p = d at *
  have hk := dsk_po W _ d rfl hdl
  have hbd := dsk_bd hdl
  rw [hk, hb, subL_po W _ σ.p (dsk s d) rfl hbd.2]
  have hW : Wl s { σ with p := dsk s d } { τ with p := dsk s d + 4 } := by
    refine .inl ⟨he, he', ?_⟩
    by_cases e : dsk s d < s.size
    · exact .inl ⟨e, rfl⟩
    · exact .inr ⟨by have := hbd.2; show dsk s d = _; omega, by show _ ≤ dsk s d + 4; omega, by show dsk s d + 4 ≤ _; omega⟩
  refine ⟨?_, fun _ => rfl⟩
  show Wl s (numE s σ.p d (dsk s d) _) (numE q (σ.p + 4) (d + 4) (dsk s d + 4) _)
  unfold numE
  rw [zero_po W hdl, subL_po W _ σ.p (dsk s d) rfl hbd.2]
  by_cases h1 : d = dsk s d
  · have h1' : d + 4 = dsk s d + 4 := by omega
    rw [if_pos h1, if_pos h1']; exact wl_fail hW (by decide) _ _
  · have h1' : ¬ d + 4 = dsk s d + 4 := by omega
    rw [if_neg h1, if_neg h1']
    by_cases h2 : (zeroBad s σ.p d (dsk s d) || !PIok (subL s σ.p (dsk s d))) = true
    · rw [if_pos h2, if_pos h2]; exact wl_fail hW (by decide) _ _
    · rw [if_neg h2, if_neg h2]; exact hW
/-! values -/
def WMany (s _q : ByteArray) (m1 m2 : Int → Int → PS → J × PS) : Prop := ∀ kind en σ τ, Wl s σ τ → σ.e = 0 → σ.p < s.size → (kind = 5 ∧ en = 93 ∨ kind = 6 ∧ en = 125) → Wv s (m1 kind en σ) (m2 kind en τ)
theorem wl_valueW (W : Wr s q) {m1 m2 : Int → Int → PS → J × PS} (hm : WMany s q m1 m2) (h : Wl s σ τ) (hp : σ.p ≤ s.size) : Wv s (valueW s m1 σ) (valueW q m2 τ) := by
  have hB := wx_blanks W h
  have hn := wx_next W hB
  have hpB := (goes_blanks (s := s) hp).le
  have hL := hB.wl
  unfold valueW
  simp only
  rw [hn]
  generalize hσ : blanksS s σ = σ' at *
  generalize hτ : blanksS q τ = τ' at *
  have hin : nextS s σ' ≠ 0 → σ'.e = 0 ∧ σ'.p < s.size := fun hne => next_in (s := s) hne
  have nd : ∀ t : List Nat, (∀ c ∈ t, c ≠ 0 ∧ c ≠ 32 ∧ c ≠ 10) → Wl s (needS s t σ') (needS q t τ') := fun t ht => wl_need W t ht hL
  by_cases c1 : nextS s σ' = 110
  · rw [if_pos c1, if_pos c1]; exact ⟨nd _ (by decide), fun _ => rfl⟩
  rw [if_neg c1, if_neg c1]
  by_cases c2 : nextS s σ' = 102
  · rw [if_pos c2, if_pos c2]; exact ⟨nd _ (by decide), fun _ => rfl⟩
  rw [if_neg c2, if_neg c2]
  by_cases c3 : nextS s σ' = 116
  · rw [if_pos c3, if_pos c3]; exact ⟨nd _ (by decide), fun _ => rfl⟩
  rw [if_neg c3, if_neg c3]
  by_cases c4 : nextS s σ' = 34
  · rw [if_pos c4, if_pos c4]
    have ht := wl_text W hL hpB
    exact ⟨ht.1, fun e => by simp only; rw [ht.2 e]⟩
  rw [if_neg c4, if_neg c4]
  by_cases c5 : nextS s σ' = 45 ∨ (48 ≤ nextS s σ' ∧ nextS s σ' ≤ 57)
  · rw [if_pos c5, if_pos c5]
    have hi := hin (by omega)
    have ht := wl_num W hL hi.1 hi.2
    exact ⟨ht.1, fun e => by simp only; rw [ht.2 e]⟩
  rw [if_neg c5, if_neg c5]
  by_cases c6 : nextS s σ' = 91
  · rw [if_pos c6, if_pos c6]
    have hi := hin (by omega)
    exact hm 5 93 _ _ hL hi.1 hi.2 (.inl ⟨rfl, rfl⟩)
  rw [if_neg c6, if_neg c6]
  by_cases c7 : nextS s σ' = 123
  · rw [if_pos c7, if_pos c7]
    have hi := hin (by omega)
    exact hm 6 125 _ _ hL hi.1 hi.2 (.inr ⟨rfl, rfl⟩)
  rw [if_neg c7, if_neg c7]
  exact ⟨wl_fail hL (by decide) _ _, fun _ => rfl⟩
theorem wl_name (W : Wr s q) (h : Wl s σ τ) (hp : σ.p ≤ s.size) (kind : Int) (names : List ByteArray) : Wv s (nameS s kind names σ) (nameS q kind names τ) := by
  unfold nameS
  split
  · have ht := wl_text W h hp
    have hb := wx_blanks W ht.1
    have hn := wl_need W (nats ⟨#[58]⟩) (by decide) hb.wl
    refine ⟨hn, fun e => ?_⟩
    have gt := goes_text (s := s) hp
    have gb := goes_blanks (s := s) gt.le
    have gn := goes_need (s := s) (nats ⟨#[58]⟩) gb.le
    have e1 : (textS s σ).2.e = 0 := er_of (gb.trans gn) e
    simp only
    rw [ht.2 e1]
  · exact ⟨h, fun _ => rfl⟩
theorem manyF_err {val : PS → J × PS} {kind en : Int} {n : Nat} {names : List ByteArray} {list : List J} (he : σ.e ≠ 0) : manyF s val kind en n names list σ = (.mk kind 0 ⟨#[]⟩ names list, σ) := by
  cases n with
  | zero => rfl
  | succ n => rw [manyF, if_neg he]
theorem wl_manyF (W : Wr s q) {v1 v2 : PS → J × PS} (g1 : ValGoes s v1) (g2 : ValGoes q v2) (hv : ∀ σ τ, Wl s σ τ → σ.p ≤ s.size → Wv s (v1 σ) (v2 τ)) (kind en : Int) (hen : en ≠ 0 ∧ en ≠ 32 ∧ en ≠ 10) :
    ∀ (n n' : Nat) (names : List ByteArray) (list : List J) {σ τ : PS}, Wl s σ τ → σ.p ≤ s.size → τ.p ≤ q.size → (σ.e = 0 → s.size - σ.p < n) → (σ.e = 0 → q.size - τ.p < n') → Wv s (manyF s v1 kind en n names list σ) (manyF q v2 kind en n' names list τ)
  | 0, n', names, list, σ, τ, h, hp, hq, hn, hn' => by
    have he : σ.e ≠ 0 := fun e => by have := hn e; omega
    have he' : τ.e ≠ 0 := by rw [h.eq]; exact he
    rw [manyF_err he, manyF_err he']
    exact ⟨h, fun e => absurd e he⟩
  | n + 1, n', names, list, σ, τ, h, hp, hq, hn, hn' => by
    by_cases he : σ.e = 0
    · have he' : τ.e = 0 := by rw [h.eq]; exact he
      have hl := hn he
      have hl' := hn' he
      cases n' with
      | zero => omega
      | succ n' =>
        have hB := (wx_blanks W h).wl
        have b1 := goes_blanks (s := s) hp
        have b2 := goes_blanks (s := q) hq
        have hX := wl_name W hB b1.le kind names
        have x1 := b1.trans (goes_name (s := s) b1.le kind names)
        have x2 := b2.trans (goes_name (s := q) b2.le kind names)
        have hY := hv _ _ hX.1 x1.le
        have y0 := g1 _ x1.le
        have y1 := x1.trans y0
        have y2 := x2.trans (g2 _ x2.le)
        have hZ := (wx_blanks W hY.1).wl
        have z0 := goes_blanks (s := s) y1.le
        have z1 := y1.trans z0
        have z2 := y2.trans (goes_blanks (s := q) y2.le)
        rw [manyF, manyF, if_pos he, if_pos he']
        simp only
        generalize nameS s kind names (blanksS s σ) = X at *
        generalize nameS q kind names (blanksS q τ) = X' at *
        generalize v1 X.2 = Y at *
        generalize v2 X'.2 = Y' at *
        have ht := wl_takeB W hZ hen.1 hen.2.1 hen.2.2
        have hT := wl_take W hZ hen.1 hen.2.1 hen.2.2
        have q1 := z1.ge
        have q2 := z2.ge
        by_cases h0 : (blanksS s Y.2).e = 0
        · have hYe : Y.2.e = 0 := er_of z0 h0
          have hXe : X.2.e = 0 := er_of y0 hYe
          rw [hX.2 hXe, hY.2 hYe, ht]
          split
          · exact ⟨hT, fun _ => rfl⟩
          · have hN := wl_need W (nats ⟨#[44]⟩) (by decide) hZ
            have n1 := goes_need (s := s) (nats ⟨#[44]⟩) z1.le
            have n2 := goes_need (s := q) (nats ⟨#[44]⟩) z2.le
            have l1 : (nats ⟨#[44]⟩).length = 1 := rfl
            refine wl_manyF W g1 g2 hv kind en hen n n' _ _ hN n1.le n2.le (fun e => ?_) (fun e => ?_)
            · have := needS_ok (s := s) (nats ⟨#[44]⟩) z1.le e
              rw [l1] at this
              have := n1.le
              omega
            · have e' : (needS q (nats ⟨#[44]⟩) (blanksS q Y'.2)).e = 0 := by rw [hN.eq]; exact e
              have := needS_ok (s := q) (nats ⟨#[44]⟩) z2.le e'
              rw [l1] at this
              have := n2.le
              omega
        · have h0' : (blanksS q Y'.2).e ≠ 0 := by rw [hZ.eq]; exact h0
          have k1 : takeB s (blanksS s Y.2) en = false := takeB_no h0 en
          have k2 : takeB q (blanksS q Y'.2) en = false := takeB_no h0' en
          have n1 : needS s (nats ⟨#[44]⟩) (blanksS s Y.2) = blanksS s Y.2 := by
            show needS s [44] (blanksS s Y.2) = _
            rw [needS, if_neg (by simp [takeB_no h0]), failS_no h0]; rfl
          have n2 : needS q (nats ⟨#[44]⟩) (blanksS q Y'.2) = blanksS q Y'.2 := by
            show needS q [44] (blanksS q Y'.2) = _
            rw [needS, if_neg (by simp [takeB_no h0']), failS_no h0']; rfl
          rw [if_neg (by simp [k1]), if_neg (by simp [k2]), n1, n2, manyF_err h0, manyF_err h0']
          exact ⟨hZ, fun e => absurd e h0⟩
    · have he' : τ.e ≠ 0 := by rw [h.eq]; exact he
      rw [manyF_err he, manyF_err he']
      exact ⟨h, fun e => absurd e he⟩
theorem wl_d (h : Wl s σ τ) (d d' : Int) : Wl s { σ with d := d } { τ with d := d' } := h
theorem wl_manyW (W : Wr s q) {v1 v2 : PS → J × PS} (g1 : ValGoes s v1) (g2 : ValGoes q v2) (hv : ∀ σ τ, Wl s σ τ → σ.p ≤ s.size → Wv s (v1 σ) (v2 τ)) (kind en : Int) (hen : en ≠ 0 ∧ en ≠ 32 ∧ en ≠ 10)
    (h : Wl s σ τ) (he : σ.e = 0) (hp : σ.p < s.size) : Wv s (manyW s v1 kind en σ) (manyW q v2 kind en τ) := by
  have hi : Wl s (inD σ) (inD τ) := wl_d (wl_step h fun _ => hp) _ _
  have hB := (wx_blanks W hi).wl
  have hq : τ.p + 1 ≤ q.size := by
    have := W.size
    rcases h.po he with ⟨_, e⟩ | ⟨e, _⟩ <;> omega
  have b1 := goes_blanks (s := s) (σ := inD σ) hp
  have b2 := goes_blanks (s := q) (σ := inD τ) hq
  have ht := wl_takeB W hB hen.1 hen.2.1 hen.2.2
  unfold manyW
  simp only
  rw [ht]
  split
  · exact ⟨wl_d (wl_take W hB hen.1 hen.2.1 hen.2.2) _ _, fun _ => rfl⟩
  · have hf := wl_manyF W g1 g2 hv kind en hen (s.size + 2) (q.size + 2) [] [] hB b1.le b2.le (fun _ => by omega) (fun _ => by omega)
    exact ⟨wl_d hf.1 _ _, hf.2⟩
theorem wl_manyD (W : Wr s q) : ∀ k, WMany s q (manyD s k) (manyD q k)
  | 0 => fun kind en σ τ h he hp _ => ⟨wl_fail h (by decide) _ _, fun _ => rfl⟩
  | k + 1 => fun kind en σ τ h he hp hk =>
    wl_manyW W (goes_valueW (goes_manyD k)) (goes_valueW (goes_manyD k)) (fun σ τ h hp => wl_valueW W (wl_manyD W k) h hp) kind en (by rcases hk with ⟨_, e⟩ | ⟨_, e⟩ <;> rw [e] <;> decide) h he hp
end
/-- **blanks around a text change nothing** -/
theorem parse_wrap {s q : ByteArray} (W : Wr s q) (hs : s.size ≤ 100000) : (parseS q).2.2 = (parseS s).2.2 ∧ ((parseS s).2.2 = 0 → (parseS q).1 = (parseS s).1) := by
  have hsz := W.size
  unfold parseS
  rw [if_neg (by omega), if_neg (by omega)]
  have hl0 : Wl s (blanksS s ⟨0, 0, 0, 0⟩) (blanksS q ⟨0, 0, 0, 0⟩) := by
    have p0 := skip_step (W.pre 0 (by omega))
    have p1 := skip_step (W.pre 1 (by omega))
    have p2 := skip_step (W.pre 2 (by omega))
    have p3 := skip_step (W.pre 3 (by omega))
    have hP : Po s 0 4 := by
      by_cases e : 0 < s.size
      · exact .inl ⟨e, rfl⟩
      · exact .inr ⟨by omega, by omega, by omega⟩
    have := skip_po W _ 0 4 rfl hP
    unfold blanksS
    rw [if_pos rfl, if_pos rfl]
    refine .inl ⟨rfl, rfl, ?_⟩
    show Po s (skip s 0) (skip q 0)
    rw [p0, p1, p2, p3]
    exact this.po
  have hb1 := goes_blanks (s := s) (σ := ⟨0, 0, 0, 0⟩) (Nat.zero_le _)
  have hb2 := goes_blanks (s := q) (σ := ⟨0, 0, 0, 0⟩) (Nat.zero_le _)
  have again : ∀ (x : ByteArray), valueW x (manyD x 64) (blanksS x ⟨0, 0, 0, 0⟩) = valueW x (manyD x 64) ⟨0, 0, 0, 0⟩ := by
    intro x
    unfold valueW
    rw [blanks_again _ (Nat.zero_le _)]
  have hv0 := wl_valueW W (wl_manyD W 64) hl0 hb1.le
  rw [again s, again q] at hv0
  have hv : Wv s (valueD s 64 ⟨0, 0, 0, 0⟩) (valueD q 64 ⟨0, 0, 0, 0⟩) := hv0
  have hB := wx_blanks W hv.1
  have gv := goes_valueD (s := s) 64 ⟨0, 0, 0, 0⟩ (Nat.zero_le _)
  have gb := goes_blanks (s := s) gv.le
  unfold outP topS
  simp only
  generalize valueD s 64 ⟨0, 0, 0, 0⟩ = X at *
  generalize valueD q 64 ⟨0, 0, 0, 0⟩ = Y at *
  unfold endS
  by_cases he : (blanksS s X.2).e = 0
  · have he' : (blanksS q Y.2).e = 0 := by rw [hB.wl.eq]; exact he
    have hXe : X.2.e = 0 := er_of gb he
    rcases hB with ⟨_, _, hP | hP⟩ | ⟨h0, _⟩
    · have e1 : (if (blanksS s X.2).p < s.size then failS (blanksS s X.2) 4 (blanksS s X.2).p else blanksS s X.2) = failS (blanksS s X.2) 4 (blanksS s X.2).p := if_pos hP.1
      have e2 : (if (blanksS q Y.2).p < q.size then failS (blanksS q Y.2) 4 (blanksS q Y.2).p else blanksS q Y.2) = failS (blanksS q Y.2) 4 (blanksS q Y.2).p := if_pos (by omega)
      have f1 := fail_e he 4 ((blanksS s X.2).p : Int)
      have f2 := fail_e he' 4 ((blanksS q Y.2).p : Int)
      have k1 : ¬ (failS (blanksS s X.2) 4 (blanksS s X.2).p).e = 0 := by rw [f1]; decide
      have k2 : ¬ (failS (blanksS q Y.2) 4 (blanksS q Y.2).p).e = 0 := by rw [f2]; decide
      rw [e1, e2, if_neg k1, if_neg k2, f1, f2]
      exact ⟨rfl, fun e => absurd e (show ¬ ((4 : Int) = 0) by decide)⟩
    · have e1 : (if (blanksS s X.2).p < s.size then failS (blanksS s X.2) 4 (blanksS s X.2).p else blanksS s X.2) = blanksS s X.2 := if_neg (by omega)
      have e2 : (if (blanksS q Y.2).p < q.size then failS (blanksS q Y.2) 4 (blanksS q Y.2).p else blanksS q Y.2) = blanksS q Y.2 := if_neg (by omega)
      rw [e1, e2, if_pos he, if_pos he']
      exact ⟨rfl, fun _ => (hv.2 hXe).symm⟩
    · exact absurd he h0
  · have he' : (blanksS q Y.2).e ≠ 0 := by rw [hB.wl.eq]; exact he
    have e1 : (if (blanksS s X.2).p < s.size then failS (blanksS s X.2) 4 (blanksS s X.2).p else blanksS s X.2) = blanksS s X.2 := by rw [failS_no he]; split <;> rfl
    have e2 : (if (blanksS q Y.2).p < q.size then failS (blanksS q Y.2) 4 (blanksS q Y.2).p else blanksS q Y.2) = blanksS q Y.2 := by rw [failS_no he']; split <;> rfl
    rw [e1, e2, if_neg he, if_neg he']
    exact ⟨hB.wl.eq, fun e => absurd e he⟩
/-- .. put around it -/
theorem wr_of {s q : ByteArray} (h : q.data.toList = 32 :: 9 :: 13 :: 10 :: (s.data.toList ++ [32, 10])) : Wr s q := by
  have hls : s.data.toList.length = s.size := by rw [Array.length_toList]; rfl
  have hlq : q.data.toList.length = q.size := by rw [Array.length_toList]; rfl
  have hsz : q.size = s.size + 6 := by rw [← hlq, h]; simp [hls]
  have hF : From q 0 (32 :: 9 :: 13 :: 10 :: (s.data.toList ++ [32, 10])) := h
  have h1 := hF.chr
  have h2 := hF.tail.chr
  have h3 := hF.tail.tail.chr
  have h4 := hF.tail.tail.tail.chr
  have h5 : From q 4 (s.data.toList ++ [32, 10]) := hF.tail.tail.tail.tail
  have h6 := h5.app
  rw [hls] at h6
  have h7 := h6.chr
  have h8 := h6.tail.chr
  have hpre : ∀ i, i < 4 → blank (chr q i) = true := by
    intro i hi
    obtain rfl | rfl | rfl | rfl : i = 0 ∨ i = 1 ∨ i = 2 ∨ i = 3 := by omega
    · rw [h1.1]; rfl
    · rw [h2.1]; rfl
    · rw [h3.1]; rfl
    · rw [h4.1]; rfl
  refine ⟨hsz, hpre, fun i hi => ?_, ?_, ?_⟩
  · have hq : i + 4 < q.size := by omega
    rw [chr_in hi, chr_in hq]
    have e1 : q[i + 4] = q.data.toList[i + 4]'(by omega) := by simp; rfl
    have e2 : s[i] = s.data.toList[i]'(by omega) := by simp; rfl
    rw [e1, e2]
    simp only [h]
    simp only [List.getElem_cons_succ]
    rw [List.getElem_append_left (by omega)]
  · have := h7.1; rw [Nat.add_comm] at this; exact this
  · have := h8.1; rw [show 4 + s.size + 1 = s.size + 5 from by omega] at this; exact this
end Go.Proofs.YtnnhkajjifmlfaaDoor
