/- Policies: the tokens of a text that was told. -/
import Derived.Test.YtnnhkajjifmlfaaDoorP6
namespace Go.Proofs.YtnnhkajjifmlfaaDoor.Pl
open Go.RowKit

section
variable {s : ByteArray} {σ τ : PQ}
theorem lex_eq (s : ByteArray) (i : Nat) (σ τ : PQ) : lexAt s i σ = { lexAt s i τ with bad := σ.bad, gr := σ.gr, ns := σ.ns } := by
  unfold lexAt
  split
  · rfl
  · split
    · rfl
    · split
      · split <;> rfl
      · rfl
theorem next_eq (s : ByteArray) (σ τ : PQ) (h : σ.p = τ.p) : nextP s σ = { nextP s τ with bad := σ.bad, gr := σ.gr, ns := σ.ns } := by
  unfold nextP; rw [h]; exact lex_eq _ _ _ _
theorem next_bad (s : ByteArray) (σ : PQ) : (nextP s σ).bad = σ.bad := by rw [next_eq s σ σ rfl]
/-- the rest of the text, the present token with it -/
def Cur (s : ByteArray) (σ : PQ) (L : List UInt8) : Prop := σ.bad < 0 ∧ ∃ τ : PQ, τ.p ≤ s.size ∧ From s τ.p L ∧ σ = nextP s τ
theorem cur_next {L : List UInt8} (hb : τ.bad < 0) (hp : τ.p ≤ s.size) (h : From s τ.p L) : Cur s (nextP s τ) L :=
  ⟨by rw [next_bad]; exact hb, τ, hp, h, rfl⟩
theorem Cur.puts {L : List UInt8} (h : Cur s σ L) (g : Bool) (l : List PN) : Cur s { σ with gr := g, ns := l } L := by
  obtain ⟨h1, τ, h2, h3, rfl⟩ := h
  refine ⟨h1, { τ with gr := g, ns := l }, h2, h3, ?_⟩
  rw [next_eq s { τ with gr := g, ns := l } τ rfl]
  simp only [next_bad]
theorem Cur.len {L : List UInt8} (h : Cur s σ L) : L.length ≤ s.size := by
  obtain ⟨_, τ, h2, h3, _⟩ := h
  unfold From at h3
  rw [← h3, List.length_drop, Array.length_toList]
  have : s.data.size = s.size := rfl
  omega
theorem ext_from {p : Nat} {l r : List UInt8} (hp : p ≤ s.size) (h : From s p (l ++ r)) : p + l.length ≤ s.size ∧ s.extract p (p + l.length) = ⟨l.toArray⟩ ∧ From s (p + l.length) r := by
  unfold From at h ⊢
  have hl := congrArg List.length h
  rw [List.length_drop, List.length_append, Array.length_toList] at hl
  have e : s.data.size = s.size := rfl
  refine ⟨by omega, ?_, ?_⟩
  · have e1 : (s.extract p (p + l.length)).data.toList = l := by
      rw [ByteArray.data_extract, Array.toList_extract]
      simp only [List.extract_eq_take_drop]
      rw [h, show p + l.length - p = l.length by omega, List.take_left]
    exact ByteArray.ext (Array.toList_inj.1 e1)
  · rw [← List.drop_drop, h, List.drop_left]
theorem bsk_ne {p : Nat} {c : UInt8} {r : List UInt8} (h : From s p (c :: r)) (hc : c.toNat ≠ 32) : bsk s p = p := bsk_stop (by rw [h.chr.1]; exact hc)
theorem Cur.blank {R : List UInt8} (h : Cur s σ (32 :: R)) : Cur s σ R := by
  obtain ⟨h1, τ, h2, h3, rfl⟩ := h
  have hc := h3.chr
  refine ⟨h1, { τ with p := τ.p + 1 }, hc.2, h3.tail, ?_⟩
  have hb : bsk s τ.p = bsk s (τ.p + 1) := bsk_step hc.1
  unfold nextP
  rw [hb, lex_eq s _ { τ with p := τ.p + 1 } τ, lex_eq s _ τ τ]
theorem Cur.nil (h : Cur s σ []) : σ.k = 0 := by
  obtain ⟨h1, τ, h2, h3, rfl⟩ := h
  have hp := h3.nil
  have hb := bsk_bd h2
  unfold nextP lexAt
  rw [if_pos (by omega)]
theorem chr_not0 {c : UInt8} (h : signC c.toNat = true) : c.toNat ≠ 32 ∧ inW c.toNat = false ∧ c.toNat ≠ 34 := by
  unfold signC at h
  simp only [Bool.or_eq_true, beq_iff_eq] at h
  unfold inW
  rcases h with ((((h | h) | h) | h) | h) | h <;> rw [h] <;> decide
theorem Cur.sign {c : UInt8} {R : List UInt8} (h : Cur s σ (c :: R)) (hc : signC c.toNat = true) : σ.k = 4 ∧ σ.x = ⟨#[c]⟩ ∧ Cur s (nextP s σ) R := by
  obtain ⟨h1, τ, h2, h3, h4⟩ := h
  generalize hp : τ.p = p at *
  obtain ⟨c1, c2, c3⟩ := chr_not0 hc
  obtain ⟨k1, k2⟩ := h3.chr
  have hbs := bsk_ne h3 c1
  have he := ext_from (l := [c]) (r := R) h2 h3
  have hlex : nextP s τ = { τ with p := p + 1, x := ⟨#[c]⟩, ta := p, k := 4 } := by
    unfold nextP lexAt
    rw [hp, hbs, if_neg (by omega), if_neg (by rw [k1, c2]; decide), if_neg (by rw [k1]; exact c3), k1, hc]
    simp only [if_true]
    rw [show s.extract p (p + 1) = ⟨#[c]⟩ from he.2.1]
  rw [hlex] at h4
  have e1 : σ.k = 4 := by rw [h4]
  have e2 : σ.x = ⟨#[c]⟩ := by rw [h4]
  have e3 : σ.p = p + 1 := by rw [h4]
  exact ⟨e1, e2, cur_next h1 (by rw [e3]; exact k2) (by rw [e3]; exact h3.tail)⟩
/-- nothing that goes on a word -/
def NoW (r : List UInt8) : Prop := ∀ c l, r = c :: l → inW c.toNat = false
theorem wsk_from : ∀ (l : List UInt8) (p : Nat) (r : List UInt8), (∀ c ∈ l, inW c.toNat = true) → NoW r → From s p (l ++ r) → wsk s p = p + l.length
  | [], p, r, _, hr, h => by
    have h : From s p r := h
    cases r with
    | nil => rw [wsk_stop (by rw [chr_out h.nil]; rfl)]; rfl
    | cons c l => rw [wsk_stop (by rw [h.chr.1]; exact hr c l rfl)]; rfl
  | c :: l, p, r, hd, hr, h => by
    have h : From s p (c :: (l ++ r)) := h
    rw [wsk_step (by rw [h.chr.1]; exact hd c (by simp)), wsk_from l (p + 1) r (fun x hx => hd x (by simp [hx])) hr h.tail]
    simp only [List.length_cons]; omega
theorem Cur.word {w R : List UInt8} (h : Cur s σ (w ++ R)) (hn : w ≠ []) (hw : ∀ c ∈ w, inW c.toNat = true) (hR : NoW R) :
    σ.k = (if digitsB ⟨w.toArray⟩ then 2 else if wordB ⟨w.toArray⟩ then 1 else 5) ∧ σ.x = ⟨w.toArray⟩ ∧ Cur s (nextP s σ) R := by
  obtain ⟨h1, τ, h2, h3, h4⟩ := h
  generalize hp : τ.p = p at *
  have he := ext_from h2 h3
  have hws := wsk_from w p R hw hR h3
  obtain ⟨c, l, rfl⟩ : ∃ c l, w = c :: l := by cases w with
    | nil => exact absurd rfl hn
    | cons c l => exact ⟨c, l, rfl⟩
  obtain ⟨k1, k2⟩ := (show From s p (c :: (l ++ R)) from h3).chr
  have hc := hw c (by simp)
  have hbs := bsk_ne (show From s p (c :: (l ++ R)) from h3) (by intro e; rw [e] at hc; exact absurd hc (by decide))
  have hlex : nextP s τ = { τ with p := p + (c :: l).length, x := ⟨(c :: l).toArray⟩, ta := p, k := if digitsB ⟨(c :: l).toArray⟩ then 2 else if wordB ⟨(c :: l).toArray⟩ then 1 else 5 } := by
    unfold nextP lexAt
    rw [hp, hbs, if_neg (by omega), if_pos (by rw [k1]; exact hc), hws, he.2.1]
  rw [hlex] at h4
  generalize (if digitsB ⟨(c :: l).toArray⟩ then (2 : Int) else if wordB ⟨(c :: l).toArray⟩ then 1 else 5) = kk at *
  have e1 : σ.k = kk := by rw [h4]
  have e2 : σ.x = ⟨(c :: l).toArray⟩ := by rw [h4]
  have e3 : σ.p = p + (c :: l).length := by rw [h4]
  exact ⟨e1, e2, cur_next h1 (by rw [e3]; exact he.1) (by rw [e3]; exact he.2.2)⟩
theorem qsk_from : ∀ (l : List UInt8) (p : Nat) (r : List UInt8), (∀ c ∈ l, c.toNat ≠ 34) → From s p (l ++ 34 :: r) → qsk s p = p + l.length
  | [], p, r, _, h => by
    have h : From s p (34 :: r) := h
    obtain ⟨k1, k2⟩ := h.chr
    unfold qsk
    rw [show s.size - p = (s.size - (p + 1)) + 1 by omega, qskF, if_pos (by rw [k1]; rfl)]; rfl
  | c :: l, p, r, hd, h => by
    have h : From s p (c :: (l ++ 34 :: r)) := h
    obtain ⟨k1, k2⟩ := h.chr
    have ih := qsk_from l (p + 1) r (fun x hx => hd x (by simp [hx])) h.tail
    unfold qsk at ih ⊢
    rw [show s.size - p = (s.size - (p + 1)) + 1 by omega, qskF, if_neg (by rw [k1]; exact hd c (by simp)), ih]
    simp only [List.length_cons]; omega
theorem Cur.quoted {a : ByteArray} {R : List UInt8} (h : Cur s σ (34 :: (a.data.toList ++ 34 :: R))) (ha : plainB a = true) (hq : ∀ c ∈ a.data.toList, c.toNat ≠ 34) :
    σ.k = 3 ∧ σ.x = a ∧ Cur s (nextP s σ) R := by
  obtain ⟨h1, τ, h2, h3, h4⟩ := h
  generalize hp : τ.p = p at *
  obtain ⟨k1, k2⟩ := h3.chr
  have e34 : ((34 : UInt8)).toNat = 34 := rfl
  rw [e34] at k1
  have hbs := bsk_ne h3 (by decide)
  have he := ext_from (show p + 1 ≤ s.size from k2) h3.tail
  have hqs := qsk_from a.data.toList (p + 1) R hq h3.tail
  obtain ⟨m1, m2⟩ := he.2.2.chr
  have hlex : nextP s τ = { τ with p := p + 1 + a.data.toList.length + 1, x := a, ta := p, k := 3 } := by
    unfold nextP lexAt
    rw [hp, hbs, if_neg (by omega), if_neg (by rw [k1]; decide), if_pos k1, hqs, if_pos m2, he.2.1]
    have : (⟨a.data.toList.toArray⟩ : ByteArray) = a := by simp
    rw [this, ha]
    rfl
  rw [hlex] at h4
  have e1 : σ.k = 3 := by rw [h4]
  have e2 : σ.x = a := by rw [h4]
  have e3 : σ.p = p + 1 + a.data.toList.length + 1 := by rw [h4]
  exact ⟨e1, e2, cur_next h1 (by rw [e3]; exact m2) (by rw [e3]; exact he.2.2.tail)⟩
/-! what may follow -/
inductive Fo : Option UInt8 → List UInt8 → Prop where
  | e : Fo none []
  | p (R : List UInt8) : Fo (some 41) (41 :: R)
  | a (R : List UInt8) : Fo (some 38) (32 :: 38 :: R)
  | o (R : List UInt8) : Fo (some 124) (32 :: 124 :: R)
theorem Fo.now {o : Option UInt8} {R : List UInt8} (h : Fo o R) : NoW R := by
  intro c l e
  cases h with
  | e => cases e
  | p R => injection e with e1 e2; subst e1; rfl
  | a R => injection e with e1 e2; subst e1; rfl
  | o R => injection e with e1 e2; subst e1; rfl
theorem sign_at {c : UInt8} (hb : σ.bad < 0) (hk : σ.k = 4) (hx : σ.x = ⟨#[c]⟩) (d : UInt8) : signB d σ = decide (c = d) := by
  unfold signB
  rw [decide_eq_true hb, hk, hx]
  by_cases h : c = d
  · subst h; simp
  · have : ¬ (⟨#[c]⟩ : ByteArray) = ⟨#[d]⟩ := fun e => h (by injection e with e; injection e with e; injection e)
    rw [decide_eq_false h, decide_eq_false this]; rfl
theorem sign_not (hk : σ.k ≠ 4) (d : UInt8) : signB d σ = false := by
  unfold signB
  rw [beq_eq_false_iff_ne.2 hk, Bool.and_false, Bool.false_and]
theorem Fo.sign {o : Option UInt8} {R : List UInt8} (h : Fo o R) (hc : Cur s σ R) (d : UInt8) : signB d σ = decide (o = some d) := by
  cases h with
  | e => rw [sign_not (by rw [hc.nil]; decide)]; rfl
  | p R => obtain ⟨a, b, _⟩ := hc.sign (by decide); rw [sign_at hc.1 a b]; simp
  | a R => obtain ⟨a, b, _⟩ := hc.blank.sign (by decide); rw [sign_at hc.1 a b]; simp
  | o R => obtain ⟨a, b, _⟩ := hc.blank.sign (by decide); rw [sign_at hc.1 a b]; simp
end
end Go.Proofs.YtnnhkajjifmlfaaDoor.Pl
/-! Policies: what is told is read again: the plain law. -/
namespace Go.Proofs.YtnnhkajjifmlfaaDoor.Pl
open Go.RowKit

/-- a tree was read: its nodes behind the others -/
def Res (s : ByteArray) (σ : PQ) (R : List UInt8) (t : PT) (y : Int × PQ) : Prop :=
  y.1 = ((σ.ns.length + t.size : Nat) : Int) - 1 ∧ Cur s y.2 R ∧ y.2.ns = σ.ns ++ t.flat σ.ns.length ∧ y.2.gr = σ.gr
section
variable {s : ByteArray} {σ : PQ} {R : List UInt8}
theorem take_tok {k : Int} (hb : σ.bad < 0) (hk : σ.k = k) : takeP s k σ = (σ.x, nextP s σ) := by
  unfold takeP takeP1; rw [if_pos hk, if_neg (by omega)]
theorem word_in {w : ByteArray} (h : wordB w = true) : (∀ c ∈ w.data.toList, inW c.toNat = true) ∧ w.data.toList ≠ [] ∧ digitsB w = false := by
  unfold wordB at h
  rw [decide_eq_true_eq] at h
  rcases h with rfl | rfl | rfl | rfl | rfl | rfl <;> decide
theorem ba_list (w : ByteArray) : (⟨w.data.toList.toArray⟩ : ByteArray) = w := by simp
/-- a word is taken -/
theorem Cur.take_word {w : ByteArray} (h : Cur s σ (w.data.toList ++ R)) (hw : wordB w = true) (hR : NoW R) :
    takeP s 1 σ = (w, nextP s σ) ∧ Cur s (nextP s σ) R ∧ σ.k ≠ 4 ∧ (nextP s σ).ns = σ.ns ∧ (nextP s σ).gr = σ.gr := by
  obtain ⟨w1, w2, w3⟩ := word_in hw
  obtain ⟨k1, k2, k3⟩ := h.word w2 w1 hR
  rw [ba_list, w3, hw] at k1
  simp only [Bool.false_eq_true, if_false, if_true] at k1
  rw [ba_list] at k2
  refine ⟨by rw [take_tok h.1 k1, k2], k3, by rw [k1]; decide, (next_gr s σ).2, (next_gr s σ).1⟩
theorem leaf_one {x : PN} {F : PQ → Int × PQ} (hx : leafOk x = true) (h : Cur s σ (leafT x ++ R)) (hR : NoW R) : Res s σ R (.leaf x) (notP s F σ) := by
  unfold leafOk at hx
  simp only [Bool.and_eq_true, decide_eq_true_eq, Bool.not_eq_true'] at hx
  obtain ⟨⟨h1, h2⟩, h3⟩ := hx
  have hf := fineN_iff h1
  have now : ∀ l : List UInt8, NoW (32 :: l) := fun l c r e => by injection e with e1; subst e1; rfl
  -- what is left behind the word
  have fin : ∀ {w : ByteArray} {L : List UInt8}, Cur s σ (w.data.toList ++ L) → wordB w = true → NoW L →
      (∀ τ, Cur s τ L → ∃ τ', wordP s w τ = (x, τ') ∧ Cur s τ' R ∧ τ'.ns = τ.ns ∧ τ'.gr = τ.gr) → Res s σ R (.leaf x) (notP s F σ) := by
    intro w L hc hw hL hk
    obtain ⟨t1, t2, t3, t4, t5⟩ := hc.take_word hw hL
    obtain ⟨τ', k1, k2, k3, k4⟩ := hk _ t2
    have e : notP s F σ = putP x τ' := by
      unfold notP
      have eb : bangP s (s.size + 1) σ = (0, σ) := by unfold bangP; rw [sign_not t3]; rfl
      rw [eb]
      show notsP 0 (oneP s F σ).1 (oneP s F σ).2 = _
      unfold notsP oneP
      rw [sign_not t3, t1]
      simp only [Bool.false_eq_true, if_false]
      rw [k1]
    rw [e]
    refine ⟨?_, ?_, ?_, ?_⟩
    · unfold putP; simp only [PT.size]; rw [k3, t4]; omega
    · exact k2.puts _ _
    · unfold putP; simp only [PT.flat]; rw [k3, t4]
    · unfold putP; simp only; rw [k4, t5]
  have num : ∀ {w : ByteArray} {k : Int}, (k = 3 ∨ k = 6) → x.k = k → (∀ τ, wordP s w τ = (⟨k, (numP s τ).1, ⟨#[]⟩, ⟨#[]⟩, 0, 0⟩, (numP s τ).2)) → wordB w = true → Cur s σ ((w.data.toList ++ 32 :: Lib.itoa x.n) ++ R) → Res s σ R (.leaf x) (notP s F σ) := by
    intro w k hk hxk hwp hw hc
    rw [List.append_assoc] at hc
    refine fin hc hw (now _) fun τ hτ => ?_
    have hlim : x.n ≤ 4611686018427387903 := by
      unfold longN at h2
      simp only [Bool.or_eq_false_iff, Bool.and_eq_false_iff, beq_eq_false_iff_ne, decide_eq_false_iff_not] at h2
      rcases hk with rfl | rfl
      · rcases h2.1.2 with h | h
        · exact absurd hxk h
        · omega
      · rcases h2.2 with h | h
        · exact absurd hxk h
        · omega
    have hnn := hf.nn
    obtain ⟨u, hu⟩ : ∃ u : Nat, x.n = (u : Int) := ⟨x.n.toNat, by omega⟩
    have hit : Lib.itoa x.n = Lib.decDigits u := by rw [hu]; unfold Lib.itoa; rw [if_neg (by omega)]; simp
    have hτ2 : Cur s τ (Lib.decDigits u ++ R) := by rw [← hit]; exact Cur.blank hτ
    have hdg := dec_digs u
    obtain ⟨q1, q2, q3⟩ := hτ2.word (dec_ne u) (fun c hc => by have := hdg c hc; unfold inW; simp; omega) hR
    have hdB : digitsB ⟨(Lib.decDigits u).toArray⟩ = true := by
      unfold digitsB
      rw [Bool.and_eq_true]
      refine ⟨?_, ?_⟩
      · rw [digTo_iff]
        intro m hm
        rw [chr_in hm]
        have e0 : (⟨(Lib.decDigits u).toArray⟩ : ByteArray).size = (Lib.decDigits u).length := by show (List.toArray _).size = _; simp
        have hm' : m < (Lib.decDigits u).length := by omega
        exact hdg ((Lib.decDigits u)[m]) (List.getElem_mem _)
      · rw [Bool.or_eq_true]
        cases hdd : Lib.decDigits u with
        | nil => exact absurd hdd (dec_ne u)
        | cons c l =>
          by_cases hl : l = []
          · subst hl
            by_cases h48 : c = 48
            · subst h48; left; rfl
            · right
              have : chr ⟨[c].toArray⟩ 0 = c.toNat := rfl
              rw [this, Bool.not_eq_true', beq_eq_false_iff_ne]
              exact fun e => h48 (UInt8.toNat_inj.1 e)
          · right
            have : chr ⟨(c :: l).toArray⟩ 0 = c.toNat := by rw [chr_in (show 0 < (⟨(c :: l).toArray⟩ : ByteArray).size by show 0 < (c :: l).toArray.size; simp)]; rfl
            rw [this, Bool.not_eq_true', beq_eq_false_iff_ne]
            exact dec_lead u c l hdd hl
    rw [hdB] at q1
    simp only [if_true] at q1
    have ht : takeP s 2 τ = (⟨(Lib.decDigits u).toArray⟩, nextP s τ) := by rw [take_tok hτ2.1 q1, q2]
    obtain ⟨p1, p2⟩ := pint_pos hdg (dec_ne u)
    rw [dec_val] at p1 p2
    have hn : numP s τ = (x.n, nextP s τ) := by
      unfold numP
      rw [ht]
      have e1 : (⟨(Lib.decDigits u).toArray⟩ : ByteArray).data.toList = Lib.decDigits u := by simp
      rw [e1, p1, decide_eq_true (show u < 9223372036854775808 by omega), p2 (by omega), hu]
      simp
    refine ⟨nextP s τ, ?_, q3, (next_gr s τ).2, (next_gr s τ).1⟩
    rw [hwp, hn]
    have e1 := hf.a0 (by omega) (by omega)
    have e2 := hf.b0 (by omega)
    have e3 := hf.l0 (by omega)
    have e4 := hf.r0 (by omega)
    obtain ⟨k', n, a, b, l, r⟩ := x
    simp only at *
    subst hxk e1 e2 e3 e4
    rfl
  have quot : ∀ {a : ByteArray}, quotB a = true → plainB a = true ∧ ∀ c ∈ a.data.toList, c.toNat ≠ 34 := by
    intro a ha
    unfold quotB textB hasB at ha
    simp only [Bool.and_eq_true, Bool.not_eq_true'] at ha
    refine ⟨ha.1.2, fun c hc e => ?_⟩
    have : c = 34 := UInt8.toNat_inj.1 e
    subst this
    have := ha.2
    rw [List.contains_eq_mem, decide_eq_false_iff_not] at this
    exact this hc
  -- a quoted text is taken
  have tq : ∀ {a : ByteArray} {τ : PQ} {L : List UInt8}, quotB a = true → Cur s τ (34 :: (a.data.toList ++ 34 :: L)) → takeP s 3 τ = (a, nextP s τ) ∧ Cur s (nextP s τ) L := by
    intro a τ L ha hc
    obtain ⟨g1, g2⟩ := quot ha
    obtain ⟨c1, c2, c3⟩ := hc.quoted g1 g2
    exact ⟨by rw [take_tok hc.1 c1, c2], c3⟩
  have z6 : x.k = 1 ∨ x.k = 2 ∨ x.k = 3 ∨ x.k = 4 ∨ x.k = 5 ∨ x.k = 6 := by have := hf.k1; omega
  unfold leafT at h
  rcases z6 with e | e | e | e | e | e
  · rw [if_pos e] at h
    refine fin h (by decide) hR fun τ hτ => ⟨τ, ?_, hτ, rfl, rfl⟩
    unfold wordP
    rw [if_pos rfl]
    have e0 := hf.n0 (by omega) (by omega)
    have e1 := hf.a0 (by omega) (by omega)
    have e2 := hf.b0 (by omega)
    have e3 := hf.l0 (by omega)
    have e4 := hf.r0 (by omega)
    obtain ⟨k', n, a, b, l, r⟩ := x
    simp only at *
    subst e e0 e1 e2 e3 e4
    rfl
  · rw [if_neg (by omega), if_pos e] at h
    refine fin h (by decide) hR fun τ hτ => ⟨τ, ?_, hτ, rfl, rfl⟩
    unfold wordP
    rw [if_neg (by decide), if_pos rfl]
    have e0 := hf.n0 (by omega) (by omega)
    have e1 := hf.a0 (by omega) (by omega)
    have e2 := hf.b0 (by omega)
    have e3 := hf.l0 (by omega)
    have e4 := hf.r0 (by omega)
    obtain ⟨k', n, a, b, l, r⟩ := x
    simp only at *
    subst e e0 e1 e2 e3 e4
    rfl
  · rw [if_neg (by omega), if_neg (by omega), if_pos e] at h
    exact num (.inl rfl) e (fun τ => by unfold wordP; rw [if_neg (by decide), if_neg (by decide), if_pos rfl]) (by decide) h
  · rw [if_neg (by omega), if_neg (by omega), if_neg (by omega), if_pos e, List.append_assoc] at h
    refine fin h (by decide) (now _) fun τ hτ => ?_
    have hτ : Cur s τ (34 :: (x.a.data.toList ++ 34 :: R)) := by
      have := Cur.blank (R := 34 :: (x.a.data.toList ++ 34 :: R)) (σ := τ) (by simpa using hτ)
      exact this
    obtain ⟨a1, a2⟩ := tq hf.qa hτ
    refine ⟨nextP s τ, ?_, a2, (next_gr s τ).2, (next_gr s τ).1⟩
    unfold wordP
    rw [if_neg (by decide), if_neg (by decide), if_neg (by decide), if_neg (by decide), if_pos rfl, a1]
    have e0 := hf.n0 (by omega) (by omega)
    have e2 := hf.b0 (by omega)
    have e3 := hf.l0 (by omega)
    have e4 := hf.r0 (by omega)
    obtain ⟨k', n, a, b, l, r⟩ := x
    simp only at *
    subst e e0 e2 e3 e4
    rfl
  · rw [if_neg (by omega), if_neg (by omega), if_neg (by omega), if_neg (by omega), if_pos e, List.append_assoc] at h
    refine fin h (by decide) (now _) fun τ hτ => ?_
    have hτ : Cur s τ (34 :: (x.a.data.toList ++ 34 :: 61 :: 34 :: (x.b.data.toList ++ 34 :: R))) := by
      have := Cur.blank (R := 34 :: (x.a.data.toList ++ 34 :: 61 :: 34 :: (x.b.data.toList ++ 34 :: R))) (σ := τ) (by simpa using hτ)
      exact this
    obtain ⟨a1, a2⟩ := tq hf.qa hτ
    obtain ⟨b1, b2, b3⟩ := a2.sign (by decide)
    have hs : signB 61 (nextP s τ) = true := by rw [sign_at a2.1 b1 b2]; rfl
    obtain ⟨c1, c2⟩ := tq hf.qb b3
    refine ⟨nextP s (nextP s (nextP s τ)), ?_, c2, ?_, ?_⟩
    · unfold wordP
      rw [if_neg (by decide), if_neg (by decide), if_neg (by decide), if_neg (by decide), if_neg (by decide), if_pos rfl]
      unfold tagP needP
      simp only
      rw [a1]
      simp only
      rw [hs]
      simp only [if_true]
      rw [c1]
      have e0 := hf.n0 (by omega) (by omega)
      have e3 := hf.l0 (by omega)
      have e4 := hf.r0 (by omega)
      obtain ⟨k', n, a, b, l, r⟩ := x
      simp only at *
      subst e e0 e3 e4
      rfl
    · rw [(next_gr _ _).2, (next_gr _ _).2, (next_gr _ _).2]
    · rw [(next_gr _ _).1, (next_gr _ _).1, (next_gr _ _).1]
  · rw [if_neg (by omega), if_neg (by omega), if_neg (by omega), if_neg (by omega), if_neg (by omega)] at h
    exact num (.inr rfl) e (fun τ => by unfold wordP; rw [if_neg (by decide), if_neg (by decide), if_neg (by decide), if_pos rfl]) (by decide) h
end
end Go.Proofs.YtnnhkajjifmlfaaDoor.Pl

/-! Policies: what is told is read again: trees. -/
namespace Go.Proofs.YtnnhkajjifmlfaaDoor.Pl
open Go.RowKit

section
variable {s : ByteArray} {σ : PQ} {R : List UInt8}
theorem Cur.put {L : List UInt8} (h : Cur s σ L) (x : PN) : Cur s (putP x σ).2 L := h.puts _ _
theorem many_stop {c : UInt8} {k : Int} {F : PQ → Int × PQ} (f : Nat) (i : Int) (h : signB c σ = false) : manyP s c k F f i σ = (i, σ) := by
  cases f with
  | zero => rfl
  | succ f => unfold manyP; rw [h]; rfl
theorem bang_no (h : signB 33 σ = false) : ∀ f : Nat, bangP s f σ = (0, σ)
  | 0 => rfl
  | f + 1 => by unfold bangP; rw [h]; rfl
theorem bang_yes (h : signB 33 σ = true) (f : Nat) : bangP s (f + 1) σ = ((bangP s f (nextP s σ)).1 + 1, (bangP s f (nextP s σ)).2) := by
  conv => lhs; unfold bangP
  rw [if_pos h]
/-- enough ! are looked for -/
theorem bang_fuel : ∀ (f : Nat) (σ : PQ) (R : List UInt8), Cur s σ R → R.length ≤ f → bangP s (f + 1) σ = bangP s f σ
  | f, σ, [], h, _ => by
    have hs : signB 33 σ = false := sign_not (by rw [h.nil]; decide) _
    rw [bang_no hs, bang_no hs]
  | 0, _, _ :: _, _, h => by simp at h
  | f + 1, σ, c :: R, h, hl => by
    by_cases h32 : c = 32
    · subst h32
      exact bang_fuel (f + 1) σ R h.blank (by simp only [List.length_cons] at hl; omega)
    · cases hs : signB 33 σ with
      | false => rw [bang_no hs, bang_no hs]
      | true =>
        cases hc : signC c.toNat with
        | true =>
          have hn := (h.sign hc).2.2
          rw [bang_yes hs, bang_yes hs, bang_fuel f _ R hn (by simp only [List.length_cons] at hl; omega)]
        | false =>
          exfalso
          obtain ⟨h1, τ, h2, h3, rfl⟩ := h
          have hk := signB_k hs
          have hbs := bsk_ne h3 (fun e => h32 (UInt8.toNat_inj.1 e))
          obtain ⟨k1, k2⟩ := h3.chr
          unfold nextP lexAt at hk
          rw [hbs, if_neg (by omega), k1, hc] at hk
          revert hk
          repeat' split
          all_goals first | contradiction | simp
/-- at the level of ! -/
def TA (s : ByteArray) (t : PT) : Prop := ∀ (d : Nat) (σ : PQ) (R : List UInt8) (o : Option UInt8), Cur s σ (par t.isBin t.tx ++ R) → Fo o R → (par t.isBin t.tx ++ R).length < d → Res s σ R t (notP s (orD s d) σ)
/-- at the level of & -/
def TB (s : ByteArray) (p : Bool) (t : PT) : Prop := ∀ (d : Nat) (σ : PQ) (R : List UInt8) (o : Option UInt8), Cur s σ (par p t.tx ++ R) → Fo o R → (par p t.tx ++ R).length < d →
  ∃ f y, andP s (orD s d) σ = manyP s 38 8 (notP s (orD s d)) f y.1 y.2 ∧ Res s σ R t y ∧ R.length < f
/-- at the level of | -/
def TC (s : ByteArray) (t : PT) : Prop := ∀ (d : Nat) (σ : PQ) (R : List UInt8) (o : Option UInt8), Cur s σ (t.tx ++ R) → Fo o R → o ≠ some 38 → (t.tx ++ R).length < d →
  ∃ f y, orW s (orD s d) σ = manyP s 124 9 (andP s (orD s d)) f y.1 y.2 ∧ Res s σ R t y ∧ R.length < f
theorem tb_of_ta {t : PT} {p : Bool} (h : TA s t) (hp : par p t.tx = par t.isBin t.tx) : TB s p t := by
  intro d σ R o hc hf hl
  rw [hp] at hc hl
  have hr := h d σ R o hc hf hl
  exact ⟨s.size + 1, notP s (orD s d) σ, rfl, hr, by have := hr.2.1.len; omega⟩
theorem tc_of_tb {t : PT} (h : TB s false t) : TC s t := by
  intro d σ R o hc hf ho hl
  obtain ⟨f, y, h1, h2, h3⟩ := h d σ R o hc hf hl
  have hs : signB 38 y.2 = false := by rw [hf.sign h2.2.1]; simpa using ho
  rw [many_stop f _ hs] at h1
  refine ⟨s.size + 1, y, ?_, h2, by have := h2.2.1.len; omega⟩
  unfold orW
  rw [h1]
/-- what stands behind a sign is put together -/
theorem Res.two {t u : PT} {k : Int} {y z : Int × PQ} {R1 R2 : List UInt8} (h1 : Res s σ R1 t y) (hy : (nextP s y.2).ns = y.2.ns ∧ (nextP s y.2).gr = y.2.gr) (h2 : Res s (nextP s y.2) R2 u z) :
    Res s σ R2 (.bin k t u) (putP ⟨k, 0, ⟨#[]⟩, ⟨#[]⟩, y.1, z.1⟩ z.2) := by
  obtain ⟨a1, a2, a3, a4⟩ := h1
  obtain ⟨b1, b2, b3, b4⟩ := h2
  rw [hy.1, a3] at b1 b3
  rw [hy.2] at b4
  have hlen : (σ.ns ++ t.flat σ.ns.length).length = σ.ns.length + t.size := by rw [List.length_append, t.flat_len]
  rw [hlen] at b1 b3
  refine ⟨?_, b2.put _, ?_, by unfold putP; simp only; rw [b4, a4]⟩
  · unfold putP
    simp only [PT.size]
    rw [b3, List.length_append, hlen, u.flat_len]
    omega
  · unfold putP
    simp only [PT.flat]
    rw [b3, a1, b1]
    simp only [List.append_assoc]
theorem ta_not {t : PT} (h : TA s t) : TA s (.not t) := by
  intro d σ R o hc hf hl
  have hc : Cur s σ (33 :: (par t.isBin t.tx ++ R)) := hc
  have hl : (33 :: (par t.isBin t.tx ++ R)).length < d := hl
  obtain ⟨k1, k2, k3⟩ := hc.sign (by decide)
  have hs : signB 33 σ = true := by rw [sign_at hc.1 k1 k2]; rfl
  have hr := h d (nextP s σ) R o k3 hf (by simp only [List.length_cons] at hl; omega)
  have hfu : bangP s (s.size + 1) (nextP s σ) = bangP s s.size (nextP s σ) := bang_fuel s.size _ _ k3 k3.len
  have e : notP s (orD s d) σ = putP ⟨7, 0, ⟨#[]⟩, ⟨#[]⟩, (notP s (orD s d) (nextP s σ)).1, 0⟩ (notP s (orD s d) (nextP s σ)).2 := by
    have eb : bangP s (s.size + 1) σ = ((bangP s s.size (nextP s σ)).1 + 1, (bangP s s.size (nextP s σ)).2) := bang_yes hs _
    unfold notP
    rw [eb, hfu]
    simp only
    rw [notsP_succ]
  rw [e]
  generalize notP s (orD s d) (nextP s σ) = y at *
  obtain ⟨b1, b2, b3, b4⟩ := hr
  rw [(next_gr s σ).2] at b1 b3
  rw [(next_gr s σ).1] at b4
  refine ⟨?_, b2.put _, ?_, b4⟩
  · unfold putP
    simp only [PT.size]
    rw [b3, List.length_append, t.flat_len]
    omega
  · unfold putP
    simp only [PT.flat]
    rw [b3, b1, List.append_assoc]
theorem ta_bin {t : PT} (hb : t.isBin = true) (h : TC s t) : TA s t := by
  intro d σ R o hc hf hl
  have ep : par t.isBin t.tx ++ R = 40 :: (t.tx ++ 41 :: R) := by rw [hb]; simp [par]
  rw [ep] at hc hl
  obtain ⟨k1, k2, k3⟩ := hc.sign (by decide)
  have h33 : signB 33 σ = false := by rw [sign_at hc.1 k1 k2]; rfl
  have h40 : signB 40 σ = true := by rw [sign_at hc.1 k1 k2]; rfl
  cases d with
  | zero => omega
  | succ d =>
    obtain ⟨f, y, y1, y2, y3⟩ := h d (nextP s σ) (41 :: R) (some 41) k3 (.p R) (by decide) (by simp only [List.length_cons] at hl; omega)
    have hs : signB 124 y.2 = false := by rw [(Fo.p R).sign y2.2.1]; rfl
    rw [many_stop f _ hs] at y1
    obtain ⟨m1, m2, m3⟩ := y2.2.1.sign (by decide)
    have h41 : signB 41 y.2 = true := by rw [sign_at y2.2.1.1 m1 m2]; rfl
    have e : notP s (orD s (d + 1)) σ = (y.1, nextP s y.2) := by
      have eb : bangP s (s.size + 1) σ = (0, σ) := by unfold bangP; rw [h33]; rfl
      unfold notP
      rw [eb]
      show notsP 0 (oneP s (orD s (d + 1)) σ).1 (oneP s (orD s (d + 1)) σ).2 = _
      unfold notsP oneP
      rw [if_pos h40]
      show ((orW s (orD s d) (nextP s σ)).1, needP s 41 (orW s (orD s d) (nextP s σ)).2) = _
      rw [y1]
      unfold needP
      rw [if_pos h41]
    rw [e]
    obtain ⟨b1, b2, b3, b4⟩ := y2
    rw [(next_gr s σ).2] at b1 b3
    rw [(next_gr s σ).1] at b4
    exact ⟨b1, m3, by simp only; rw [(next_gr _ _).2, b3], by simp only; rw [(next_gr _ _).1, b4]⟩
theorem tb_and {t u : PT} (ht : TB s t.isOr t) (hu : TA s u) : TB s false (.bin 8 t u) := by
  intro d σ R o hc hf hl
  have et : par false (PT.bin 8 t u).tx ++ R = par t.isOr t.tx ++ 32 :: 38 :: 32 :: (par u.isBin u.tx ++ R) := by
    have e : (PT.bin 8 t u).tx = par t.isOr t.tx ++ 32 :: 38 :: 32 :: par u.isBin u.tx := by rw [PT.tx, if_pos rfl]
    show (PT.bin 8 t u).tx ++ R = _
    rw [e]
    simp only [List.append_assoc, List.cons_append]
  rw [et] at hc hl
  obtain ⟨f, y, y1, y2, y3⟩ := ht d σ _ (some 38) hc (.a _) hl
  have hy := y2.2.1.blank
  obtain ⟨m1, m2, m3⟩ := hy.sign (by decide)
  have h38 : signB 38 y.2 = true := by rw [sign_at hy.1 m1 m2]; rfl
  have hz := hu d (nextP s y.2) R o m3.blank hf (by simp only [List.length_append, List.length_cons] at hl ⊢; omega)
  have hr := Res.two (k := 8) y2 ⟨(next_gr s y.2).2, (next_gr s y.2).1⟩ hz
  cases f with
  | zero => omega
  | succ f =>
    refine ⟨f, _, ?_, hr, by simp only [List.length_append, List.length_cons] at y3; omega⟩
    rw [y1, manyP, if_pos h38]
theorem tc_or {t u : PT} (ht : TC s t) (hu : TB s u.isOr u) : TC s (.bin 9 t u) := by
  intro d σ R o hc hf ho hl
  have et : (PT.bin 9 t u).tx ++ R = t.tx ++ 32 :: 124 :: 32 :: (par u.isOr u.tx ++ R) := by
    rw [PT.tx, if_neg (by decide)]
    simp only [List.append_assoc, List.cons_append]
  rw [et] at hc hl
  obtain ⟨f, y, y1, y2, y3⟩ := ht d σ _ (some 124) hc (.o _) (by decide) hl
  have hy := y2.2.1.blank
  obtain ⟨m1, m2, m3⟩ := hy.sign (by decide)
  have h124 : signB 124 y.2 = true := by rw [sign_at hy.1 m1 m2]; rfl
  obtain ⟨g, z, z1, hz, z3⟩ := hu d (nextP s y.2) R o m3.blank hf (by simp only [List.length_append, List.length_cons] at hl ⊢; omega)
  have hs : signB 38 z.2 = false := by rw [hf.sign hz.2.1]; simpa using ho
  rw [many_stop g _ hs] at z1
  have hr := Res.two (k := 9) y2 ⟨(next_gr s y.2).2, (next_gr s y.2).1⟩ hz
  cases f with
  | zero => omega
  | succ f =>
    refine ⟨f, _, ?_, hr, by simp only [List.length_append, List.length_cons] at y3; omega⟩
    rw [y1, manyP, if_pos h124, z1]
theorem tree_all (s : ByteArray) : ∀ t : PT, t.ok = true → TA s t ∧ TB s t.isOr t ∧ TC s t
  | .leaf x, h => by
    have hA : TA s (.leaf x) := fun d σ R o hc hf _ => leaf_one h hc hf.now
    exact ⟨hA, tb_of_ta hA rfl, tc_of_tb (tb_of_ta hA rfl)⟩
  | .not t, h => by
    have hA : TA s (.not t) := ta_not (tree_all s t h).1
    exact ⟨hA, tb_of_ta hA rfl, tc_of_tb (tb_of_ta hA rfl)⟩
  | .bin k t u, h => by
    simp only [PT.ok, Bool.and_eq_true, Bool.or_eq_true, beq_iff_eq] at h
    obtain ⟨⟨hk, h1⟩, h2⟩ := h
    obtain ⟨a1, a2, a3⟩ := tree_all s t h1
    obtain ⟨b1, b2, b3⟩ := tree_all s u h2
    rcases hk with rfl | rfl
    · have hB : TB s false (.bin 8 t u) := tb_and a2 b1
      have hC := tc_of_tb hB
      exact ⟨ta_bin rfl hC, hB, hC⟩
    · have hC : TC s (.bin 9 t u) := tc_or a3 b2
      have hA := ta_bin rfl hC
      exact ⟨hA, tb_of_ta hA rfl, hC⟩
end
/-- what is told is read again -/
theorem parse_back {t : PT} (ht : t.ok = true) (hc : checkN (t.flat 0) = 0) (hl : t.tx.length ≤ 8192) : parseP ⟨t.tx.toArray⟩ = (t.flat 0, 0, 0) := by
  have hsz : (⟨t.tx.toArray⟩ : ByteArray).size = t.tx.length := by show (List.toArray _).size = _; simp
  generalize hs : (⟨t.tx.toArray⟩ : ByteArray) = s at *
  have hfrom : From s 0 t.tx := by unfold From; rw [← hs]; simp
  have hcur : Cur s (nextP s startP) (t.tx ++ []) := by
    rw [List.append_nil]
    exact cur_next (by decide) (Nat.zero_le _) hfrom
  obtain ⟨f, y, y1, y2, y3⟩ := (tree_all s t ht).2.2 (s.size + 1) (nextP s startP) [] none hcur .e (by decide) (by rw [List.append_nil]; omega)
  have hst : signB 124 y.2 = false := by rw [Fo.e.sign y2.2.1]; rfl
  rw [many_stop f _ hst] at y1
  have htop : topP s = y.2 := by
    unfold topP
    show endP (orW s (orD s (s.size + 1)) (nextP s startP)).2 = _
    rw [y1]
    unfold endP
    rw [if_pos y2.2.1.nil]
  have hns : y.2.ns = t.flat 0 := by rw [y2.2.2.1, (next_gr _ _).2]; rfl
  have hgr : y.2.gr = false := by rw [y2.2.2.2, (next_gr _ _).1]; rfl
  have hbad := y2.2.1.1
  unfold parseP
  rw [if_neg (by omega), htop, if_neg (by omega), hgr, hns, hc]
  rfl
end Go.Proofs.YtnnhkajjifmlfaaDoor.Pl
