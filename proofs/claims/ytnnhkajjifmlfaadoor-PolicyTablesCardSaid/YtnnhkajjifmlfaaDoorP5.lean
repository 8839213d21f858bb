/- Policies: both readers of a text tell the same: the next token. -/
import Derived.Test.YtnnhkajjifmlfaaDoorP2
namespace Go.Proofs.YtnnhkajjifmlfaaDoor.Pl
open Go.RowKit

def flagP (σ : PQ) : Bool := σ.gr || σ.ns.any longN
def KK (a b : Int) : Prop := (a = 0 ∧ b = 0) ∨ (a = 1 ∧ b = 1) ∨ (a = 2 ∧ b = 3) ∨ (a = 3 ∧ b = 4) ∨ (a = 4 ∧ b = 2)
/-- what is gathered is the same -/
def Fl (σ : PQ) (ρ : RQ) : Prop := (flagP σ = true ∧ ρ.lg = true) ∨ (flagP σ = false ∧ ρ.lg = false ∧ σ.ns = ρ.ns)
/-- the same token -/
structure Tk (s : ByteArray) (σ : PQ) (ρ : RQ) : Prop where
  hb : σ.bad < 0
  rb : ρ.bad < 0
  hp : σ.p = ρ.p
  ps : σ.p ≤ s.size
  ta : (σ.ta : Int) = ρ.ta
  le : σ.ta ≤ σ.p
  lt : σ.k ≠ 0 → σ.ta < σ.p
  x : σ.x = ρ.x
  kk : KK σ.k ρ.k
  num : σ.k = 2 → digs σ.x.data.toList ∧ σ.x.data.toList ≠ []
  wrd : σ.k = 1 → wordB σ.x = true
def Gd (s : ByteArray) (σ : PQ) (ρ : RQ) : Prop := Tk s σ ρ ∧ Fl σ ρ
def effB (σ : PQ) : Int := if σ.bad < 0 then (if σ.k = 5 then (σ.ta : Int) else -1) else σ.bad
def Bd (σ : PQ) (ρ : RQ) : Prop := 0 ≤ effB σ ∧ ρ.bad = effB σ ∧ ρ.k = 0
def Sim (s : ByteArray) (t : Nat) (σ : PQ) (ρ : RQ) : Prop := Bd σ ρ ∨ (Gd s σ ρ ∧ t ≤ σ.ta)

theorem extract_get {s : ByteArray} {i j m : Nat} (hj : j ≤ s.size) (hm : m < j - i) : chr (s.extract i j) m = chr s (i + m) := by
  have h1 : m < (s.extract i j).size := by rw [sub_size hj]; exact hm
  rw [chr_in h1, chr_in (show i + m < s.size by omega)]
  congr 1
  rw [ByteArray.getElem_extract]
theorem plainTo_iff (x : ByteArray) : ∀ n : Nat, plainTo x n = true ↔ ∀ m, m < n → 32 ≤ chr x m ∧ chr x m ≤ 126
  | 0 => by simp [plainTo]
  | n + 1 => by
    rw [plainTo, Bool.and_eq_true, plainTo_iff x n, Bool.and_eq_true, decide_eq_true_eq, decide_eq_true_eq]
    constructor
    · rintro ⟨h1, h2⟩ m hm
      rcases Nat.lt_succ_iff_lt_or_eq.1 hm with h | rfl
      · exact h1 m h
      · exact h2
    · exact fun h => ⟨fun m hm => h m (by omega), h n (by omega)⟩
theorem digTo_iff (x : ByteArray) : ∀ n : Nat, digTo x n = true ↔ ∀ m, m < n → 48 ≤ chr x m ∧ chr x m ≤ 57
  | 0 => by simp [digTo]
  | n + 1 => by
    rw [digTo, Bool.and_eq_true, digTo_iff x n, Bool.and_eq_true, decide_eq_true_eq, decide_eq_true_eq]
    constructor
    · rintro ⟨h1, h2⟩ m hm
      rcases Nat.lt_succ_iff_lt_or_eq.1 hm with h | rfl
      · exact h1 m h
      · exact h2
    · exact fun h => ⟨fun m hm => h m (by omega), h n (by omega)⟩
theorem digs_of_to {x : ByteArray} (h : digTo x x.size = true) : digs x.data.toList := by
  rw [digTo_iff] at h
  intro c hc
  obtain ⟨i, hi, rfl⟩ := List.getElem_of_mem hc
  have hi' : i < x.size := by simpa using hi
  have := h i hi'
  rw [chr_in hi'] at this
  rw [Array.getElem_toList]
  exact this
/-- the quote behind i -/
theorem qskF_spec (s : ByteArray) : ∀ (n i : Nat), s.size - i = n → i ≤ qskF s n i ∧ (∀ m, i ≤ m → m < qskF s n i → chr s m ≠ 34) ∧ (qskF s n i < s.size → chr s (qskF s n i) = 34) ∧ (i ≤ s.size → qskF s n i ≤ s.size)
  | 0, i, h => by simp only [qskF]; exact ⟨Nat.le_refl _, fun m h1 h2 => by omega, fun h1 => by omega, fun h => h⟩
  | n + 1, i, h => by
    rw [qskF]
    split
    · exact ⟨Nat.le_refl _, fun m h1 h2 => by omega, fun _ => by assumption, fun h => h⟩
    · obtain ⟨h1, h2, h3, h4⟩ := qskF_spec s n (i + 1) (by omega)
      refine ⟨by omega, fun m hm1 hm2 => ?_, h3, fun _ => h4 (by omega)⟩
      rcases Nat.lt_or_ge i m with h5 | h5
      · exact h2 m h5 hm2
      · obtain rfl : m = i := by omega
        assumption
theorem rskF_spec (s : ByteArray) : ∀ (n i : Nat), s.size - i = n → i ≤ rskF s n i ∧ (∀ m, i ≤ m → m < rskF s n i → chr s m ≠ 34 ∧ 32 ≤ chr s m ∧ chr s m ≤ 126) ∧ (rskF s n i < s.size → ¬ (chr s (rskF s n i) ≠ 34 ∧ 32 ≤ chr s (rskF s n i) ∧ chr s (rskF s n i) ≤ 126)) ∧ (i ≤ s.size → rskF s n i ≤ s.size)
  | 0, i, h => by simp only [rskF]; exact ⟨Nat.le_refl _, fun m h1 h2 => by omega, fun h1 => by omega, fun h => h⟩
  | n + 1, i, h => by
    rw [rskF]
    split
    · obtain ⟨h1, h2, h3, h4⟩ := rskF_spec s n (i + 1) (by omega)
      refine ⟨by omega, fun m hm1 hm2 => ?_, h3, fun _ => h4 (by omega)⟩
      rcases Nat.lt_or_ge i m with h5 | h5
      · exact h2 m h5 hm2
      · obtain rfl : m = i := by omega
        assumption
    · exact ⟨Nat.le_refl _, fun m h1 h2 => by omega, fun _ => by assumption, fun h => h⟩
theorem qsk_rsk {s : ByteArray} {i : Nat} (hi : i ≤ s.size) :
    (qsk s i < s.size ∧ plainB (s.extract i (qsk s i)) = true ↔ rsk s i < s.size ∧ chr s (rsk s i) = 34) ∧ (rsk s i < s.size → chr s (rsk s i) = 34 → rsk s i = qsk s i) := by
  obtain ⟨q1, q2, q3, q4⟩ := qskF_spec s (s.size - i) i rfl
  obtain ⟨r1, r2, r3, r4⟩ := rskF_spec s (s.size - i) i rfl
  have q4 := q4 hi
  have r4 := r4 hi
  unfold qsk rsk
  generalize qskF s (s.size - i) i = q at *
  generalize rskF s (s.size - i) i = r at *
  have eq : r < s.size → chr s r = 34 → r = q := fun h1 h2 => by
    rcases Nat.lt_trichotomy r q with h | h | h
    · exact absurd h2 (q2 r r1 h)
    · exact h
    · exact absurd (q3 (by omega)) (r2 q q1 h).1
  refine ⟨⟨fun ⟨h1, h2⟩ => ?_, fun ⟨h1, h2⟩ => ?_⟩, eq⟩
  · unfold plainB at h2
    rw [plainTo_iff, sub_size (by omega)] at h2
    have hr : r = q := by
      rcases Nat.lt_trichotomy r q with h | h | h
      · have h5 := h2 (r - i) (by omega)
        rw [extract_get (by omega) (by omega), show i + (r - i) = r from by omega] at h5
        exact absurd ⟨q2 r r1 h, h5⟩ (r3 (by omega))
      · exact h
      · exact absurd (q3 h1) (r2 q q1 h).1
    subst hr
    exact ⟨h1, q3 h1⟩
  · have hr := eq h1 h2
    subst hr
    refine ⟨h1, ?_⟩
    unfold plainB
    rw [plainTo_iff, sub_size (by omega)]
    intro m hm
    rw [extract_get (by omega) hm]
    exact (r2 _ (by omega) (by omega)).2
theorem wsk_pos {s : ByteArray} {i : Nat} (h : inW (chr s i) = true) : i < wsk s i ∧ wsk s i ≤ s.size := by
  have hi := inW_chr h
  rw [wsk_step h]
  have := wsk_bd (s := s) (i := i + 1) (by omega)
  omega
theorem one_iff (x : ByteArray) : x = ⟨#[48]⟩ ↔ x.size = 1 ∧ chr x 0 = 48 := by
  constructor
  · rintro rfl; exact ⟨rfl, rfl⟩
  · rintro ⟨h1, h2⟩
    rw [chr_in (by omega)] at h2
    obtain ⟨⟨l⟩⟩ := x
    match l, h1 with
    | [c], _ =>
      have e2 : ((ByteArray.mk ⟨[c]⟩)[0]'(by show 0 < 1; omega)) = c := rfl
      rw [e2] at h2
      have : c = 48 := UInt8.toNat_inj.1 h2
      subst this; rfl
theorem digitsB_eq {x : ByteArray} (h : 0 < x.size) : digitsB x = numOk x ∧ (digitsB x = true → isDig (chr x 0) = true ∧ digs x.data.toList ∧ x.data.toList ≠ []) := by
  have e : digitsB x = numOk x := by
    unfold digitsB numOk
    rw [Bool.and_comm]
    cases hd : digTo x x.size with
    | false => simp
    | true =>
      rw [Bool.and_true, Bool.and_true]
      by_cases h0 : chr x 0 = 48
      · have : (x = ⟨#[48]⟩) ↔ x.size = 1 := by rw [one_iff]; simp [h0]
        simp [h0, this]
      · have h0' : (chr x 0 == 48) = false := beq_eq_false_iff_ne.2 h0
        rw [h0', Bool.not_false, Bool.or_true, Bool.or_true]
  refine ⟨e, fun hd => ?_⟩
  unfold digitsB at hd
  rw [Bool.and_eq_true] at hd
  refine ⟨?_, digs_of_to hd.1, ?_⟩
  · have := (digTo_iff x x.size).1 hd.1 0 h
    unfold isDig
    simp [this]
  · intro e0
    have : x.data.toList.length = x.size := by rw [Array.length_toList]; rfl
    rw [e0] at this
    simp at this
    omega
theorem wordB_let {x : ByteArray} (h : wordB x = true) : isDig (chr x 0) = false := by
  unfold wordB at h
  rw [decide_eq_true_eq] at h
  rcases h with rfl | rfl | rfl | rfl | rfl | rfl <;> decide
theorem bd5 {σ : PQ} {ρ : RQ} {a : Nat} (h : σ.bad < 0) (hk : σ.k = 5) (ha : σ.ta = a) (hr : ρ.bad < 0) : Bd σ (wrongR a ρ) := by
  have e : effB σ = a := by unfold effB; rw [if_pos h, if_pos hk, ha]
  unfold Bd wrongR
  rw [e]
  exact ⟨by omega, by simp only; rw [if_pos hr], rfl⟩
/-- the next token is the same, or wrong in both -/
theorem next_tk {s : ByteArray} {σ : PQ} {ρ : RQ} (hb : σ.bad < 0) (rb : ρ.bad < 0) (hp : σ.p = ρ.p) (ps : σ.p ≤ s.size) :
    Bd (nextP s σ) (onR s ρ) ∨ (Tk s (nextP s σ) (onR s ρ) ∧ σ.p ≤ (nextP s σ).ta) := by
  have hbs := bsk_bd ps
  unfold nextP onR onR1
  rw [← hp]
  generalize bsk s σ.p = i at *
  unfold lexAt lexR
  by_cases h1 : s.size ≤ i
  · rw [if_pos h1, if_pos h1]
    right
    exact ⟨⟨hb, rb, rfl, hbs.2, rfl, Nat.le_refl _, fun h => absurd rfl h, rfl, .inl ⟨rfl, rfl⟩, fun h => by simp at h, fun h => by simp at h⟩, hbs.1⟩
  · rw [if_neg h1, if_neg h1]
    by_cases h2 : inW (chr s i) = true
    · rw [if_pos h2, if_pos h2]
      obtain ⟨w1, w2⟩ := wsk_pos h2
      have hsz : (s.extract i (wsk s i)).size = wsk s i - i := sub_size w2
      have hc0 : chr (s.extract i (wsk s i)) 0 = chr s i := extract_get w2 (by omega)
      obtain ⟨e1, e2⟩ := digitsB_eq (x := s.extract i (wsk s i)) (by omega)
      by_cases h3 : isDig (chr s i) = true
      · rw [if_pos h3]
        simp only
        cases hd : digitsB (s.extract i (wsk s i)) with
        | true =>
          rw [← e1, hd]
          right
          simp only [if_true]
          exact ⟨⟨hb, rb, rfl, w2, rfl, by simp only; omega, fun _ => w1, rfl, .inr (.inr (.inl ⟨rfl, rfl⟩)), fun _ => (e2 hd).2, fun h => by simp at h⟩, hbs.1⟩
        | false =>
          have hw : wordB (s.extract i (wsk s i)) = false := by
            cases hw : wordB (s.extract i (wsk s i)) with
            | false => rfl
            | true => have := wordB_let hw; rw [hc0, h3] at this; cases this
          rw [← e1, hd, hw]
          left
          simp only [Bool.false_eq_true, if_false]
          exact bd5 hb rfl rfl rb
      · rw [if_neg h3]
        have hd : digitsB (s.extract i (wsk s i)) = false := by
          cases hd : digitsB (s.extract i (wsk s i)) with
          | false => rfl
          | true => have := (e2 hd).1; rw [hc0] at this; exact absurd this h3
        rw [hd]
        simp only [Bool.false_eq_true, if_false]
        cases hw : wordB (s.extract i (wsk s i)) with
        | true =>
          right
          simp only [if_true]
          exact ⟨⟨hb, rb, rfl, w2, rfl, by simp only; omega, fun _ => w1, rfl, .inr (.inl ⟨rfl, rfl⟩), fun h => by simp at h, fun _ => hw⟩, hbs.1⟩
        | false =>
          left
          simp only [Bool.false_eq_true, if_false]
          exact bd5 hb rfl rfl rb
    · rw [if_neg h2, if_neg h2]
      by_cases h3 : chr s i = 34
      · rw [if_pos h3, if_pos h3]
        obtain ⟨e1, e2⟩ := qsk_rsk (s := s) (i := i + 1) (by omega)
        obtain ⟨q1, _, _, q4⟩ := qskF_spec s (s.size - (i + 1)) (i + 1) rfl
        have q4 := q4 (by omega)
        by_cases h4 : rsk s (i + 1) < s.size ∧ chr s (rsk s (i + 1)) = 34
        · obtain ⟨g1, g2⟩ := e1.2 h4
          have hr := e2 h4.1 h4.2
          rw [if_pos h4, if_pos g1, g2, hr]
          right
          simp only [if_true]
          exact ⟨⟨hb, rb, rfl, by simp only; omega, rfl, by simp only; unfold qsk; omega, fun _ => by simp only; unfold qsk; omega, rfl, .inr (.inr (.inr (.inl ⟨rfl, rfl⟩))), fun h => by simp at h, fun h => by simp at h⟩, hbs.1⟩
        · rw [if_neg h4]
          left
          have hk : ∀ τ : PQ, (if qsk s (i + 1) < s.size then ({ σ with p := qsk s (i + 1) + 1, x := s.extract (i + 1) (qsk s (i + 1)), ta := i, k := if plainB (s.extract (i + 1) (qsk s (i + 1))) then 3 else 5 } : PQ) else { σ with p := s.size, x := ⟨#[]⟩, ta := i, k := 5 }) = τ → τ.bad = σ.bad ∧ τ.k = 5 ∧ τ.ta = i := by
            rintro τ rfl
            by_cases g1 : qsk s (i + 1) < s.size
            · have g2 : plainB (s.extract (i + 1) (qsk s (i + 1))) = false := by
                cases hpb : plainB (s.extract (i + 1) (qsk s (i + 1))) with
                | false => rfl
                | true => exact absurd (e1.1 ⟨g1, hpb⟩) h4
              rw [if_pos g1, g2]
              exact ⟨rfl, rfl, rfl⟩
            · rw [if_neg g1]; exact ⟨rfl, rfl, rfl⟩
          obtain ⟨k1, k2, k3⟩ := hk _ rfl
          simp only [Bool.false_eq_true, if_false]
          exact bd5 (by rw [k1]; exact hb) k2 k3 rb
      · rw [if_neg h3, if_neg h3]
        cases h4 : signC (chr s i) with
        | true =>
          right
          simp only [if_true]
          exact ⟨⟨hb, rb, rfl, by simp only; omega, rfl, by simp only; omega, fun _ => by simp only; omega, rfl, .inr (.inr (.inr (.inr ⟨rfl, rfl⟩))), fun h => by simp at h, fun h => by simp at h⟩, hbs.1⟩
        | false =>
          left
          simp only [Bool.false_eq_true, if_false]
          exact bd5 hb rfl rfl rb
end Go.Proofs.YtnnhkajjifmlfaaDoor.Pl
/-! Policies: both readers of a text tell the same: numbers, words, signs. -/
namespace Go.Proofs.YtnnhkajjifmlfaaDoor.Pl
open Go.RowKit

/-! what is wrong stays wrong -/
section
variable {s : ByteArray} {σ : PQ} {ρ : RQ}
theorem Bd.nosign (h : Bd σ ρ) (c : UInt8) : signB c σ = false ∧ signR c ρ = false := by
  obtain ⟨h1, h2, h3⟩ := h
  refine ⟨?_, ?_⟩
  · unfold signB
    by_cases hb : σ.bad < 0
    · unfold effB at h1
      rw [if_pos hb] at h1
      split at h1
      · rename_i hk; rw [hk]; simp
      · omega
    · simp [hb]
  · unfold signR; rw [h3]; simp
theorem Bd.fault (h : Bd σ ρ) : Bd (faultP σ) ρ ∧ 0 ≤ (faultP σ).bad := by
  obtain ⟨h1, h2, h3⟩ := h
  unfold faultP
  split
  · rename_i hb
    have e : effB σ = σ.ta := by
      unfold effB at h1 ⊢
      rw [if_pos hb] at h1 ⊢
      split at h1
      · rename_i hk; rw [if_pos hk]
      · omega
    have e2 : effB { σ with bad := (σ.ta : Int) } = σ.ta := by unfold effB; simp only; rw [if_neg (by omega)]
    exact ⟨⟨by rw [e2]; omega, by rw [e2, h2, e], h3⟩, by simp only; omega⟩
  · exact ⟨⟨h1, h2, h3⟩, by omega⟩
theorem Bd.wrong (h : Bd σ ρ) (a : Int) : Bd σ (wrongR a ρ) := by
  obtain ⟨h1, h2, h3⟩ := h
  exact ⟨h1, by unfold wrongR; simp only; rw [if_neg (by omega)]; exact h2, rfl⟩
theorem Bd.take1 (h : Bd σ ρ) {kind : Int} (hk : kind ≠ 5) : Bd (takeP1 kind σ) ρ ∧ 0 ≤ (takeP1 kind σ).bad := by
  unfold takeP1
  split
  · rename_i e
    refine ⟨h, ?_⟩
    have h1 := h.1
    unfold effB at h1
    split at h1
    · rw [if_neg (by omega)] at h1; omega
    · exact h1
  · exact h.fault
theorem Bd.take (h : Bd σ ρ) {kind : Int} (hk : kind ≠ 5) : (takeP s kind σ).1 = ⟨#[]⟩ ∧ Bd (takeP s kind σ).2 ρ := by
  obtain ⟨h1, h2⟩ := h.take1 hk
  unfold takeP
  rw [if_pos h2]
  exact ⟨rfl, h1⟩
theorem Bd.quoted (h : Bd σ ρ) : (quotedR s ρ).1 = ⟨#[]⟩ ∧ Bd σ (quotedR s ρ).2 := by
  unfold quotedR
  rw [if_neg (by rw [h.2.2]; decide)]
  exact ⟨rfl, h.wrong _⟩
theorem Bd.needP (h : Bd σ ρ) (c : UInt8) : Bd (needP s c σ) ρ := by
  unfold Pl.needP
  rw [(h.nosign c).1]
  exact h.fault.1
theorem Bd.needR (h : Bd σ ρ) (c : UInt8) : Bd σ (needR s c ρ) := by
  unfold Pl.needR
  rw [(h.nosign c).2]
  exact h.wrong _
theorem Bd.puts (h : Bd σ ρ) (g g' : Bool) (l l' : List PN) : Bd { σ with gr := g, ns := l } { ρ with lg := g', ns := l' } := h
theorem Bd.numP (h : Bd σ ρ) : Bd (numP s σ).2 ρ := by
  unfold Pl.numP
  exact (h.take (s := s) (by decide)).2.puts _ ρ.lg _ ρ.ns
theorem Bd.numR (h : Bd σ ρ) : Bd σ (numberR s ρ).2 := by
  unfold numberR
  rw [if_neg (by rw [h.2.2]; decide)]
  exact h.wrong _
theorem Bd.putP (h : Bd σ ρ) (x : PN) : Bd (putP x σ).2 ρ := h.puts _ ρ.lg _ ρ.ns
theorem Bd.putR (h : Bd σ ρ) (x : PN) : Bd σ (putR x ρ).2 := h.puts σ.gr _ σ.ns _
theorem Bd.tagP (h : Bd σ ρ) : Bd (tagP s σ).2 ρ := by
  unfold Pl.tagP
  exact (((h.take (s := s) (kind := 3) (by decide)).2.needP 61).take (s := s) (by decide)).2
theorem Bd.tagR (h : Bd σ ρ) : Bd σ (tagR s ρ).2 := by
  unfold Pl.tagR
  have h1 := (h.quoted (s := s)).2
  rw [(h1.nosign 61).2]
  exact h1.wrong _
theorem Bd.wordP (h : Bd σ ρ) (x : ByteArray) : Bd (wordP s x σ).2 ρ := by
  unfold Pl.wordP
  repeat' split
  · exact h
  · exact h
  · exact h.numP
  · exact h.numP
  · exact (h.take (by decide)).2
  · exact h.tagP
  · exact h
theorem Bd.wordR (h : Bd σ ρ) (x : ByteArray) : Bd σ (wordR s x ρ).2 := by
  unfold Pl.wordR
  repeat' split
  · exact h.putR _
  · exact h.putR _
  · exact h.numR.putR _
  · exact h.numR.putR _
  · exact (h.quoted).2.putR _
  · exact h.tagR
theorem Bd.oneP (h : Bd σ ρ) (F : PQ → Int × PQ) : Bd (oneP s F σ).2 ρ := by
  unfold Pl.oneP
  rw [(h.nosign 40).1]
  exact ((h.take (s := s) (kind := 1) (by decide)).2.wordP _).putP _
theorem Bd.atomF (h : Bd σ ρ) (F : RQ → Int × RQ) : ∀ f : Nat, Bd σ (atomF s F f ρ).2
  | 0 => h
  | f + 1 => by
    unfold Pl.atomF
    rw [(h.nosign 33).2, (h.nosign 40).2]
    simp only [Bool.false_eq_true, if_false]
    rw [if_pos (.inl (by have := h.1; have := h.2.1; omega))]
    exact h.wrong _
end

/-! step by step -/
/-- two functions' ends: both wrong at one place, or both well, with the same place -/
def SimR (s : ByteArray) (t : Nat) (y : Int × PQ) (z : Int × RQ) : Prop := Bd y.2 z.2 ∨ (Gd s y.2 z.2 ∧ (flagP y.2 = false → y.1 = z.1) ∧ t ≤ y.2.ta)
section
variable {s : ByteArray} {σ : PQ} {ρ : RQ}
theorem next_gr (s : ByteArray) (σ : PQ) : (nextP s σ).gr = σ.gr ∧ (nextP s σ).ns = σ.ns := by
  unfold nextP lexAt
  split
  · exact ⟨rfl, rfl⟩
  · split
    · exact ⟨rfl, rfl⟩
    · split
      · split <;> exact ⟨rfl, rfl⟩
      · exact ⟨rfl, rfl⟩
theorem fl_next (h : Fl σ ρ) : Fl (nextP s σ) (onR s ρ) := by
  have e1 := next_gr s σ
  have e2 : (onR s ρ).lg = ρ.lg ∧ (onR s ρ).ns = ρ.ns := by unfold onR onR1; split <;> exact ⟨rfl, rfl⟩
  unfold Fl flagP at *
  rw [e1.1, e1.2, e2.1, e2.2]
  exact h
theorem Gd.next (h : Gd s σ ρ) : Sim s σ.p (nextP s σ) (onR s ρ) := by
  rcases next_tk h.1.hb h.1.rb h.1.hp h.1.ps with h1 | ⟨h1, h2⟩
  · exact .inl h1
  · exact .inr ⟨⟨h1, fl_next h.2⟩, h2⟩
theorem Gd.bd (h : Gd s σ ρ) : Bd (faultP σ) (wrongR ρ.ta ρ) := by
  have e : faultP σ = { σ with bad := (σ.ta : Int) } := by unfold faultP; rw [if_pos h.1.hb]
  rw [e]
  have e2 : effB { σ with bad := (σ.ta : Int) } = σ.ta := by unfold effB; simp only; rw [if_neg (by omega)]
  exact ⟨by rw [e2]; omega, by rw [e2]; unfold wrongR; simp only; rw [if_pos h.1.rb]; exact h.1.ta.symm, rfl⟩
theorem Gd.k4 (h : Gd s σ ρ) : σ.k = 4 ↔ ρ.k = 2 := by
  rcases h.1.kk with ⟨a, b⟩ | ⟨a, b⟩ | ⟨a, b⟩ | ⟨a, b⟩ | ⟨a, b⟩ <;> rw [a, b] <;> decide
theorem Gd.k3 (h : Gd s σ ρ) : σ.k = 3 ↔ ρ.k = 4 := by
  rcases h.1.kk with ⟨a, b⟩ | ⟨a, b⟩ | ⟨a, b⟩ | ⟨a, b⟩ | ⟨a, b⟩ <;> rw [a, b] <;> decide
theorem Gd.k2 (h : Gd s σ ρ) : σ.k = 2 ↔ ρ.k = 3 := by
  rcases h.1.kk with ⟨a, b⟩ | ⟨a, b⟩ | ⟨a, b⟩ | ⟨a, b⟩ | ⟨a, b⟩ <;> rw [a, b] <;> decide
theorem Gd.k1 (h : Gd s σ ρ) : σ.k = 1 ↔ ρ.k = 1 := by
  rcases h.1.kk with ⟨a, b⟩ | ⟨a, b⟩ | ⟨a, b⟩ | ⟨a, b⟩ | ⟨a, b⟩ <;> rw [a, b] <;> decide
theorem Gd.sign (h : Gd s σ ρ) (c : UInt8) : signB c σ = signR c ρ := by
  unfold signB signR
  rw [decide_eq_true h.1.hb, decide_eq_true h.1.rb, h.1.x]
  congr 2
  have := h.k4
  by_cases hk : σ.k = 4
  · rw [hk, this.1 hk]; rfl
  · rw [beq_eq_false_iff_ne.2 hk, beq_eq_false_iff_ne.2 (fun e => hk (this.2 e))]
theorem signB_k {c : UInt8} (h : signB c σ = true) : σ.k = 4 := by
  unfold signB at h
  simp only [Bool.and_eq_true, beq_iff_eq] at h
  exact h.1.2
theorem Gd.put (h : Gd s σ ρ) {x y : PN} (hx : flagP σ = false → x = y) {t : Nat} (ht : t ≤ σ.ta) : SimR s t (putP x σ) (putR y ρ) := by
  obtain ⟨h1, h2⟩ := h
  refine .inr ⟨⟨⟨h1.hb, h1.rb, h1.hp, h1.ps, h1.ta, h1.le, h1.lt, h1.x, h1.kk, h1.num, h1.wrd⟩, ?_⟩, fun hf => ?_, ht⟩
  · rcases h2 with ⟨a, b⟩ | ⟨a, b, c⟩
    · left
      refine ⟨?_, by unfold putR; simp [b]⟩
      unfold flagP at a ⊢
      unfold putP
      simp only [Bool.or_eq_true, List.any_append] at a ⊢
      rcases a with a | a
      · exact .inl a
      · exact .inr (.inl a)
    · have e := hx a
      subst e
      unfold Fl
      have e1 : flagP (putP x σ).2 = longN x := by
        unfold flagP at a ⊢
        unfold putP
        simp only [Bool.or_eq_false_iff] at a
        simp only [List.any_append, a.1, a.2, Bool.false_or, List.any_cons, List.any_nil, Bool.or_false]
      have e2 : (putR x ρ).2.lg = longN x := by unfold putR; simp [b]
      rw [e1, e2]
      cases longN x with
      | true => exact .inl ⟨rfl, rfl⟩
      | false => exact .inr ⟨rfl, rfl, by unfold putP putR; simp [c]⟩
  · have a : flagP σ = false := by
      unfold flagP at hf ⊢
      unfold putP at hf
      simp only [Bool.or_eq_false_iff, List.any_append] at hf ⊢
      exact ⟨hf.1, hf.2.1⟩
    rcases h2 with ⟨a', _⟩ | ⟨_, _, c⟩
    · rw [a] at a'; cases a'
    · unfold putP putR; simp [c]
theorem Gd.take3 (h : Gd s σ ρ) : (takeP s 3 σ).1 = (quotedR s ρ).1 ∧ Sim s σ.ta (takeP s 3 σ).2 (quotedR s ρ).2 := by
  unfold takeP takeP1 quotedR
  by_cases hk : σ.k = 3
  · rw [if_pos hk, if_pos (h.k3.1 hk), if_neg (by have := h.1.hb; omega)]
    refine ⟨h.1.x, ?_⟩
    rcases h.next with h1 | ⟨h1, h2⟩
    · exact .inl h1
    · exact .inr ⟨h1, Nat.le_trans h.1.le h2⟩
  · have hb := h.bd
    have hf : 0 ≤ (faultP σ).bad := by unfold faultP; rw [if_pos h.1.hb]; simp only; omega
    rw [if_neg hk, if_neg (fun e => hk (h.k3.2 e)), if_pos hf]
    exact ⟨rfl, .inl hb⟩
theorem Gd.need (h : Gd s σ ρ) (c : UInt8) : Sim s σ.ta (needP s c σ) (needR s c ρ) := by
  unfold needP needR
  rw [← h.sign c]
  cases hc : signB c σ with
  | true =>
    simp only [if_true]
    rcases h.next with h1 | ⟨h1, h2⟩
    · exact .inl h1
    · exact .inr ⟨h1, Nat.le_trans h.1.le h2⟩
  | false =>
    simp only [Bool.false_eq_true, if_false]
    exact .inl h.bd
/-! numbers -/
theorem numF_g : ∀ (l : List UInt8) (n : Int) (g : Bool), (numF l n g).1 = (numF l n false).1 ∧ (numF l n g).2 = (g || (numF l n false).2)
  | [], n, g => by simp [numF]
  | c :: r, n, g => by
    unfold numF
    split
    · obtain ⟨h1, h2⟩ := numF_g r (10 * 0 + ((c.toNat : Int) - 48)) true
      exact ⟨rfl, by rw [h2]; simp⟩
    · exact numF_g r _ g
theorem numF_val : ∀ (l : List UInt8) (a : Nat), digs l → ((numF l a false).2 = true ∧ 4611686018427387903 < dval l a) ∨ ((numF l a false).2 = false ∧ (numF l a false).1 = (dval l a : Int))
  | [], a, _ => .inr ⟨rfl, rfl⟩
  | c :: r, a, h => by
    have hc := h c (by simp)
    have hr : digs r := fun x hx => h x (by simp [hx])
    have e : dval (c :: r) a = dval r (a * 10 + (c.toNat - 48)) := rfl
    unfold numF
    rw [e]
    by_cases h1 : (461168601842738790 : Int) < (a : Int)
    · rw [if_pos h1]
      left
      have hge := dval_ge r (a * 10 + (c.toNat - 48))
      exact ⟨by rw [(numF_g r _ true).2]; rfl, by omega⟩
    · rw [if_neg h1]
      have e2 : (10 * (a : Int) + ((c.toNat : Int) - 48)) = ((a * 10 + (c.toNat - 48) : Nat) : Int) := by omega
      rw [e2]
      exact numF_val r _ hr
def capN (k : Int) : Nat := if k = 3 then 4611686018427387903 else 1000
theorem longN_num {k n : Int} (hk : k = 3 ∨ k = 6) : longN ⟨k, n, ⟨#[]⟩, ⟨#[]⟩, 0, 0⟩ = decide ((capN k : Int) < n) := by
  have hz : (⟨#[]⟩ : ByteArray).size = 0 := rfl
  rcases hk with rfl | rfl <;> simp [longN, capN, hz]
theorem Gd.num (h : Gd s σ ρ) {k : Int} (hk : k = 3 ∨ k = 6) :
    SimR s σ.ta (putP ⟨k, (numP s σ).1, ⟨#[]⟩, ⟨#[]⟩, 0, 0⟩ (numP s σ).2) (putR ⟨k, (numberR s ρ).1, ⟨#[]⟩, ⟨#[]⟩, 0, 0⟩ (numberR s ρ).2) := by
  by_cases h2 : σ.k = 2
  · have t1 : takeP s 2 σ = (σ.x, nextP s σ) := by unfold takeP takeP1; rw [if_pos h2, if_neg (by have := h.1.hb; omega)]
    have t2 : numberR s ρ = ((numF σ.x.data.toList 0 ρ.lg).1, onR s { ρ with lg := (numF σ.x.data.toList 0 ρ.lg).2 }) := by
      unfold numberR; rw [if_pos (h.k2.1 h2), h.1.x]
    have t3 : onR s { ρ with lg := (numF σ.x.data.toList 0 ρ.lg).2 } = { onR s ρ with lg := (numF σ.x.data.toList 0 ρ.lg).2 } := by
      unfold onR onR1 wrongR; simp only; split <;> rfl
    have eg := next_gr s σ
    obtain ⟨hd, hne⟩ := h.1.num h2
    have hz : decide (σ.x.size ≠ 0) = true := by
      rw [decide_eq_true_eq]
      intro e
      have e3 : σ.x.data.toList.length = σ.x.size := by rw [Array.length_toList]; rfl
      exact hne (List.eq_nil_of_length_eq_zero (by omega))
    obtain ⟨p1, p2⟩ := pint_pos hd hne
    have hv := numF_val σ.x.data.toList 0 hd
    have hg := numF_g σ.x.data.toList 0 ρ.lg
    have hcap : capN k ≤ 4611686018427387903 := by unfold capN; split <;> omega
    unfold numP
    rw [t1, t2, t3, hg.1, hg.2, hz, eg.1]
    simp only [Bool.and_true]
    rw [show ((0 : Nat) : Int) = 0 from rfl] at hv
    generalize dval σ.x.data.toList 0 = v at *
    have hx : decide ((capN k : Int) < (v : Int)) = decide (capN k < v) := by congr 1; exact propext (by omega)
    -- the flags behind the put
    have f1 : ∀ (g : Bool), (g || !PIok σ.x.data.toList || longN ⟨k, PIn σ.x.data.toList, ⟨#[]⟩, ⟨#[]⟩, 0, 0⟩) = (g || decide (capN k < v)) := fun g => by
      rw [longN_num hk, p1]
      by_cases hv2 : v < 9223372036854775808
      · rw [p2 hv2, decide_eq_true hv2, hx]; simp
      · rw [decide_eq_false hv2, decide_eq_true (show capN k < v by omega)]; simp
    have f2 : ∀ (g : Bool), (g || (numF σ.x.data.toList 0 false).2 || longN ⟨k, (numF σ.x.data.toList 0 false).1, ⟨#[]⟩, ⟨#[]⟩, 0, 0⟩) = (g || decide (capN k < v)) := fun g => by
      rw [longN_num hk]
      rcases hv with ⟨a, b⟩ | ⟨a, b⟩
      · rw [a, decide_eq_true (show capN k < v by omega)]; simp
      · rw [a, b, hx]; simp
    have f3 : ¬ capN k < v → PIn σ.x.data.toList = (numF σ.x.data.toList 0 false).1 := fun hn => by
      rw [p2 (by omega)]
      rcases hv with ⟨a, b⟩ | ⟨a, b⟩
      · omega
      · exact b.symm
    rcases h.next with h1 | ⟨⟨h1, hfl⟩, hta⟩
    · exact .inl h1
    · refine .inr ⟨⟨⟨h1.hb, h1.rb, h1.hp, h1.ps, h1.ta, h1.le, h1.lt, h1.x, h1.kk, h1.num, h1.wrd⟩, ?_⟩, ?_, Nat.le_trans h.1.le hta⟩
      · have e1 : flagP (putP ⟨k, PIn σ.x.data.toList, ⟨#[]⟩, ⟨#[]⟩, 0, 0⟩ { nextP s σ with gr := σ.gr || !PIok σ.x.data.toList }).2 = (flagP σ || decide (capN k < v)) := by
          rw [← f1 (flagP σ)]
          unfold flagP putP
          rw [eg.2]
          simp only [List.any_append, List.any_cons, List.any_nil, Bool.or_false]
          cases σ.gr <;> cases (!PIok σ.x.data.toList) <;> cases σ.ns.any longN <;> rfl
        have e2 : (putR ⟨k, (numF σ.x.data.toList 0 false).1, ⟨#[]⟩, ⟨#[]⟩, 0, 0⟩ { onR s ρ with lg := ρ.lg || (numF σ.x.data.toList 0 false).2 }).2.lg = (ρ.lg || decide (capN k < v)) := f2 ρ.lg
        unfold Fl
        rw [e1, e2]
        rcases h.2 with ⟨a, b⟩ | ⟨a, b, c⟩
        · left; rw [a, b]; exact ⟨rfl, rfl⟩
        · by_cases hc : capN k < v
          · left; rw [decide_eq_true hc]; simp
          · right
            rw [a, b, decide_eq_false hc]
            refine ⟨rfl, rfl, ?_⟩
            unfold putP putR
            simp only
            rw [f3 hc, eg.2, c]
            congr 1
            unfold onR onR1 wrongR; split <;> rfl
      · intro hf
        unfold putP putR
        simp only
        have e4 : (onR s ρ).ns = ρ.ns := by unfold onR onR1 wrongR; split <;> rfl
        rw [eg.2, e4]
        rcases h.2 with ⟨a, b⟩ | ⟨a, b, c⟩
        · exfalso
          unfold flagP putP at hf
          unfold flagP at a
          simp only [Bool.or_eq_false_iff, List.any_append, eg.2] at hf
          rw [hf.1.1, hf.2.1] at a
          cases a
        · rw [c]
  · have hf : 0 ≤ (faultP σ).bad := by unfold faultP; rw [if_pos h.1.hb]; simp only; omega
    have t1 : takeP s 2 σ = (⟨#[]⟩, faultP σ) := by unfold takeP takeP1; rw [if_neg h2, if_pos hf]
    have t2 : numberR s ρ = (0, wrongR ρ.ta ρ) := by unfold numberR; rw [if_neg (fun e => h2 (h.k2.2 e))]
    unfold numP
    rw [t1, t2]
    exact .inl (h.bd.puts _ _ _ _)
theorem Gd.tag (h : Gd s σ ρ) : SimR s σ.ta (putP (tagP s σ).1 (tagP s σ).2) (tagR s ρ) := by
  unfold tagP tagR
  simp only
  obtain ⟨e1, h1⟩ := h.take3
  rw [e1]
  generalize (takeP s 3 σ).2 = σ1 at *
  generalize quotedR s ρ = z1 at *
  rcases h1 with h1 | ⟨h1, t1⟩
  · rw [(h1.nosign 61).2]
    left
    exact (((h1.needP 61).take (s := s) (kind := 3) (by decide)).2.putP _).wrong _
  · rw [← h1.sign 61]
    cases hc : signB 61 σ1 with
    | false =>
      left
      have e : needP s 61 σ1 = faultP σ1 := by unfold needP; rw [hc]; rfl
      rw [e]
      exact ((h1.bd.take (s := s) (kind := 3) (by decide)).2.putP _)
    | true =>
      have e : needP s 61 σ1 = nextP s σ1 := by unfold needP; rw [hc]; rfl
      rw [e]
      simp only [if_true]
      rcases h1.next with h2 | ⟨h2, t2⟩
      · left
        have k2 := ((h2.take (s := s) (kind := 3) (by decide)).2.quoted (s := s)).2
        exact (k2.putP _).putR _
      · obtain ⟨e3, h3⟩ := h2.take3
        rw [e3]
        rcases h3 with h3 | ⟨h3, t3⟩
        · exact .inl ((h3.putP _).putR _)
        · exact h3.put (fun _ => rfl) (by have := h1.1.le; omega)
end
end Go.Proofs.YtnnhkajjifmlfaaDoor.Pl

/-! Policies: both readers of a text tell the same. -/
namespace Go.Proofs.YtnnhkajjifmlfaaDoor.Pl
open Go.RowKit

section
variable {s : ByteArray} {σ : PQ} {ρ : RQ}
theorem Gd.word (h : Gd s σ ρ) {x : ByteArray} (hw : wordB x = true) : SimR s σ.ta (putP (wordP s x σ).1 (wordP s x σ).2) (wordR s x ρ) := by
  unfold wordB at hw
  rw [decide_eq_true_eq] at hw
  unfold wordP wordR
  by_cases h1 : x = wAlways
  · rw [if_pos h1, if_pos h1]; exact h.put (fun _ => rfl) (Nat.le_refl _)
  rw [if_neg h1, if_neg h1]
  by_cases h2 : x = wError
  · rw [if_pos h2, if_pos h2]; exact h.put (fun _ => rfl) (Nat.le_refl _)
  rw [if_neg h2, if_neg h2]
  by_cases h3 : x = wSlow
  · rw [if_pos h3, if_pos h3]; exact h.num (.inl rfl)
  rw [if_neg h3, if_neg h3]
  by_cases h4 : x = wRatio
  · rw [if_pos h4, if_pos h4]; exact h.num (.inr rfl)
  rw [if_neg h4, if_neg h4]
  by_cases h5 : x = wService
  · rw [if_pos h5, if_pos h5]
    obtain ⟨e1, h6⟩ := h.take3
    rw [e1]
    rcases h6 with h6 | ⟨h6, t6⟩
    · exact .inl ((h6.putP _).putR _)
    · exact h6.put (fun _ => rfl) t6
  rw [if_neg h5, if_neg h5]
  have h6 : x = wTag := by
    rcases hw with e | e | e | e | e | e
    · exact absurd e h1
    · exact absurd e h2
    · exact absurd e h3
    · exact absurd e h5
    · exact e
    · exact absurd e h4
  rw [if_pos h6]
  exact h.tag
end
/-- nothing that is gathered is lost -/
def Up (σ τ : PQ) : Prop := (σ.gr = true → τ.gr = true) ∧ ∃ l, τ.ns = σ.ns ++ l
section
variable {s : ByteArray} {σ τ υ : PQ}
theorem Up.refl (σ : PQ) : Up σ σ := ⟨id, [], by simp⟩
theorem Up.trans (h : Up σ τ) (k : Up τ υ) : Up σ υ := by
  obtain ⟨h1, l, h2⟩ := h
  obtain ⟨k1, m, k2⟩ := k
  exact ⟨fun e => k1 (h1 e), l ++ m, by rw [k2, h2, List.append_assoc]⟩
theorem Up.flag (h : Up σ τ) (hf : flagP τ = false) : flagP σ = false := by
  obtain ⟨h1, l, h2⟩ := h
  unfold flagP at hf ⊢
  rw [h2] at hf
  simp only [Bool.or_eq_false_iff, List.any_append] at hf ⊢
  refine ⟨?_, hf.2.1⟩
  cases hg : σ.gr with
  | false => rfl
  | true => rw [h1 hg] at hf; cases hf.1
end
/-- two functions go alike from tokens at t on -/
def SF (s : ByteArray) (t : Nat) (F : PQ → Int × PQ) (G : RQ → Int × RQ) : Prop :=
  (∀ σ ρ, Gd s σ ρ → t ≤ σ.ta → SimR s σ.ta (F σ) (G ρ)) ∧ ∀ σ ρ, Bd σ ρ → Bd (F σ).2 (G ρ).2
section
variable {s : ByteArray} {σ : PQ} {ρ : RQ} {F : PQ → Int × PQ} {G : RQ → Int × RQ} {t : Nat}
theorem SF.sim (h : SF s t F G) {u : Nat} (hs : Sim s u σ ρ) (hu : t ≤ u) : SimR s u (F σ) (G ρ) := by
  rcases hs with h1 | ⟨h1, h2⟩
  · exact .inl (h.2 _ _ h1)
  · rcases h.1 _ _ h1 (by omega) with h3 | ⟨h3, h4, h5⟩
    · exact .inl h3
    · exact .inr ⟨h3, h4, by omega⟩
theorem Gd.lt_sign (h : Gd s σ ρ) {c : UInt8} (hc : signB c σ = true) : σ.ta < σ.p := h.1.lt (by rw [signB_k hc]; decide)
theorem SimR.mono {u : Nat} {y : Int × PQ} {z : Int × RQ} (h : SimR s t y z) (hu : u ≤ t) : SimR s u y z := by
  rcases h with h | ⟨h, h1, h2⟩
  · exact .inl h
  · exact .inr ⟨h, h1, by omega⟩
/-- one thing, no ! ahead -/
theorem Gd.one (h : Gd s σ ρ) (hF : SF s (σ.ta + 1) F G) (h33 : signB 33 σ = false) (f : Nat) : SimR s σ.ta (oneP s F σ) (atomF s G (f + 1) ρ) := by
  unfold oneP atomF
  rw [← h.sign 33, h33, ← h.sign 40]
  simp only [Bool.false_eq_true, if_false]
  cases hc : signB 40 σ with
  | true =>
    simp only [if_true]
    have hlt := h.lt_sign hc
    rcases hF.sim (u := σ.p) h.next (by omega) with h1 | ⟨h1, h2, h3⟩
    · exact .inl ((h1.needP 41).needR 41)
    · rcases h1.need 41 with h4 | ⟨h4, h5⟩
      · exact .inl h4
      · refine .inr ⟨h4, fun hf => h2 ?_, by simp only at *; omega⟩
        rw [← hf]
        unfold needP flagP
        split
        · rw [(next_gr _ _).1, (next_gr _ _).2]
        · unfold faultP; split <;> rfl
  | false =>
    simp only [Bool.false_eq_true, if_false]
    by_cases hk : σ.k = 1
    · have e : takeP s 1 σ = (σ.x, nextP s σ) := by unfold takeP takeP1; rw [if_pos hk, if_neg (by have := h.1.hb; omega)]
      rw [e, if_neg (by rintro (h1 | h1); · have := h.1.rb; omega
                        · exact h1 (h.k1.1 hk)), ← h.1.x]
      rcases h.next with h1 | ⟨h1, h2⟩
      · exact .inl (((h1.wordP _).putP _).wordR _)
      · exact (h1.word (h.1.wrd hk)).mono (by have := h.1.le; omega)
    · have hf : 0 ≤ (faultP σ).bad := by unfold faultP; rw [if_pos h.1.hb]; simp only; omega
      have e : takeP s 1 σ = (⟨#[]⟩, faultP σ) := by unfold takeP takeP1; rw [if_neg hk, if_pos hf]
      rw [e, if_pos (.inr (fun e => hk (h.k1.2 e)))]
      exact .inl ((h.bd.wordP _).putP _)
end
end Go.Proofs.YtnnhkajjifmlfaaDoor.Pl
