/- What is told is read as the value: the plain law. -/
import Derived.Test.YtnnhkajjifmlfaaDoorT0
namespace Go.Proofs.YtnnhkajjifmlfaaDoor
open Go.RowKit Go.Maps

section
variable {q : ByteArray}
def sd (d : Int) (p : Nat) : PS := ⟨p, 0, 0, d⟩
theorem sd_e (d : Int) (p : Nat) : (sd d p).e = 0 := rfl
theorem next_sd (d : Int) (p : Nat) : nextS q (sd d p) = chr q p := by unfold nextS sd; rw [if_pos rfl]
theorem take_sd (d : Int) (p : Nat) (c : Int) (hc : c ≠ 0) : takeB q (sd d p) c = decide ((chr q p : Int) = c) := by
  have h : Sm (sd d p) ⟨p, -1, 0⟩ := .inl ⟨rfl, (by decide : (-1 : Int) < 0), rfl⟩
  exact takeB_chr h rfl hc
theorem takeS_sd (d : Int) (p : Nat) (c : Int) (h : takeB q (sd d p) c = true) : takeS q (sd d p) c = sd d (p + 1) := by rw [tkS_yes h]; rfl
theorem blanks_sd (d : Int) (p : Nat) (h : blank (chr q p) = false) : blanksS q (sd d p) = sd d p := by
  unfold blanksS; rw [if_pos (sd_e _ _)]; show sd d (skip q p) = _; rw [skip_stop h]
/-- a byte that was told is read -/
theorem rd_byte (d : Int) (c : UInt8) (p n : Nat) (acc r : List UInt8) (h : From q p (qch c ++ r)) : textF q (n + 1) acc (sd d p) = textF q n (acc ++ [c]) (sd d (p + (qch c).length)) ∧ From q (p + (qch c).length) r := by
  unfold qch at h ⊢
  by_cases h1 : 0 ≤ shc c.toNat
  · rw [if_pos h1] at h ⊢
    obtain ⟨k1, l1⟩ := h.chr
    obtain ⟨k2, l2⟩ := h.tail.chr
    have hr := h.tail.tail
    have e92 : ((92 : UInt8)).toNat = 92 := rfl
    rw [e92] at k1
    refine ⟨?_, hr⟩
    have t34 : takeB q (sd d p) 34 = false := by rw [take_sd _ _ _ (by decide), k1]; rfl
    have t92 : takeB q (sd d p) 92 = true := by rw [take_sd _ _ _ (by decide), k1]; rfl
    have hes : escS q (sd d (p + 1)) = ((c.toNat : Int), sd d (p + 2)) := by
      unfold escS
      rw [next_sd, k2]
      rcases shc_cases h1 with ⟨a, b⟩ | ⟨a, b⟩ | ⟨a, b⟩ | ⟨a, b⟩ | ⟨a, b⟩ | ⟨a, b⟩ | ⟨a, b⟩ <;> rw [b, a] <;> rfl
    rw [textF, if_pos (sd_e _ _), if_neg (by simp [t34]), next_sd, k1, if_neg (by decide), if_pos t92, takeS_sd _ _ _ t92, hes, toB_nat]
    rfl
  · rw [if_neg h1] at h ⊢
    by_cases h2 : 32 ≤ c.toNat ∧ c.toNat ≤ 126
    · rw [if_pos h2] at h ⊢
      obtain ⟨k1, l1⟩ := h.chr
      refine ⟨?_, h.tail⟩
      have n34 : c.toNat ≠ 34 := fun e => h1 (by rw [e]; decide)
      have n92 : c.toNat ≠ 92 := fun e => h1 (by rw [e]; decide)
      have t34 : takeB q (sd d p) 34 = false := by rw [take_sd _ _ _ (by decide), k1]; simp; omega
      have t92 : takeB q (sd d p) 92 = false := by rw [take_sd _ _ _ (by decide), k1]; simp; omega
      rw [textF, if_pos (sd_e _ _), if_neg (by simp [t34]), next_sd, k1, if_neg (by omega), if_neg (by simp [t92]), toB_nat]
      rfl
    · rw [if_neg h2] at h ⊢
      obtain ⟨k1, l1⟩ := h.chr
      obtain ⟨k2, l2⟩ := h.tail.chr
      obtain ⟨k3, l3⟩ := h.tail.tail.chr
      obtain ⟨k4, l4⟩ := h.tail.tail.tail.chr
      obtain ⟨k5, l5⟩ := h.tail.tail.tail.tail.chr
      obtain ⟨k6, l6⟩ := h.tail.tail.tail.tail.tail.chr
      have hr := h.tail.tail.tail.tail.tail.tail
      refine ⟨?_, hr⟩
      have hc := UInt8.toNat_lt c
      obtain ⟨x1, x2⟩ := hex_back (c.toNat / 16) (by omega)
      obtain ⟨y1, y2⟩ := hex_back (c.toNat % 16) (by omega)
      rw [x2] at k5
      rw [y2] at k6
      have e92 : ((92 : UInt8)).toNat = 92 := rfl
      have e117 : ((117 : UInt8)).toNat = 117 := rfl
      have e48 : ((48 : UInt8)).toNat = 48 := rfl
      rw [e92] at k1
      rw [e117] at k2
      rw [e48] at k3 k4
      have t34 : takeB q (sd d p) 34 = false := by rw [take_sd _ _ _ (by decide), k1]; rfl
      have t92 : takeB q (sd d p) 92 = true := by rw [take_sd _ _ _ (by decide), k1]; rfl
      have a1 : takeB q (sd d (p + 1)) ((117 : Nat) : Int) = true := by rw [take_sd _ _ _ (by decide), k2]; rfl
      have a2 : takeB q (sd d (p + 1 + 1)) ((48 : Nat) : Int) = true := by rw [take_sd _ _ _ (by decide), k3]; rfl
      have a3 : takeB q (sd d (p + 1 + 1 + 1)) ((48 : Nat) : Int) = true := by rw [take_sd _ _ _ (by decide), k4]; rfl
      have hnd : needS q (nats ⟨#[117, 48, 48]⟩) (sd d (p + 1)) = sd d (p + 1 + 1 + 1 + 1) := by
        show needS q [117, 48, 48] (sd d (p + 1)) = _
        rw [needS, if_pos a1, takeS_sd _ _ _ a1, needS, if_pos a2, takeS_sd _ _ _ a2, needS, if_pos a3, takeS_sd _ _ _ a3]; rfl
      have hes : escS q (sd d (p + 1)) = ((c.toNat : Int), sd d (p + 6)) := by
        unfold escS
        rw [next_sd, k2, if_pos rfl, hnd]
        unfold escU
        have s1 : stepP (sd d (p + 1 + 1 + 1 + 1)) = sd d (p + 1 + 1 + 1 + 1 + 1) := rfl
        rw [next_sd, k5, x1, if_neg (by omega), s1, next_sd, k6, y1, if_neg (by omega)]
        have : (16 : Int) * ((c.toNat / 16 : Nat) : Int) + ((c.toNat % 16 : Nat) : Int) = (c.toNat : Int) := by omega
        rw [this]
        rfl
      rw [textF, if_pos (sd_e _ _), if_neg (by simp [t34]), next_sd, k1, if_neg (by decide), if_pos t92, takeS_sd _ _ _ t92, hes, toB_nat]
      rfl
theorem rd_all (d : Int) : ∀ (l : List UInt8) (p n : Nat) (acc r : List UInt8), From q p (qlist l ++ 34 :: r) → textF q (n + l.length + 1) acc (sd d p) = (acc ++ l, sd d (p + (qlist l).length + 1)) ∧ From q (p + (qlist l).length + 1) r
  | [], p, n, acc, r, h => by
    have h : From q p (34 :: r) := h
    obtain ⟨k1, l1⟩ := h.chr
    have e34 : ((34 : UInt8)).toNat = 34 := rfl
    rw [e34] at k1
    have t34 : takeB q (sd d p) 34 = true := by rw [take_sd _ _ _ (by decide), k1]; rfl
    refine ⟨?_, h.tail⟩
    show textF q (n + 1) acc (sd d p) = (acc ++ [], sd d (p + 0 + 1))
    rw [textF, if_pos (sd_e _ _), if_pos t34, takeS_sd _ _ _ t34, List.append_nil]
  | c :: l, p, n, acc, r, h => by
    have h' : From q p (qch c ++ (qlist l ++ 34 :: r)) := by
      have : qlist (c :: l) ++ 34 :: r = qch c ++ (qlist l ++ 34 :: r) := by simp [qlist]
      rw [← this]; exact h
    obtain ⟨h1, h2⟩ := rd_byte (q := q) d c p (n + l.length + 1) acc (qlist l ++ 34 :: r) h'
    obtain ⟨h3, h4⟩ := rd_all d l (p + (qch c).length) n (acc ++ [c]) r h2
    have hl : (qlist (c :: l)).length = (qch c).length + (qlist l).length := by simp [qlist]
    have e1 : p + (qch c).length + (qlist l).length + 1 = p + ((qch c).length + (qlist l).length) + 1 := by omega
    rw [e1] at h3 h4
    refine ⟨?_, by rw [hl]; exact h4⟩
    rw [show n + (c :: l).length + 1 = n + l.length + 1 + 1 from by simp only [List.length_cons]; omega, h1, h3, hl]
    simp
theorem From.le {p : Nat} {l : List UInt8} (h : From q p l) : l.length ≤ q.size - p := by
  unfold From at h
  have := congrArg List.length h
  rw [List.length_drop, Array.length_toList] at this
  have e : q.data.size = q.size := rfl
  omega
theorem From.app {p : Nat} : ∀ {l r : List UInt8}, From q p (l ++ r) → From q (p + l.length) r
  | [], r, h => h
  | c :: l, r, h => by
    have := From.app (p := p + 1) (l := l) (r := r) h.tail
    rw [show p + 1 + l.length = p + (c :: l).length from by simp only [List.length_cons]; omega] at this
    exact this
/-- a text in quotes is read -/
theorem rd_text (d : Int) (t : ByteArray) (p : Nat) (r : List UInt8) (h : From q p (quoteL t ++ r)) : textS q (sd d p) = (t.data.toList, sd d (p + (quoteL t).length)) := by
  have h1 : From q p (34 :: (qlist t.data.toList ++ 34 :: r)) := by
    have : quoteL t ++ r = 34 :: (qlist t.data.toList ++ 34 :: r) := by unfold quoteL; simp
    rw [← this]; exact h
  obtain ⟨k1, l1⟩ := h1.chr
  have e34 : ((34 : UInt8)).toNat = 34 := rfl
  rw [e34] at k1
  have t34 : takeB q (sd d p) ((34 : Nat) : Int) = true := by rw [take_sd _ _ _ (by decide), k1]; rfl
  have hnd : needS q (nats ⟨#[34]⟩) (sd d p) = sd d (p + 1) := by
    show needS q [34] (sd d p) = _
    rw [needS, if_pos t34, takeS_sd _ _ _ t34]; rfl
  have hle := h1.tail.le
  have hqg := qlist_ge t.data.toList
  simp only [List.length_append, List.length_cons] at hle
  obtain ⟨r1, r2⟩ := rd_all (q := q) d t.data.toList (p + 1) (q.size + 1 - t.data.toList.length) [] r h1.tail
  unfold textS
  rw [hnd, show q.size + 2 = q.size + 1 - t.data.toList.length + t.data.toList.length + 1 from by omega, r1, List.nil_append]
  have e : p + 1 + (qlist t.data.toList).length + 1 = p + (quoteL t).length := by
    unfold quoteL
    simp only [List.length_cons, List.length_append, List.length_nil]
    omega
  rw [e]
theorem rd_need (d : Int) : ∀ (t : List Nat) (p : Nat) (l r : List UInt8), l.map UInt8.toNat = t → (∀ c ∈ t, c ≠ 0) → From q p (l ++ r) → needS q t (sd d p) = sd d (p + l.length)
  | [], p, l, r, hl, _, h => by
    have : l = [] := List.map_eq_nil_iff.1 hl
    subst this; rfl
  | c :: t, p, l, r, hl, hz, h => by
    cases l with
    | nil => simp at hl
    | cons x l =>
      injection hl with h1 h2
      obtain ⟨k1, l1⟩ := (show From q p (x :: (l ++ r)) from h).chr
      have hc := hz c (by simp)
      have tk : takeB q (sd d p) (c : Int) = true := by rw [take_sd _ _ _ (by omega), k1, h1]; simp
      rw [needS, if_pos tk, takeS_sd _ _ _ tk, rd_need d t (p + 1) l r h2 (fun x hx => hz x (by simp [hx])) (show From q p (x :: (l ++ r)) from h).tail]
      rw [show p + 1 + l.length = p + (x :: l).length from by simp only [List.length_cons]; omega]
/-! numbers -/
/-- nothing that goes on a number -/
def NoDig (r : List UInt8) : Prop := ∀ c l, r = c :: l → isDig c.toNat = false
theorem dsk_digs : ∀ (l : List UInt8) (p : Nat) (r : List UInt8), digs l → NoDig r → From q p (l ++ r) → dsk q p = p + l.length
  | [], p, r, _, hr, h => by
    have h : From q p r := h
    cases r with
    | nil =>
      have := h.nil
      rw [dsk_stop (by rw [chr_out this]; rfl)]; rfl
    | cons c l =>
      obtain ⟨k1, _⟩ := h.chr
      rw [dsk_stop (by rw [k1]; exact hr c l rfl)]; rfl
  | c :: l, p, r, hd, hr, h => by
    have h : From q p (c :: (l ++ r)) := h
    obtain ⟨k1, _⟩ := h.chr
    have hc := hd c (by simp)
    rw [dsk_step (by rw [k1]; exact (isDig_iff _).2 hc), dsk_digs l (p + 1) r (fun x hx => hd x (by simp [hx])) hr h.tail]
    simp only [List.length_cons]; omega
theorem subL_from : ∀ (l : List UInt8) (p : Nat) (r : List UInt8), From q p (l ++ r) → subL q p (p + l.length) = l
  | [], p, r, h => subL_nil (by simp)
  | c :: l, p, r, h => by
    have h' : From q p (c :: (l ++ r)) := h
    obtain ⟨k1, k2⟩ := h'.chr
    have hle := h.le
    simp only [List.length_append, List.length_cons] at hle
    rw [subL_cons (by simp) (by simp only [List.length_cons]; omega)]
    have hc : q[p]'k2 = c := by
      rw [chr_in k2] at k1
      exact UInt8.toNat_inj.1 k1
    rw [hc, show p + (c :: l).length = p + 1 + l.length from by simp only [List.length_cons]; omega, subL_from l (p + 1) r h'.tail]
theorem From.split {p : Nat} {l r : List UInt8} (h : From q p (l ++ r)) (hl : l ≠ []) : ∃ c l', l = c :: l' ∧ Go.Proofs.YtnnhkajjifmlfaaDoor.chr q p = c.toNat ∧ p < q.size := by
  cases l with
  | nil => exact absurd rfl hl
  | cons c l' =>
    obtain ⟨a, b⟩ := (show From q p (c :: (l' ++ r)) from h).chr
    exact ⟨c, l', rfl, a, b⟩
/-- a number is read -/
theorem rd_num (d : Int) (n : Int) (p : Nat) (r : List UInt8) (hr : NoDig r) (h0 : -9223372036854775808 ≤ n) (h1 : n ≤ 9223372036854775807) (h : From q p (Lib.itoa n ++ r)) :
    numS q (sd d p) = (n, sd d (p + (Lib.itoa n).length)) := by
  by_cases hneg : n < 0
  · obtain ⟨u, hu1, rfl⟩ : ∃ u : Nat, 1 ≤ u ∧ n = -(u : Int) := ⟨n.natAbs, by omega, by omega⟩
    rw [Lib.itoa_neg u hu1] at h ⊢
    have h : From q p (45 :: (Lib.decDigits u ++ r)) := h
    obtain ⟨k1, _⟩ := h.chr
    have e45 : ((45 : UInt8)).toNat = 45 := rfl
    rw [e45] at k1
    have t45 : takeB q (sd d p) 45 = true := by rw [take_sd _ _ _ (by decide), k1]; rfl
    have hd := dsk_digs (Lib.decDigits u) (p + 1) r (dec_digs u) hr h.tail
    obtain ⟨c, l, hcl, kc, _⟩ := h.tail.split (dec_ne u)
    have hlen : (Lib.decDigits u).length = l.length + 1 := by rw [hcl]; rfl
    have hz := dec_lead1 u hu1 c l hcl
    have hs := subL_from (45 :: Lib.decDigits u) p r h
    have hp := pint_neg e45 (dec_digs u) (dec_ne u)
    rw [dec_val] at hp
    have hs' : subL q p (p + 1 + (Lib.decDigits u).length) = 45 :: Lib.decDigits u := by rw [← hs]; congr 1; simp only [List.length_cons]; omega
    unfold numS
    simp only
    rw [takeS_sd _ _ _ t45]
    show (PIn (subL q p (dsk q (p + 1))), numE q p (p + 1) (dsk q (p + 1)) ⟨dsk q (p + 1), 0, 0, d⟩) = _
    rw [hd, hs', hp.2 (by omega)]
    have hok : PIok (subL q p (p + 1 + (Lib.decDigits u).length)) = true := by rw [hs', hp.1]; exact decide_eq_true (by omega)
    have hzb : zeroBad q p (p + 1) (p + 1 + (Lib.decDigits u).length) = false := by
      unfold zeroBad
      have : (chr q (p + 1) == 48) = false := by rw [kc]; simpa using hz
      simp [this]
    unfold numE
    rw [if_neg (by omega), hzb, hok]
    simp only [Bool.not_true, Bool.or_self, Bool.false_eq_true, if_false]
    congr 2
    simp only [List.length_cons]; omega
  · obtain ⟨u, rfl⟩ : ∃ u : Nat, n = (u : Int) := ⟨n.toNat, by omega⟩
    rw [Lib.itoa_nonneg] at h ⊢
    obtain ⟨c, l, hcl, kc, _⟩ := h.split (dec_ne u)
    have hlen : (Lib.decDigits u).length = l.length + 1 := by rw [hcl]; rfl
    have hcd := dec_digs u c (by rw [hcl]; simp)
    have t45 : takeB q (sd d p) 45 = false := by rw [take_sd _ _ _ (by decide), kc]; simp; omega
    have hd := dsk_digs (Lib.decDigits u) p r (dec_digs u) hr h
    have hs := subL_from (Lib.decDigits u) p r h
    have hp := pint_pos (dec_digs u) (dec_ne u)
    rw [dec_val] at hp
    unfold numS
    simp only
    rw [tkS_not t45]
    show (PIn (subL q p (dsk q p)), numE q p p (dsk q p) ⟨dsk q p, 0, 0, d⟩) = _
    rw [hd, hs, hp.2 (by omega)]
    have hok : PIok (subL q p (p + (Lib.decDigits u).length)) = true := by rw [hs, hp.1]; exact decide_eq_true (by omega)
    have hzb : zeroBad q p p (p + (Lib.decDigits u).length) = false := by
      unfold zeroBad
      by_cases hl : l = []
      · rw [hlen, hl]; simp
      · have : (chr q p == 48) = false := by rw [kc]; simpa using dec_lead u c l hcl hl
        simp [this]
    unfold numE
    rw [if_neg (by omega), hzb, hok]
    simp only [Bool.not_true, Bool.or_self, Bool.false_eq_true, if_false]
    rfl
/-! values -/
theorem textJ_head {j : J} (hf : fineP j = true) : ∃ c l, textJ j = c :: l ∧ blank c.toNat = false ∧ c.toNat ≠ 93 ∧ c.toNat ≠ 125 := by
  obtain ⟨k, n, t, names, list⟩ := j
  rw [textJ]
  split
  · exact ⟨_, _, rfl, by decide, by decide, by decide⟩
  · split
    · split
      · exact ⟨_, _, rfl, by decide, by decide, by decide⟩
      · exact ⟨_, _, rfl, by decide, by decide, by decide⟩
    · split
      · unfold Lib.itoa
        split
        · exact ⟨_, _, rfl, by decide, by decide, by decide⟩
        · cases hd : Lib.decDigits n.toNat with
          | nil => exact absurd hd (dec_ne _)
          | cons c l =>
            have hc := dec_digs n.toNat c (by rw [hd]; simp)
            refine ⟨c, l, rfl, ?_, by omega, by omega⟩
            unfold blank
            simp only [Bool.or_eq_false_iff, beq_eq_false_iff_ne]
            omega
      · split
        · exact ⟨_, _, rfl, by decide, by decide, by decide⟩
        · unfold opn
          split
          · exact ⟨_, _, rfl, by decide, by decide, by decide⟩
          · exact ⟨_, _, rfl, by decide, by decide, by decide⟩
theorem ba_eta (t : ByteArray) : (⟨t.data.toList.toArray⟩ : ByteArray) = t := by cases t; simp
theorem ba_nil {t : ByteArray} (h : t.size = 0) : t = ⟨#[]⟩ := by
  cases t with
  | mk a => congr 1; exact Array.eq_empty_of_size_eq_zero h
theorem noDig_cons {c : UInt8} {l : List UInt8} (h : isDig c.toNat = false) : NoDig (c :: l) := by
  intro x y e; injection e with e1 e2; rw [← e1]; exact h
/-- the parts are read -/
theorem rd_items {val : PS → J × PS} {k en : Int} {enB : UInt8} (hk : (k = 5 ∧ en = 93 ∧ enB = 93) ∨ (k = 6 ∧ en = 125 ∧ enB = 125)) (d : Int) : ∀ (list : List J) (names : List ByteArray) (n p : Nat) (names0 : List ByteArray) (list0 : List J) (r : List UInt8),
    (∀ j ∈ list, fineP j = true ∧ ∀ (p : Nat) (r : List UInt8), NoDig r → From q p (textJ j ++ r) → val (sd d p) = (j, sd d (p + (textJ j).length))) →
    list ≠ [] → (k = 6 → names.length = list.length) → (k = 5 → names = []) → list.length ≤ n → From q p (itemsJ k true names list ++ enB :: r) →
    manyF q val k en n names0 list0 (sd d p) = (.mk k 0 ⟨#[]⟩ (names0 ++ names) (list0 ++ list), sd d (p + (itemsJ k true names list).length + 1))
  | [], _, _, _, _, _, _, _, hne, _, _, _, _ => absurd rfl hne
  | j :: rest, names, n, p, names0, list0, r, hv, _, h6, h5, hn, h => by
    obtain ⟨m, rfl⟩ : ∃ m, n = m + 1 := ⟨n - 1, by simp only [List.length_cons] at hn; omega⟩
    have hn' : rest.length ≤ m := by simp only [List.length_cons] at hn; omega
    obtain ⟨hf, hj⟩ := hv j (by simp)
    obtain ⟨hc, hl, hhd, hb, _, _⟩ := textJ_head hf
    have hen : en ≠ 0 := by rcases hk with ⟨_, h, _⟩ | ⟨_, h, _⟩ <;> omega
    have heB : (enB.toNat : Int) = en ∧ isDig enB.toNat = false ∧ blank enB.toNat = false := by
      rcases hk with ⟨_, h, h'⟩ | ⟨_, h, h'⟩ <;> subst h <;> subst h' <;> exact ⟨rfl, rfl, rfl⟩
    rw [items_true] at h ⊢
    have hH : From q p (nameL k names ++ (textJ j ++ (itemsJ k false names.tail rest ++ enB :: r))) := by
      have e : nameL k names ++ (textJ j ++ itemsJ k false names.tail rest) ++ enB :: r = nameL k names ++ (textJ j ++ (itemsJ k false names.tail rest ++ enB :: r)) := by simp
      rw [← e]; exact h
    -- the name
    obtain ⟨nm, hnm, hnames⟩ : ∃ nm : List ByteArray, names = nm ++ names.tail ∧ nameS q k names0 (blanksS q (sd d p)) = (names0 ++ nm, sd d (p + (nameL k names).length)) := by
      rcases hk with ⟨rfl, _, _⟩ | ⟨rfl, _, _⟩
      · refine ⟨[], by rw [h5 rfl]; rfl, ?_⟩
        have e1 : nameL 5 names = [] := by unfold nameL; rw [if_neg (by decide)]
        rw [e1] at hH ⊢
        have hH : From q p (textJ j ++ (itemsJ 5 false names.tail rest ++ enB :: r)) := hH
        rw [hhd] at hH
        obtain ⟨k1, _⟩ := (show From q p (hc :: (hl ++ (itemsJ 5 false names.tail rest ++ enB :: r))) from hH).chr
        rw [blanks_sd _ _ (by rw [k1]; exact hb)]
        unfold nameS
        rw [if_neg (by decide), List.append_nil]; rfl
      · cases names with
        | nil => have := h6 rfl; simp at this
        | cons a ns =>
          refine ⟨[a], rfl, ?_⟩
          have e1 : nameL 6 (a :: ns) = quoteL a ++ [58] := by unfold nameL; rw [if_pos rfl]; rfl
          rw [e1] at hH ⊢
          have hH : From q p (quoteL a ++ (58 :: (textJ j ++ (itemsJ 6 false ns rest ++ enB :: r)))) := by
            have e : quoteL a ++ [58] ++ (textJ j ++ (itemsJ 6 false ns rest ++ enB :: r)) = quoteL a ++ (58 :: (textJ j ++ (itemsJ 6 false ns rest ++ enB :: r))) := by simp
            rw [← e]; exact hH
          have hb34 : blank (chr q p) = false := by
            obtain ⟨k1, _⟩ := (show From q p (34 :: ((qlist a.data.toList ++ [34]) ++ (58 :: (textJ j ++ (itemsJ 6 false ns rest ++ enB :: r))))) from hH).chr
            rw [k1]; rfl
          rw [blanks_sd _ _ hb34]
          unfold nameS
          rw [if_pos rfl, rd_text d a p _ hH]
          have h58 := hH.app
          obtain ⟨k2, _⟩ := h58.chr
          simp only
          rw [blanks_sd _ _ (by rw [k2]; rfl), ba_eta]
          have hnd := rd_need (q := q) d (nats ⟨#[58]⟩) (p + (quoteL a).length) [58] _ rfl (by decide) (by simpa using h58)
          rw [hnd]
          simp only [List.length_append, List.length_singleton, Nat.add_assoc]
    have hV := hH.app
    have hnd : NoDig (itemsJ k false names.tail rest ++ enB :: r) := by
      cases rest with
      | nil => rw [items_nil]; exact noDig_cons heB.2.1
      | cons x y => rw [items_first]; exact noDig_cons rfl
    have hval := hj _ _ hnd hV
    have hT := hV.app
    rw [manyF, if_pos (sd_e _ _), hnames]
    simp only
    rw [hval]
    simp only
    cases rest with
    | nil =>
      rw [items_nil] at hT ⊢
      have hT : From q (p + (nameL k names).length + (textJ j).length) (enB :: r) := hT
      obtain ⟨k1, _⟩ := hT.chr
      rw [blanks_sd _ _ (by rw [k1]; exact heB.2.2)]
      have tk : takeB q (sd d (p + (nameL k names).length + (textJ j).length)) en = true := by rw [take_sd _ _ _ hen, k1, heB.1]; simp
      rw [if_pos tk, takeS_sd _ _ _ tk]
      have hnt : names = nm := by
        rcases hk with ⟨rfl, _, _⟩ | ⟨rfl, _, _⟩
        · have := h5 rfl; rw [this] at hnm; simpa [this] using hnm
        · have h1 := h6 rfl
          have h2 : names.tail = [] := by
            cases names with
            | nil => rfl
            | cons a b => simp at h1; simpa using h1
          rw [h2, List.append_nil] at hnm; exact hnm
      rw [← hnt, List.append_nil]
      simp only [List.length_append, Nat.add_assoc]
    | cons x y =>
      rw [items_first] at hT ⊢
      have hT : From q (p + (nameL k names).length + (textJ j).length) (44 :: (itemsJ k true names.tail (x :: y) ++ enB :: r)) := hT
      obtain ⟨k1, _⟩ := hT.chr
      have e44 : ((44 : UInt8)).toNat = 44 := rfl
      rw [blanks_sd _ _ (by rw [k1]; rfl)]
      have tk : takeB q (sd d (p + (nameL k names).length + (textJ j).length)) en = false := by
        rw [take_sd _ _ _ hen, k1, e44]; rcases hk with ⟨_, h, _⟩ | ⟨_, h, _⟩ <;> subst h <;> rfl
      rw [if_neg (by simp [tk])]
      have hnd2 := rd_need (q := q) d (nats ⟨#[44]⟩) (p + (nameL k names).length + (textJ j).length) [44] _ rfl (by decide) (by simpa using hT)
      rw [hnd2]
      have ih := rd_items (val := val) (k := k) (en := en) (enB := enB) hk d (x :: y) names.tail m (p + (nameL k names).length + (textJ j).length + [(44 : UInt8)].length) (names0 ++ nm) (list0 ++ [j]) r
        (fun z hz => hv z (by simp only [List.mem_cons]; right; simpa using hz)) (by simp)
        (fun e => by have := h6 e; cases names with
          | nil => simp at this
          | cons a b => simpa using this)
        (fun e => by rw [h5 e]; rfl) hn' (by simpa using hT.tail)
      rw [ih]
      congr 1
      · congr 1
        · rw [List.append_assoc, ← hnm]
        · rw [List.append_assoc]; rfl
      · congr 1
        simp only [List.length_append, List.length_cons, List.length_nil]
        omega
theorem rd_word (d : Int) (t : ByteArray) (p : Nat) (l r : List UInt8) (hl : l.map UInt8.toNat = nats t) (hz : ∀ c ∈ nats t, c ≠ 0) (h : From q p (l ++ r)) : needS q (nats t) (sd d p) = sd d (p + l.length) := rd_need d _ p l r hl hz h
theorem out_in (d : Int) (p : Nat) : inD (sd d p) = sd (d + 1) (p + 1) := rfl
theorem outD_sd (d : Int) (p : Nat) (j : J) : outD (j, sd (d + 1) p) = (j, sd d p) := by
  unfold outD sd; simp only; congr 2; omega
theorem items_head {k : Int} {names : List ByteArray} {j : J} {r : List J} (hf : fineP j = true) : ∃ c l, itemsJ k true names (j :: r) = c :: l ∧ blank c.toNat = false ∧ c.toNat ≠ 93 ∧ c.toNat ≠ 125 := by
  rw [items_true]
  unfold nameL
  split
  · unfold quoteL
    exact ⟨_, _, rfl, by decide, by decide, by decide⟩
  · obtain ⟨c, l, e, h⟩ := textJ_head hf
    rw [e]
    exact ⟨_, _, rfl, h⟩
theorem items_ge (k : Int) : ∀ (list : List J) (first : Bool) (names : List ByteArray), (∀ j ∈ list, fineP j = true) → list.length ≤ (itemsJ k first names list).length
  | [], _, _, _ => Nat.zero_le _
  | j :: r, first, names, h => by
    have := items_ge k r false names.tail (fun x hx => h x (by simp [hx]))
    obtain ⟨c, l, e, _⟩ := textJ_head (h j (by simp))
    rw [itemsJ, e]
    simp only [List.length_append, List.length_cons]
    omega
theorem rd_value_of (m : Nat) (ih : ∀ m', m' + 1 = m → ∀ (d : Int) (j : J), JBd j → fineP j = true → deepP j m' = false → ∀ (p : Nat) (r : List UInt8), NoDig r → From q p (textJ j ++ r) → valueD q m' (sd d p) = (j, sd d (p + (textJ j).length))) :
    ∀ (d : Int) (j : J), JBd j → fineP j = true → deepP j m = false → ∀ (p : Nat) (r : List UInt8), NoDig r → From q p (textJ j ++ r) → valueD q m (sd d p) = (j, sd d (p + (textJ j).length)) := by
  intro d j hb hf hd p r hr h
  obtain ⟨hc, hl, hhd, hbl, _, _⟩ := textJ_head hf
  have hx := h
  rw [hhd] at hx
  obtain ⟨k0, _⟩ := (show From q p (hc :: (hl ++ r)) from hx).chr
  have hB := blanks_sd (q := q) d p (by rw [k0]; exact hbl)
  have hN := next_sd (q := q) d p
  rw [k0] at hN
  unfold valueD valueW
  simp only
  rw [hB, hN]
  clear hx
  obtain ⟨h0, h1, ht, hnl, hll, hs, hrec⟩ := hb
  rename_i k n t names list
  rw [fineP] at hf
  by_cases k1 : k = 1
  · subst k1
    simp only [if_true, Bool.and_eq_true, decide_eq_true_eq] at hf
    obtain ⟨⟨⟨a1, a2⟩, a3⟩, a4⟩ := hf
    have b2 := ba_nil a2
    have b3 := List.eq_nil_of_length_eq_zero a3
    have b4 := List.eq_nil_of_length_eq_zero a4
    subst a1 b2 b3 b4
    have e : textJ (.mk 1 0 ⟨#[]⟩ [] []) = [110, 117, 108, 108] := by rw [textJ]; rfl
    rw [e] at hhd h ⊢
    injection hhd with c1 _
    subst c1
    rw [if_pos (by decide), rd_word d bNull p [110, 117, 108, 108] r rfl (by decide) h]
    rfl
  by_cases k2 : k = 2
  · subst k2
    simp only [show ¬ ((2 : Int) = 1) by decide, if_false, if_true, Bool.and_eq_true, Bool.or_eq_true, decide_eq_true_eq] at hf
    obtain ⟨⟨⟨a1, a2⟩, a3⟩, a4⟩ := hf
    have b2 := ba_nil a2
    have b3 := List.eq_nil_of_length_eq_zero a3
    have b4 := List.eq_nil_of_length_eq_zero a4
    subst b2 b3 b4
    rcases a1 with rfl | rfl
    · have e : textJ (.mk 2 0 ⟨#[]⟩ [] []) = [102, 97, 108, 115, 101] := by rw [textJ]; rfl
      rw [e] at hhd h ⊢
      injection hhd with c1 _
      subst c1
      rw [if_neg (by decide), if_pos (by decide), rd_word d bFalse p [102, 97, 108, 115, 101] r rfl (by decide) h]
      rfl
    · have e : textJ (.mk 2 1 ⟨#[]⟩ [] []) = [116, 114, 117, 101] := by rw [textJ]; rfl
      rw [e] at hhd h ⊢
      injection hhd with c1 _
      subst c1
      rw [if_neg (by decide), if_neg (by decide), if_pos (by decide), rd_word d bTrue p [116, 114, 117, 101] r rfl (by decide) h]
      rfl
  by_cases k3 : k = 3
  · subst k3
    simp only [show ¬ ((3 : Int) = 1) by decide, show ¬ ((3 : Int) = 2) by decide, if_false, if_true, Bool.and_eq_true, decide_eq_true_eq] at hf
    obtain ⟨⟨a2, a3⟩, a4⟩ := hf
    have b2 := ba_nil a2
    have b3 := List.eq_nil_of_length_eq_zero a3
    have b4 := List.eq_nil_of_length_eq_zero a4
    subst b2 b3 b4
    have e : textJ (.mk 3 n ⟨#[]⟩ [] []) = Lib.itoa n := by rw [textJ]; rfl
    rw [e] at hhd h ⊢
    have hcd : hc.toNat = 45 ∨ (48 ≤ hc.toNat ∧ hc.toNat ≤ 57) := by
      unfold Lib.itoa at hhd
      split at hhd
      · injection hhd with c1 _; subst c1; exact .inl rfl
      · exact .inr (dec_digs n.toNat hc (by rw [hhd]; simp))
    rw [if_neg (by omega), if_neg (by omega), if_neg (by omega), if_neg (by omega), if_pos (by omega), rd_num d n p r hr h0 h1 h]
    rfl
  by_cases k4 : k = 4
  · subst k4
    simp only [show ¬ ((4 : Int) = 1) by decide, show ¬ ((4 : Int) = 2) by decide, show ¬ ((4 : Int) = 3) by decide, if_false, if_true, Bool.and_eq_true, decide_eq_true_eq] at hf
    obtain ⟨⟨a1, a3⟩, a4⟩ := hf
    have b3 := List.eq_nil_of_length_eq_zero a3
    have b4 := List.eq_nil_of_length_eq_zero a4
    subst a1 b3 b4
    have e : textJ (.mk 4 0 t [] []) = quoteL t := by rw [textJ]; rfl
    rw [e] at hhd h ⊢
    have e2 : quoteL t = 34 :: (qlist t.data.toList ++ [34]) := rfl
    rw [e2] at hhd
    injection hhd with c1 _
    subst c1
    rw [if_neg (by decide), if_neg (by decide), if_neg (by decide), if_pos (by decide), rd_text d t p r h, ba_eta]
  obtain ⟨en, enB, hk, hn0, ht0, hfs, h6, h5⟩ : ∃ (en : Int) (enB : UInt8), ((k = 5 ∧ en = 93 ∧ enB = 93) ∨ (k = 6 ∧ en = 125 ∧ enB = 125)) ∧ n = 0 ∧ t = ⟨#[]⟩ ∧ finePs list = true ∧ (k = 6 → names.length = list.length) ∧ (k = 5 → names = []) := by
    by_cases k5 : k = 5
    · subst k5
      simp only [show ¬ ((5 : Int) = 1) by decide, show ¬ ((5 : Int) = 2) by decide, show ¬ ((5 : Int) = 3) by decide, show ¬ ((5 : Int) = 4) by decide, if_false, if_true, Bool.and_eq_true, decide_eq_true_eq] at hf
      obtain ⟨⟨⟨a1, a2⟩, a3⟩, a4⟩ := hf
      exact ⟨93, 93, .inl ⟨rfl, rfl, rfl⟩, a1, ba_nil a2, a4, fun e => absurd e (by decide), fun _ => List.eq_nil_of_length_eq_zero a3⟩
    · rw [if_neg k1, if_neg k2, if_neg k3, if_neg k4, if_neg k5] at hf
      by_cases k6 : k = 6
      · rw [if_pos k6] at hf
        simp only [Bool.and_eq_true, decide_eq_true_eq] at hf
        obtain ⟨⟨⟨a1, a2⟩, a3⟩, a4⟩ := hf
        exact ⟨125, 125, .inr ⟨k6, rfl, rfl⟩, a1, ba_nil a2, a4, fun _ => a3, fun e => absurd e k5⟩
      · rw [if_neg k6] at hf; cases hf
  subst hn0 ht0
  have e : textJ (.mk k 0 ⟨#[]⟩ names list) = opn k :: (itemsJ k true names list ++ [enB]) := by
    rw [textJ, if_neg k1, if_neg k2, if_neg k3, if_neg k4]
    rcases hk with ⟨rfl, _, rfl⟩ | ⟨rfl, _, rfl⟩ <;> rfl
  rw [e] at hhd h ⊢
  injection hhd with c1 _
  obtain ⟨m', rfl⟩ : ∃ m', m = m' + 1 := by
    cases m with
    | zero => rw [deepP] at hd; rcases hk with ⟨rfl, _⟩ | ⟨rfl, _⟩ <;> simp at hd
    | succ m' => exact ⟨m', rfl⟩
  have hdl : deepPs list (m' + 1) = false := by rw [deepP] at hd; simpa using hd
  have H : From q p (opn k :: (itemsJ k true names list ++ enB :: r)) := by
    have e3 : (opn k :: (itemsJ k true names list ++ [enB])) ++ r = opn k :: (itemsJ k true names list ++ enB :: r) := by simp
    rw [← e3]; exact h
  have H1 := H.tail
  have heB : (enB.toNat : Int) = en ∧ blank enB.toNat = false ∧ en ≠ 0 ∧ isDig enB.toNat = false := by
    rcases hk with ⟨_, rfl, rfl⟩ | ⟨_, rfl, rfl⟩ <;> exact ⟨rfl, rfl, by decide, rfl⟩
  have hM : manyD q (m' + 1) k en (sd d p) = (.mk k 0 ⟨#[]⟩ names list, sd d (p + (opn k :: (itemsJ k true names list ++ [enB])).length)) := by
    rw [manyD]
    unfold manyW
    simp only
    rw [out_in]
    cases list with
    | nil =>
      rw [items_nil] at H1 ⊢
      have H1 : From q (p + 1) (enB :: r) := H1
      obtain ⟨kk, _⟩ := H1.chr
      have tk : takeB q (sd (d + 1) (p + 1)) en = true := by rw [take_sd _ _ _ heB.2.2.1, kk, heB.1]; simp
      rw [blanks_sd _ _ (by rw [kk]; exact heB.2.1), if_pos tk, takeS_sd _ _ _ tk, outD_sd]
      have hnn : names = [] := by
        rcases hk with ⟨e5, _⟩ | ⟨e6, _⟩
        · exact h5 e5
        · exact List.eq_nil_of_length_eq_zero (h6 e6)
      rw [hnn]
      rfl
    | cons x y =>
      obtain ⟨ic, il, ie, ib, i1, i2⟩ := items_head (k := k) (names := names) (j := x) (r := y) (finePs_mem hfs x (by simp))
      have H1' := H1
      rw [ie] at H1'
      obtain ⟨kk, _⟩ := (show From q (p + 1) (ic :: (il ++ enB :: r)) from H1').chr
      have tk : takeB q (sd (d + 1) (p + 1)) en = false := by
        rw [take_sd _ _ _ heB.2.2.1, kk]
        rcases hk with ⟨_, rfl, _⟩ | ⟨_, rfl, _⟩ <;> simp <;> omega
      rw [blanks_sd _ _ (by rw [kk]; exact ib), if_neg (by simp [tk])]
      have hge := items_ge k (x :: y) true names (finePs_mem hfs)
      have hle := H1.le
      simp only [List.length_append] at hle
      have hI := rd_items (q := q) (val := valueW q (manyD q m')) hk (d + 1) (x :: y) names (q.size + 2) (p + 1) [] [] r
        (fun j hj => ⟨finePs_mem hfs j hj, fun p r hr hF => ih m' rfl (d + 1) j (hrec j hj) (finePs_mem hfs j hj) (deepPs_mem hdl j hj) p r hr hF⟩) (by simp) h6 h5 (by omega) H1
      rw [hI, outD_sd, List.nil_append, List.nil_append]
      congr 2
      simp only [List.length_cons, List.length_append, List.length_nil]
      omega
  rcases hk with ⟨rfl, rfl, _⟩ | ⟨rfl, rfl, _⟩
  · have c1' : hc.toNat = 91 := by rw [← c1]; rfl
    rw [c1', if_neg (by decide), if_neg (by decide), if_neg (by decide), if_neg (by decide), if_neg (by decide), if_pos (by decide), hM]
  · have c1' : hc.toNat = 123 := by rw [← c1]; rfl
    rw [c1', if_neg (by decide), if_neg (by decide), if_neg (by decide), if_neg (by decide), if_neg (by decide), if_neg (by decide), if_pos (by decide), hM]
/-- **a value that is told is read** -/
theorem rd_value : ∀ (m : Nat) (d : Int) (j : J), JBd j → fineP j = true → deepP j m = false → ∀ (p : Nat) (r : List UInt8), NoDig r → From q p (textJ j ++ r) → valueD q m (sd d p) = (j, sd d (p + (textJ j).length)) := by
  intro m
  induction m with
  | zero =>
    intro d j hb hf hd p r hr h
    exact rd_value_of (q := q) 0 (fun m' e => by omega) d j hb hf hd p r hr h
  | succ m ih =>
    intro d j hb hf hd p r hr h
    exact rd_value_of (q := q) (m + 1) (fun m' e d => by have : m' = m := by omega
                                                         subst this; exact ih d) d j hb hf hd p r hr h
end
/-- **what Text tells, Parse reads** -/
theorem parse_text (j : J) (hb : JBd j) (hf : fineP j = true) (hd : deepP j 64 = false) (hl : (textJ j).length ≤ 1048576) : parseS ⟨(textJ j).toArray⟩ = (j, 0, 0) := by
  have hsz : (⟨(textJ j).toArray⟩ : ByteArray).size = (textJ j).length := by show (textJ j).toArray.size = _; simp
  have h0 : From ⟨(textJ j).toArray⟩ 0 (textJ j ++ []) := by unfold From; simp
  have hv := rd_value (q := ⟨(textJ j).toArray⟩) 64 0 j hb hf hd 0 [] (fun c l e => by cases e) h0
  rw [Nat.zero_add] at hv
  have hbe : blanksS ⟨(textJ j).toArray⟩ (sd 0 (textJ j).length) = sd 0 (textJ j).length := blanks_sd _ _ (by rw [chr_out (by omega)]; rfl)
  unfold parseS
  rw [if_neg (by omega)]
  have ht : topS ⟨(textJ j).toArray⟩ = (j, sd 0 (textJ j).length) := by
    unfold topS
    have e0 : (⟨0, 0, 0, 0⟩ : PS) = sd 0 0 := rfl
    rw [e0, hv]
    simp only
    rw [hbe]
    unfold endS
    rw [if_neg (by show ¬ (textJ j).length < _; omega)]
  rw [ht]
  unfold outP
  rw [if_pos (sd_e _ _)]
end Go.Proofs.YtnnhkajjifmlfaaDoor
