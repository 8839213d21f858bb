/- What quote tells is read as the text: the plain law. -/
import Derived.Test.YtnnhkajjifmlfaaDoorB1
import Derived.Test.YtnnhkajjifmlfaaDoorLa
namespace Go.Proofs.YtnnhkajjifmlfaaDoor
open Go.RowKit Go.Maps

section
variable {q : ByteArray}
/-- from a place on the bytes are these -/
def From (q : ByteArray) (p : Nat) (l : List UInt8) : Prop := q.data.toList.drop p = l
theorem From.chr {p : Nat} {c : UInt8} {l : List UInt8} (h : From q p (c :: l)) : Go.Proofs.YtnnhkajjifmlfaaDoor.chr q p = c.toNat ∧ p < q.size := by
  unfold From at h
  have hlt : p < q.data.toList.length := by
    rcases Nat.lt_or_ge p q.data.toList.length with h1 | h1
    · exact h1
    · rw [List.drop_of_length_le h1] at h; cases h
  have hlt' : p < q.size := by rw [Array.length_toList] at hlt; exact hlt
  rw [List.drop_eq_getElem_cons hlt] at h
  injection h with h1 h2
  rw [chr_in hlt']
  refine ⟨?_, hlt'⟩
  rw [← h1]; rfl
theorem From.tail {p : Nat} {c : UInt8} {l : List UInt8} (h : From q p (c :: l)) : From q (p + 1) l := by
  unfold From at h ⊢
  rw [← List.drop_drop, h]; rfl
theorem From.nil {p : Nat} (h : From q p []) : q.size ≤ p := by
  unfold From at h
  have := congrArg List.length h
  rw [List.length_drop, Array.length_toList] at this
  simp only [List.length_nil] at this
  have e : q.data.size = q.size := rfl
  omega
def st (p : Nat) : PS := ⟨p, 0, 0, 0⟩
theorem st_e (p : Nat) : (st p).e = 0 := rfl
theorem next_st (p : Nat) : nextS q (st p) = chr q p := by unfold nextS st; rw [if_pos rfl]
theorem take_st (p : Nat) (c : Int) (hc : c ≠ 0) : takeB q (st p) c = decide ((chr q p : Int) = c) := by
  have h : Sm (st p) ⟨p, -1, 0⟩ := .inl ⟨rfl, (by decide : (-1 : Int) < 0), rfl⟩
  exact takeB_chr h rfl hc
theorem takeS_st (p : Nat) (c : Int) (h : takeB q (st p) c = true) : takeS q (st p) c = st (p + 1) := by rw [tkS_yes h]; rfl
theorem shc_cases {c : Nat} (h : 0 ≤ shc c) : (c = 34 ∧ shc c = 34) ∨ (c = 92 ∧ shc c = 92) ∨ (c = 8 ∧ shc c = 98) ∨ (c = 9 ∧ shc c = 116) ∨ (c = 10 ∧ shc c = 110) ∨ (c = 12 ∧ shc c = 102) ∨ (c = 13 ∧ shc c = 114) := by
  unfold shc at h ⊢
  repeat' split at h
  all_goals first
    | (rename_i h1; exfalso; revert h; decide)
    | skip
  all_goals simp_all
  all_goals omega
theorem hex_back (x : Nat) (h : x < 16) : hexS (hxd x) = x ∧ (hxd x).toUInt8.toNat = hxd x := by
  have : ∀ x : Fin 16, hexS (hxd x) = x ∧ (hxd x).toUInt8.toNat = hxd x := by decide
  exact this ⟨x, h⟩
theorem toB_nat (c : UInt8) : toB (c.toNat : Int) = c := by unfold toB; simp
/-- a byte that was told is read -/
theorem read_byte (c : UInt8) (p n : Nat) (acc r : List UInt8) (h : From q p (qch c ++ r)) : textF q (n + 1) acc (st p) = textF q n (acc ++ [c]) (st (p + (qch c).length)) ∧ From q (p + (qch c).length) r := by
  unfold qch at h ⊢
  by_cases h1 : 0 ≤ shc c.toNat
  · rw [if_pos h1] at h ⊢
    obtain ⟨k1, l1⟩ := h.chr
    obtain ⟨k2, l2⟩ := h.tail.chr
    have hr := h.tail.tail
    have e92 : ((92 : UInt8)).toNat = 92 := rfl
    rw [e92] at k1
    refine ⟨?_, hr⟩
    have t34 : takeB q (st p) 34 = false := by rw [take_st _ _ (by decide), k1]; rfl
    have t92 : takeB q (st p) 92 = true := by rw [take_st _ _ (by decide), k1]; rfl
    have hes : escS q (st (p + 1)) = ((c.toNat : Int), st (p + 2)) := by
      unfold escS
      rw [next_st, k2]
      rcases shc_cases h1 with ⟨a, b⟩ | ⟨a, b⟩ | ⟨a, b⟩ | ⟨a, b⟩ | ⟨a, b⟩ | ⟨a, b⟩ | ⟨a, b⟩ <;> rw [b, a] <;> rfl
    rw [textF, if_pos (st_e _), if_neg (by simp [t34]), next_st, k1, if_neg (by decide), if_pos t92, takeS_st _ _ t92, hes, toB_nat]
    rfl
  · rw [if_neg h1] at h ⊢
    by_cases h2 : 32 ≤ c.toNat ∧ c.toNat ≤ 126
    · rw [if_pos h2] at h ⊢
      obtain ⟨k1, l1⟩ := h.chr
      refine ⟨?_, h.tail⟩
      have n34 : c.toNat ≠ 34 := fun e => h1 (by rw [e]; decide)
      have n92 : c.toNat ≠ 92 := fun e => h1 (by rw [e]; decide)
      have t34 : takeB q (st p) 34 = false := by rw [take_st _ _ (by decide), k1]; simp; omega
      have t92 : takeB q (st p) 92 = false := by rw [take_st _ _ (by decide), k1]; simp; omega
      rw [textF, if_pos (st_e _), if_neg (by simp [t34]), next_st, k1, if_neg (by omega), if_neg (by simp [t92]), toB_nat]
      rfl
    · rw [if_neg h2] at h ⊢
      obtain ⟨k1, l1⟩ := h.chr
      obtain ⟨k2, l2⟩ := h.tail.chr
      obtain ⟨k3, l3⟩ := h.tail.tail.chr
      obtain ⟨k4, l4⟩ := h.tail.tail.tail.chr
      obtain ⟨k5, l5⟩ := h.tail.tail.tail.tail.chr
      obtain ⟨k6, l6⟩ := h.tail.tail.tail.tail.tail.chr
      have hr := h.tail.tail.tail.tail.tail.tail
      refine ⟨?_, hr⟩
      have hc := UInt8.toNat_lt c
      obtain ⟨x1, x2⟩ := hex_back (c.toNat / 16) (by omega)
      obtain ⟨y1, y2⟩ := hex_back (c.toNat % 16) (by omega)
      rw [x2] at k5
      rw [y2] at k6
      have e92 : ((92 : UInt8)).toNat = 92 := rfl
      have e117 : ((117 : UInt8)).toNat = 117 := rfl
      have e48 : ((48 : UInt8)).toNat = 48 := rfl
      rw [e92] at k1
      rw [e117] at k2
      rw [e48] at k3 k4
      have t34 : takeB q (st p) 34 = false := by rw [take_st _ _ (by decide), k1]; rfl
      have t92 : takeB q (st p) 92 = true := by rw [take_st _ _ (by decide), k1]; rfl
      have a1 : takeB q (st (p + 1)) ((117 : Nat) : Int) = true := by rw [take_st _ _ (by decide), k2]; rfl
      have a2 : takeB q (st (p + 1 + 1)) ((48 : Nat) : Int) = true := by rw [take_st _ _ (by decide), k3]; rfl
      have a3 : takeB q (st (p + 1 + 1 + 1)) ((48 : Nat) : Int) = true := by rw [take_st _ _ (by decide), k4]; rfl
      have hnd : needS q (nats ⟨#[117, 48, 48]⟩) (st (p + 1)) = st (p + 1 + 1 + 1 + 1) := by
        show needS q [117, 48, 48] (st (p + 1)) = _
        rw [needS, if_pos a1, takeS_st _ _ a1, needS, if_pos a2, takeS_st _ _ a2, needS, if_pos a3, takeS_st _ _ a3]; rfl
      have hes : escS q (st (p + 1)) = ((c.toNat : Int), st (p + 6)) := by
        unfold escS
        rw [next_st, k2, if_pos rfl, hnd]
        unfold escU
        have s1 : stepP (st (p + 1 + 1 + 1 + 1)) = st (p + 1 + 1 + 1 + 1 + 1) := rfl
        rw [next_st, k5, x1, if_neg (by omega), s1, next_st, k6, y1, if_neg (by omega)]
        have : (16 : Int) * ((c.toNat / 16 : Nat) : Int) + ((c.toNat % 16 : Nat) : Int) = (c.toNat : Int) := by omega
        rw [this]
        rfl
      rw [textF, if_pos (st_e _), if_neg (by simp [t34]), next_st, k1, if_neg (by decide), if_pos t92, takeS_st _ _ t92, hes, toB_nat]
      rfl
theorem read_all : ∀ (l : List UInt8) (p n : Nat) (acc : List UInt8), From q p (qlist l ++ [34]) → textF q (n + l.length + 1) acc (st p) = (acc ++ l, st (p + (qlist l).length + 1)) ∧ q.size = p + (qlist l).length + 1
  | [], p, n, acc, h => by
    have h : From q p [34] := h
    obtain ⟨k1, l1⟩ := h.chr
    have e34 : ((34 : UInt8)).toNat = 34 := rfl
    rw [e34] at k1
    have t34 : takeB q (st p) 34 = true := by rw [take_st _ _ (by decide), k1]; rfl
    have := h.tail.nil
    refine ⟨?_, by show q.size = p + 0 + 1; omega⟩
    show textF q (n + 1) acc (st p) = (acc ++ [], st (p + 0 + 1))
    rw [textF, if_pos (st_e _), if_pos t34, takeS_st _ _ t34, List.append_nil]
  | c :: r, p, n, acc, h => by
    have h' : From q p (qch c ++ (qlist r ++ [34])) := by
      have : qlist (c :: r) ++ [34] = qch c ++ (qlist r ++ [34]) := by simp [qlist]
      rw [← this]; exact h
    obtain ⟨h1, h2⟩ := read_byte (q := q) c p (n + r.length + 1) acc (qlist r ++ [34]) h'
    obtain ⟨h3, h4⟩ := read_all r (p + (qch c).length) n (acc ++ [c]) h2
    have hl : (qlist (c :: r)).length = (qch c).length + (qlist r).length := by simp [qlist]
    refine ⟨?_, by rw [hl]; omega⟩
    rw [show n + (c :: r).length + 1 = n + r.length + 1 + 1 from by simp only [List.length_cons]; omega, h1, h3, hl]
    rw [show p + (qch c).length + (qlist r).length + 1 = p + ((qch c).length + (qlist r).length) + 1 from by omega]
    simp
end
theorem qlist_ge : ∀ l : List UInt8, l.length ≤ (qlist l).length
  | [] => Nat.le_refl _
  | c :: r => by
    have h1 := qlist_ge r
    have h2 : 1 ≤ (qch c).length := by
      unfold qch
      repeat' split
      all_goals simp
    show _ ≤ (qch c ++ qlist r).length
    simp only [List.length_append, List.length_cons]
    omega
def quoteB (s : ByteArray) : ByteArray := ⟨(34 :: (qlist s.data.toList ++ [34])).toArray⟩
theorem quoteB_size (s : ByteArray) : (quoteB s).size = (qlist s.data.toList).length + 2 := by
  show (34 :: (qlist s.data.toList ++ [34])).toArray.size = _
  simp
/-- **what is told in quotes is read as the text** -/
theorem parse_quote (s : ByteArray) (hs : s.size ≤ 100000) : parseS (quoteB s) = (.mk 4 0 s [] [], 0, 0) := by
  have hq := quoteB_size s
  have hql := qlist_len s.data.toList
  have hqg := qlist_ge s.data.toList
  have hsl : s.data.toList.length = s.size := by rw [Array.length_toList]; rfl
  have h0 : From (quoteB s) 0 (34 :: (qlist s.data.toList ++ [34])) := by unfold From quoteB; simp
  obtain ⟨k1, l1⟩ := h0.chr
  have e34 : ((34 : UInt8)).toNat = 34 := rfl
  rw [e34] at k1
  have h1 := h0.tail
  have hb0 : blank (chr (quoteB s) 0) = false := by rw [k1]; rfl
  have hbl : blanksS (quoteB s) (st 0) = st 0 := by
    unfold blanksS; rw [if_pos (st_e _)]; show st (skip (quoteB s) 0) = _; rw [skip_stop hb0]
  have t34 : takeB (quoteB s) (st 0) ((34 : Nat) : Int) = true := by rw [take_st _ _ (by decide), k1]; rfl
  have hnd : needS (quoteB s) (nats ⟨#[34]⟩) (st 0) = st 1 := by
    show needS (quoteB s) [34] (st 0) = _
    rw [needS, if_pos t34, takeS_st _ _ t34]; rfl
  obtain ⟨r1, r2⟩ := read_all s.data.toList 1 ((quoteB s).size + 1 - s.data.toList.length) [] h1
  have htx : textS (quoteB s) (st 0) = (s.data.toList, st (quoteB s).size) := by
    unfold textS
    rw [hnd, show (quoteB s).size + 2 = (quoteB s).size + 1 - s.data.toList.length + s.data.toList.length + 1 from by omega, r1, List.nil_append]
    rw [show 1 + (qlist s.data.toList).length + 1 = (quoteB s).size from r2.symm]
  have hv : valueD (quoteB s) 64 (st 0) = (.mk 4 0 ⟨s.data.toList.toArray⟩ [] [], st (quoteB s).size) := by
    unfold valueD valueW
    simp only
    rw [hbl, next_st, k1, if_neg (by decide), if_neg (by decide), if_neg (by decide), if_pos rfl, htx]
  have hbe : blanksS (quoteB s) (st (quoteB s).size) = st (quoteB s).size := by
    unfold blanksS; rw [if_pos (st_e _)]
    show st (skip (quoteB s) (quoteB s).size) = _
    rw [skip_stop (by rw [chr_out (Nat.le_refl _)]; rfl)]
  unfold parseS
  rw [if_neg (by omega)]
  have ht : topS (quoteB s) = (.mk 4 0 ⟨s.data.toList.toArray⟩ [] [], st (quoteB s).size) := by
    unfold topS
    have e0 : (⟨0, 0, 0, 0⟩ : PS) = st 0 := rfl
    rw [e0, hv]
    simp only
    rw [hbe]
    unfold endS
    rw [if_neg (by show ¬ (quoteB s).size < (quoteB s).size; omega)]
  rw [ht]
  have hse : (⟨s.data.toList.toArray⟩ : ByteArray) = s := by cases s; simp
  unfold outP
  rw [if_pos (st_e _), hse]
end Go.Proofs.YtnnhkajjifmlfaaDoor
