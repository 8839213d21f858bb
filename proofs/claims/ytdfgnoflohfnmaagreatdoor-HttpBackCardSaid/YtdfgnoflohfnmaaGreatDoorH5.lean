/- HTTP: responses: how one is written and read: the plain functions; a first part of one is read as 'more is wanted'. -/
import Derived.Test.YtdfgnoflohfnmaaGreatDoorH2
import Derived.Lib.ItoaNum
namespace Go.Proofs.YtdfgnoflohfnmaaGreatDoor.Hx

/-- a status' reason -/
def reasonP (n : Int) : Bs :=
  if n = 200 then [79, 75]
  else if n = 202 then [65, 99, 99, 101, 112, 116, 101, 100]
  else if n = 400 then [66, 97, 100, 32, 82, 101, 113, 117, 101, 115, 116]
  else if n = 404 then [78, 111, 116, 32, 70, 111, 117, 110, 100]
  else if n = 405 then [77, 101, 116, 104, 111, 100, 32, 78, 111, 116, 32, 65, 108, 108, 111, 119, 101, 100]
  else if n = 413 then [67, 111, 110, 116, 101, 110, 116, 32, 84, 111, 111, 32, 76, 97, 114, 103, 101]
  else if n = 429 then [84, 111, 111, 32, 77, 97, 110, 121, 32, 82, 101, 113, 117, 101, 115, 116, 115]
  else if n = 500 then [73, 110, 116, 101, 114, 110, 97, 108, 32, 83, 101, 114, 118, 101, 114, 32, 69, 114, 114, 111, 114]
  else if n = 503 then [83, 101, 114, 118, 105, 99, 101, 32, 85, 110, 97, 118, 97, 105, 108, 97, 98, 108, 101]
  else [85, 110, 107, 110, 111, 119, 110]
def sVers : Bs := [72, 84, 84, 80, 47, 49, 46, 49, 32]
def sType : Bs := [67, 111, 110, 116, 101, 110, 116, 45, 84, 121, 112, 101, 58, 32]
def sLen : Bs := [67, 111, 110, 116, 101, 110, 116, 45, 76, 101, 110, 103, 116, 104, 58, 32]
def sClose : Bs := [67, 111, 110, 110, 101, 99, 116, 105, 111, 110, 58, 32, 99, 108, 111, 115, 101, 13, 10]
structure Rs where
  st : Int
  ty : Bs
  cl : Bool
  body : Bs
deriving DecidableEq
/-- what is written of a response -/
def outP (r : Rs) : Bs := sVers ++ Lib.itoa r.st ++ [32] ++ reasonP r.st ++ crlf ++ (if r.ty = [] then [] else sType ++ r.ty ++ crlf) ++ sLen ++ Lib.itoa r.body.length ++ crlf ++ (if r.cl then sClose else []) ++ crlf ++ r.body
/-- may it be? 0: yes -/
def mayR (r : Rs) : Int :=
  if 4096 < r.ty.length ∨ 1048576 < r.body.length then 3
  else if r.st < 100 ∨ 599 < r.st ∨ r.ty.all prB = false then 2 else 0

/-! reading: an error, and the place -/
abbrev Ps := Int × Nat
def needP (b s : Bs) (x : Ps) : Ps :=
  if x.1 ≠ 0 then x
  else if s.isPrefixOf (b.drop x.2) then (0, x.2 + s.length)
  else if (b.drop x.2).length < s.length ∧ (b.drop x.2).isPrefixOf s = true then (12, x.2) else (4, x.2)
/-- three digits -/
def statL : Bs → Int ⊕ Int
  | [] => .inl 12
  | a :: t =>
    if a.toNat < 49 ∨ 53 < a.toNat then .inl 4
    else match t with
      | [] => .inl 12
      | c :: t =>
        if digB c = false then .inl 4
        else match t with
          | [] => .inl 12
          | d :: _ => if digB d = false then .inl 4 else .inr (100 * ((a.toNat : Int) - 48) + 10 * ((c.toNat : Int) - 48) + ((d.toNat : Int) - 48))
def statP (b : Bs) (x : Ps) : Ps × Int :=
  if x.1 ≠ 0 then (x, 0) else match statL (b.drop x.2) with
    | .inl e => ((e, x.2), 0)
    | .inr n => ((0, x.2 + 3), n)
/-- the bytes that may be, at the beginning: so many at most -/
def lead (p : UInt8 → Bool) : Nat → Bs → Bs
  | 0, _ => []
  | _ + 1, [] => []
  | n + 1, c :: t => if p c then c :: lead p n t else []
def kindP (b : Bs) (x : Ps) : Ps × Bs :=
  if x.1 ≠ 0 then (x, [])
  else if sType.isPrefixOf (b.drop x.2) then
    let s := lead prB 4097 (b.drop (x.2 + 14))
    if 4096 < s.length ∨ (s.length = 0 ∧ x.2 + 14 < b.length) then ((4, x.2 + 14 + s.length), s) else (needP b crlf (0, x.2 + 14 + s.length), s)
  else if (b.drop x.2).length < sType.length ∧ (b.drop x.2).isPrefixOf sType = true then ((12, x.2), []) else (x, [])
/-- digits up to a number -/
def numL (most : Int) (zero : Bool) : Nat → Int → Bs → Int ⊕ (Int × Nat)
  | _, _, [] => .inl 12
  | k, n, c :: t =>
    if digB c then
      if most < n * 10 + ((c.toNat : Int) - 48) ∨ (0 < k ∧ zero = true) then .inl 4
      else numL most (if k = 0 then decide (c.toNat = 48) else zero) (k + 1) (n * 10 + ((c.toNat : Int) - 48)) t
    else if k = 0 then .inl 4 else .inr (n, k)
def numP (b : Bs) (most : Int) (x : Ps) : Ps × Int :=
  if x.1 ≠ 0 then (x, 0) else match numL most false 0 0 (b.drop x.2) with
    | .inl e => ((e, x.2), 0)
    | .inr (n, k) => ((0, x.2 + k), n)
def closeP (b : Bs) (x : Ps) : Ps × Bool :=
  if x.1 ≠ 0 then (x, false)
  else if sClose.isPrefixOf (b.drop x.2) then ((0, x.2 + 19), true)
  else if (b.drop x.2).length < sClose.length ∧ (b.drop x.2).isPrefixOf sClose = true ∧ x.2 < b.length then ((12, x.2), false) else (x, false)
/-- a response, and how many bytes it has; or an error -/
def readP (b : Bs) : Int ⊕ (Rs × Nat) :=
  let x1 := needP b sVers (0, 0)
  let x2 := statP b x1
  let x3 := needP b ([32] ++ reasonP x2.2 ++ crlf) x2.1
  let x4 := kindP b x3
  let x5 := needP b sLen x4.1
  let x6 := numP b 1048576 x5
  let x7 := needP b crlf x6.1
  let x8 := closeP b x7
  let x9 := needP b crlf x8.1
  if x9.1 ≠ 0 then .inl x9.1
  else if b.length < x9.2 + x6.2.toNat then .inl 12
  else .inr (⟨x2.2, x4.2, x8.2, (b.drop x9.2).take x6.2.toNat⟩, x9.2 + x6.2.toNat)

/-! steps: what is decided stays so when more bytes come -/
theorem pre_app {s l : Bs} (t : Bs) (h : s.isPrefixOf l = true) : s.isPrefixOf (l ++ t) = true := by
  rw [List.isPrefixOf_iff_prefix] at h ⊢
  exact h.trans (List.prefix_append _ _)
theorem pre_len {s l : Bs} (h : s.isPrefixOf l = true) : s.length ≤ l.length := by
  rw [List.isPrefixOf_iff_prefix] at h
  exact h.length_le
/-- neither a text nor a first part of it: so it stays -/
theorem pre_not {s l : Bs} (t : Bs) (h : s.isPrefixOf l = false) (h2 : ¬ (l.length < s.length ∧ l.isPrefixOf s = true)) : s.isPrefixOf (l ++ t) = false ∧ ¬ ((l ++ t).length < s.length ∧ (l ++ t).isPrefixOf s = true) := by
  have key : ¬ (s.isPrefixOf (l ++ t) = true) := by
    intro e
    rw [List.isPrefixOf_iff_prefix] at e
    rcases Nat.lt_or_ge l.length s.length with hl | hl
    · refine h2 ⟨hl, ?_⟩
      rw [List.isPrefixOf_iff_prefix]
      exact List.prefix_of_prefix_length_le (List.prefix_append _ _) e (Nat.le_of_lt hl)
    · have : s <+: l := List.prefix_of_prefix_length_le e (List.prefix_append _ _) hl
      rw [← List.isPrefixOf_iff_prefix, h] at this
      exact absurd this (by decide)
  refine ⟨by rw [Bool.eq_false_iff]; exact key, fun e => ?_⟩
  obtain ⟨e1, e2⟩ := e
  rw [List.isPrefixOf_iff_prefix] at e2
  refine h2 ⟨by rw [List.length_append] at e1; omega, ?_⟩
  rw [List.isPrefixOf_iff_prefix]
  exact (List.prefix_append l t).trans e2
/-- what a step says: done (0), wrong (4), or more is wanted (12) -/
structure Stay (b t : Bs) (y z : Ps) : Prop where
  /-- done or wrong: so it is with more bytes, too -/
  stay : y.1 ≠ 12 → z = y
  at_ : y.1 = 0 → y.2 ≤ b.length
  ok : y.1 = 0 ∨ y.1 = 4 ∨ y.1 = 12
theorem Stay.more (b t : Bs) (i : Nat) (z : Ps) : Stay b t (12, i) z := ⟨fun e => absurd rfl e, fun e => absurd (show (12 : Int) = 0 from e) (by decide), .inr (.inr rfl)⟩
theorem Stay.wrong (b t : Bs) (i : Nat) : Stay b t (4, i) (4, i) := ⟨fun _ => rfl, fun e => absurd (show (4 : Int) = 0 from e) (by decide), .inr (.inl rfl)⟩
theorem Stay.done (b t : Bs) {i : Nat} (h : i ≤ b.length) : Stay b t (0, i) (0, i) := ⟨fun _ => rfl, fun _ => h, .inl rfl⟩
theorem need_stay (b t s : Bs) {x z : Ps} (h : Stay b t x z) : Stay b t (needP b s x) (needP (b ++ t) s z) := by
  by_cases hx : x.1 = 0
  · have hz := h.stay (by omega)
    subst hz
    unfold needP
    rw [if_neg (show ¬ (z.1 ≠ 0) from fun e => e hx), if_neg (show ¬ (z.1 ≠ 0) from fun e => e hx), drop_app t (h.at_ hx)]
    by_cases h1 : s.isPrefixOf (b.drop z.2) = true
    · rw [if_pos h1, if_pos (pre_app t h1)]
      have := pre_len h1
      rw [List.length_drop] at this
      have := h.at_ hx
      exact .done b t (by omega)
    · rw [if_neg h1]
      by_cases h2 : (b.drop z.2).length < s.length ∧ (b.drop z.2).isPrefixOf s = true
      · rw [if_pos h2]
        exact .more b t _ _
      · obtain ⟨e1, e2⟩ := pre_not t (Bool.eq_false_iff.mpr h1) h2
        rw [if_neg h2, if_neg (by rw [e1]; decide), if_neg e2]
        exact .wrong b t _
  · have e : needP b s x = x := by unfold needP; rw [if_pos hx]
    rw [e]
    refine ⟨fun e => ?_, fun e => absurd e hx, h.ok⟩
    have hz := h.stay e
    subst hz
    unfold needP; rw [if_pos hx]
theorem statL_app (t : Bs) : ∀ l : Bs, (∀ e, statL l = .inl e → e = 4 ∧ statL (l ++ t) = .inl 4 ∨ e = 12) ∧ (∀ n, statL l = .inr n → statL (l ++ t) = .inr n ∧ 3 ≤ l.length)
  | [] => ⟨fun e h => by unfold statL at h; cases h; exact .inr rfl, fun n h => by unfold statL at h; cases h⟩
  | [a] => by
    unfold statL
    by_cases h1 : a.toNat < 49 ∨ 53 < a.toNat
    · simp [h1]
    · simp [h1]
  | [a, c] => by
    unfold statL
    by_cases h1 : a.toNat < 49 ∨ 53 < a.toNat
    · simp [h1]
    · by_cases h2 : digB c = false
      · simp [h1, h2]
      · simp [h1, h2]
  | a :: c :: d :: r => by
    by_cases h1 : a.toNat < 49 ∨ 53 < a.toNat
    · simp [h1, statL]
    · by_cases h2 : digB c = false
      · simp [h1, h2, statL]
      · by_cases h3 : digB d = false <;> simp [h1, h2, h3, statL]
/-- what is told beside: the same, unless more is wanted -/
structure StayV {α : Type} (b t : Bs) (y z : Ps × α) : Prop where
  st : Stay b t y.1 z.1
  v : y.1.1 = 0 → z.2 = y.2
theorem StayV.more {α : Type} (b t : Bs) (i : Nat) (v : α) (z : Ps × α) : StayV b t ((12, i), v) z := ⟨.more b t i _, fun e => absurd (show (12 : Int) = 0 from e) (by decide)⟩
theorem StayV.wrong {α : Type} (b t : Bs) (i : Nat) (v v' : α) : StayV b t ((4, i), v) ((4, i), v') := ⟨.wrong b t i, fun e => absurd (show (4 : Int) = 0 from e) (by decide)⟩
theorem StayV.done {α : Type} (b t : Bs) {i : Nat} (v : α) (h : i ≤ b.length) : StayV b t ((0, i), v) ((0, i), v) := ⟨.done b t h, fun _ => rfl⟩
theorem stat_stay (b t : Bs) {x z : Ps} (h : Stay b t x z) : StayV b t (statP b x) (statP (b ++ t) z) := by
  by_cases hx : x.1 = 0
  · have hz := h.stay (by omega)
    subst hz
    unfold statP
    rw [if_neg (show ¬ (z.1 ≠ 0) from fun e => e hx), if_neg (show ¬ (z.1 ≠ 0) from fun e => e hx), drop_app t (h.at_ hx)]
    obtain ⟨h1, h2⟩ := statL_app t (b.drop z.2)
    cases hs : statL (b.drop z.2) with
    | inl e =>
      rcases h1 e hs with ⟨rfl, h3⟩ | rfl
      · rw [h3]
        exact .wrong b t _ _ _
      · exact .more b t _ _ _
    | inr n =>
      obtain ⟨h3, h4⟩ := h2 n hs
      rw [h3]
      rw [List.length_drop] at h4
      have := h.at_ hx
      exact .done b t _ (by omega)
  · have e : statP b x = (x, 0) := by unfold statP; rw [if_pos hx]
    rw [e]
    refine ⟨⟨fun e => ?_, fun e => absurd e hx, h.ok⟩, fun e => absurd e hx⟩
    have hz := h.stay e
    subst hz
    unfold statP; rw [if_pos hx]
theorem lead_le (p : UInt8 → Bool) : ∀ (n : Nat) (l : Bs), (lead p n l).length ≤ n ∧ (lead p n l).length ≤ l.length
  | 0, _ => by simp [lead]
  | _ + 1, [] => by simp [lead]
  | n + 1, c :: t => by
    unfold lead
    split
    · have := lead_le p n t; simp; omega
    · simp
/-- it has stopped ahead of the end, or has all that it may have: then more bytes change nothing -/
theorem lead_app (p : UInt8 → Bool) (t : Bs) : ∀ (n : Nat) (l : Bs), (lead p n l).length < l.length ∨ (lead p n l).length = n → lead p n (l ++ t) = lead p n l
  | 0, _, _ => by simp [lead]
  | n + 1, [], h => by simp [lead] at h
  | n + 1, c :: r, h => by
    rw [List.cons_append]
    unfold lead at h ⊢
    by_cases hc : p c = true
    · rw [if_pos hc] at h
      rw [if_pos hc, if_pos hc, lead_app p t n r (by simp at h; omega)]
    · rw [if_neg hc, if_neg hc]
theorem kind_stay (b t : Bs) {x z : Ps} (h : Stay b t x z) : StayV b t (kindP b x) (kindP (b ++ t) z) := by
  by_cases hx : x.1 = 0
  · have hz := h.stay (by omega)
    subst hz
    have hat := h.at_ hx
    unfold kindP
    rw [if_neg (show ¬ (z.1 ≠ 0) from fun e => e hx), if_neg (show ¬ (z.1 ≠ 0) from fun e => e hx), drop_app t hat]
    by_cases h1 : sType.isPrefixOf (b.drop z.2) = true
    · have hl := pre_len h1
      rw [List.length_drop, show sType.length = 14 from rfl] at hl
      rw [if_pos h1, if_pos (pre_app t h1), drop_app t (by omega)]
      dsimp only
      have hle := lead_le prB 4097 (b.drop (z.2 + 14))
      have hld : (b.drop (z.2 + 14)).length = b.length - (z.2 + 14) := List.length_drop
      by_cases h2 : (lead prB 4097 (b.drop (z.2 + 14))).length < (b.drop (z.2 + 14)).length ∨ (lead prB 4097 (b.drop (z.2 + 14))).length = 4097
      · rw [lead_app prB t _ _ h2]
        generalize lead prB 4097 (b.drop (z.2 + 14)) = s at *
        by_cases h3 : 4096 < s.length ∨ (s.length = 0 ∧ z.2 + 14 < b.length)
        · rw [if_pos h3, if_pos (by rcases h3 with h3 | ⟨h3, h4⟩; exact .inl h3; exact .inr ⟨h3, by rw [List.length_append]; omega⟩)]
          exact .wrong b t _ _ _
        · rw [if_neg h3, if_neg (fun e => by rcases e with e | ⟨e, _⟩; exact h3 (.inl e); exact h3 (.inr ⟨e, by omega⟩))]
          exact ⟨need_stay b t crlf (.done b t (by omega)), fun _ => rfl⟩
      · have h4 : (lead prB 4097 (b.drop (z.2 + 14))).length = (b.drop (z.2 + 14)).length := by omega
        have h5 : (lead prB 4097 (b.drop (z.2 + 14))).length < 4097 := by omega
        generalize lead prB 4097 (b.drop (z.2 + 14)) = s at *
        have h6 : ¬ (4096 < s.length ∨ (s.length = 0 ∧ z.2 + 14 < b.length)) := by omega
        rw [if_neg h6]
        have h7 : needP b crlf (0, z.2 + 14 + s.length) = (12, z.2 + 14 + s.length) := by
          unfold needP
          rw [if_neg (by simp), show b.drop (z.2 + 14 + s.length) = [] from List.drop_eq_nil_of_le (by omega)]
          rfl
        rw [h7]
        exact .more b t _ _ _
    · rw [if_neg h1]
      by_cases h2 : (b.drop z.2).length < sType.length ∧ (b.drop z.2).isPrefixOf sType = true
      · rw [if_pos h2]
        exact .more b t _ _ _
      · obtain ⟨e1, e2⟩ := pre_not t (Bool.eq_false_iff.mpr h1) h2
        rw [if_neg h2, if_neg (by rw [e1]; decide), if_neg e2]
        exact ⟨⟨fun _ => rfl, fun _ => hat, .inl hx⟩, fun _ => rfl⟩
  · have e : kindP b x = (x, []) := by unfold kindP; rw [if_pos hx]
    rw [e]
    refine ⟨⟨fun e => ?_, fun e => absurd e hx, h.ok⟩, fun e => absurd e hx⟩
    have hz := h.stay e
    subst hz
    unfold kindP; rw [if_pos hx]
theorem numL_app (most : Int) (t : Bs) : ∀ (l : Bs) (zero : Bool) (k : Nat) (n : Int),
    (∀ e, numL most zero k n l = .inl e → e = 4 ∧ numL most zero k n (l ++ t) = .inl 4 ∨ e = 12) ∧
    (∀ m j, numL most zero k n l = .inr (m, j) → numL most zero k n (l ++ t) = .inr (m, j) ∧ j < k + l.length)
  | [], zero, k, n => ⟨fun e h => by unfold numL at h; cases h; exact .inr rfl, fun m j h => by unfold numL at h; cases h⟩
  | c :: r, zero, k, n => by
    rw [List.cons_append]
    unfold numL
    by_cases hc : digB c = true
    · rw [if_pos hc, if_pos hc]
      by_cases h1 : most < n * 10 + ((c.toNat : Int) - 48) ∨ (0 < k ∧ zero = true)
      · rw [if_pos h1, if_pos h1]
        exact ⟨fun e h => by cases h; exact .inl ⟨rfl, rfl⟩, fun m j h => by cases h⟩
      · rw [if_neg h1, if_neg h1]
        obtain ⟨g1, g2⟩ := numL_app most t r (if k = 0 then decide (c.toNat = 48) else zero) (k + 1) (n * 10 + ((c.toNat : Int) - 48))
        refine ⟨g1, fun m j h => ?_⟩
        obtain ⟨g3, g4⟩ := g2 m j h
        exact ⟨g3, by rw [List.length_cons]; omega⟩
    · rw [if_neg hc, if_neg hc]
      by_cases h1 : k = 0
      · rw [if_pos h1]
        exact ⟨fun e h => by cases h; exact .inl ⟨rfl, rfl⟩, fun m j h => by cases h⟩
      · rw [if_neg h1]
        exact ⟨(fun e h => by cases h), fun m j h => by cases h; exact ⟨rfl, by rw [List.length_cons]; omega⟩⟩
theorem num_stay (b t : Bs) (most : Int) {x z : Ps} (h : Stay b t x z) : StayV b t (numP b most x) (numP (b ++ t) most z) := by
  by_cases hx : x.1 = 0
  · have hz := h.stay (by omega)
    subst hz
    have hat := h.at_ hx
    unfold numP
    rw [if_neg (show ¬ (z.1 ≠ 0) from fun e => e hx), if_neg (show ¬ (z.1 ≠ 0) from fun e => e hx), drop_app t hat]
    obtain ⟨h1, h2⟩ := numL_app most t (b.drop z.2) false 0 0
    cases hs : numL most false 0 0 (b.drop z.2) with
    | inl e =>
      rcases h1 e hs with ⟨rfl, h3⟩ | rfl
      · rw [h3]
        exact .wrong b t _ _ _
      · exact .more b t _ _ _
    | inr y =>
      obtain ⟨n, k⟩ := y
      obtain ⟨h3, h4⟩ := h2 n k hs
      rw [h3]
      rw [List.length_drop] at h4
      exact .done b t _ (by omega)
  · have e : numP b most x = (x, 0) := by unfold numP; rw [if_pos hx]
    rw [e]
    refine ⟨⟨fun e => ?_, fun e => absurd e hx, h.ok⟩, fun e => absurd e hx⟩
    have hz := h.stay e
    subst hz
    unfold numP; rw [if_pos hx]
theorem close_stay (b t : Bs) {x z : Ps} (h : Stay b t x z) :
    (StayV b t (closeP b x) (closeP (b ++ t) z)) ∨ ((closeP b x).1 = x ∧ x.1 = 0 ∧ x.2 = b.length) := by
  by_cases hx : x.1 = 0
  · have hz := h.stay (by omega)
    subst hz
    have hat := h.at_ hx
    by_cases hend : z.2 = b.length
    · right
      refine ⟨?_, hx, hend⟩
      unfold closeP
      rw [if_neg (show ¬ (z.1 ≠ 0) from fun e => e hx), show b.drop z.2 = [] from List.drop_eq_nil_of_le (by omega), if_neg (by decide), if_neg (by omega)]
    · left
      unfold closeP
      rw [if_neg (show ¬ (z.1 ≠ 0) from fun e => e hx), if_neg (show ¬ (z.1 ≠ 0) from fun e => e hx), drop_app t hat]
      by_cases h1 : sClose.isPrefixOf (b.drop z.2) = true
      · have hl := pre_len h1
        rw [List.length_drop, show sClose.length = 19 from rfl] at hl
        rw [if_pos h1, if_pos (pre_app t h1)]
        exact .done b t _ (by omega)
      · rw [if_neg h1]
        by_cases h2 : (b.drop z.2).length < sClose.length ∧ (b.drop z.2).isPrefixOf sClose = true
        · rw [if_pos ⟨h2.1, h2.2, by omega⟩]
          exact .more b t _ _ _
        · obtain ⟨e1, e2⟩ := pre_not t (Bool.eq_false_iff.mpr h1) h2
          rw [if_neg (fun e => h2 ⟨e.1, e.2.1⟩), if_neg (by rw [e1]; decide), if_neg (fun e => e2 ⟨e.1, e.2.1⟩)]
          exact ⟨⟨fun _ => rfl, fun _ => hat, .inl hx⟩, fun _ => rfl⟩
  · left
    have e : closeP b x = (x, false) := by unfold closeP; rw [if_pos hx]
    rw [e]
    refine ⟨⟨fun e => ?_, fun e => absurd e hx, h.ok⟩, fun e => absurd e hx⟩
    have hz := h.stay e
    subst hz
    unfold closeP; rw [if_pos hx]
theorem need_keep {b s : Bs} {x : Ps} (h : (needP b s x).1 = 0) : x.1 = 0 := by
  unfold needP at h
  split at h
  · next h1 => exact absurd h h1
  · next h1 => exact Decidable.of_not_not h1
theorem need_end {b s : Bs} {x : Ps} (h : x.1 = 0) (h2 : x.2 = b.length) (h3 : s ≠ []) : needP b s x = (12, x.2) := by
  unfold needP
  have : 0 < s.length := List.length_pos_iff.mpr h3
  rw [if_neg (fun e => e h), show b.drop x.2 = [] from List.drop_eq_nil_of_le (by omega)]
  cases s with
  | nil => exact absurd rfl h3
  | cons c r => rfl
/-- what is read of bytes is read of more bytes, unless more were wanted -/
theorem read_stay (b t : Bs) : (readP b = .inl 4 → readP (b ++ t) = .inl 4) ∧ (∀ r n, readP b = .inr (r, n) → readP (b ++ t) = .inr (r, n) ∧ n ≤ b.length) ∧ (∀ e, readP b = .inl e → e = 4 ∨ e = 12) := by
  have s1 := need_stay b t sVers (.done b t (Nat.zero_le _))
  have s2 := stat_stay b t s1
  have v2 := s2.v
  unfold readP
  dsimp only
  generalize needP b sVers (0, 0) = x1 at *
  generalize needP (b ++ t) sVers (0, 0) = z1 at *
  generalize statP b x1 = x2 at *
  generalize statP (b ++ t) z1 = z2 at *
  -- where the status is read, its reason is the same; else the error stays
  have s3 : Stay b t (needP b ([32] ++ reasonP x2.2 ++ crlf) x2.1) (needP (b ++ t) ([32] ++ reasonP z2.2 ++ crlf) z2.1) := by
    by_cases h : x2.1.1 = 0
    · rw [v2 h]; exact need_stay b t _ s2.st
    · have e : ∀ s, needP b s x2.1 = x2.1 := fun s => by unfold needP; rw [if_pos h]
      rw [e]
      refine ⟨fun h4 => ?_, fun e => absurd e h, s2.st.ok⟩
      have := s2.st.stay h4
      rw [this]
      unfold needP; rw [if_pos h]
  have k3 : (needP b ([32] ++ reasonP x2.2 ++ crlf) x2.1).1 = 0 → z2.2 = x2.2 := fun h => v2 (need_keep h)
  generalize needP b ([32] ++ reasonP x2.2 ++ crlf) x2.1 = x3 at *
  generalize needP (b ++ t) ([32] ++ reasonP z2.2 ++ crlf) z2.1 = z3 at *
  have s4 := kind_stay b t s3
  have v4 := s4.v
  have k4 : (kindP b x3).1.1 = 0 → x3.1 = 0 := fun h => by
    apply Decidable.of_not_not
    intro h1
    unfold kindP at h
    rw [if_pos h1] at h
    exact h1 h
  generalize kindP b x3 = x4 at *
  generalize kindP (b ++ t) z3 = z4 at *
  have s5 := need_stay b t sLen s4.st
  have k5 : (needP b sLen x4.1).1 = 0 → x4.1.1 = 0 := need_keep
  generalize needP b sLen x4.1 = x5 at *
  generalize needP (b ++ t) sLen z4.1 = z5 at *
  have s6 := num_stay b t 1048576 s5
  have v6 := s6.v
  have k6 : (numP b 1048576 x5).1.1 = 0 → x5.1 = 0 := fun h => by
    apply Decidable.of_not_not
    intro h1
    unfold numP at h
    rw [if_pos h1] at h
    exact h1 h
  generalize numP b 1048576 x5 = x6 at *
  generalize numP (b ++ t) 1048576 z5 = z6 at *
  have s7 := need_stay b t crlf s6.st
  have k7 : (needP b crlf x6.1).1 = 0 → x6.1.1 = 0 := need_keep
  generalize needP b crlf x6.1 = x7 at *
  generalize needP (b ++ t) crlf z6.1 = z7 at *
  have k8 : (closeP b x7).1.1 = 0 → x7.1 = 0 := fun h => by
    apply Decidable.of_not_not
    intro h1
    unfold closeP at h
    rw [if_pos h1] at h
    exact h1 h
  rcases close_stay b t s7 with s8 | ⟨e8, h7, hend⟩
  · have v8 := s8.v
    generalize closeP b x7 = x8 at *
    generalize closeP (b ++ t) z7 = z8 at *
    have s9 := need_stay b t crlf s8.st
    have k9 : (needP b crlf x8.1).1 = 0 → x8.1.1 = 0 := need_keep
    generalize needP b crlf x8.1 = x9 at *
    generalize needP (b ++ t) crlf z8.1 = z9 at *
    by_cases h9 : x9.1 = 0
    · have hz := s9.stay (by omega)
      subst hz
      have a8 := k9 h9
      have a7 := k8 a8
      have a6 := k7 a7
      have a5 := k6 a6
      have a4 := k5 a5
      have a3 := k4 a4
      rw [if_neg (show ¬ (z9.1 ≠ 0) from fun e => e h9), if_neg (show ¬ (z9.1 ≠ 0) from fun e => e h9)]
      rw [v6 a6, v8 a8, v4 a4, k3 a3]
      have hat := s9.at_ h9
      by_cases hl : b.length < z9.2 + x6.2.toNat
      · rw [if_pos hl]
        exact ⟨(fun h => by cases h), (fun r n h => by cases h), fun e h => by cases h; exact .inr rfl⟩
      · rw [if_neg hl, if_neg (by rw [List.length_append]; omega)]
        refine ⟨(fun h => by cases h), fun r n h => ?_, (fun e h => by cases h)⟩
        cases h
        rw [drop_app t hat, List.take_append_of_le_length (by rw [List.length_drop]; omega)]
        exact ⟨rfl, by omega⟩
    · rw [if_pos (show x9.1 ≠ 0 from h9)]
      have ho := s9.ok
      refine ⟨fun h => ?_, (fun r n h => by cases h), fun e h => by cases h; omega⟩
      have h4 : x9.1 = 4 := Sum.inl.inj h
      have hz := s9.stay (by omega)
      subst hz
      rw [if_pos (show z9.1 ≠ 0 from h9), h4]
  · have e9 : needP b crlf (closeP b x7).1 = (12, x7.2) := by rw [e8]; exact need_end h7 hend (by decide)
    rw [e9]
    rw [if_pos (show (12 : Int) ≠ 0 from by decide)]
    exact ⟨fun h => absurd (show (12 : Int) = 4 from Sum.inl.inj h) (by decide), (fun r n h => by cases h), fun e h => by cases h; exact .inr rfl⟩
/-! what is written is read -/
theorem need_at {b A s C : Bs} (h : b = A ++ (s ++ C)) {i : Nat} (hi : i = A.length) : needP b s (0, i) = (0, (A ++ s).length) := by
  subst h hi
  unfold needP
  rw [if_neg (show ¬ ((0 : Int) ≠ 0) from fun e => e rfl), show (A ++ (s ++ C)).drop A.length = s ++ C from List.drop_left, if_pos (by rw [List.isPrefixOf_iff_prefix]; exact List.prefix_append _ _), List.length_append]
theorem dig_of {d : Nat} (h : d < 10) : (UInt8.ofNat (48 + d)).toNat = 48 + d := by simp; omega
theorem digB_of {d : Nat} (h : d < 10) : digB (UInt8.ofNat (48 + d)) = true := by unfold digB; rw [dig_of h]; simp; omega
theorem itoa_three {n : Int} (h1 : 100 ≤ n) (h2 : n ≤ 599) : ∃ a c d : Nat, 1 ≤ a ∧ a ≤ 5 ∧ c < 10 ∧ d < 10 ∧ n = 100 * a + 10 * c + d ∧ Lib.itoa n = [UInt8.ofNat (48 + a), UInt8.ofNat (48 + c), UInt8.ofNat (48 + d)] := by
  obtain ⟨u, rfl⟩ : ∃ u : Nat, n = u := ⟨n.toNat, by omega⟩
  refine ⟨u / 100 % 10, u / 10 % 10, u % 10, by omega, by omega, by omega, by omega, by omega, ?_⟩
  have hn : Lib.nDigits u = 3 := Lib.nDigits_unique 2 u (by simp; omega) (by simp; omega)
  unfold Lib.itoa
  rw [if_neg (by omega), Int.toNat_natCast, Lib.decDigits_eq, hn]
  simp [List.range, List.range.loop, Lib.dg]
theorem stat_at {b A C : Bs} {n : Int} (h1 : 100 ≤ n) (h2 : n ≤ 599) (h : b = A ++ (Lib.itoa n ++ C)) {i : Nat} (hi : i = A.length) : statP b (0, i) = ((0, (A ++ Lib.itoa n).length), n) := by
  obtain ⟨a, c, d, a1, a5, hc, hd, hn, e⟩ := itoa_three h1 h2
  subst h hi
  unfold statP
  rw [if_neg (show ¬ ((0 : Int) ≠ 0) from fun e => e rfl), show (A ++ (Lib.itoa n ++ C)).drop A.length = Lib.itoa n ++ C from List.drop_left, e]
  have e1 : statL ([UInt8.ofNat (48 + a), UInt8.ofNat (48 + c), UInt8.ofNat (48 + d)] ++ C) = .inr n := by
    simp only [List.cons_append, List.nil_append]
    unfold statL
    dsimp only
    rw [if_neg (show ¬ ((UInt8.ofNat (48 + a)).toNat < 49 ∨ 53 < (UInt8.ofNat (48 + a)).toNat) from by rw [dig_of (by omega)]; omega)]
    rw [if_neg (by rw [digB_of hc]; decide)]
    rw [if_neg (by rw [digB_of hd]; decide), dig_of (by omega), dig_of hc, dig_of hd]
    congr 1
    omega
  rw [e1, List.length_append]; rfl
theorem num_dec (most : Int) (C : Bs) : ∀ (f u : Nat), u ≤ f → (u : Int) ≤ most → numL most false 0 0 (Lib.decDigits u ++ C) = numL most (decide (u = 0)) (Lib.nDigits u) u C
  | f, u, hf, hm => by
    by_cases h : u < 10
    · rw [Lib.decDigits_one h, Lib.nDigits_small h]
      simp only [List.cons_append, List.nil_append]
      rw [numL, if_pos (digB_of h), dig_of h, if_neg (by omega), if_pos rfl]
      rw [show decide (48 + u = 48) = decide (u = 0) from by congr 1; simp]
      congr 1
      omega
    · have e : Lib.decDigits u = Lib.decDigits (u / 10) ++ [UInt8.ofNat (48 + u % 10)] := by rw [Lib.decDigits, dif_neg h]
      rw [e, List.append_assoc, Lib.nDigits_big h]
      match f, hf with
      | 0, hf => omega
      | f + 1, hf =>
        rw [num_dec most _ f (u / 10) (by omega) (by omega)]
        simp only [List.cons_append, List.nil_append]
        have hp := Lib.nDigits_pos (u / 10)
        rw [numL, if_pos (digB_of (Nat.mod_lt _ (by omega))), dig_of (Nat.mod_lt _ (by omega)), decide_eq_false (show ¬ u / 10 = 0 from by omega), decide_eq_false (show ¬ u = 0 from by omega), if_neg (by simp; omega), if_neg (by omega)]
        congr 1
        omega
theorem num_at {b A C : Bs} {u : Nat} (hu : u ≤ 1048576) (h : b = A ++ (Lib.itoa u ++ (crlf ++ C))) {i : Nat} (hi : i = A.length) : numP b 1048576 (0, i) = ((0, (A ++ Lib.itoa u).length), (u : Int)) := by
  subst h hi
  have ei : Lib.itoa (u : Int) = Lib.decDigits u := by unfold Lib.itoa; rw [if_neg (by omega), Int.toNat_natCast]
  have hp := Lib.nDigits_pos u
  unfold numP
  rw [if_neg (show ¬ ((0 : Int) ≠ 0) from fun e => e rfl), show (A ++ (Lib.itoa u ++ (crlf ++ C))).drop A.length = Lib.itoa u ++ (crlf ++ C) from List.drop_left, ei, num_dec 1048576 _ u u (Nat.le_refl _) (by omega)]
  rw [show numL 1048576 (decide (u = 0)) (Lib.nDigits u) (u : Int) (crlf ++ C) = .inr ((u : Int), Lib.nDigits u) from by
    show numL 1048576 (decide (u = 0)) (Lib.nDigits u) (u : Int) (13 :: 10 :: C) = _
    rw [numL, if_neg (by decide), if_neg (by omega)]]
  rw [List.length_append, Lib.decDigits_length]
theorem lead_ty (p : UInt8 → Bool) (C : Bs) : ∀ (n : Nat) (s : Bs), s.all p = true → s.length < n → (∀ c, C.head? = some c → p c = false) → lead p n (s ++ C) = s
  | 0, _, _, h, _ => absurd h (Nat.not_lt_zero _)
  | n + 1, [], _, _, h => by
    cases C with
    | nil => rfl
    | cons c r => rw [List.nil_append, lead, if_neg (by rw [h c rfl]; decide)]
  | n + 1, c :: r, ha, hl, h => by
    rw [List.all_cons, Bool.and_eq_true] at ha
    rw [List.cons_append, lead, if_pos ha.1, lead_ty p C n r ha.2 (by simpa using hl) h]
theorem kind_at {b A C : Bs} {s : Bs} (hs : s.all prB = true) (h0 : s ≠ []) (hl : s.length ≤ 4096) (h : b = A ++ (sType ++ s ++ crlf ++ C)) {i : Nat} (hi : i = A.length) : kindP b (0, i) = ((0, (A ++ (sType ++ s ++ crlf)).length), s) := by
  subst h hi
  have e14 : sType.length = 14 := rfl
  unfold kindP
  rw [if_neg (show ¬ ((0 : Int) ≠ 0) from fun e => e rfl), show (A ++ (sType ++ s ++ crlf ++ C)).drop A.length = sType ++ s ++ crlf ++ C from List.drop_left, if_pos (by rw [List.isPrefixOf_iff_prefix, List.append_assoc, List.append_assoc]; exact List.prefix_append _ _)]
  have e1 : (A ++ (sType ++ s ++ crlf ++ C)).drop (A.length + 14) = s ++ (crlf ++ C) := by
    rw [show A ++ (sType ++ s ++ crlf ++ C) = (A ++ sType) ++ (s ++ (crlf ++ C)) from by simp, show A.length + 14 = (A ++ sType).length from by rw [List.length_append, e14]]
    exact List.drop_left
  dsimp only
  rw [e1, lead_ty prB _ 4097 s hs (by omega) (fun c h => by cases h; decide)]
  have hp : 0 < s.length := List.length_pos_iff.mpr h0
  rw [if_neg (by omega)]
  rw [need_at (A := A ++ (sType ++ s)) (s := crlf) (C := C) (by simp) (by simp [e14]; omega)]
  simp
theorem kind_none {b A C : Bs} (h : b = A ++ (sLen ++ C)) {i : Nat} (hi : i = A.length) : kindP b (0, i) = ((0, i), []) := by
  subst h hi
  unfold kindP
  rw [if_neg (show ¬ ((0 : Int) ≠ 0) from fun e => e rfl), show (A ++ (sLen ++ C)).drop A.length = sLen ++ C from List.drop_left, if_neg (by simp [sType, sLen]), if_neg (by simp [sType, sLen])]
theorem close_at {b A C : Bs} (h : b = A ++ (sClose ++ C)) {i : Nat} (hi : i = A.length) : closeP b (0, i) = ((0, (A ++ sClose).length), true) := by
  subst h hi
  unfold closeP
  rw [if_neg (show ¬ ((0 : Int) ≠ 0) from fun e => e rfl), show (A ++ (sClose ++ C)).drop A.length = sClose ++ C from List.drop_left, if_pos (by rw [List.isPrefixOf_iff_prefix]; exact List.prefix_append _ _), List.length_append]; rfl
theorem close_none {b A C : Bs} (h : b = A ++ (crlf ++ C)) {i : Nat} (hi : i = A.length) : closeP b (0, i) = ((0, i), false) := by
  subst h hi
  unfold closeP
  rw [if_neg (show ¬ ((0 : Int) ≠ 0) from fun e => e rfl), show (A ++ (crlf ++ C)).drop A.length = crlf ++ C from List.drop_left, if_neg (by simp [sClose, crlf]), if_neg (by simp [sClose, crlf])]
theorem read_out (r : Rs) (h : mayR r = 0) : readP (outP r) = .inr (r, (outP r).length) := by
  unfold mayR at h
  split at h
  · cases h
  · next h1 =>
    split at h
    · cases h
    · next h2 =>
      obtain ⟨st, ty, cl, body⟩ := r
      dsimp only at h1 h2
      obtain ⟨g1, g2⟩ := not_or.mp h1
      obtain ⟨g3, g4⟩ := not_or.mp h2
      obtain ⟨g4, g5⟩ := not_or.mp g4
      have g5 : ty.all prB = true := by simpa using g5
      generalize hb : outP ⟨st, ty, cl, body⟩ = b
      unfold outP at hb
      dsimp only at hb
      generalize hT : (if ty = [] then ([] : Bs) else sType ++ ty ++ crlf) = T at hb
      generalize hK : (if cl = true then sClose else ([] : Bs)) = K at hb
      generalize hR : ([32] : Bs) ++ reasonP st ++ crlf = R
      have hb' : b = sVers ++ (Lib.itoa st ++ (R ++ (T ++ (sLen ++ (Lib.itoa body.length ++ (crlf ++ (K ++ (crlf ++ body)))))))) := by rw [← hb, ← hR]; simp
      clear hb
      have p1 := need_at (A := []) (s := sVers) (by simpa using hb') rfl
      have p2 := stat_at (b := b) (A := [] ++ sVers) (n := st) (by omega) (by omega) (by simpa using hb') rfl
      have p3 := need_at (b := b) (A := [] ++ sVers ++ Lib.itoa st) (s := R) (by simpa using hb') rfl
      have p4 : kindP b (0, ([] ++ sVers ++ Lib.itoa st ++ R).length) = ((0, ([] ++ sVers ++ Lib.itoa st ++ R ++ T).length), ty) := by
        by_cases ht : ty = []
        · rw [if_pos ht] at hT
          subst hT ht
          rw [kind_none (A := [] ++ sVers ++ Lib.itoa st ++ R) (by simpa using hb') rfl]
          simp
        · rw [if_neg ht] at hT
          subst hT
          exact kind_at g5 ht (by omega) (by simpa using hb') rfl
      have p5 := need_at (b := b) (A := [] ++ sVers ++ Lib.itoa st ++ R ++ T) (s := sLen) (by simpa using hb') rfl
      have p6 := num_at (b := b) (A := [] ++ sVers ++ Lib.itoa st ++ R ++ T ++ sLen) (u := body.length) (by omega) (by simpa using hb') rfl
      have p7 := need_at (b := b) (A := [] ++ sVers ++ Lib.itoa st ++ R ++ T ++ sLen ++ Lib.itoa body.length) (s := crlf) (by simpa using hb') rfl
      have p8 : closeP b (0, ([] ++ sVers ++ Lib.itoa st ++ R ++ T ++ sLen ++ Lib.itoa body.length ++ crlf).length) = ((0, ([] ++ sVers ++ Lib.itoa st ++ R ++ T ++ sLen ++ Lib.itoa body.length ++ crlf ++ K).length), cl) := by
        cases cl with
        | true =>
          rw [if_pos rfl] at hK
          subst hK
          exact close_at (by simpa using hb') rfl
        | false =>
          rw [if_neg (by decide)] at hK
          subst hK
          rw [close_none (A := [] ++ sVers ++ Lib.itoa st ++ R ++ T ++ sLen ++ Lib.itoa body.length ++ crlf) (by simpa using hb') rfl]
          simp
      have p9 := need_at (b := b) (A := [] ++ sVers ++ Lib.itoa st ++ R ++ T ++ sLen ++ Lib.itoa body.length ++ crlf ++ K) (s := crlf) (C := body) (by simpa using hb') rfl
      have hlen : b.length = ([] ++ sVers ++ Lib.itoa st ++ R ++ T ++ sLen ++ Lib.itoa body.length ++ crlf ++ K ++ crlf).length + body.length := by rw [hb']; simp; omega
      have hdrop : b.drop ([] ++ sVers ++ Lib.itoa st ++ R ++ T ++ sLen ++ Lib.itoa body.length ++ crlf ++ K ++ crlf).length = body := by
        rw [show b = ([] ++ sVers ++ Lib.itoa st ++ R ++ T ++ sLen ++ Lib.itoa body.length ++ crlf ++ K ++ crlf) ++ body from by rw [hb']; simp]
        exact List.drop_left
      have p1' : needP b sVers (0, 0) = (0, ([] ++ sVers).length) := p1
      unfold readP
      dsimp only
      rw [p1', p2]
      dsimp only
      rw [hR, p3, p4]
      dsimp only
      rw [p5, p6]
      dsimp only
      rw [p7, p8]
      dsimp only
      rw [p9, if_neg (show ¬ ((0 : Int) ≠ 0) from fun e => e rfl), Int.toNat_natCast, if_neg (by omega), hdrop, List.take_length, ← hlen]
theorem read_part (r : Rs) (h : mayR r = 0) {k : Nat} (hk : k < (outP r).length) : readP ((outP r).take k) = .inl 12 := by
  obtain ⟨h1, h2, h3⟩ := read_stay ((outP r).take k) ((outP r).drop k)
  rw [List.take_append_drop] at h1 h2
  cases hr : readP ((outP r).take k) with
  | inl e =>
    rcases h3 e hr with rfl | rfl
    · have := h1 hr
      rw [read_out r h] at this
      cases this
    · rfl
  | inr x =>
    obtain ⟨h4, h5⟩ := h2 x.1 x.2 hr
    rw [read_out r h] at h4
    have : (outP r).length = x.2 := congrArg (fun z : Int ⊕ (Rs × Nat) => match z with | .inr y => y.2 | .inl _ => 0) h4
    rw [List.length_take] at h5
    omega
theorem read_behind (r : Rs) (h : mayR r = 0) (t : Bs) : readP (outP r ++ t) = .inr (r, (outP r).length) := ((read_stay (outP r) t).2.1 r _ (read_out r h)).1
end Go.Proofs.YtdfgnoflohfnmaaGreatDoor.Hx
/-! HTTP: what a client sends is told as it was: the plain law. -/
namespace Go.Proofs.YtdfgnoflohfnmaaGreatDoor.Hx

/-! ### what is sent -/
def safeB (slash : Bool) (c : UInt8) : Bool := letB c || digB c || decide (c.toNat = 45) || decide (c.toNat = 46) || decide (c.toNat = 95) || (slash && decide (c.toNat = 47))
def hexD (n : Nat) : UInt8 := UInt8.ofNat (if n < 10 then 48 + n else 55 + n)
def escP (slash : Bool) : Bs → Bs
  | [] => []
  | c :: t => if safeB slash c then c :: escP slash t else 37 :: hexD (c.toNat / 16) :: hexD (c.toNat % 16) :: escP slash t
def parsO : Bool → List (Bs × Bs) → Bs
  | _, [] => []
  | first, x :: l => (if first then 63 else 38) :: (escP false x.1 ++ 61 :: (escP false x.2 ++ parsO false l))
def tgtO (p : Bs) (q : List (Bs × Bs)) : Bs := escP true p ++ parsO true q
def parOK (x : Bs × Bs) : Bool := x.1.all prB && x.2.all prB && (decide (x.1 ≠ []) || decide (x.2 ≠ []))
/-- may a request be sent? 0: yes -/
def mayS (r : Rq) : Int :=
  if r.m.length < 1 ∨ 16 < r.m.length ∨ r.m.all capB = false ∨ r.p.head? ≠ some 47 ∨ r.p.all prB = false ∨ r.q.all parOK = false then 2
  else if 2048 < (tgtO r.p r.q).length ∨ 262144 < r.body.length ∨ 32 < r.q.length then 3 else 0
def sSpVers : Bs := 32 :: vers ++ crlf
def sendP (r : Rq) : Bs := r.m ++ 32 :: (tgtO r.p r.q ++ (sSpVers ++ ((if r.body = [] then [] else sLen ++ Lib.itoa r.body.length ++ crlf) ++ ((if r.cl then sClose else []) ++ (crlf ++ r.body)))))

/-! ### escapes -/
theorem hexV_of {n : Nat} (h : n < 16) : hexV (hexD n) = n := by
  have : ∀ n : Fin 16, hexV (hexD n.val) = n.val := by decide
  exact this ⟨n, h⟩
theorem pr_lt {c : UInt8} (h : prB c = true) : 32 ≤ c.toNat ∧ c.toNat ≤ 126 := by unfold prB at h; simpa using h
theorem safe_ne {s : Bool} {c : UInt8} (h : safeB s c = true) : c.toNat ≠ 37 ∧ c.toNat ≠ 43 ∧ c.toNat ≠ 38 ∧ c.toNat ≠ 61 ∧ c.toNat ≠ 63 ∧ c.toNat ≠ 32 ∧ 33 ≤ c.toNat ∧ c.toNat ≤ 126 := by
  unfold safeB letB digB at h
  simp at h
  omega
theorem hexD_tg {n : Nat} (h : n < 16) : tgB (hexD n) = true ∧ (hexD n).toNat ≠ 38 ∧ (hexD n).toNat ≠ 61 ∧ (hexD n).toNat ≠ 63 := by
  have : ∀ n : Fin 16, tgB (hexD n.val) = true ∧ (hexD n.val).toNat ≠ 38 ∧ (hexD n.val).toNat ≠ 61 ∧ (hexD n.val).toNat ≠ 63 := by decide
  exact this ⟨n, h⟩
theorem unesc_esc (plus slash : Bool) : ∀ s : Bs, s.all prB = true → unesc plus (escP slash s) = some s
  | [], _ => rfl
  | c :: t, h => by
    rw [List.all_cons, Bool.and_eq_true] at h
    have ih := unesc_esc plus slash t h.2
    unfold escP
    by_cases hs : safeB slash c = true
    · obtain ⟨h1, h2, _⟩ := safe_ne hs
      rw [if_pos hs]
      unfold unesc
      rw [if_neg h1, if_neg (fun e => h2 e.1), if_pos h.1, ih]; rfl
    · rw [if_neg hs]
      have hb := pr_lt h.1
      have h1 : hexV (hexD (c.toNat / 16)) = ((c.toNat / 16 : Nat) : Int) := hexV_of (by omega)
      have h2 : hexV (hexD (c.toNat % 16)) = ((c.toNat % 16 : Nat) : Int) := hexV_of (by omega)
      unfold unesc
      rw [if_pos (by decide)]
      dsimp only
      rw [h1, h2, if_neg (by omega), Int.toNat_natCast, Int.toNat_natCast, show 16 * (c.toNat / 16) + c.toNat % 16 = c.toNat from by omega, show UInt8.ofNat c.toNat = c from by simp, if_pos h.1, ih]; rfl
/-- what stands in an escaped text -/
def escB (c : UInt8) : Bool := tgB c && decide (c.toNat ≠ 38) && decide (c.toNat ≠ 61) && decide (c.toNat ≠ 63)
theorem esc_all (slash : Bool) : ∀ s : Bs, s.all prB = true → (escP slash s).all escB = true
  | [], _ => rfl
  | c :: t, h => by
    rw [List.all_cons, Bool.and_eq_true] at h
    have ih := esc_all slash t h.2
    unfold escP
    by_cases hs : safeB slash c = true
    · obtain ⟨_, _, h3, h4, h5, _, h7, h8⟩ := safe_ne hs
      rw [if_pos hs, List.all_cons, ih]
      simp [escB, tgB, h3, h4, h5, h7, h8]
    · rw [if_neg hs]
      have hb := pr_lt h.1
      obtain ⟨a1, a2, a3, a4⟩ := hexD_tg (n := c.toNat / 16) (by omega)
      obtain ⟨b1, b2, b3, b4⟩ := hexD_tg (n := c.toNat % 16) (by omega)
      simp only [List.all_cons, ih, escB, a1, b1]
      simp [a2, a3, a4, b2, b3, b4]
      decide
/-! ### one byte in a text -/
theorem idx_hit {a b : Bs} {c : UInt8} (h : ∀ x ∈ a, x ≠ c) : Lib.index (a ++ c :: b) [c] = a.length := by
  induction a with
  | nil => rw [Lib.index_one]; simp [Lib.indexByte]
  | cons x r ih =>
    have := ih (fun y hy => h y (List.mem_cons_of_mem _ hy))
    have hx : x ≠ c := h x List.mem_cons_self
    rw [List.cons_append]
    unfold Lib.index
    rw [if_neg (by simp [List.isPrefixOf]; exact fun e => hx e.symm), this, if_neg (by simp)]
    simp
theorem idx_miss {a : Bs} {c : UInt8} (h : ∀ x ∈ a, x ≠ c) : Lib.index a [c] = -1 := by
  induction a with
  | nil => rfl
  | cons x r ih =>
    have := ih (fun y hy => h y (List.mem_cons_of_mem _ hy))
    have hx : x ≠ c := h x List.mem_cons_self
    unfold Lib.index
    rw [if_neg (by simp [List.isPrefixOf]; exact fun e => hx e.symm), this]; rfl
theorem cut_at {a b : Bs} {c : UInt8} (h : ∀ x ∈ a, x ≠ c) : Lib.cut (a ++ c :: b) [c] = (a, b, true) := by
  rw [cut_hit (idx_hit h)]
  simp
theorem cut_no {a : Bs} {c : UInt8} (h : ∀ x ∈ a, x ≠ c) : Lib.cut a [c] = (a, [], false) := cut_miss (idx_miss h)
theorem all_ne {p : UInt8 → Bool} {s : Bs} (h : s.all p = true) {c : UInt8} (hc : p c = false) : ∀ x ∈ s, x ≠ c := by
  intro x hx e
  rw [List.all_eq_true] at h
  have := h x hx
  rw [e, hc] at this
  exact absurd this (by decide)
/-! ### parameters -/
theorem parP_esc {x : Bs × Bs} (h : parOK x = true) : parP (escP false x.1 ++ 61 :: escP false x.2) = some x := by
  unfold parOK at h
  simp only [Bool.and_eq_true] at h
  unfold parP
  rw [cut_at (all_ne (esc_all false _ h.1.1) (by decide))]
  dsimp only
  rw [unesc_esc _ _ _ h.1.1, unesc_esc _ _ _ h.1.2]
theorem par_ne {x : Bs × Bs} (h : parOK x = true) : x.1 ≠ [] ∨ x.2 ≠ [] := by
  unfold parOK at h
  simp only [Bool.and_eq_true, Bool.or_eq_true, decide_eq_true_eq] at h
  exact h.2
theorem par_no38 {x : Bs × Bs} (h : parOK x = true) : ∀ y ∈ escP false x.1 ++ 61 :: escP false x.2, y ≠ 38 := by
  unfold parOK at h
  simp only [Bool.and_eq_true] at h
  intro y hy
  rw [List.mem_append, List.mem_cons] at hy
  rcases hy with hy | rfl | hy
  · exact all_ne (esc_all false _ h.1.1) (by decide) y hy
  · decide
  · exact all_ne (esc_all false _ h.1.2) (by decide) y hy
theorem pars_esc : ∀ (x : Bs × Bs) (l : List (Bs × Bs)), parOK x = true → l.all parOK = true →
    parsP (Lib.split (escP false x.1 ++ 61 :: (escP false x.2 ++ parsO false l)) [38]) = some (x :: l)
  | x, [], hx, _ => by
    unfold parsO
    rw [List.append_nil, split_cut, cut_no (par_no38 hx)]
    dsimp only
    rw [if_neg (by decide), pars_cons, parP_esc hx]
    simp [parsP, par_ne hx]
  | x, y :: l, hx, hl => by
    rw [List.all_cons, Bool.and_eq_true] at hl
    unfold parsO
    have e : escP false x.1 ++ 61 :: (escP false x.2 ++ ((if false = true then 63 else 38) :: (escP false y.1 ++ 61 :: (escP false y.2 ++ parsO false l)))) = (escP false x.1 ++ 61 :: escP false x.2) ++ 38 :: (escP false y.1 ++ 61 :: (escP false y.2 ++ parsO false l)) := by simp
    rw [e, split_cut, cut_at (par_no38 hx)]
    dsimp only
    rw [if_pos rfl, pars_cons, parP_esc hx, pars_esc y l hl.1 hl.2]
    simp [par_ne hx]
theorem tgt_esc {p : Bs} {q : List (Bs × Bs)} (hp : p.head? = some 47) (ha : p.all prB = true) (hq : q.all parOK = true) (hl : (tgtO p q).length ≤ 2048) : tgtP (tgtO p q) = some (p, q) := by
  have h1 : ∀ x ∈ escP true p, x ≠ 63 := all_ne (esc_all true _ ha) (by decide)
  have hd : (tgtO p q).head? = some 47 := by
    cases p with
    | nil => cases hp
    | cons c t =>
      obtain rfl : c = 47 := by simpa using hp
      rfl
  have hnn : 1 ≤ (tgtO p q).length := by
    cases h : tgtO p q with
    | nil => rw [h] at hd; cases hd
    | cons c t => simp
  have hall : ∀ (b : Bool) (l : List (Bs × Bs)), l.all parOK = true → (parsO b l).all tgB = true := by
    intro b l
    induction l generalizing b with
    | nil => intro _; rfl
    | cons x l ih =>
      intro h
      rw [List.all_cons, Bool.and_eq_true] at h
      have h0 := h.1
      unfold parOK at h0
      simp only [Bool.and_eq_true] at h0
      have e1 : (escP false x.1).all tgB = true := by
        rw [List.all_eq_true]
        intro y hy
        have := List.all_eq_true.mp (esc_all false _ h0.1.1) y hy
        unfold escB at this
        simp only [Bool.and_eq_true] at this
        exact this.1.1.1
      have e2 : (escP false x.2).all tgB = true := by
        rw [List.all_eq_true]
        intro y hy
        have := List.all_eq_true.mp (esc_all false _ h0.1.2) y hy
        unfold escB at this
        simp only [Bool.and_eq_true] at this
        exact this.1.1.1
      unfold parsO
      cases b <;> simp [e1, e2, ih false h.2] <;> decide
  have hp2 : (escP true p).all tgB = true := by
    rw [List.all_eq_true]
    intro y hy
    have := List.all_eq_true.mp (esc_all true _ ha) y hy
    unfold escB at this
    simp only [Bool.and_eq_true] at this
    exact this.1.1.1
  have htg : (tgtO p q).all tgB = true := by unfold tgtO; rw [List.all_append, hp2, hall true q hq]; rfl
  unfold tgtP
  rw [if_neg (fun e => by
    rcases e with e | e | e | e
    · omega
    · omega
    · exact e hd
    · rw [htg] at e; cases e)]
  cases q with
  | nil =>
    have e : tgtO p [] = escP true p := by unfold tgtO parsO; simp
    rw [e, cut_no h1]
    dsimp only
    rw [unesc_esc _ _ _ ha, show Lib.split ([] : Bs) [38] = [[]] from by decide, pars_nil]
  | cons x l =>
    rw [List.all_cons, Bool.and_eq_true] at hq
    have e : tgtO p (x :: l) = escP true p ++ 63 :: (escP false x.1 ++ 61 :: (escP false x.2 ++ parsO false l)) := rfl
    rw [e, cut_at h1]
    dsimp only
    rw [unesc_esc _ _ _ ha, pars_esc x l hq.1 hq.2]
end Go.Proofs.YtdfgnoflohfnmaaGreatDoor.Hx

/-! HTTP: what a client sends is told as it was, one request behind the other: the plain law. -/
namespace Go.Proofs.YtdfgnoflohfnmaaGreatDoor.Hx

theorem line_of {l : Bs} (t : Bs) (hl : l.all lnB = true) (hn : l.length ≤ 4096) : lineP (l ++ (crlf ++ t)) = .got l (l.length + 2) := by
  have hne : ∀ x ∈ l, x ≠ 13 := all_ne hl (by decide)
  have hi : Lib.index (l ++ (crlf ++ t)) crlf = l.length := by
    refine Lib.index_first (by simp) ?_ (fun j hj => ?_)
    · unfold Lib.occAt
      rw [List.drop_left, List.isPrefixOf_iff_prefix]
      exact List.prefix_append _ _
    · cases ho : Lib.occAt (l ++ (crlf ++ t)) crlf j with
      | false => rfl
      | true =>
        have := Lib.occAt_head (c := 13) (t := [10]) rfl ho
        rw [List.getElem?_append_left hj] at this
        exact absurd rfl (hne _ (List.mem_of_getElem? this))
  unfold lineP
  rw [hi, if_neg (by omega), if_neg (by omega), Int.toNat_natCast, List.take_left, if_pos hl]
theorem start_of {m p : Bs} {q : List (Bs × Bs)} (hm : 1 ≤ m.length ∧ m.length ≤ 16 ∧ m.all capB = true) (ht : tgtP (tgtO p q) = some (p, q)) (h32 : ∀ x ∈ tgtO p q, x ≠ 32) : startP (m ++ 32 :: (tgtO p q ++ 32 :: vers)) = some (m, p, q) := by
  unfold startP
  rw [split_cut, cut_at (all_ne hm.2.2 (by decide))]
  dsimp only
  rw [if_pos rfl, split_cut, cut_at h32]
  dsimp only
  rw [if_pos rfl, vers_split]
  dsimp only
  rw [if_neg (fun e => by
    rcases e with e | e | e | e
    · exact e rfl
    · omega
    · omega
    · rw [hm.2.2] at e; cases e), ht]
  rfl
/-! ### numbers -/
theorem nd_le : ∀ (k u : Nat), u < 10 ^ (k + 1) → Lib.nDigits u ≤ k + 1
  | 0, u, h => by rw [Lib.nDigits_small (by simpa using h)]; omega
  | k + 1, u, h => by
    by_cases h1 : u < 10
    · rw [Lib.nDigits_small h1]; omega
    · rw [Lib.nDigits_big h1]
      have := nd_le k (u / 10) (by rw [Nat.pow_succ] at h; omega)
      omega
theorem dec_all : ∀ (f u : Nat), u ≤ f → (Lib.decDigits u).all digB = true
  | f, u, hf => by
    by_cases h : u < 10
    · rw [Lib.decDigits_one h, List.all_cons, digB_of h]; rfl
    · rw [Lib.decDigits, dif_neg h, List.all_append]
      match f, hf with
      | 0, hf => omega
      | f + 1, hf =>
        rw [dec_all f (u / 10) (by omega)]
        rw [List.all_cons, digB_of (Nat.mod_lt u (show 0 < 10 by omega))]; rfl
theorem decV_dec : ∀ (f u : Nat), u ≤ f → decV (Lib.decDigits u) = u
  | f, u, hf => by
    by_cases h : u < 10
    · rw [Lib.decDigits_one h]
      show 10 * (0 : Int) + (((UInt8.ofNat (48 + u)).toNat : Int) - 48) = u
      rw [dig_of h]; omega
    · match f, hf with
      | 0, hf => omega
      | f + 1, hf =>
        have ih := decV_dec f (u / 10) (by omega)
        unfold decV at ih ⊢
        rw [Lib.decDigits, dif_neg h, List.foldl_append, ih]
        show 10 * ((u / 10 : Nat) : Int) + (((UInt8.ofNat (48 + u % 10)).toNat : Int) - 48) = u
        rw [dig_of (Nat.mod_lt u (show 0 < 10 by omega))]; omega
theorem itoa_nat (u : Nat) : Lib.itoa (u : Int) = Lib.decDigits u := by unfold Lib.itoa; rw [if_neg (by omega), Int.toNat_natCast]
theorem trim_of {s : Bs} (h : s.all digB = true) (h0 : s ≠ []) : Lib.trimS (32 :: s) [32, 9] = s := by
  have hc : ∀ x, digB x = true → ([32, 9] : Bs).contains x = false := by
    intro x hx
    unfold digB at hx
    simp at hx
    rw [Bool.eq_false_iff]
    intro e
    simp at e
    rcases e with rfl | rfl <;> simp at hx
  have key : ∀ l : Bs, l ≠ [] → (∀ x, l.head? = some x → digB x = true) → l.dropWhile (fun c => ([32, 9] : Bs).contains c) = l := by
    intro l hl hx
    cases l with
    | nil => rfl
    | cons c r => rw [List.dropWhile_cons, if_neg (by rw [hc c (hx c rfl)]; decide)]
  unfold Lib.trimS Lib.trimLeftS Lib.trimRightS
  have e1 : ((32 :: s).reverse.dropWhile fun c => ([32, 9] : Bs).contains c) = (32 :: s).reverse := by
    refine key _ (by simp) (fun x hx => ?_)
    have hmem : x ∈ s := by
      rw [List.reverse_cons] at hx
      cases hr : s.reverse with
      | nil => exact absurd (List.reverse_eq_nil_iff.mp hr) h0
      | cons y r =>
        rw [hr] at hx
        obtain rfl : y = x := by simpa using hx
        have : y ∈ s.reverse := by rw [hr]; exact List.mem_cons_self
        simpa using this
    exact List.all_eq_true.mp h x hmem
  rw [e1, List.reverse_reverse, List.dropWhile_cons, if_pos (by decide)]
  refine key _ h0 (fun x hx => List.all_eq_true.mp h x (List.mem_of_head? hx))
def lnLen (u : Nat) : Bs := sLen ++ Lib.decDigits u
def lnClose : Bs := [67, 111, 110, 110, 101, 99, 116, 105, 111, 110, 58, 32, 99, 108, 111, 115, 101]
theorem sClose_ln : sClose = lnClose ++ crlf := rfl
theorem dec_nn (u : Nat) : Lib.decDigits u ≠ [] := by
  intro e
  have := Lib.decDigits_length u
  rw [e] at this
  have := Lib.nDigits_pos u
  simp at *
  omega
theorem hdr_len {u : Nat} (hu : u ≤ 262144) (cl : Bool) : hdrP (lnLen u) (-1) cl = some ((u : Int), cl) := by
  have e : Lib.cut (lnLen u) [58] = ([67, 111, 110, 116, 101, 110, 116, 45, 76, 101, 110, 103, 116, 104], 32 :: Lib.decDigits u, true) := cut_at (a := [67, 111, 110, 116, 101, 110, 116, 45, 76, 101, 110, 103, 116, 104]) (b := 32 :: Lib.decDigits u) (by decide)
  have hd := dec_all u u (Nat.le_refl _)
  have hl := nd_le 5 u (by simp; omega)
  have hp := Lib.nDigits_pos u
  have hlen := Lib.decDigits_length u
  have c1 : ¬ (true = false ∨ ([67, 111, 110, 116, 101, 110, 116, 45, 76, 101, 110, 103, 116, 104] : Bs).length < 1 ∨ 64 < ([67, 111, 110, 116, 101, 110, 116, 45, 76, 101, 110, 103, 116, 104] : Bs).length ∨ ([67, 111, 110, 116, 101, 110, 116, 45, 76, 101, 110, 103, 116, 104] : Bs).all nmB = false) := by decide
  have c2 : Lib.toLowerA [67, 111, 110, 116, 101, 110, 116, 45, 76, 101, 110, 103, 116, 104] = hLen := by decide
  have c3 : ¬ ((0 : Int) ≤ -1 ∨ (Lib.decDigits u).length < 1 ∨ 9 < (Lib.decDigits u).length ∨ (Lib.decDigits u).all digB = false) := fun e => by
    rcases e with e | e | e | e
    · omega
    · omega
    · omega
    · rw [hd] at e; cases e
  unfold hdrP
  rw [e]
  dsimp only
  rw [if_neg c1, trim_of hd (dec_nn u), c2, if_pos rfl, if_neg c3, decV_dec u u (Nat.le_refl _)]
theorem hdr_close (len : Int) (cl : Bool) : hdrP lnClose len cl = some (len, true) := by
  have e : Lib.cut lnClose [58] = ([67, 111, 110, 110, 101, 99, 116, 105, 111, 110], [32, 99, 108, 111, 115, 101], true) := by decide
  have e2 : Lib.trimS [32, 99, 108, 111, 115, 101] [32, 9] = hClo := by decide
  have c1 : ¬ (true = false ∨ ([67, 111, 110, 110, 101, 99, 116, 105, 111, 110] : Bs).length < 1 ∨ 64 < ([67, 111, 110, 110, 101, 99, 116, 105, 111, 110] : Bs).length ∨ ([67, 111, 110, 110, 101, 99, 116, 105, 111, 110] : Bs).all nmB = false) := by decide
  have c2 : Lib.toLowerA [67, 111, 110, 110, 101, 99, 116, 105, 111, 110] = hCon := by decide
  unfold hdrP
  rw [e]
  dsimp only
  rw [e2, if_neg c1, c2, if_neg hCon_ne.symm, if_neg hTra_ne.1, if_pos rfl, show decide (Lib.toLowerA hClo = hClo) = true from by decide, Bool.or_true]
theorem lnLen_ok {u : Nat} (hu : u ≤ 262144) : (lnLen u).all lnB = true ∧ (lnLen u).length ≤ 4096 ∧ lnLen u ≠ [] := by
  have hd := dec_all u u (Nat.le_refl _)
  have hl := nd_le 5 u (by simp; omega)
  have hlen := Lib.decDigits_length u
  refine ⟨?_, ?_, ?_⟩
  · unfold lnLen
    rw [List.all_append, Bool.and_eq_true]
    refine ⟨by decide, ?_⟩
    rw [List.all_eq_true] at hd ⊢
    intro x hx
    have := hd x hx
    unfold digB at this
    unfold lnB prB
    simp at this ⊢
    omega
  · unfold lnLen
    rw [List.length_append, hlen, show sLen.length = 16 from rfl]
    omega
  · unfold lnLen
    simp [sLen]
/-- a step over a header -/
theorem hdrs_step {b A s C : Bs} (h : b = A ++ (s ++ (crlf ++ C))) (hs : s.all lnB = true ∧ s.length ≤ 4096 ∧ s ≠ []) {f k : Nat} (hk : k < 32) {len : Int} {cl : Bool} {l : Int} {c : Bool} (hh : hdrP s len cl = some (l, c)) {i : Nat} (hi : i = A.length) :
    hdrsP b (f + 1) i k len cl = hdrsP b f (A ++ (s ++ crlf)).length (k + 1) l c := by
  subst h hi
  rw [hdrsP, List.drop_left, line_of C hs.1 hs.2.1]
  dsimp only
  rw [if_neg hs.2.2, if_neg (by omega), hh]
  dsimp only
  congr 1
  simp [crlf]
theorem hdrs_end {b A C : Bs} (h : b = A ++ (crlf ++ C)) {f k : Nat} {len : Int} {cl : Bool} {i : Nat} (hi : i = A.length) : hdrsP b (f + 1) i k len cl = .done (A ++ crlf).length len cl := by
  subst h hi
  have := line_of (l := []) C rfl (by simp)
  rw [List.nil_append] at this
  rw [hdrsP, List.drop_left, this]
  dsimp only
  rw [if_pos rfl]
  simp [crlf]
theorem cap_tg {m : Bs} (h : m.all capB = true) : m.all lnB = true := by
  rw [List.all_eq_true] at h ⊢
  intro x hx
  have := h x hx
  unfold capB at this
  unfold lnB prB
  simp at this ⊢
  omega
theorem next_send (r : Rq) (h : mayS r = 0) : nextP (sendP r) = .req r (sendP r).length := by
  unfold mayS at h
  split at h
  · cases h
  · next h1 =>
    split at h
    · cases h
    · next h2 =>
      obtain ⟨m, p, q, body, cl⟩ := r
      dsimp only at h1 h2
      simp only [not_or] at h1 h2
      obtain ⟨m1, m2, m3, p1, p2, q1⟩ := h1
      obtain ⟨l1, l2, l3⟩ := h2
      have m3 : m.all capB = true := by simpa using m3
      have p2 : p.all prB = true := by simpa using p2
      have p1 : p.head? = some 47 := Decidable.of_not_not p1
      have q1 : q.all parOK = true := Bool.not_eq_false _ ▸ q1
      have ht := tgt_esc p1 p2 q1 (by omega)
      have htg : (tgtO p q).all tgB = true := by
        unfold tgtP at ht
        split at ht
        · cases ht
        · next h3 =>
          simp only [not_or] at h3
          have := h3.2.2.2
          simpa using this
      have h32 : ∀ x ∈ tgtO p q, x ≠ 32 := all_ne htg (by decide)
      have hln : (tgtO p q).all lnB = true := by
        rw [List.all_eq_true] at htg ⊢
        intro x hx
        have := htg x hx
        unfold tgB at this
        unfold lnB prB
        simp at this ⊢
        omega
      have hst := start_of (m := m) ⟨by omega, by omega, m3⟩ ht h32
      generalize hF : m ++ 32 :: (tgtO p q ++ 32 :: vers) = F at hst
      have hF1 : F.all lnB = true := by
        rw [← hF, List.all_append, cap_tg m3, List.all_cons, List.all_append, hln]
        decide
      have hF2 : F.length ≤ 4096 := by rw [← hF]; simp [vers]; omega
      generalize hb : sendP ⟨m, p, q, body, cl⟩ = b
      unfold sendP at hb
      dsimp only at hb
      have hb1 : b = F ++ (crlf ++ ((if body = [] then [] else lnLen body.length ++ crlf) ++ ((if cl then sClose else []) ++ (crlf ++ body)))) := by
        rw [← hb, ← hF]
        unfold sSpVers lnLen
        rw [itoa_nat]
        simp
      clear hb
      generalize hX : (if body = [] then ([] : Bs) else lnLen body.length ++ crlf) = X at hb1
      generalize hY : (if cl = true then sClose else ([] : Bs)) = Y at hb1
      have hlenb : (body.length : Int) ≤ 262144 := by omega
      -- the headers
      have k1 : hdrsP b 34 (F ++ crlf).length 0 (-1) false = .done (F ++ crlf ++ X ++ Y ++ crlf).length (if body = [] then -1 else body.length) cl := by
        by_cases hbd : body = []
        · rw [if_pos hbd] at hX ⊢
          subst hX
          cases cl with
          | true =>
            rw [if_pos rfl] at hY
            subst hY
            rw [hdrs_step (f := 33) (A := F ++ crlf) (s := lnClose) (C := crlf ++ body) (by rw [hb1, sClose_ln]; simp) ⟨by decide, by decide, by decide⟩ (by omega) (hdr_close _ _) rfl,
              hdrs_end (f := 32) (A := F ++ crlf ++ (lnClose ++ crlf)) (C := body) (by rw [hb1, sClose_ln]; simp) (by simp)]
            rw [sClose_ln]; simp
          | false =>
            rw [if_neg (by decide)] at hY
            subst hY
            rw [hdrs_end (f := 33) (A := F ++ crlf) (C := body) (by rw [hb1]; simp) rfl]
            simp
        · rw [if_neg hbd] at hX ⊢
          subst hX
          rw [hdrs_step (f := 33) (A := F ++ crlf) (s := lnLen body.length) (C := Y ++ (crlf ++ body)) (by rw [hb1]; simp) (lnLen_ok (by omega)) (by omega) (hdr_len (by omega) _) rfl]
          cases cl with
          | true =>
            rw [if_pos rfl] at hY
            subst hY
            rw [hdrs_step (f := 32) (A := F ++ crlf ++ (lnLen body.length ++ crlf)) (s := lnClose) (C := crlf ++ body) (by rw [hb1, sClose_ln]; simp) ⟨by decide, by decide, by decide⟩ (by omega) (hdr_close _ _) (by simp),
              hdrs_end (f := 31) (A := F ++ crlf ++ (lnLen body.length ++ crlf) ++ (lnClose ++ crlf)) (C := body) (by rw [hb1, sClose_ln]; simp) (by simp)]
            simp [sClose_ln]
          | false =>
            rw [if_neg (by decide)] at hY
            subst hY
            rw [hdrs_end (f := 32) (A := F ++ crlf ++ (lnLen body.length ++ crlf)) (C := body) (by rw [hb1]; simp) (by simp)]
            simp
      have e1 : lineP b = .got F (F.length + 2) := by rw [hb1]; exact line_of _ hF1 hF2
      have e2 : F.length + 2 = (F ++ crlf).length := by simp [crlf]
      have hlen : b.length = (F ++ crlf ++ X ++ Y ++ crlf).length + body.length := by rw [hb1]; simp; omega
      have hdrop : b.drop (F ++ crlf ++ X ++ Y ++ crlf).length = body := by
        rw [show b = (F ++ crlf ++ X ++ Y ++ crlf) ++ body from by rw [hb1]; simp]
        exact List.drop_left
      have hmax : (max 0 (if body = [] then (-1 : Int) else body.length)).toNat = body.length := by
        by_cases hbd : body = []
        · rw [if_pos hbd, hbd]; rfl
        · rw [if_neg hbd]; omega
      unfold nextP
      rw [e1]
      dsimp only
      rw [hst]
      dsimp only
      rw [e2, k1]
      dsimp only
      unfold bodyP
      rw [if_neg (by split <;> omega), hmax, if_neg (by omega), hdrop, List.take_length, hlen]
end Go.Proofs.YtdfgnoflohfnmaaGreatDoor.Hx
