/- HTTP: a response is read, as the document has it: it reads the same: the plain law's parts. -/
import Derived.Test.YtdfgnoflohfnmaaGreatDoorCi
import Derived.Test.YtdfgnoflohfnmaaGreatDoorBh
import Derived.Deep.CutBlock
import Derived.Deep.RegionHeld3
namespace Go.Proofs.YtdfgnoflohfnmaaGreatDoor.Hx
open Go.RowKit Go.Maps

/-- the same, as far as it counts -/
def Ag (y z : Ps) : Prop := y.1 = z.1 ∧ (y.1 = 0 → y = z)
theorem Ag.rfl {y : Ps} : Ag y y := ⟨Eq.refl _, fun _ => Eq.refl _⟩
theorem Ag.trans {x y z : Ps} (h : Ag x y) (k : Ag y z) : Ag x z := ⟨h.1.trans k.1, fun e => (h.2 e).trans (k.2 (h.1 ▸ e))⟩
theorem Ag.symm {y z : Ps} (h : Ag y z) : Ag z y := ⟨h.1.symm, fun e => (h.2 (h.1.trans e)).symm⟩
theorem Ag.err {y z : Ps} (h : y.1 = z.1) (h0 : y.1 ≠ 0) : Ag y z := ⟨h, fun e => absurd e h0⟩
theorem need_ne {bs s : Bs} {x : Ps} (h : x.1 ≠ 0) : needP bs s x = x := if_pos h
theorem Ag.need {bs s : Bs} {y z : Ps} (h : Ag y z) : Ag (needP bs s y) (needP bs s z) := by
  by_cases h0 : y.1 = 0
  · rw [h.2 h0]; exact .rfl
  · rw [need_ne h0, need_ne (h.1 ▸ h0)]; exact h
theorem ahead_nil (s : Bs) : aheadP s [] = true := by unfold aheadP; simp
theorem ahead_cons (a c : UInt8) (s D : Bs) : aheadP (a :: s) (c :: D) = (decide (a = c) && aheadP s D) := by
  unfold aheadP
  by_cases h : a = c
  · subst h; simp [List.isPrefixOf]
  · have h2 : ¬ c = a := fun e => h e.symm
    simp [List.isPrefixOf, h, h2]
theorem ahead_app : ∀ (s t D : Bs), aheadP (s ++ t) D = (aheadP s D && aheadP t (D.drop s.length))
  | [], t, D => by unfold aheadP; simp
  | a :: s, t, [] => by simp [ahead_nil]
  | a :: s, t, c :: D => by
    rw [List.cons_append, ahead_cons, ahead_cons, ahead_app s t D, Bool.and_assoc]
    rfl
theorem need_app {bs s t : Bs} {x : Ps} (hx : x.2 ≤ bs.length) : Ag (needP bs (s ++ t) x) (needP bs t (needP bs s x)) := by
  obtain ⟨e, i⟩ := x
  by_cases h0 : e = 0
  · subst h0
    dsimp only at hx
    have hD : (bs.drop i).length = bs.length - i := List.length_drop
    rw [need_of hx, need_of hx, ahead_app]
    cases h1 : aheadP s (bs.drop i) with
    | false =>
      rw [Bool.false_and, if_pos rfl, if_pos rfl, need_ne (by simp)]
      exact .rfl
    | true =>
      rw [Bool.true_and, if_neg (by simp : ¬ true = false)]
      by_cases h2 : bs.length - i < s.length
      · rw [if_pos h2, need_ne (by simp), List.drop_eq_nil_of_le (by omega), ahead_nil, if_neg (by simp), if_pos (by rw [List.length_append]; omega)]
        exact .rfl
      · rw [if_neg h2, need_of (by omega), List.drop_drop]
        cases h3 : aheadP t (bs.drop (i + s.length)) with
        | false => simp only [if_true]; exact .err rfl (by simp)
        | true =>
          simp only [Bool.true_eq_false, if_false]
          rw [List.length_append]
          by_cases h4 : bs.length - (i + s.length) < t.length
          · rw [if_pos h4, if_pos (by omega)]; exact .err rfl (by simp)
          · rw [if_neg h4, if_neg (by omega), Nat.add_assoc]; exact .rfl
  · have h0' : (e, i).1 ≠ 0 := h0
    rw [need_ne (s := s ++ t) h0', need_ne (s := s) h0', need_ne (s := t) h0']; exact .rfl
def sCont : Bs := [67, 111, 110, 116, 101, 110, 116, 45]
def sTy6 : Bs := [84, 121, 112, 101, 58, 32]
def sLe8 : Bs := [76, 101, 110, 103, 116, 104, 58, 32]
theorem sType_eq : sType = sCont ++ sTy6 := rfl
theorem sLen_eq : sLen = sCont ++ sLe8 := rfl
theorem pre_ahead {s D : Bs} (h : s.isPrefixOf D = true) : aheadP s D = true := by unfold aheadP; rw [h]; rfl
theorem ahead_pre {s D : Bs} (h : aheadP s D = true) (hl : s.length ≤ D.length) : s.isPrefixOf D = true := by
  unfold aheadP at h
  rw [Bool.or_eq_true] at h
  rcases h with h | h
  · exact h
  · rw [List.isPrefixOf_iff_prefix] at h ⊢
    rw [h.eq_of_length (Nat.le_antisymm h.length_le hl)]
    exact List.prefix_refl _
theorem ahead_pre2 {s D : Bs} (h : aheadP s D = true) (hl : D.length < s.length) : D.isPrefixOf s = true := by
  unfold aheadP at h
  rw [Bool.or_eq_true] at h
  rcases h with h | h
  · have := pre_len h; omega
  · exact h
/-- kind, by ahead -/
theorem kind_of {bs : Bs} {i : Nat} (_ : i ≤ bs.length) : kindP bs (0, i) =
    if aheadP sType (bs.drop i) = true then
      if bs.length - i < 14 then ((12, i), [])
      else
        let s := lead prB 4097 (bs.drop (i + 14))
        if 4096 < s.length ∨ (s.length = 0 ∧ i + 14 < bs.length) then ((4, i + 14 + s.length), s) else (needP bs crlf (0, i + 14 + s.length), s)
    else ((0, i), []) := by
  have hD : (bs.drop i).length = bs.length - i := List.length_drop
  unfold kindP
  rw [if_neg (by simp)]
  dsimp only
  cases h1 : sType.isPrefixOf (bs.drop i) with
  | true =>
    have hl := pre_len h1
    have e14 : sType.length = 14 := rfl
    simp only [if_true, pre_ahead h1]
    rw [if_neg (show ¬ bs.length - i < 14 by omega)]
  | false =>
    rw [if_neg (by simp)]
    have e14 : sType.length = 14 := rfl
    cases h2 : aheadP sType (bs.drop i) with
    | true =>
      have hlt : (bs.drop i).length < sType.length := by
        rcases Nat.lt_or_ge (bs.drop i).length sType.length with h | h
        · exact h
        · rw [ahead_pre h2 h] at h1; cases h1
      rw [if_pos ⟨hlt, ahead_pre2 h2 hlt⟩, if_pos rfl, if_pos (by omega)]
    | false =>
      rw [if_neg (by rintro ⟨_, h⟩; unfold aheadP at h2; rw [h, Bool.or_true] at h2; cases h2), if_neg (by simp)]
/-- until and lead -/
theorem untL_lead {p : UInt8 → Bool} (hp : ∀ c, p c = true → c.toNat ≠ 13) : ∀ (n : Nat) (D : Bs),
    untL p n D = if (lead p (n + 1) D).length ≤ n ∧ ∀ h : (lead p (n + 1) D).length < D.length, D[(lead p (n + 1) D).length].toNat = 13 then some (lead p (n + 1) D).length else none
  | n, [] => by unfold untL lead; simp
  | n, c :: t => by
    unfold untL
    by_cases h13 : c.toNat = 13
    · have hpc : p c = false := by cases h : p c; rfl; exact absurd h13 (hp c h)
      have hl : lead p (n + 1) (c :: t) = [] := by unfold lead; rw [hpc]; rfl
      rw [if_pos h13, hl, if_pos ⟨Nat.zero_le _, fun _ => h13⟩]; rfl
    · rw [if_neg h13]
      cases hpc : p c with
      | false =>
        have hl : lead p (n + 1) (c :: t) = [] := by unfold lead; rw [hpc]; rfl
        rw [if_pos (.inl rfl), hl, if_neg]
        rintro ⟨_, h⟩
        exact h13 (h (by simp))
      | true =>
        have hl : lead p (n + 1) (c :: t) = c :: lead p n t := by conv => lhs; unfold lead; rw [hpc, if_pos rfl]
        cases n with
        | zero =>
          rw [if_pos (.inr rfl), hl, if_neg]
          rintro ⟨h, _⟩
          simp at h
        | succ m =>
          rw [if_neg (by simp), show m + 1 - 1 = m from rfl, untL_lead hp m t, hl]
          simp only [List.length_cons]
          by_cases hc : (lead p (m + 1) t).length ≤ m ∧ ∀ h : (lead p (m + 1) t).length < t.length, t[(lead p (m + 1) t).length].toNat = 13
          · rw [if_pos hc, if_pos ⟨by omega, fun h => by simpa using hc.2 (by omega)⟩]; rfl
          · rw [if_neg hc, if_neg (fun h => hc ⟨by omega, fun hh => by simpa using h.2 (by omega)⟩)]; rfl
theorem lead_take (p : UInt8 → Bool) : ∀ (n : Nat) (D : Bs), D.take (lead p n D).length = lead p n D
  | 0, D => by simp [lead]
  | n + 1, [] => by simp [lead]
  | n + 1, c :: t => by
    unfold lead
    split
    · rw [List.length_cons, List.take_succ_cons, lead_take p n t]
    · rfl
theorem prB_13 (c : UInt8) (h : prB c = true) : c.toNat ≠ 13 := by unfold prB at h; simp at h; omega
theorem digB_13 (c : UInt8) (h : digB c = true) : c.toNat ≠ 13 := by unfold digB at h; simp at h; omega
/-- a byte that is no 13 stands next: no line ends here -/
theorem need_crlf_no {bs : Bs} {i : Nat} (hi : i < bs.length) (h : bs[i].toNat ≠ 13) : needP bs crlf (0, i) = (4, i) := by
  rw [need_of (by omega), List.drop_eq_getElem_cons hi, if_pos]
  show aheadP (13 :: [10]) _ = false
  rw [ahead_cons, decide_eq_false (by intro e; rw [← e] at h; exact h rfl)]
  rfl
theorem need_end' {bs s : Bs} {i : Nat} (hi : i = bs.length) (hs : 0 < s.length) : needP bs s (0, i) = (12, i) := by
  rw [need_of (by omega), List.drop_eq_nil_of_le (by omega), ahead_nil, if_neg (by simp), if_pos (by omega)]
end Go.Proofs.YtdfgnoflohfnmaaGreatDoor.Hx
/-! HTTP: a response is read, as the document has it: it reads the same: the plain law. -/
namespace Go.Proofs.YtdfgnoflohfnmaaGreatDoor.Hx
open Go.RowKit Go.Maps

/-- a byte stands next -/
def nextB (bs : Bs) (y : Ps) (c : Nat) : Prop := y.1 = 0 ∧ ∃ h : y.2 < bs.length, bs[y.2].toNat = c
theorem drop_cons {bs : Bs} {i : Nat} (h : i < bs.length) : bs.drop i = bs[i] :: bs.drop (i + 1) := List.drop_eq_getElem_cons h
theorem ahead_head {bs s : Bs} {i : Nat} {a : UInt8} (h : i < bs.length) (hn : bs[i].toNat ≠ a.toNat) : aheadP (a :: s) (bs.drop i) = false := by
  rw [drop_cons h, ahead_cons, decide_eq_false (by intro e; exact hn (by rw [e]))]
  rfl
theorem need_0 {bs s : Bs} {i : Nat} (hi : i ≤ bs.length) (h : (needP bs s (0, i)).1 = 0) : aheadP s (bs.drop i) = true ∧ s.length ≤ bs.length - i ∧ needP bs s (0, i) = (0, i + s.length) := by
  rw [need_of hi] at h ⊢
  split at h
  · cases h
  · next h1 =>
    split at h
    · cases h
    · next h2 =>
      have : aheadP s (bs.drop i) = true := by cases e : aheadP s (bs.drop i); exact absurd e h1; rfl
      exact ⟨this, by omega, by rw [if_neg h1, if_neg h2]⟩
/-- no type stands next -/
theorem type_no {bs : Bs} {x3 y3 : Ps} (hx : x3.1 = 0 → x3.2 ≤ bs.length) (h3 : Ag y3 (needP bs sCont x3)) (hT : ¬ nextB bs y3 84) :
    Ag (needP bs sLe8 y3) (needP bs sLen (kindP bs x3).1) ∧ ((needP bs sLe8 y3).1 = 0 → (kindP bs x3).2 = []) := by
  obtain ⟨e, i⟩ := x3
  by_cases h0 : e = 0
  · subst h0
    replace hx : i ≤ bs.length := hx rfl
    by_cases hy : y3.1 = 0
    · obtain ⟨a1, a2, a3⟩ := need_0 (s := sCont) hx (h3.1 ▸ hy)
      have e3 := h3.2 hy
      rw [a3] at e3
      subst e3
      have e8 : sCont.length = 8 := rfl
      rw [e8] at a2 a3 hT ⊢
      have happ := need_app (bs := bs) (s := sCont) (t := sLe8) (x := (0, i)) hx
      rw [a3] at happ
      rcases Nat.lt_or_ge (i + 8) bs.length with hl | hl
      · have hne : bs[i + 8].toNat ≠ 84 := fun e => hT ⟨rfl, hl, e⟩
        have hk : kindP bs (0, i) = ((0, i), []) := by
          rw [kind_of hx, sType_eq, ahead_app, a1, Bool.true_and, List.drop_drop, e8, show aheadP sTy6 (bs.drop (i + 8)) = false from ahead_head hl hne]
          rfl
        rw [hk]
        exact ⟨happ.symm, fun _ => rfl⟩
      · have hk : kindP bs (0, i) = ((12, i), []) := by
          rw [kind_of hx, sType_eq, ahead_app, a1, Bool.true_and, List.drop_drop, e8, List.drop_eq_nil_of_le hl, ahead_nil, if_pos rfl, if_pos (by omega)]
        rw [hk, need_end' (by omega) (by decide), need_ne (by simp)]
        exact ⟨.err rfl (by simp), fun h => by cases h⟩
    · rw [need_ne hy]
      have e1 := h3.1
      rw [need_of hx] at e1
      have hN : (needP bs sLen (kindP bs (0, i)).1).1 = y3.1 := by
        rw [kind_of hx]
        cases hA : aheadP sCont (bs.drop i) with
        | false =>
          rw [hA, if_pos rfl] at e1
          rw [sType_eq, ahead_app, hA, Bool.false_and, if_neg (by simp)]
          dsimp only
          rw [need_of hx, sLen_eq, ahead_app, hA, Bool.false_and, if_pos rfl]
          exact e1.symm
        | true =>
          rw [hA, if_neg (by simp)] at e1
          have hlt : bs.length - i < sCont.length := by
            rcases Nat.lt_or_ge (bs.length - i) sCont.length with h | h
            · exact h
            · rw [if_neg (by omega)] at e1; exact absurd e1 hy
          rw [if_pos hlt] at e1
          have e8 : sCont.length = 8 := rfl
          rw [sType_eq, ahead_app, hA, Bool.true_and, List.drop_drop, List.drop_eq_nil_of_le (by omega), ahead_nil, if_pos rfl, if_pos (by omega)]
          dsimp only
          rw [need_ne (by simp)]
          exact e1.symm
      exact ⟨.err hN.symm hy, fun h => absurd h hy⟩
  · have hk : kindP bs (e, i) = ((e, i), []) := if_pos h0
    have h0' : (e, i).1 ≠ 0 := h0
    rw [need_ne h0'] at h3
    rw [hk, need_ne h0']
    have hy : y3.1 ≠ 0 := by rw [h3.1]; exact h0
    rw [need_ne hy]
    exact ⟨h3, fun h => absurd h hy⟩
/-- a type stands next -/
theorem type_yes {bs : Bs} {x3 y3 : Ps} (hx : x3.1 = 0 → x3.2 ≤ bs.length) (h3 : Ag y3 (needP bs sCont x3)) (hT : nextB bs y3 84) :
    ((needP bs sTy6 y3).1 ≠ 0 → (needP bs sLen (kindP bs x3).1).1 = (needP bs sTy6 y3).1) ∧
    ((needP bs sTy6 y3).1 = 0 → match untL prB 4096 (bs.drop (needP bs sTy6 y3).2) with
      | none => (needP bs sLen (kindP bs x3).1).1 = 4
      | some k => if k = 0 ∧ (needP bs sTy6 y3).2 < bs.length then (needP bs sLen (kindP bs x3).1).1 = 4
        else Ag (needP bs sLe8 (needP bs (crlf ++ sCont) (0, (needP bs sTy6 y3).2 + k))) (needP bs sLen (kindP bs x3).1) ∧ (kindP bs x3).2 = (bs.drop (needP bs sTy6 y3).2).take k) := by
  obtain ⟨hy, hl, h84⟩ := hT
  obtain ⟨e, i⟩ := x3
  have h0 : e = 0 := by
    rcases Decidable.em (e = 0) with h | h
    · exact h
    · have h0' : (e, i).1 ≠ 0 := h
      rw [need_ne h0'] at h3
      exact absurd (h3.1.symm.trans hy) h
  subst h0
  replace hx : i ≤ bs.length := hx rfl
  obtain ⟨a1, a2, a3⟩ := need_0 (s := sCont) hx (h3.1 ▸ hy)
  have e3 := h3.2 hy
  rw [a3] at e3
  subst e3
  have e8 : sCont.length = 8 := rfl
  rw [e8] at a2 a3 ⊢
  dsimp only at hl h84
  simp only [e8] at hl h84
  have hle : i + 8 ≤ bs.length := by omega
  have hL : aheadP sLen (bs.drop i) = false := by
    rw [sLen_eq, ahead_app, a1, Bool.true_and, List.drop_drop, e8]
    exact ahead_head hl (by rw [h84]; decide)
  have hLn : needP bs sLen (0, i) = (4, i) := by rw [need_of hx, hL, if_pos rfl]
  have hTy : aheadP sType (bs.drop i) = aheadP sTy6 (bs.drop (i + 8)) := by
    rw [sType_eq, ahead_app, a1, Bool.true_and, List.drop_drop, e8]
  have hk := kind_of hx
  rw [hTy] at hk
  have e6 : sTy6.length = 6 := rfl
  rw [need_of hle, e6]
  cases hA : aheadP sTy6 (bs.drop (i + 8)) with
  | false =>
    rw [hA, if_neg (by simp)] at hk
    rw [hk, if_pos rfl]
    exact ⟨fun _ => by rw [hLn], fun h => by cases h⟩
  | true =>
    rw [hA, if_pos rfl] at hk
    simp only [Bool.true_eq_false, if_false]
    by_cases h6 : bs.length - (i + 8) < 6
    · rw [if_pos (by omega)] at hk
      rw [hk, if_pos h6]
      exact ⟨fun _ => by rw [need_ne (by simp)], fun h => by cases h⟩
    · rw [if_neg (by omega)] at hk
      dsimp only at hk
      rw [if_neg h6]
      refine ⟨fun h => absurd rfl h, fun _ => ?_⟩
      dsimp only
      rw [show i + 8 + 6 = i + 14 from rfl, untL_lead prB_13]
      have hDl : (bs.drop (i + 14)).length = bs.length - (i + 14) := List.length_drop
      have htk := lead_take prB 4097 (bs.drop (i + 14))
      have hll := (lead_le prB 4097 (bs.drop (i + 14))).2
      obtain ⟨s, hs⟩ : ∃ s, lead prB 4097 (bs.drop (i + 14)) = s := ⟨_, rfl⟩
      rw [show 4096 + 1 = 4097 from rfl, hs]
      rw [hs] at hk htk hll
      by_cases hc : s.length ≤ 4096 ∧ ∀ h : s.length < (bs.drop (i + 14)).length, (bs.drop (i + 14))[s.length].toNat = 13
      · rw [if_pos hc]
        dsimp only
        by_cases hb : s.length = 0 ∧ i + 14 < bs.length
        · rw [if_pos hb]
          rw [if_pos (.inr hb)] at hk
          rw [hk, need_ne (by simp)]
        · rw [if_neg hb]
          rw [if_neg (by rintro (h | h); omega; exact hb h)] at hk
          rw [hk]
          refine ⟨?_, htk.symm⟩
          have b1 := need_app (bs := bs) (s := crlf) (t := sCont) (x := (0, i + 14 + s.length)) (by dsimp only; omega)
          have hq : (needP bs crlf (0, i + 14 + s.length)).2 ≤ bs.length := need_le (by dsimp only; omega)
          have b2 := need_app (bs := bs) (s := sCont) (t := sLe8) (x := needP bs crlf (0, i + 14 + s.length)) hq
          exact b1.need.trans b2.symm
      · rw [if_neg hc]
        dsimp only
        by_cases hbig : 4096 < s.length
        · rw [if_pos (.inl hbig)] at hk
          rw [hk, need_ne (by simp)]
        · have hlt : ∃ h : s.length < (bs.drop (i + 14)).length, (bs.drop (i + 14))[s.length].toNat ≠ 13 := by
            apply Classical.byContradiction
            intro hn
            exact hc ⟨by omega, fun h => Classical.byContradiction fun h2 => hn ⟨h, h2⟩⟩
          obtain ⟨hlt, h13⟩ := hlt
          clear hc
          by_cases hz : s.length = 0
          · rw [if_pos (.inr ⟨hz, by omega⟩)] at hk
            rw [hk, need_ne (by simp)]
          · rw [if_neg (by rintro (h | h); omega; exact hz h.1)] at hk
            have hno : needP bs crlf (0, i + 14 + s.length) = (4, i + 14 + s.length) := need_crlf_no (by omega) (by rw [List.getElem_drop] at h13; exact h13)
            rw [hk]
            dsimp only
            rw [hno, need_ne (by simp)]
/-- whether it closes -/
theorem close_no {bs : Bs} {x7 y9 : Ps} (hx : y9.2 ≤ bs.length) (h : Ag y9 x7) (hC : ¬ nextB bs y9 67) :
    Ag (needP bs crlf y9) (needP bs crlf (closeP bs x7).1) ∧ ((needP bs crlf y9).1 = 0 → (closeP bs x7).2 = false) := by
  by_cases hy : y9.1 = 0
  · have e := h.2 hy
    subst e
    obtain ⟨e, i⟩ := y9
    dsimp only at hy hx
    subst hy
    have hc : closeP bs (0, i) = ((0, i), false) := by
      unfold closeP
      rw [if_neg (by simp)]
      dsimp only
      rcases Nat.lt_or_ge i bs.length with hl | hl
      · have hA : aheadP sClose (bs.drop i) = false := ahead_head hl (fun e => hC ⟨rfl, hl, e⟩)
        unfold aheadP at hA
        rw [Bool.or_eq_false_iff] at hA
        rw [if_neg (by rw [hA.1]; simp), if_neg (by rw [hA.2]; simp)]
      · rw [List.drop_eq_nil_of_le hl, if_neg (by decide), if_neg (by omega)]
    rw [hc]
    exact ⟨.rfl, fun _ => rfl⟩
  · have hc : closeP bs x7 = (x7, false) := close_skip (h.1 ▸ hy)
    rw [hc]
    exact ⟨h.need, fun _ => rfl⟩
theorem close_yes {bs : Bs} {x7 y9 : Ps} (h : Ag y9 x7) (hC : nextB bs y9 67) :
    Ag (needP bs crlf (needP bs sClose y9)) (needP bs crlf (closeP bs x7).1) ∧ ((needP bs crlf (needP bs sClose y9)).1 = 0 → (closeP bs x7).2 = true) := by
  obtain ⟨hy, hl, h67⟩ := hC
  have e := h.2 hy
  subst e
  obtain ⟨e, i⟩ := y9
  dsimp only at hy hl h67
  subst hy
  have hle : i ≤ bs.length := Nat.le_of_lt hl
  have hD : (bs.drop i).length = bs.length - i := List.length_drop
  have e19 : sClose.length = 19 := rfl
  rw [need_of hle, close_cases]
  unfold isP moreP
  cases hA : aheadP sClose (bs.drop i) with
  | false =>
    have hA2 := hA
    unfold aheadP at hA2
    rw [Bool.or_eq_false_iff] at hA2
    rw [hA2.1, hA2.2, Bool.and_false, Bool.false_and]
    simp only [if_true, Bool.false_eq_true, if_false]
    rw [need_ne (by simp), need_crlf_no hl (by rw [h67]; decide)]
    exact ⟨.err rfl (by simp), fun h => by cases h⟩
  | true =>
    simp only [Bool.true_eq_false, if_false]
    by_cases h19 : bs.length - i < sClose.length
    · have hp := ahead_pre2 hA (by rw [hD]; exact h19)
      rw [if_pos h19, need_ne (by simp), pre_short _ _ (by rw [hD]; exact h19), hp, decide_eq_true (by rw [hD]; exact h19), decide_eq_true hl]
      simp only [Bool.false_eq_true, if_false, Bool.and_self, if_true]
      rw [need_ne (by simp)]
      exact ⟨.rfl, fun h => by cases h⟩
    · have hp := ahead_pre hA (by rw [hD]; omega)
      rw [if_neg h19, hp, if_pos rfl, e19]
      exact ⟨.rfl, fun _ => rfl⟩
end Go.Proofs.YtdfgnoflohfnmaaGreatDoor.Hx

/-! HTTP: a response is read, as the document has it: the same number. -/
namespace Go.Proofs.YtdfgnoflohfnmaaGreatDoor.Hx
open Go.RowKit Go.Maps

def vl (n : Int) (l : Bs) : Int := l.foldl (fun n c => 10 * n + ((c.toNat : Int) - 48)) n
theorem vl_ge : ∀ (l : Bs) (n : Int), l.all digB = true → 0 ≤ n → n ≤ vl n l
  | [], n, _, _ => Int.le_refl _
  | c :: t, n, h, h0 => by
    rw [List.all_cons, Bool.and_eq_true] at h
    have hd := (digB_iff c).1 h.1
    have := vl_ge t (10 * n + ((c.toNat : Int) - 48)) h.2 (by omega)
    show n ≤ vl (10 * n + ((c.toNat : Int) - 48)) t
    omega
theorem vl_pow : ∀ (l : Bs) (n : Int), l.all digB = true → 0 ≤ n → n * 10 ^ l.length ≤ vl n l
  | [], n, _, _ => by simp [vl]
  | c :: t, n, h, h0 => by
    rw [List.all_cons, Bool.and_eq_true] at h
    have hd := (digB_iff c).1 h.1
    have ih := vl_pow t (10 * n + ((c.toNat : Int) - 48)) h.2 (by omega)
    show n * 10 ^ (t.length + 1) ≤ vl (10 * n + ((c.toNat : Int) - 48)) t
    refine Int.le_trans ?_ ih
    rw [Int.pow_succ, Int.mul_comm (10 ^ t.length) 10, ← Int.mul_assoc]
    refine Int.mul_le_mul_of_nonneg_right (by omega) ?_
    exact Int.pow_nonneg (by decide)
theorem tw_all : ∀ D : Bs, (D.takeWhile digB).all digB = true
  | [] => rfl
  | c :: t => by
    unfold List.takeWhile
    cases h : digB c with
    | true => dsimp only; rw [List.all_cons, h, tw_all t]; rfl
    | false => rfl
theorem tw_len (D : Bs) : (D.takeWhile digB).length ≤ D.length := (List.takeWhile_prefix _).length_le
theorem lead_tw (p : UInt8 → Bool) : ∀ (n : Nat) (D : Bs), lead p n D = (D.takeWhile p).take n
  | 0, D => by simp [lead]
  | n + 1, [] => by simp [lead]
  | n + 1, c :: t => by
    unfold lead List.takeWhile
    cases h : p c with
    | true => rw [if_pos rfl, lead_tw p n t]; rfl
    | false => rw [if_neg (by simp)]; rfl
def zB (k : Nat) (zero : Bool) (s : Bs) : Prop := (0 < k ∧ zero = true ∧ 0 < s.length) ∨ (k = 0 ∧ s.head? = some 48 ∧ 1 < s.length)
instance (k : Nat) (zero : Bool) (s : Bs) : Decidable (zB k zero s) := inferInstanceAs (Decidable (_ ∨ _))
theorem numL_spec (most : Int) : ∀ (D : Bs) (zero : Bool) (k : Nat) (n : Int), 0 ≤ n → n ≤ most →
    numL most zero k n D = if most < vl n (D.takeWhile digB) ∨ zB k zero (D.takeWhile digB) then .inl 4
      else if (D.takeWhile digB).length = D.length then .inl 12 else if k + (D.takeWhile digB).length = 0 then .inl 4 else .inr (vl n (D.takeWhile digB), k + (D.takeWhile digB).length)
  | [], zero, k, n, h0, h1 => by
    rw [if_neg (by rintro (h | h); (have : most < n := h); omega; rcases h with ⟨_, _, h⟩ | ⟨_, _, h⟩ <;> simp at h)]
    rfl
  | c :: t, zero, k, n, h0, h1 => by
    unfold numL
    cases hd : digB c with
    | true =>
      have hd9 := (digB_iff c).1 hd
      have htw : (c :: t).takeWhile digB = c :: t.takeWhile digB := by unfold List.takeWhile; rw [hd]; cases t <;> rfl
      rw [if_pos rfl, htw]
      obtain ⟨s, hs⟩ : ∃ s, t.takeWhile digB = s := ⟨_, rfl⟩
      have hall := tw_all t
      have hn' : n * 10 + ((c.toNat : Int) - 48) = 10 * n + ((c.toNat : Int) - 48) := by omega
      rw [hn']
      rw [hs] at hall ⊢
      have hv : vl n (c :: s) = vl (10 * n + ((c.toNat : Int) - 48)) s := rfl
      by_cases hbad : most < 10 * n + ((c.toNat : Int) - 48) ∨ (0 < k ∧ zero = true)
      · rw [if_pos hbad, if_pos]
        rcases hbad with h | h
        · left
          rw [hv]
          have := vl_ge s (10 * n + ((c.toNat : Int) - 48)) hall (by omega)
          omega
        · exact .inr (.inl ⟨h.1, h.2, by simp⟩)
      · have hb1 : ¬ most < 10 * n + ((c.toNat : Int) - 48) := fun h => hbad (.inl h)
        have hb2 : ¬ (0 < k ∧ zero = true) := fun h => hbad (.inr h)
        rw [if_neg hbad, numL_spec most t _ (k + 1) _ (by omega) (by omega), hs, ← hv]
        have hz : zB (k + 1) (if k = 0 then decide (c.toNat = 48) else zero) s ↔ zB k zero (c :: s) := by
          unfold zB
          by_cases hk : k = 0
          · subst hk
            simp only [if_true, List.head?_cons, List.length_cons]
            constructor
            · rintro (⟨_, h2, h3⟩ | ⟨h, _⟩)
              · exact .inr ⟨(by first | trivial | rfl), congrArg some (UInt8.toNat_inj.1 (by simpa using h2)), by omega⟩
              · omega
            · rintro (⟨h, _⟩ | ⟨_, h2, h3⟩)
              · omega
              · exact .inl ⟨by omega, by rw [Option.some.inj h2]; rfl, by omega⟩
          · rw [if_neg hk]
            constructor
            · rintro (⟨_, h2, _⟩ | ⟨h, _⟩)
              · exact absurd ⟨by omega, h2⟩ hb2
              · omega
            · rintro (⟨h1, h2, _⟩ | ⟨h, _⟩)
              · exact absurd ⟨h1, h2⟩ hb2
              · omega
        simp only [hz, List.length_cons, Nat.add_right_cancel_iff]
        by_cases h4 : most < vl n (c :: s) ∨ zB k zero (c :: s)
        · rw [if_pos h4, if_pos h4]
        · rw [if_neg h4, if_neg h4]
          by_cases h12 : s.length = t.length
          · rw [if_pos h12, if_pos h12]
          · rw [if_neg h12, if_neg h12, if_neg (by omega), if_neg (by omega), show k + 1 + s.length = k + (s.length + 1) from by omega]
    | false =>
      have htw : (c :: t).takeWhile digB = [] := by unfold List.takeWhile; rw [hd]
      have hz : ¬ (most < vl n [] ∨ zB k zero []) := by
        rintro (h | h)
        · have : most < n := h
          omega
        · rcases h with ⟨_, _, h⟩ | ⟨_, _, h⟩ <;> simp at h
      rw [htw, if_neg hz, if_neg (show ¬ ([] : Bs).length = (c :: t).length by simp)]
      simp only [Bool.false_eq_true, if_false, List.length_nil, Nat.add_zero]
      rfl
theorem few_digits {s : Bs} (h : s.all digB = true) (hm : ¬ 1048576 < vl 0 s) (hz : ¬ zB 0 false s) : s.length ≤ 7 := by
  rcases Nat.lt_or_ge 7 s.length with hl | hl
  · exfalso
    cases s with
    | nil => simp at hl
    | cons c t =>
      rw [List.all_cons, Bool.and_eq_true] at h
      have hd := (digB_iff c).1 h.1
      simp only [List.length_cons] at hl
      have h49 : (1 : Int) ≤ (c.toNat : Int) - 48 := by
        have : c.toNat ≠ 48 := fun e => hz (.inr ⟨rfl, congrArg some (UInt8.toNat_inj.1 e), by simp; omega⟩)
        omega
      have hp := vl_pow t ((c.toNat : Int) - 48) h.2 (by omega)
      have hv : vl 0 (c :: t) = vl ((c.toNat : Int) - 48) t := by
        show vl (10 * 0 + ((c.toNat : Int) - 48)) t = _
        rw [show (10 : Int) * 0 + ((c.toNat : Int) - 48) = (c.toNat : Int) - 48 from by omega]
      have h10 : (10 : Int) ^ 7 ≤ 10 ^ t.length := by
        have := Nat.pow_le_pow_right (n := 10) (by decide) (show 7 ≤ t.length by omega)
        have h2 : ((10 ^ 7 : Nat) : Int) ≤ ((10 ^ t.length : Nat) : Int) := Int.ofNat_le.mpr this
        rw [Int.natCast_pow, Int.natCast_pow] at h2
        exact h2
      have h1 : (10 : Int) ^ t.length ≤ ((c.toNat : Int) - 48) * 10 ^ t.length := by
        have := Int.mul_le_mul_of_nonneg_right (c := (10 : Int) ^ t.length) h49 (Int.pow_nonneg (by decide))
        rw [Int.one_mul] at this
        exact this
      have h7 : (10 : Int) ^ 7 = 10000000 := by decide
      rw [hv] at hm
      omega
  · exact hl
theorem num_ag {bs : Bs} {x5 y7 y8 : Ps} {n : Int} (hx : y7.2 ≤ bs.length) (h : Ag y7 x5) (hN : NumR bs 1048576 y7 y8 n) :
    Ag (needP bs crlf y8) (needP bs crlf (numP bs 1048576 x5).1) ∧ ((needP bs crlf y8).1 = 0 → n = (numP bs 1048576 x5).2) := by
  by_cases hy : y7.1 = 0
  · have e := h.2 hy
    subst e
    obtain ⟨e, i⟩ := y7
    dsimp only at hy hx
    subst hy
    unfold NumR at hN
    rw [if_neg (by simp)] at hN
    dsimp only at hN
    have hnum : numP bs 1048576 (0, i) = match numL 1048576 false 0 0 (bs.drop i) with | .inl e => ((e, i), 0) | .inr (n, k) => ((0, i + k), n) := by
      unfold numP
      rw [if_neg (by simp)]
      rfl
    rw [numL_spec 1048576 (bs.drop i) false 0 0 (by decide) (by decide)] at hnum
    have hDl : (bs.drop i).length = bs.length - i := List.length_drop
    have hu := untL_lead digB_13 7 (bs.drop i)
    rw [show 7 + 1 = 8 from rfl, lead_tw] at hu
    have hall := tw_all (bs.drop i)
    have hle := tw_len (bs.drop i)
    have htk : ∀ k, k = ((bs.drop i).takeWhile digB).length → (bs.drop i).take k = (bs.drop i).takeWhile digB := fun k hk => by
      subst hk
      exact (List.prefix_iff_eq_take.1 (List.takeWhile_prefix digB)).symm
    obtain ⟨s, hs⟩ : ∃ s, (bs.drop i).takeWhile digB = s := ⟨_, rfl⟩
    rw [hs] at hnum hu hall hle htk
    have hdv : decV s = vl 0 s := rfl
    by_cases h4 : (1048576 : Int) < vl 0 s ∨ zB 0 false s
    · rw [if_pos h4] at hnum
      dsimp only at hnum
      rw [hnum]
      dsimp only
      rw [need_ne (x := ((4 : Int), i)) (by simp)]
      have h84 : y8.1 = 4 := by
        cases hU : untL digB 7 (bs.drop i) with
        | none => rw [hU] at hN; exact hN
        | some k =>
          rw [hU] at hN
          dsimp only at hN
          have hk : s.length ≤ 7 ∧ k = s.length := by
            rw [hu] at hU
            split at hU
            · next hc =>
              have h8 : s.length ≤ 7 := by
                have := hc.1
                rw [List.length_take] at this
                omega
              rw [List.take_of_length_le (by omega)] at hU
              exact ⟨h8, (Option.some.inj hU).symm⟩
            · cases hU
          rw [htk k hk.2] at hN
          have hb : badN 1048576 s (decide (i + k < bs.length)) = true := by
            unfold badN
            rw [hdv]
            rcases h4 with h4 | (⟨h, _⟩ | ⟨_, h1, h2⟩)
            · rw [decide_eq_true h4]; simp
            · omega
            · rw [decide_eq_true h1, decide_eq_true h2]; rfl
          rw [hN.1, hb]; rfl
      rw [need_ne (x := y8) (by rw [h84]; decide)]
      exact ⟨.err h84 (by rw [h84]; decide), fun h => by rw [h84] at h; cases h⟩
    · rw [if_neg h4] at hnum
      have h7 := few_digits hall (fun h => h4 (.inl h)) (fun h => h4 (.inr h))
      rw [List.take_of_length_le (by omega)] at hu
      have hb1 : ∀ r, badN 1048576 s r = (s.isEmpty && r) := fun r => by
        unfold badN
        rw [hdv, decide_eq_false (fun h => h4 (.inl h))]
        have : (decide (1 < s.length) && decide (s.head? = some 48)) = false := by
          rw [Bool.eq_false_iff]
          intro e
          simp only [Bool.and_eq_true, decide_eq_true_eq] at e
          exact h4 (.inr (.inr ⟨rfl, e.2, e.1⟩))
        rw [this]; rfl
      by_cases h12 : s.length = (bs.drop i).length
      · rw [if_pos h12] at hnum
        dsimp only at hnum
        rw [if_pos ⟨h7, fun h => by omega⟩] at hu
        rw [hu] at hN
        dsimp only at hN
        rw [htk _ rfl, hb1, decide_eq_false (by omega), Bool.and_false, if_neg (by simp)] at hN
        rw [hnum, hN.1]
        dsimp only
        rw [need_end' (by omega) (by decide), need_ne (x := ((12 : Int), i)) (by simp)]
        exact ⟨.err rfl (by simp), fun h => by cases h⟩
      · rw [if_neg h12] at hnum
        have hlt : s.length < (bs.drop i).length := by omega
        by_cases h0 : s.length = 0
        · rw [if_pos (by omega)] at hnum
          dsimp only at hnum
          have hse : s = [] := List.length_eq_zero_iff.1 h0
          have h84 : y8.1 = 4 := by
            cases hU : untL digB 7 (bs.drop i) with
            | none => rw [hU] at hN; exact hN
            | some k =>
              rw [hU] at hN
              dsimp only at hN
              rw [hu] at hU
              split at hU
              · have hk := (Option.some.inj hU).symm
                rw [htk k hk, hb1, hse, decide_eq_true (by omega)] at hN
                rw [hN.1]; rfl
              · cases hU
          rw [hnum]
          dsimp only
          rw [need_ne (x := y8) (by rw [h84]; decide), need_ne (x := ((4 : Int), i)) (by simp)]
          exact ⟨.err h84 (by rw [h84]; decide), fun h => by rw [h84] at h; cases h⟩
        · rw [if_neg (by omega)] at hnum
          dsimp only at hnum
          rw [Nat.zero_add] at hnum
          rw [hnum]
          dsimp only
          by_cases h13 : (bs.drop i)[s.length].toNat = 13
          · rw [if_pos ⟨h7, fun _ => h13⟩] at hu
            rw [hu] at hN
            dsimp only at hN
            have hne : s.isEmpty = false := by cases s with | nil => (exact absurd rfl h0) | cons _ _ => rfl
            rw [htk _ rfl, hb1, hne, Bool.false_and, if_neg (by simp)] at hN
            rw [hN.1]
            exact ⟨.rfl, fun _ => hN.2⟩
          · have hno : needP bs crlf (0, i + s.length) = (4, i + s.length) := need_crlf_no (by omega) (by rw [List.getElem_drop] at h13; exact h13)
            have hU : untL digB 7 (bs.drop i) = none := by rw [hu, if_neg (fun hc => h13 (hc.2 hlt))]
            rw [hU] at hN
            have h84 : y8.1 = 4 := hN
            rw [hno, need_ne (x := y8) (by rw [h84]; decide)]
            exact ⟨.err h84 (by rw [h84]; decide), fun h => by rw [h84] at h; cases h⟩
  · have hn : numP bs 1048576 x5 = (x5, 0) := if_pos (h.1 ▸ hy)
    unfold NumR at hN
    rw [if_pos hy] at hN
    rw [hn, hN.1]
    exact ⟨h.need, fun _ => hN.2⟩
end Go.Proofs.YtdfgnoflohfnmaaGreatDoor.Hx

/-! HTTP: a response is read, as the document has it: the state of Read; what it comes to. -/
namespace Go.Proofs.YtdfgnoflohfnmaaGreatDoor.Hx
open Go.RowKit Go.Maps

/-- the status' digits, so far -/
def StR (bs : Bs) (x1 y2 : Ps) (v : Int) : Prop := Ag y2 (statP bs x1).1 ∧ (y2.1 = 0 → v = (statP bs x1).2)
/-- the type -/
def TyR (bs : Bs) (x3 y7 : Ps) (S : Bs) : Prop := Ag y7 (needP bs sLen (kindP bs x3).1) ∧ (y7.1 = 0 → S = (kindP bs x3).2)
/-- whether it closes -/
def ClR (bs : Bs) (x7 y11 : Ps) (cl : Bool) : Prop := Ag y11 (needP bs crlf (closeP bs x7).1) ∧ (y11.1 = 0 → cl = (closeP bs x7).2)
def X1 (bs : Bs) : Ps := needP bs sVers (0, 0)
def X3 (bs : Bs) : Ps := needP bs ([32] ++ reasonP (statP bs (X1 bs)).2 ++ crlf) (statP bs (X1 bs)).1
def X5 (bs : Bs) : Ps := needP bs sLen (kindP bs (X3 bs)).1
def X7 (bs : Bs) : Ps := needP bs crlf (numP bs 1048576 (X5 bs)).1
def X9 (bs : Bs) : Ps := needP bs crlf (closeP bs (X7 bs)).1
theorem read_X (bs : Bs) : readP bs = if (X9 bs).1 ≠ 0 then .inl (X9 bs).1 else if bs.length < (X9 bs).2 + (numP bs 1048576 (X5 bs)).2.toNat then .inl 12
  else .inr (⟨(statP bs (X1 bs)).2, (kindP bs (X3 bs)).2, (closeP bs (X7 bs)).2, (bs.drop (X9 bs).2).take (numP bs 1048576 (X5 bs)).2.toNat⟩, (X9 bs).2 + (numP bs 1048576 (X5 bs)).2.toNat) := rfl
/-- behind the reason -/
theorem reas_ag {bs : Bs} {y2 : Ps} {v : Int} (hi : y2.2 ≤ bs.length) (h : StR bs (X1 bs) y2 v) : Ag (needP bs ([32] ++ reasonP v ++ (crlf ++ sCont)) y2) (needP bs sCont (X3 bs)) ∧ ((X3 bs).1 = 0 → (X3 bs).2 ≤ bs.length) := by
  obtain ⟨h1, h2⟩ := h
  by_cases h0 : y2.1 = 0
  · have hv := h2 h0
    have he := h1.2 h0
    have e : X3 bs = needP bs ([32] ++ reasonP v ++ crlf) y2 := by unfold X3; rw [← hv, ← he]
    rw [e, show [32] ++ reasonP v ++ (crlf ++ sCont) = ([32] ++ reasonP v ++ crlf) ++ sCont from by simp]
    exact ⟨need_app hi, fun _ => need_le hi⟩
  · have hx : (statP bs (X1 bs)).1.1 ≠ 0 := h1.1 ▸ h0
    have e : X3 bs = (statP bs (X1 bs)).1 := need_ne hx
    rw [e, need_ne h0, need_ne hx]
    exact ⟨h1, fun h => absurd h hx⟩
/-- all of it -/
theorem rd_fin {bs : Bs} {y2 y7 y8 y11 : Ps} {v n : Int} {S : Bs} {cl : Bool} (hs : StR bs (X1 bs) y2 v) (ht : TyR bs (X3 bs) y7 S) (h7 : y7.2 ≤ bs.length) (hn : NumR bs 1048576 y7 y8 n) (hc : ClR bs (X7 bs) y11 cl) :
    readP bs = (if y11.1 ≠ 0 then .inl y11.1 else if bs.length < y11.2 + n.toNat then .inl 12 else .inr (⟨v, S, cl, (bs.drop y11.2).take n.toNat⟩, y11.2 + n.toNat)) ∧ (y11.1 = 0 → 0 ≤ n ∧ n ≤ 1048576 ∧ bs ≠ []) := by
  have hnum := num_ag h7 ht.1 hn
  obtain ⟨hst1, hst2⟩ := hs
  obtain ⟨hty1, hty2⟩ := ht
  obtain ⟨hcl1, hcl2⟩ := hc
  have hcl1 : Ag y11 (X9 bs) := hcl1
  rw [read_X]
  by_cases h0 : y11.1 = 0
  · have e9 : (X9 bs).1 = 0 := hcl1.1 ▸ h0
    have e8 := need_keep (show (needP bs crlf (closeP bs (X7 bs)).1).1 = 0 from e9)
    have e7 := close_keep e8
    have e6 := need_keep (show (needP bs crlf (numP bs 1048576 (X5 bs)).1).1 = 0 from e7)
    have e5 := num_keep e6
    have e4 := need_keep (show (needP bs sLen (kindP bs (X3 bs)).1).1 = 0 from e5)
    have e3 := kind_keep e4
    have e2 := need_keep (show (needP bs ([32] ++ reasonP (statP bs (X1 bs)).2 ++ crlf) (statP bs (X1 bs)).1).1 = 0 from e3)
    have e1 := stat_keep e2
    have hv := hst2 (hst1.1.trans e2)
    have hS := hty2 (hty1.1.trans e5)
    have hnn : n = (numP bs 1048576 (X5 bs)).2 := hnum.2 (hnum.1.1.trans e7)
    have hcc := hcl2 h0
    have hy := hcl1.2 h0
    have hne : bs ≠ [] := by
      rintro rfl
      revert e1
      decide
    have hN : 0 ≤ n ∧ n ≤ 1048576 := by
      rw [hnn]
      have h5 : (X5 bs).1 = 0 := e5
      have hh := e6
      change (numP bs 1048576 (X5 bs)).1.1 = 0 at hh
      show 0 ≤ (numP bs 1048576 (X5 bs)).2 ∧ (numP bs 1048576 (X5 bs)).2 ≤ 1048576
      unfold numP at hh ⊢
      rw [if_neg (fun h => h h5)] at hh ⊢
      cases hq : numL 1048576 false 0 0 (bs.drop (X5 bs).2) with
      | inl e => exact ⟨Int.le_refl 0, show (0 : Int) ≤ 1048576 from by decide⟩
      | inr p =>
        obtain ⟨m, j⟩ := p
        have := numL_le _ _ _ _ _ _ _ hq (by decide) (.inl rfl)
        exact ⟨this.1, this.2⟩
    refine ⟨?_, fun _ => ⟨hN.1, hN.2, hne⟩⟩
    rw [if_neg (show ¬ (X9 bs).1 ≠ 0 from fun h => h e9), if_neg (show ¬ y11.1 ≠ 0 from fun h => h h0), ← hy, ← hv, ← hS, ← hcc, ← hnn]
  · have e9 : (X9 bs).1 ≠ 0 := hcl1.1 ▸ h0
    refine ⟨?_, fun h => absurd h h0⟩
    rw [if_pos e9, if_pos h0, hcl1.1]
/-- the state of Read: the result's block, the reader's, the response's -/
structure RX (w : World) (bw : Value) (bs : Bs) (W : World) (y : Ps) (st : Int) (T : ByteArray) (cl : Bool) : Prop where
  gb : w.grownBy W none
  z : PF W w.heap.size 0 ⟨#[]⟩ false (.slice none 0 0)
  d : DD W (w.heap.size + 1) bw bs y
  o : PF W (w.heap.size + 1 + 1) st T cl (.slice none 0 0)
section
variable {w W W' : World} {bw : Value} {bs : Bs} {y y' : Ps} {st st' : Int} {T T' : ByteArray} {cl cl' : Bool}
theorem RX.same (h : RX w bw bs W y st T cl) (hg : W.grownBy W' none) : RX w bw bs W' y st T cl := ⟨gb_trans h.gb hg, h.z.kept hg (by simp), h.d.gb hg, h.o.kept hg (by simp)⟩
theorem RX.step (h : RX w bw bs W y st T cl) (hd : DD W' (w.heap.size + 1) bw bs y') (hg : W.grownBy W' (some (w.heap.size + 1))) : RX w bw bs W' y' st T cl :=
  ⟨gb_new h.gb hg (by omega), h.z.kept hg (by intro e; have := Option.some.inj e; omega), hd, h.o.kept hg (by intro e; have := Option.some.inj e; omega)⟩
theorem RX.oset (h : RX w bw bs W y st T cl) (hb : BV w bw bs) (ho : PF W' (w.heap.size + 1 + 1) st' T' cl' (.slice none 0 0)) (hg : W.grownBy W' (some (w.heap.size + 1 + 1))) : RX w bw bs W' y st' T' cl' := by
  have gb := gb_new h.gb hg (by omega)
  exact ⟨gb, h.z.kept hg (by intro e; have := Option.some.inj e; omega), ⟨.old hb gb (by omega), h.d.k.kept hg (by intro e; have := Option.some.inj e; omega), h.d.i⟩, ho⟩
theorem RX.set0 (h : RX w bw bs W y st T cl) (hb : BV w bw bs) (u : Int) : RX w bw bs (W.setCell ⟨w.heap.size + 1 + 1, 0, none⟩ (.int .i64 u)) y u T cl := h.oset hb (h.o.set0 u) (gb_setR (gb_refl _ _) _ _)
theorem RX.set1 (h : RX w bw bs W y st T cl) (hb : BV w bw bs) (u : ByteArray) : RX w bw bs (W.setCell ⟨w.heap.size + 1 + 1, 1, none⟩ (.string u)) y st u cl := h.oset hb (h.o.set1 u) (gb_setR (gb_refl _ _) _ _)
theorem RX.set2 (h : RX w bw bs W y st T cl) (hb : BV w bw bs) (u : Bool) : RX w bw bs (W.setCell ⟨w.heap.size + 1 + 1, 2, none⟩ (.bool u)) y st T u := h.oset hb (h.o.set2 u) (gb_setR (gb_refl _ _) _ _)
/-- the reader's own cells turned -/
theorem RX.at_ (h : RX w bw bs W y st T cl) (j : Nat) (hj : j ≤ bs.length) : RX w bw bs (W.setCell ⟨w.heap.size + 1, 1, none⟩ (.int .i64 (j : Nat))) (y.1, j) st T cl :=
  h.step (h.d.kept (h.d.k.set1 j) (gb_setR (gb_refl _ _) _ _) hj) (gb_setR (gb_refl _ _) _ _)
theorem RX.err (h : RX w bw bs W y st T cl) (e : Int) : RX w bw bs (W.setCell ⟨w.heap.size + 1, 2, none⟩ (.int .i64 e)) (e, y.2) st T cl :=
  h.step (h.d.kept (h.d.k.set2 e) (gb_setR (gb_refl _ _) _ _) h.d.i) (gb_setR (gb_refl _ _) _ _)
theorem must_q (h : RX w bw bs W y st T cl) (hl : bs.length ≤ 2000000) (s : ByteArray) (hs : s.size ≤ 10000) :
    Calls Tryz.prog 56 #[.pointer (some ⟨w.heap.size + 1, 0, none⟩), .string s] W fun e w' => e = .returned (.tuple #[]) ∧ RX w bw bs w' (needP bs s.data.toList y) st T cl := by
  refine (must_any _ bw bs y s W h.d hl hs).mono ?_
  rintro e w' ⟨rfl, hk, hg⟩
  exact ⟨rfl, h.step hk hg⟩
theorem until_q (h : RX w bw bs W y st T cl) (hl : bs.length ≤ 2000000) (hb0 : y.1 = 0 → bs ≠ []) :
    Calls Tryz.prog 57 #[.pointer (some ⟨w.heap.size + 1, 0, none⟩), .int .i64 4096, .int .u8 32, .int .u8 126] W fun e w' => ∃ V z, e = .returned (.string V) ∧ RX w bw bs w' z st T cl ∧
      (y.1 ≠ 0 → z = y ∧ V = ⟨#[]⟩) ∧ (y.1 = 0 → match untL prB 4096 (bs.drop y.2) with | none => z.1 = 4 | some k => z = (0, y.2 + k) ∧ V.data.toList = (bs.drop y.2).take k) := by
  have hp : rg2 32 126 = prB := by funext c; unfold rg2 prB; congr 1 <;> (rw [decide_eq_decide]; omega)
  refine (until_any _ bw bs y 4096 32 126 W h.d hb0 hl (by decide)).mono ?_
  intro e w' hk
  unfold UnK at hk
  rw [hp] at hk
  by_cases h0 : y.1 = 0
  · rw [if_neg (fun h => h h0)] at hk
    cases hu : untL prB 4096 (bs.drop y.2) with
    | none =>
      rw [hu] at hk
      obtain ⟨i', _, rfl, hd, hg⟩ := hk
      exact ⟨_, _, rfl, h.step hd hg, fun h => absurd h0 h, fun _ => rfl⟩
    | some k =>
      rw [hu] at hk
      obtain ⟨rfl, hd, hg⟩ := hk
      exact ⟨_, _, rfl, h.step hd hg, fun h => absurd h0 h, fun _ => ⟨rfl, btx_list _⟩⟩
  · rw [if_pos h0] at hk
    obtain ⟨rfl, hd, hg⟩ := hk
    exact ⟨_, _, rfl, h.step hd hg, fun _ => ⟨rfl, rfl⟩, fun h => absurd h h0⟩
theorem number_q (h : RX w bw bs W y st T cl) (hl : bs.length ≤ 2000000) (hb0 : y.1 = 0 → bs ≠ []) :
    Calls Tryz.prog 58 #[.pointer (some ⟨w.heap.size + 1, 0, none⟩), .int .i64 1048576] W fun e w' => ∃ n z, e = .returned (.int .i64 n) ∧ RX w bw bs w' z st T cl ∧ NumR bs 1048576 y z n := by
  refine (rnumber_any _ bw bs y 1048576 W h.d hb0 hl).mono ?_
  rintro e w' ⟨z, v, rfl, hd, hg, hn⟩
  exact ⟨v, z, rfl, h.step hd hg, hn⟩
end
end Go.Proofs.YtdfgnoflohfnmaaGreatDoor.Hx

/-! HTTP: a response is read, as the document has it: Read, walked: its facts. -/
namespace Go.Proofs.YtdfgnoflohfnmaaGreatDoor.Hx
open Go.RowKit Go.Maps

abbrev pRd (bw : Value) : Obj := .cells #[bw, .int .i64 0, .int .i64 0] 94
theorem RX.start {w : World} {bw : Value} {bs : Bs} (hb : BV w bw bs) : RX w bw bs (((w.alloc pO0).alloc (pRd bw)).alloc pO0) (0, 0) 0 ⟨#[]⟩ false := by
  have g1 : w.grownBy (w.alloc pO0) none := gb_alloc (gb_refl _ _) _
  have g2 : (w.alloc pO0).grownBy ((w.alloc pO0).alloc (pRd bw)) none := gb_alloc (gb_refl _ _) _
  have g3 : ((w.alloc pO0).alloc (pRd bw)).grownBy (((w.alloc pO0).alloc (pRd bw)).alloc pO0) none := gb_alloc (gb_refl _ _) _
  have g := gb_trans (gb_trans g1 g2) g3
  have hz : PF (w.alloc pO0) w.heap.size 0 ⟨#[]⟩ false (.slice none 0 0) := heap_alloc_new _ _
  have hk : DT ((w.alloc pO0).alloc (pRd bw)) (w.heap.size + 1) bw (0, 0) := by
    have := heap_alloc_new (w.alloc pO0) (pRd bw)
    rw [show (w.alloc pO0).heap.size = w.heap.size + 1 by simp] at this
    exact this
  have ho : PF (((w.alloc pO0).alloc (pRd bw)).alloc pO0) (w.heap.size + 1 + 1) 0 ⟨#[]⟩ false (.slice none 0 0) := by
    have := heap_alloc_new ((w.alloc pO0).alloc (pRd bw)) pO0
    rw [show ((w.alloc pO0).alloc (pRd bw)).heap.size = w.heap.size + 1 + 1 by simp] at this
    exact this
  exact ⟨g, (hz.kept g2 (by simp)).kept g3 (by simp), ⟨.old hb g (by omega), hk.kept g3 (by simp), Nat.zero_le _⟩, ho⟩
/-- the status' digits: what stands so far -/
structure SI (bs : Bs) (i k : Nat) (v : Int) : Prop where
  d : ∀ j (hj : j < (bs.drop i).length), j < k → stB j (bs.drop i)[j] = true
  ev : v = decV ((bs.drop i).take k)
  k3 : k ≤ 3
  kl : i + k ≤ bs.length
  lo : 0 ≤ v
  h0 : k = 0 → v = 0
  h1 : k ≤ 1 → v ≤ 9
  h2 : k ≤ 2 → v ≤ 99
  h3 : v ≤ 999
theorem SI.start {bs : Bs} {i : Nat} (hi : i ≤ bs.length) : SI bs i 0 0 := ⟨fun _ _ h => absurd h (Nat.not_lt_zero _), by simp [decV], by omega, hi, by omega, fun _ => rfl, fun _ => by omega, fun _ => by omega, by omega⟩
theorem dec_snoc (l : Bs) (c : UInt8) : decV (l ++ [c]) = 10 * decV l + ((c.toNat : Int) - 48) := by
  unfold decV
  rw [List.foldl_append]
  simp only [List.foldl_cons, List.foldl_nil]
theorem SI.next {bs : Bs} {i k : Nat} {v : Int} (h : SI bs i k v) (hk : k < 3) (hl : i + k < bs.length) (hc : stB k bs[i + k] = true) : SI bs i (k + 1) (10 * v + ((bs[i + k].toNat : Int) - 48)) := by
  have hD : (bs.drop i).length = bs.length - i := List.length_drop
  have hkD : k < (bs.drop i).length := by omega
  have e : (bs.drop i)[k] = bs[i + k] := by rw [List.getElem_drop]
  have hd : digB bs[i + k] = true := by unfold stB at hc; rw [Bool.and_eq_true] at hc; exact hc.1
  have := (digB_iff' _).1 hd
  have a1 := h.lo
  have a2 := h.h0
  have a3 := h.h1
  have a4 := h.h2
  refine ⟨fun j hj hlt => ?_, ?_, by omega, by omega, by omega, by omega, by omega, by omega, by omega⟩
  · rcases Nat.lt_succ_iff_lt_or_eq.mp hlt with h1 | h1
    · exact h.d j hj h1
    · subst h1; rw [e]; exact hc
  · rw [List.take_succ_eq_append_getElem hkD, dec_snoc, e, ← h.ev]
theorem SI.fin {bs : Bs} {i : Nat} {v : Int} (h : SI bs i 3 v) : statP bs (0, i) = ((0, i + 3), v) := by
  have hD : (bs.drop i).length = bs.length - i := List.length_drop
  have := h.kl
  obtain ⟨e, _⟩ := st_good (D := bs.drop i) (by omega) h.d
  rw [← h.ev] at e
  exact stat_good e
theorem SI.more {bs : Bs} {i k : Nat} {v : Int} (h : SI bs i k v) (hk : k < 3) (hl : bs.length ≤ i + k) : statP bs (0, i) = ((12, i), 0) := by
  have hD : (bs.drop i).length = bs.length - i := List.length_drop
  exact stat_of (st_more hk (by omega) h.d)
theorem SI.bad {bs : Bs} {i k : Nat} {v : Int} (h : SI bs i k v) (hk : k < 3) (hl : i + k < bs.length) (hc : stB k bs[i + k] = false) : statP bs (0, i) = ((4, i), 0) := by
  have hD : (bs.drop i).length = bs.length - i := List.length_drop
  have hkD : k < (bs.drop i).length := by omega
  have e : (bs.drop i)[k] = bs[i + k] := by rw [List.getElem_drop]
  exact stat_of (st_bad hk hkD h.d (by rw [e]; exact hc))
theorem StR.of {bs : Bs} {x1 x2 y : Ps} {v u : Int} (h : statP bs x1 = (x2, u)) (ha : Ag y x2) (hv : y.1 = 0 → v = u) : StR bs x1 y v := by unfold StR; rw [h]; exact ⟨ha, hv⟩
theorem need_text2 (v : Int) : ∃ (RS T1 T2 : ByteArray), RS = ⟨(reasonP v).toArray⟩ ∧ (∀ W, (Op.stringOp .add ⟨#[32]⟩ RS).run Tryz.prog W = .ok (.string T1) W) ∧ (∀ W, (Op.stringOp .add T1 ⟨#[13, 10, 67, 111, 110, 116, 101, 110, 116, 45]⟩).run Tryz.prog W = .ok (.string T2) W) ∧ T2.data.toList = [32] ++ reasonP v ++ (crlf ++ sCont) ∧ T2.size ≤ 10000 := by
  have hR := reason_len v
  have hRs : (⟨(reasonP v).toArray⟩ : ByteArray).size ≤ 30 := hR
  have h1 : ((⟨#[32]⟩ : ByteArray) ++ ⟨(reasonP v).toArray⟩).size ≤ 31 := by rw [app_size]; have : (⟨#[32]⟩ : ByteArray).size = 1 := rfl; omega
  have h2 : ((⟨#[32]⟩ : ByteArray) ++ ⟨(reasonP v).toArray⟩ ++ ⟨#[13, 10, 67, 111, 110, 116, 101, 110, 116, 45]⟩).size ≤ 41 := by rw [app_size]; have : (⟨#[13, 10, 67, 111, 110, 116, 101, 110, 116, 45]⟩ : ByteArray).size = 10 := rfl; omega
  exact ⟨_, _, _, rfl, fun W => add_any _ _ (by decide) (by omega) W, fun W => add_any _ _ (by omega) (by decide) W, by rw [app_list, app_list]; rfl, by omega⟩
theorem ba_nil {V : ByteArray} (h : V.data.toList = []) : V = ⟨#[]⟩ := ByteArray.ext (Array.toList_inj.1 h)
/-- the type's middle -/
theorem type_mid {bs : Bs} {x3 y3 z : Ps} {V : ByteArray} (hx : x3.1 = 0 → x3.2 ≤ bs.length) (h3 : Ag y3 (needP bs sCont x3)) (hT : nextB bs y3 84)
    (h1 : (needP bs sTy6 y3).1 ≠ 0 → z = needP bs sTy6 y3 ∧ V = ⟨#[]⟩)
    (h2 : (needP bs sTy6 y3).1 = 0 → match untL prB 4096 (bs.drop (needP bs sTy6 y3).2) with | none => z.1 = 4 | some k => z = (0, (needP bs sTy6 y3).2 + k) ∧ V.data.toList = (bs.drop (needP bs sTy6 y3).2).take k) :
    (z.1 ≠ 0 ∧ TyR bs x3 (needP bs sLe8 (needP bs (crlf ++ sCont) z)) V.data.toList) ∨
    (z.1 = 0 ∧ V = ⟨#[]⟩ ∧ z.2 < bs.length ∧ TyR bs x3 (needP bs sLe8 (needP bs (crlf ++ sCont) (4, z.2))) V.data.toList) ∨
    (z.1 = 0 ∧ (V = ⟨#[]⟩ → bs.length ≤ z.2) ∧ TyR bs x3 (needP bs sLe8 (needP bs (crlf ++ sCont) z)) V.data.toList) := by
  obtain ⟨t1, t2⟩ := type_yes hx h3 hT
  obtain ⟨y4, hy4⟩ : ∃ y, needP bs sTy6 y3 = y := ⟨_, rfl⟩
  rw [hy4] at h1 h2 t1 t2
  by_cases h0 : y4.1 = 0
  · have h2 := h2 h0
    have t2 := t2 h0
    cases hu : untL prB 4096 (bs.drop y4.2) with
    | none =>
      rw [hu] at h2 t2
      dsimp only at h2 t2
      left
      have hz : z.1 ≠ 0 := by omega
      refine ⟨hz, ?_⟩
      rw [need_ne (s := crlf ++ sCont) hz, need_ne hz]
      exact ⟨.err (by omega) hz, fun h => absurd h hz⟩
    | some k =>
      rw [hu] at h2 t2
      dsimp only at h2 t2
      obtain ⟨rfl, hV⟩ := h2
      right
      by_cases hk : k = 0 ∧ y4.2 < bs.length
      · rw [if_pos hk] at t2
        obtain ⟨rfl, hk2⟩ := hk
        left
        refine ⟨rfl, ba_nil (by rw [hV, List.take_zero]), hk2, ?_⟩
        have h4 : ((4, y4.2 + 0) : Ps).1 ≠ 0 := by simp
        rw [need_ne (s := crlf ++ sCont) h4, need_ne h4]
        exact ⟨.err t2.symm h4, fun h => absurd h h4⟩
      · rw [if_neg hk] at t2
        right
        refine ⟨rfl, fun e => ?_, t2.1, fun _ => by rw [hV, t2.2]⟩
        rw [e] at hV
        have hl : ((bs.drop y4.2).take k).length = 0 := by rw [← hV]; rfl
        rw [List.length_take, List.length_drop] at hl
        dsimp only
        rcases Nat.lt_or_ge y4.2 bs.length with h | h
        · have : k ≠ 0 := fun e => hk ⟨e, h⟩
          omega
        · omega
  · obtain ⟨rfl, rfl⟩ := h1 h0
    left
    refine ⟨h0, ?_⟩
    rw [need_ne (s := crlf ++ sCont) h0, need_ne h0]
    exact ⟨.err (t1 h0).symm h0, fun h => absurd h h0⟩
theorem need_nil {s : Bs} {x : Ps} (hs : s ≠ []) : (needP [] s x).1 ≠ 0 := by
  unfold needP
  split
  · assumption
  · cases s with
    | nil => exact absurd rfl hs
    | cons a t => simp
theorem RX.far {w W W' : World} {bw : Value} {bs : Bs} {y : Ps} {st : Int} {T : ByteArray} {cl : Bool} (h : RX w bw bs W y st T cl) (hb : BV w bw bs) {K : Nat} (hg : W.grownBy W' (some K)) (hK : w.heap.size + 1 + 1 < K) : RX w bw bs W' y st T cl := by
  have gb := gb_new h.gb hg (by omega)
  exact ⟨gb, h.z.kept hg (by intro e; have := Option.some.inj e; omega), ⟨.old hb gb (by omega), h.d.k.kept hg (by intro e; have := Option.some.inj e; omega), h.d.i⟩, h.o.kept hg (by intro e; have := Option.some.inj e; omega)⟩
theorem BF.emp (w : World) : BF (w.alloc (.cells #[] 5)) (.slice (some ⟨w.heap.size, 0, none⟩) 0 0) w.heap.size [] := .inr ⟨0, 0, #[], rfl, Nat.le_refl _, by decide, heap_alloc_new _ _, Nat.le_refl _, rfl⟩
/-- the body stands, ahead of the return -/
structure RB2 (w : World) (bw : Value) (wx : World) (i : Nat) (v : Int) (S : ByteArray) (cl : Bool) (A2 : Option Addr) (n c2 b2 : Nat) (body : Bs) : Prop where
  bf : BF wx (.slice A2 n c2) b2 body
  b2 : w.heap.size + 1 + 1 < b2
  z : PF wx w.heap.size 0 ⟨#[]⟩ false (.slice none 0 0)
  d : DT wx (w.heap.size + 1) bw (0, i)
  o : PF wx (w.heap.size + 1 + 1) v S cl (.slice A2 n c2)
  gb : w.grownBy wx none
theorem RB2.of {w W : World} {bw : Value} {bs : Bs} {i : Nat} {v : Int} {S : ByteArray} {cl : Bool} {A2 : Option Addr} {n c2 b2 : Nat} {body : Bs} (h : RX w bw bs W (0, i) v S cl) (hbf : BF W (.slice A2 n c2) b2 body) (hb2 : w.heap.size + 1 + 1 < b2) :
    RB2 w bw (W.setCell ⟨w.heap.size + 1 + 1, 3, none⟩ (.slice A2 n c2)) i v S cl A2 n c2 b2 body := by
  have hg := gb_setR (gb_refl W (some (w.heap.size + 1 + 1))) 3 (.slice A2 n c2)
  exact ⟨bf_set hbf (by omega) 3 _, hb2, h.z.kept hg (by intro e; have := Option.some.inj e; omega), h.d.k.kept hg (by intro e; have := Option.some.inj e; omega), h.o.set3 _, gb_new h.gb hg (by omega)⟩
end Go.Proofs.YtdfgnoflohfnmaaGreatDoor.Hx
