/- HTTP: a response is read: the program's Read. -/
import Derived.Test.YtdfgnoflohfnmaaGreatDoorBg
import Derived.Test.YtdfgnoflohfnmaaGreatDoorHq
namespace Go.Proofs.YtdfgnoflohfnmaaGreatDoor.Hx
open Go.RowKit Go.Maps

theorem digB_iff' (c : UInt8) : digB c = true ↔ (48 : Int) ≤ (c.toNat : Int) ∧ (c.toNat : Int) ≤ 57 := by unfold digB; simp; omega
abbrev resp0 : Value := .agg #[.int .i64 0, .string ⟨#[]⟩, .bool false, .slice none 0 0]
abbrev pO0 : Obj := .cells #[.int .i64 0, .string ⟨#[]⟩, .bool false, .slice none 0 0] 44 (0, 0)
section
variable {w w' : World} {X : Nat} {st : Int} {ty : ByteArray} {cl : Bool} {bv : Value}
theorem PF.f (h : PF w X st ty cl bv) (i : Nat) : w.frozen? ⟨X, i, none⟩ = false := by unfold PF at h; simp [World.frozen?, h]
theorem PF.lt (h : PF w X st ty cl bv) : X < w.heap.size := (Array.getElem?_eq_some_iff.1 h).1
theorem PF.set0 (h : PF w X st ty cl bv) (u : Int) : PF (w.setCell ⟨X, 0, none⟩ (.int .i64 u)) X u ty cl bv := by unfold PF at h ⊢; simp [World.setCell, Array.getElem?_modify, h]
theorem PF.set1 (h : PF w X st ty cl bv) (u : ByteArray) : PF (w.setCell ⟨X, 1, none⟩ (.string u)) X st u cl bv := by unfold PF at h ⊢; simp [World.setCell, Array.getElem?_modify, h]
theorem PF.set2 (h : PF w X st ty cl bv) (u : Bool) : PF (w.setCell ⟨X, 2, none⟩ (.bool u)) X st ty u bv := by unfold PF at h ⊢; simp [World.setCell, Array.getElem?_modify, h]
theorem PF.set3 (h : PF w X st ty cl bv) (u : Value) : PF (w.setCell ⟨X, 3, none⟩ u) X st ty cl u := by unfold PF at h ⊢; simp [World.setCell, Array.getElem?_modify, h]
end
theorem KB.old {w W : World} {R : Nat} {bw : Value} {bs : Bs} (h : BV w bw bs) (hg : w.grownBy W none) (hR : w.heap.size ≤ R) : KB W R bw bs := by
  obtain ⟨A, c, e, hc, hx⟩ := h
  by_cases h0 : bs = []
  · subst h0; exact .inl ⟨A, c, e, rfl⟩
  · obtain ⟨b, o, rfl, hb⟩ := hx h0
    exact .inr ⟨b, o, c, e, hc, by have := hb.lt h0; omega, h0, hb.grown hg (by simp)⟩
/-- the state of Read: the result's box, the taker, where it stands -/
structure RQ (w : World) (bw : Value) (bs : Bs) (W : World) (x : Ps) (st : Int) (T : ByteArray) (cl : Bool) : Prop where
  gb : w.grownBy W none
  z : PF W w.heap.size st T cl (.slice none 0 0)
  k : ∃ j, (x.1 = 0 → j = x.2) ∧ j ≤ bs.length ∧ KT W (w.heap.size + 1) bw (x.1, j)
section
variable {w W W' : World} {bw : Value} {bs : Bs} {x y : Ps} {st : Int} {T : ByteArray} {cl : Bool}
theorem RQ.kx (h : RQ w bw bs W x st T cl) (hb : BV w bw bs) : ∃ j, (x.1 = 0 → j = x.2) ∧ KD W (w.heap.size + 1) bw bs (x.1, j) := by
  obtain ⟨j, h1, h2, h3⟩ := h.k
  exact ⟨j, h1, .old hb h.gb (by omega), h3, h2⟩
theorem RQ.kd (h : RQ w bw bs W x st T cl) (hb : BV w bw bs) (h0 : x.1 = 0) : KD W (w.heap.size + 1) bw bs x := by
  obtain ⟨j, h1, h2⟩ := h.kx hb
  obtain ⟨e, i⟩ := x
  have := h1 h0
  dsimp only at this h2
  rw [← this]; exact h2
theorem RQ.c2 (h : RQ w bw bs W x st T cl) : W.cell? ⟨w.heap.size + 1, 2, none⟩ = some (.int .i64 x.1) := by
  obtain ⟨j, _, _, h3⟩ := h.k
  exact h3.c2
theorem RQ.step (h : RQ w bw bs W x st T cl) (hk : KX W' (w.heap.size + 1) bw bs y) (hg : W.grownBy W' (some (w.heap.size + 1))) : RQ w bw bs W' y st T cl := by
  obtain ⟨j, h1, h2⟩ := hk
  exact ⟨gb_new h.gb hg (by omega), h.z.kept hg (by intro e; have := Option.some.inj e; omega), j, h1, h2.i, h2.k⟩
theorem RQ.same (h : RQ w bw bs W x st T cl) (hg : W.grownBy W' none) : RQ w bw bs W' x st T cl := by
  obtain ⟨j, h1, h2, h3⟩ := h.k
  exact ⟨gb_trans h.gb hg, h.z.kept hg (by simp), j, h1, h2, h3.kept hg (by simp)⟩
theorem RQ.zset {st' : Int} {T' : ByteArray} {cl' : Bool} (h : RQ w bw bs W x st T cl) (hz : PF W' w.heap.size st' T' cl' (.slice none 0 0)) (hg : W.grownBy W' (some w.heap.size)) : RQ w bw bs W' x st' T' cl' := by
  obtain ⟨j, h1, h2, h3⟩ := h.k
  exact ⟨gb_new h.gb hg (Nat.le_refl _), hz, j, h1, h2, h3.kept hg (by intro e; have := Option.some.inj e; omega)⟩
theorem RQ.zset0 (h : RQ w bw bs W x st T cl) (u : Int) : RQ w bw bs (W.setCell ⟨w.heap.size, 0, none⟩ (.int .i64 u)) x u T cl := h.zset (h.z.set0 u) (gb_setR (gb_refl _ _) _ _)
theorem RQ.zset1 (h : RQ w bw bs W x st T cl) (u : ByteArray) : RQ w bw bs (W.setCell ⟨w.heap.size, 1, none⟩ (.string u)) x st u cl := h.zset (h.z.set1 u) (gb_setR (gb_refl _ _) _ _)
theorem RQ.zset2 (h : RQ w bw bs W x st T cl) (u : Bool) : RQ w bw bs (W.setCell ⟨w.heap.size, 2, none⟩ (.bool u)) x st T u := h.zset (h.z.set2 u) (gb_setR (gb_refl _ _) _ _)
theorem RQ.at_ (h : RQ w bw bs W x st T cl) (h0 : x.1 = 0) (j : Nat) (hj : j ≤ bs.length) : RQ w bw bs (W.setCell ⟨w.heap.size + 1, 1, none⟩ (.int .i64 (j : Nat))) (0, j) st T cl := by
  obtain ⟨i, h1, h2, h3⟩ := h.k
  rw [h0] at h3
  have hg := gb_setR (gb_refl W (some (w.heap.size + 1))) 1 (.int .i64 (j : Nat))
  exact ⟨gb_new h.gb hg (by omega), h.z.kept hg (by intro e; have := Option.some.inj e; omega), j, fun _ => rfl, hj, h3.set1 j⟩
theorem beg_q (h : RQ w bw bs W x st T cl) (hb : BV w bw bs) (hl : bs.length ≤ 2000000) (h0 : x.1 = 0) (s : ByteArray) (hs0 : 0 < s.size) (hs : s.size ≤ 1000) :
    Calls Tryz.prog 54 #[.pointer (some ⟨w.heap.size + 1, 0, none⟩), .string s] W fun e w' => e = .returned (.tuple #[.bool (isP s.data.toList (bs.drop x.2)), .bool (moreP s.data.toList (bs.drop x.2))]) ∧ W.grownBy w' none := begins_any _ bw bs x s W (h.kd hb h0) hl hs0 hs
/-- the calls, one by one -/
theorem need_q (h : RQ w bw bs W x st T cl) (hb : BV w bw bs) (hl : bs.length ≤ 2000000) (s : ByteArray) (hs0 : 0 < s.size) (hs : s.size ≤ 1000) :
    Calls Tryz.prog 50 #[.pointer (some ⟨w.heap.size + 1, 0, none⟩), .string s] W fun e w' => e = .returned (.tuple #[]) ∧ RQ w bw bs w' (needP bs s.data.toList x) st T cl := by
  by_cases h0 : x.1 = 0
  · refine (need_any _ bw bs x s W (h.kd hb h0) hl hs0 hs).mono ?_
    rintro e w' ⟨rfl, hk, hg⟩
    exact ⟨rfl, h.step hk.x hg⟩
  · obtain ⟨j, h1, h2⟩ := h.kx hb
    refine (need_any _ bw bs (x.1, j) s W h2 hl hs0 hs).mono ?_
    rintro e w' ⟨rfl, hk, hg⟩
    rw [need_err h0] at hk
    have e2 : needP bs s.data.toList x = x := need_err h0
    rw [e2]
    exact ⟨rfl, h.step ⟨j, fun h => absurd h h0, hk⟩ hg⟩
theorem stat_q (h : RQ w bw bs W x st T cl) (hb : BV w bw bs) (hl : bs.length ≤ 2000000) :
    Calls Tryz.prog 51 #[.pointer (some ⟨w.heap.size + 1, 0, none⟩)] W fun e w' => e = .returned (.int .i64 (statP bs x).2) ∧ RQ w bw bs w' (statP bs x).1 st T cl := by
  by_cases h0 : x.1 = 0
  · refine (status_any _ bw bs x W (h.kd hb h0) hl).mono ?_
    rintro e w' ⟨rfl, hk, hg⟩
    exact ⟨rfl, h.step hk.x hg⟩
  · obtain ⟨j, h1, h2⟩ := h.kx hb
    refine (status_any _ bw bs (x.1, j) W h2 hl).mono ?_
    rintro e w' ⟨rfl, hk, hg⟩
    have e1 : statP bs (x.1, j) = ((x.1, j), 0) := if_pos h0
    have e2 : statP bs x = (x, 0) := if_pos h0
    rw [e1] at hk
    rw [e1, e2]
    exact ⟨rfl, h.step ⟨j, fun h => absurd h h0, hk⟩ hg⟩
theorem kind_q (h : RQ w bw bs W x st T cl) (hb : BV w bw bs) (hl : bs.length ≤ 2000000) :
    Calls Tryz.prog 52 #[.pointer (some ⟨w.heap.size + 1, 0, none⟩)] W fun e w' => ∃ S : ByteArray, e = .returned (.string S) ∧ ((kindP bs x).1.1 = 0 → S.data.toList = (kindP bs x).2) ∧ RQ w bw bs w' (kindP bs x).1 st T cl := by
  by_cases h0 : x.1 = 0
  · refine (kind_any _ bw bs x W (h.kd hb h0) hl).mono ?_
    rintro e w' ⟨S, rfl, h1, hk, hg⟩
    exact ⟨S, rfl, h1, h.step hk hg⟩
  · obtain ⟨j, h1, h2⟩ := h.kx hb
    refine (kind_any _ bw bs (x.1, j) W h2 hl).mono ?_
    rintro e w' ⟨S, rfl, h3, hk, hg⟩
    rw [kind_skip h0] at hk h3
    have e2 : kindP bs x = (x, []) := kind_skip (e := x.1) (i := x.2) h0
    rw [e2]
    obtain ⟨j', _, h5⟩ := hk
    exact ⟨S, rfl, fun h => absurd h h0, h.step ⟨j', fun h => absurd h h0, h5⟩ hg⟩
theorem num_q (h : RQ w bw bs W x st T cl) (hb : BV w bw bs) (hl : bs.length ≤ 2000000) :
    Calls Tryz.prog 53 #[.pointer (some ⟨w.heap.size + 1, 0, none⟩), .int .i64 0, .int .i64 1048576] W fun e w' => ∃ v : Int, e = .returned (.int .i64 v) ∧ ((numP bs 1048576 x).1.1 = 0 → v = (numP bs 1048576 x).2) ∧ RQ w bw bs w' (numP bs 1048576 x).1 st T cl := by
  by_cases h0 : x.1 = 0
  · refine (number_any _ bw bs x W (h.kd hb h0) hl).mono ?_
    rintro e w' ⟨v, rfl, h1, hk, hg⟩
    exact ⟨v, rfl, h1, h.step hk hg⟩
  · obtain ⟨j, h1, h2⟩ := h.kx hb
    refine (number_any _ bw bs (x.1, j) W h2 hl).mono ?_
    rintro e w' ⟨v, rfl, h3, hk, hg⟩
    have e1 : numP bs 1048576 (x.1, j) = ((x.1, j), 0) := if_pos h0
    have e2 : numP bs 1048576 x = (x, 0) := if_pos h0
    rw [e1] at hk
    rw [e2]
    obtain ⟨j', _, h5⟩ := hk
    exact ⟨v, rfl, fun h => absurd h h0, h.step ⟨j', fun h => absurd h h0, h5⟩ hg⟩
theorem fail_q (h : RQ w bw bs W x st T cl) (e0 : Int) (hx : x.1 = 0) (he : e0 ≠ 0) :
    Calls Tryz.prog 55 #[.pointer (some ⟨w.heap.size + 1, 0, none⟩), .int .i64 e0] W fun e w' => e = .returned (.tuple #[]) ∧ RQ w bw bs w' (e0, x.2) st T cl := by
  obtain ⟨j, h1, h2, h3⟩ := h.k
  refine (fail_any _ bw (x.1, j) e0 W h3).mono ?_
  rintro e w' ⟨rfl, hk, hg⟩
  rw [show failP (x.1, j) e0 = (e0, j) from if_pos hx] at hk
  exact ⟨rfl, gb_new h.gb hg (by omega), h.z.kept hg (by intro e; have := Option.some.inj e; omega), j, fun h => absurd h he, h2, hk⟩
end
theorem close_skip {bs : Bs} {x : Ps} (h : x.1 ≠ 0) : closeP bs x = (x, false) := by unfold closeP; rw [if_pos h]
theorem read_eqv (bs : Bs) : readP bs =
    let x1 := needP bs sVers (0, 0)
    let x2 := statP bs x1
    let x3 := needP bs ([32] ++ reasonP x2.2 ++ crlf) x2.1
    let x4 := kindP bs x3
    let x5 := needP bs sLen x4.1
    let x6 := numP bs 1048576 x5
    let x7 := needP bs crlf x6.1
    let x8 := closeP bs x7
    let x9 := needP bs crlf x8.1
    if x9.1 ≠ 0 then .inl x9.1 else if bs.length < x9.2 + x6.2.toNat then .inl 12 else .inr (⟨x2.2, x4.2, x8.2, (bs.drop x9.2).take x6.2.toNat⟩, x9.2 + x6.2.toNat) := rfl
theorem kind_keep {bs : Bs} {x : Ps} (h : (kindP bs x).1.1 = 0) : x.1 = 0 := by
  by_cases h0 : x.1 = 0
  · exact h0
  · have : kindP bs x = (x, []) := if_pos h0
    rw [this] at h; exact h
theorem num_keep {bs : Bs} {x : Ps} (h : (numP bs 1048576 x).1.1 = 0) : x.1 = 0 := by
  by_cases h0 : x.1 = 0
  · exact h0
  · have : numP bs 1048576 x = (x, 0) := if_pos h0
    rw [this] at h; exact h
theorem close_keep {bs : Bs} {x : Ps} (h : (closeP bs x).1.1 = 0) : x.1 = 0 := by
  by_cases h0 : x.1 = 0
  · exact h0
  · rw [close_skip h0] at h; exact h
theorem close_cases (bs : Bs) (i : Nat) : closeP bs (0, i) = if isP sClose (bs.drop i) then ((0, i + 19), true) else if moreP sClose (bs.drop i) && decide (i < bs.length) then ((12, i), false) else ((0, i), false) := by
  unfold closeP isP moreP
  rw [if_neg (by simp)]
  split
  · rfl
  · by_cases h : (bs.drop i).length < sClose.length ∧ (bs.drop i).isPrefixOf sClose = true ∧ i < bs.length
    · rw [if_pos h, if_pos (by simp only [Bool.and_eq_true, decide_eq_true_eq]; exact ⟨⟨h.1, h.2.1⟩, h.2.2⟩)]
    · rw [if_neg h, if_neg (by simp only [Bool.and_eq_true, decide_eq_true_eq]; exact fun e => h ⟨e.1.1, e.1.2, e.2⟩)]
/-- what all of it comes to -/
def finP (bs : Bs) (x9 : Ps) (N : Int) : Ps := if x9.1 = 0 ∧ bs.length < x9.2 + N.toNat then (12, x9.2) else x9
theorem read_fin {bs : Bs} {x1 x2 x3 x4 x5 x6 x7 x9 : Ps} {v2 N6 v6 : Int} {S4 : Bs} {ST : ByteArray} (hxx : needP bs sVers (0, 0) = x1 ∧ (statP bs x1).1 = x2 ∧ (statP bs x1).2 = v2 ∧ needP bs ([32] ++ reasonP v2 ++ crlf) x2 = x3 ∧ (kindP bs x3).1 = x4 ∧ (kindP bs x3).2 = S4 ∧ needP bs sLen x4 = x5 ∧ (numP bs 1048576 x5).1 = x6 ∧ (numP bs 1048576 x5).2 = N6 ∧ needP bs crlf x6 = x7)
    (hST : x4.1 = 0 → ST.data.toList = S4) (hv6 : x6.1 = 0 → v6 = N6) (h9 : needP bs crlf (closeP bs x7).1 = x9) :
    readP bs = if (finP bs x9 v6).1 ≠ 0 then .inl (finP bs x9 v6).1 else .inr (⟨v2, ST.data.toList, (closeP bs x7).2, (bs.drop x9.2).take v6.toNat⟩, x9.2 + v6.toNat) := by
  obtain ⟨h1, h2, h3, h4, h5, h6, h7, h8, h10, h11⟩ := hxx
  rw [read_eqv]
  dsimp only
  rw [h1, h2, h3, h4, h5, h6, h7, h8, h10, h11, h9]
  by_cases e9 : x9.1 = 0
  · have e8 := need_keep (show (needP bs crlf (closeP bs x7).1).1 = 0 by rw [h9]; exact e9)
    have e7 := close_keep e8
    have e6 := need_keep (show (needP bs crlf x6).1 = 0 by rw [h11]; exact e7)
    have e5 := num_keep (show (numP bs 1048576 x5).1.1 = 0 by rw [h8]; exact e6)
    have e4 := need_keep (show (needP bs sLen x4).1 = 0 by rw [h7]; exact e5)
    rw [hST e4, hv6 e6, if_neg (show ¬ x9.1 ≠ 0 from fun h => h e9)]
    by_cases hs : bs.length < x9.2 + N6.toNat
    · have hf : finP bs x9 N6 = (12, x9.2) := if_pos ⟨e9, hs⟩
      rw [if_pos hs, hf, if_pos (by simp)]
    · have hf : finP bs x9 N6 = x9 := if_neg (fun h => hs h.2)
      rw [if_neg hs, hf, if_neg (fun h => h e9)]
  · rw [if_pos e9]
    have hf : finP bs x9 v6 = x9 := if_neg (fun h => e9 h.1)
    rw [hf, if_pos e9]
abbrev set4 (W : World) (Z : Nat) (a b c d : Value) : World := (((W.setCell ⟨Z, 0, none⟩ a).setCell ⟨Z, 1, none⟩ b).setCell ⟨Z, 2, none⟩ c).setCell ⟨Z, 3, none⟩ d
theorem GT.set4 {W W' : World} {Z : Nat} {T : Nat → Prop} (h : GT W W' T) (hT : T Z) (a b c d : Value) : GT W (set4 W' Z a b c d) T := (((h.setL hT _ _).setL hT _ _).setL hT _ _).setL hT _ _
theorem PF.set4 {W : World} {Z : Nat} {st : Int} {ty : ByteArray} {cl : Bool} {bv : Value} (h : PF W Z st ty cl bv) (st' : Int) (ty' : ByteArray) (cl' : Bool) (bv' : Value) : PF (set4 W Z (.int .i64 st') (.string ty') (.bool cl') bv') Z st' ty' cl' bv' := by unfold PF at h ⊢; simp [World.setCell, Array.getElem?_modify, h]
theorem PF.drewN {W : World} {Z : Nat} {st : Int} {ty : ByteArray} {cl : Bool} {bv : Value} (h : PF W Z st ty cl bv) (n : Nat) : PF (W.drewN n) Z st ty cl bv := h.kept (row := none) (gb_drewN (gb_refl _ _) _) (by simp)
theorem PF.drewL {W : World} {Z : Nat} {st : Int} {ty : ByteArray} {cl : Bool} {bv : Value} (h : PF W Z st ty cl bv) : PF W.drew Z st ty cl bv := h
theorem gb_set4 {w W : World} {a b c d : Value} (h : w.grownBy W none) : w.grownBy (set4 W w.heap.size a b c d) none := gb_new h (gb_setR (gb_setR (gb_setR (gb_setR (gb_refl _ _) _ _) _ _) _ _) _ _) (Nat.le_refl _)
theorem numL_le (most : Int) : ∀ (l : Bs) (z : Bool) (k : Nat) (n m : Int) (j : Nat), numL most z k n l = .inr (m, j) → 0 ≤ n → (k = 0 ∨ n ≤ most) → 0 ≤ m ∧ m ≤ most := by
  intro l
  induction l with
  | nil => intro z k n m j h _ _; unfold numL at h; cases h
  | cons c t ih =>
    intro z k n m j h h0 h1
    unfold numL at h
    by_cases hd : digB c = true
    · rw [if_pos hd] at h
      have := (digB_iff' c).1 hd
      by_cases hb : most < n * 10 + ((c.toNat : Int) - 48) ∨ (0 < k ∧ z = true)
      · rw [if_pos hb] at h; cases h
      · rw [if_neg hb] at h
        exact ih _ _ _ _ _ h (by omega) (.inr (by omega))
    · rw [if_neg hd] at h
      by_cases hk : k = 0
      · rw [if_pos hk] at h; cases h
      · rw [if_neg hk] at h
        have e := Sum.inr.inj h
        have e1 : n = m := congrArg Prod.fst e
        rw [← e1]
        exact ⟨h0, h1.resolve_left hk⟩
theorem stat_keep {bs : Bs} {x : Ps} (h : (statP bs x).1.1 = 0) : x.1 = 0 := by
  by_cases h0 : x.1 = 0
  · exact h0
  · have : statP bs x = (x, 0) := if_pos h0
    rw [this] at h; exact h
theorem read_facts {bs : Bs} {x1 x2 x3 x4 x5 x6 x7 x9 : Ps} {v2 N6 v6 : Int} {S4 : Bs} (hxx : needP bs sVers (0, 0) = x1 ∧ (statP bs x1).1 = x2 ∧ (statP bs x1).2 = v2 ∧ needP bs ([32] ++ reasonP v2 ++ crlf) x2 = x3 ∧ (kindP bs x3).1 = x4 ∧ (kindP bs x3).2 = S4 ∧ needP bs sLen x4 = x5 ∧ (numP bs 1048576 x5).1 = x6 ∧ (numP bs 1048576 x5).2 = N6 ∧ needP bs crlf x6 = x7)
    (hv6 : x6.1 = 0 → v6 = N6) (h9 : needP bs crlf (closeP bs x7).1 = x9) : x9.1 = 0 → 0 ≤ v6 ∧ v6 ≤ 1048576 ∧ bs ≠ [] := by
  obtain ⟨h1, h2, h3, h4, h5, h6, h7, h8, h10, h11⟩ := hxx
  intro e9
  have e8 := need_keep (show (needP bs crlf (closeP bs x7).1).1 = 0 by rw [h9]; exact e9)
  have e7 := close_keep e8
  have e6 := need_keep (show (needP bs crlf x6).1 = 0 by rw [h11]; exact e7)
  have e5 := num_keep (show (numP bs 1048576 x5).1.1 = 0 by rw [h8]; exact e6)
  have e4 := need_keep (show (needP bs sLen x4).1 = 0 by rw [h7]; exact e5)
  have e3 := kind_keep (show (kindP bs x3).1.1 = 0 by rw [h5]; exact e4)
  have e2 := need_keep (show (needP bs ([32] ++ reasonP v2 ++ crlf) x2).1 = 0 by rw [h4]; exact e3)
  have e1 := stat_keep (show (statP bs x1).1.1 = 0 by rw [h2]; exact e2)
  have hb : bs ≠ [] := by
    rintro rfl
    rw [← h1] at e1
    revert e1
    decide
  rw [hv6 e6, ← h10]
  rw [← h8] at e6
  unfold numP at e6 ⊢
  rw [if_neg (fun h => h e5)] at e6 ⊢
  cases hn : numL 1048576 false 0 0 (bs.drop x5.2) with
  | inl e => exact ⟨Int.le_refl 0, show (0 : Int) ≤ 1048576 from by decide, hb⟩
  | inr p =>
    obtain ⟨m, j⟩ := p
    have := numL_le _ _ _ _ _ _ _ hn (by decide) (.inl rfl)
    exact ⟨this.1, this.2, hb⟩
/-- what Read leaves -/
def RdR (bs : Bs) (w : World) (e : Ending) (w' : World) : Prop := match readP bs with
  | .inl er => e = .returned (.tuple #[resp0, .int .i64 0, .int .i64 er]) ∧ w.grownBy w' none
  | .inr (r, n) => ∃ (T : ByteArray) (bv : Value), e = .returned (.tuple #[.agg #[.int .i64 r.st, .string T, .bool r.cl, bv], .int .i64 (n : Nat), .int .i64 0]) ∧ T.data.toList = r.ty ∧ BS w' (fun k => w.heap.size ≤ k) bv r.body ∧ w.grownBy w' none
theorem need_text (v : Int) : ∃ (RS T1 T2 : ByteArray), RS = ⟨(reasonP v).toArray⟩ ∧ (∀ W, (Op.stringOp .add ⟨#[32]⟩ RS).run Tryz.prog W = .ok (.string T1) W) ∧ (∀ W, (Op.stringOp .add T1 ⟨#[13, 10]⟩).run Tryz.prog W = .ok (.string T2) W) ∧ T2.data.toList = [32] ++ reasonP v ++ crlf ∧ 0 < T2.size ∧ T2.size ≤ 1000 := by
  have hR := reason_len v
  have hRs : (⟨(reasonP v).toArray⟩ : ByteArray).size ≤ 30 := hR
  have h1 : ((⟨#[32]⟩ : ByteArray) ++ ⟨(reasonP v).toArray⟩).size ≤ 31 := by rw [app_size]; have : (⟨#[32]⟩ : ByteArray).size = 1 := rfl; omega
  have h2 : ((⟨#[32]⟩ : ByteArray) ++ ⟨(reasonP v).toArray⟩ ++ ⟨#[13, 10]⟩).size ≤ 33 := by rw [app_size]; have : (⟨#[13, 10]⟩ : ByteArray).size = 2 := rfl; omega
  have h3 : 2 ≤ ((⟨#[32]⟩ : ByteArray) ++ ⟨(reasonP v).toArray⟩ ++ ⟨#[13, 10]⟩).size := by rw [app_size]; have : (⟨#[13, 10]⟩ : ByteArray).size = 2 := rfl; omega
  exact ⟨_, _, _, rfl, fun W => add_any _ _ (by decide) (by omega) W, fun W => add_any _ _ (by omega) (by decide) W, by rw [app_list, app_list]; rfl, by omega, by omega⟩
set_option maxRecDepth 100000 in
set_option maxHeartbeats 1600000 in
theorem read_any (bw : Value) (bs : Bs) (w : World) (hb : BV w bw bs) (hl : bs.length ≤ 2000000) :
    Calls Tryz.prog 25 #[bw] w (RdR bs w) := by
  obtain ⟨Ab, cb, rfl, hb⟩ : ∃ Ab cb, bw = .slice Ab bs.length cb ∧ BV w (.slice Ab bs.length cb) bs := by obtain ⟨A, c, e, h1, h2⟩ := hb; subst e; exact ⟨A, c, rfl, A, c, rfl, h1, h2⟩
  have g0 : w.grownBy (w.alloc pO0) none := gb_alloc (gb_refl _ _) _
  have hz0 : PF (w.alloc pO0) w.heap.size 0 ⟨#[]⟩ false (.slice none 0 0) := heap_alloc_new _ _
  have hs0 : (w.alloc pO0).heap.size = w.heap.size + 1 := by simp
  obtain ⟨wz, hwz⟩ : ∃ W, w.alloc pO0 = W := ⟨_, rfl⟩
  rw [hwz] at g0 hz0 hs0
  have hk0 : KT (wz.alloc (.cells #[.slice Ab bs.length cb, .int .i64 0, .int .i64 0] 86)) (w.heap.size + 1) (.slice Ab bs.length cb) (0, 0) := by
    have := heap_alloc_new wz (.cells #[.slice Ab bs.length cb, .int .i64 0, .int .i64 0] 86)
    rw [hs0] at this
    exact this
  have hq0 : RQ w (.slice Ab bs.length cb) bs (wz.alloc (.cells #[.slice Ab bs.length cb, .int .i64 0, .int .i64 0] 86)) (0, 0) 0 ⟨#[]⟩ false := ⟨gb_trans g0 (gb_alloc (gb_refl _ _) _), hz0.kept (row := none) (gb_alloc (gb_refl _ _) _) (by simp), 0, fun _ => rfl, Nat.zero_le _, hk0⟩
  have hq0h := Lib.hid hq0
  have hbh := Lib.hid hb
  obtain ⟨x1, hx1⟩ : ∃ x, needP bs sVers (0, 0) = x := ⟨_, rfl⟩
  obtain ⟨x2, hx2⟩ : ∃ x, (statP bs x1).1 = x := ⟨_, rfl⟩
  obtain ⟨v2, hv2⟩ : ∃ v, (statP bs x1).2 = v := ⟨_, rfl⟩
  obtain ⟨x3, hx3⟩ : ∃ x, needP bs ([32] ++ reasonP v2 ++ crlf) x2 = x := ⟨_, rfl⟩
  obtain ⟨x4, hx4⟩ : ∃ x, (kindP bs x3).1 = x := ⟨_, rfl⟩
  obtain ⟨S4, hS4⟩ : ∃ s, (kindP bs x3).2 = s := ⟨_, rfl⟩
  obtain ⟨x5, hx5⟩ : ∃ x, needP bs sLen x4 = x := ⟨_, rfl⟩
  obtain ⟨x6, hx6⟩ : ∃ x, (numP bs 1048576 x5).1 = x := ⟨_, rfl⟩
  obtain ⟨N6, hN6⟩ : ∃ n, (numP bs 1048576 x5).2 = n := ⟨_, rfl⟩
  obtain ⟨x7, hx7⟩ : ∃ x, needP bs crlf x6 = x := ⟨_, rfl⟩
  obtain ⟨RS, T1, T2, hRS, q1, q2, hT2, hT2a, hT2b⟩ := need_text v2
  have n1 : ∀ W, RQ w (.slice Ab bs.length cb) bs W (0, 0) 0 ⟨#[]⟩ false → Hid (Calls Tryz.prog 50 #[.pointer (some ⟨w.heap.size + 1, 0, none⟩), .string ⟨#[72, 84, 84, 80, 47, 49, 46, 49, 32]⟩] W fun e w' => e = .returned (.tuple #[]) ∧ RQ w (.slice Ab bs.length cb) bs w' x1 0 ⟨#[]⟩ false) := fun W h => Lib.hid (by rw [← hx1]; exact need_q h hb hl ⟨#[72, 84, 84, 80, 47, 49, 46, 49, 32]⟩ (by decide) (by decide))
  have n2 : ∀ W, RQ w (.slice Ab bs.length cb) bs W x1 0 ⟨#[]⟩ false → Hid (Calls Tryz.prog 51 #[.pointer (some ⟨w.heap.size + 1, 0, none⟩)] W fun e w' => e = .returned (.int .i64 v2) ∧ RQ w (.slice Ab bs.length cb) bs w' x2 0 ⟨#[]⟩ false) := fun W h => Lib.hid (by rw [← hx2, ← hv2]; exact stat_q h hb hl)
  have n3 : ∀ W, Hid (Calls Tryz.prog 30 #[.int .i64 v2] W fun e w' => e = .returned (.string RS) ∧ W.grownBy w' none) := fun W => Lib.hid (by rw [hRS]; exact reason_any v2 W)
  have n4 : ∀ W, RQ w (.slice Ab bs.length cb) bs W x2 v2 ⟨#[]⟩ false → Hid (Calls Tryz.prog 50 #[.pointer (some ⟨w.heap.size + 1, 0, none⟩), .string T2] W fun e w' => e = .returned (.tuple #[]) ∧ RQ w (.slice Ab bs.length cb) bs w' x3 v2 ⟨#[]⟩ false) := fun W h => Lib.hid (by rw [← hx3, ← hT2]; exact need_q h hb hl T2 hT2a hT2b)
  have n5 : ∀ W, RQ w (.slice Ab bs.length cb) bs W x3 v2 ⟨#[]⟩ false → Hid (Calls Tryz.prog 52 #[.pointer (some ⟨w.heap.size + 1, 0, none⟩)] W fun e w' => ∃ S : ByteArray, e = .returned (.string S) ∧ (x4.1 = 0 → S.data.toList = S4) ∧ RQ w (.slice Ab bs.length cb) bs w' x4 v2 ⟨#[]⟩ false) := fun W h => Lib.hid (by rw [← hx4, ← hS4]; exact kind_q h hb hl)
  have n6 : ∀ W T, RQ w (.slice Ab bs.length cb) bs W x4 v2 T false → Hid (Calls Tryz.prog 50 #[.pointer (some ⟨w.heap.size + 1, 0, none⟩), .string ⟨#[67, 111, 110, 116, 101, 110, 116, 45, 76, 101, 110, 103, 116, 104, 58, 32]⟩] W fun e w' => e = .returned (.tuple #[]) ∧ RQ w (.slice Ab bs.length cb) bs w' x5 v2 T false) := fun W T h => Lib.hid (by rw [← hx5]; exact need_q h hb hl ⟨#[67, 111, 110, 116, 101, 110, 116, 45, 76, 101, 110, 103, 116, 104, 58, 32]⟩ (by decide) (by decide))
  have n7 : ∀ W T, RQ w (.slice Ab bs.length cb) bs W x5 v2 T false → Hid (Calls Tryz.prog 53 #[.pointer (some ⟨w.heap.size + 1, 0, none⟩), .int .i64 0, .int .i64 1048576] W fun e w' => ∃ v : Int, e = .returned (.int .i64 v) ∧ (x6.1 = 0 → v = N6) ∧ RQ w (.slice Ab bs.length cb) bs w' x6 v2 T false) := fun W T h => Lib.hid (by rw [← hx6, ← hN6]; exact num_q h hb hl)
  have n8 : ∀ W T, RQ w (.slice Ab bs.length cb) bs W x6 v2 T false → Hid (Calls Tryz.prog 50 #[.pointer (some ⟨w.heap.size + 1, 0, none⟩), .string ⟨#[13, 10]⟩] W fun e w' => e = .returned (.tuple #[]) ∧ RQ w (.slice Ab bs.length cb) bs w' x7 v2 T false) := fun W T h => Lib.hid (by rw [← hx7]; exact need_q h hb hl ⟨#[13, 10]⟩ (by decide) (by decide))
  have hxx := Lib.hid (And.intro hx1 (And.intro hx2 (And.intro hv2 (And.intro hx3 (And.intro hx4 (And.intro hS4 (And.intro hx5 (And.intro hx6 (And.intro hN6 hx7)))))))))
  have hwzh := Lib.hid hwz
  clear hb hq0 hk0 g0 hz0 hx1 hx2 hv2 hx3 hx4 hS4 hx5 hx6 hN6 hx7 hRS hT2 hT2a hT2b
  go_enter Tryz.func25, Tryz.ntmps25
  go_upto_region 2 with fail
  clear hwz
  go_upto_if 37 with (first
    | (go_at_call 50; have hh := q6; clear hh; refine ((n8 _ _ q6.out).out).mono ?_; rintro e w7 ⟨rfl, q7⟩; have kc7 := q7.c2; replace q7 := Lib.hid q7)
    | (go_at_call 50; have hh := q4; clear hh; refine ((n6 _ _ q4.out).out).mono ?_; rintro e w5 ⟨rfl, q5⟩; replace q5 := Lib.hid q5)
    | (go_at_call 50; have hh := q2c; clear hh; refine ((n4 _ q2c.out).out).mono ?_; rintro e w3 ⟨rfl, q3⟩; replace q3 := Lib.hid q3)
    | (go_at_call 50; refine ((n1 _ hq0h.out).out).mono ?_; rintro e w1 ⟨rfl, q1a⟩; replace q1a := Lib.hid q1a)
    | (go_at_call 51; refine ((n2 _ q1a.out).out).mono ?_; rintro e w2 ⟨rfl, q2a⟩; have zf := q2a.z.f 0; have zc := q2a.z.c0; have q2b := q2a.zset0 v2; have yc := q2b.z.c0; replace q2b := Lib.hid q2b; clear q2a)
    | (go_at_call 30; refine ((n3 _).out).mono ?_; rintro e w2c ⟨rfl, g2⟩; have q2c := Lib.hid (q2b.out.same g2))
    | (go_at_call 52; refine ((n5 _ q3.out).out).mono ?_; rintro e w4 ⟨ST, rfl, hST, q4a⟩; have zf4 := q4a.z.f 1; have zc4 := q4a.z.c1; have q4 := Lib.hid (q4a.zset1 ST); replace hST := Lib.hid hST; clear q4a)
    | (go_at_call 53; refine ((n7 _ _ q5.out).out).mono ?_; rintro e w6 ⟨v6, rfl, hv6, q6⟩; replace q6 := Lib.hid q6; replace hv6 := Lib.hid hv6))
  clear n1 n2 n3 n4 n5 n6 n7 n8 q1 q2 hq0h
  obtain ⟨y8, c8, hy8⟩ : ∃ x c, closeP bs x7 = (x, c) := ⟨_, _, rfl⟩
  obtain ⟨y9, hy9⟩ : ∃ x, needP bs crlf y8 = x := ⟨_, rfl⟩
  have hfin := Lib.hid (read_fin hxx.out hST.out hv6.out (x9 := y9) (by rw [hy8]; exact hy9))
  rw [hy8] at hfin
  replace hy8 := Lib.hid hy8
  replace hy9 := Lib.hid hy9
  obtain ⟨b7, hb7⟩ : ∃ b : Bool, (x7.1 == 0) = b := ⟨_, rfl⟩
  rw [hb7]
  replace hb7 := Lib.hid hb7
  go_cut [7, 8] from 38 to 66 (fun u7 u8 wx => RQ w (.slice Ab bs.length cb) bs wx y8 v2 ST c8)
  case first =>
    clear kc7
    cases b7 with
    | true =>
      have h7 : x7.1 = 0 := by simpa using hb7.out
      have hcq := Lib.hid (show ∀ W, RQ w (.slice Ab bs.length cb) bs W x7 v2 ST false → Hid (Calls Tryz.prog 54 #[.pointer (some ⟨w.heap.size + 1, 0, none⟩), .string ⟨#[67, 111, 110, 110, 101, 99, 116, 105, 111, 110, 58, 32, 99, 108, 111, 115, 101, 13, 10]⟩] W fun e w' => e = .returned (.tuple #[.bool (isP sClose (bs.drop x7.2)), .bool (moreP sClose (bs.drop x7.2))]) ∧ W.grownBy w' none) from fun W h => Lib.hid (beg_q h hbh.out hl h7 ⟨#[67, 111, 110, 110, 101, 99, 116, 105, 111, 110, 58, 32, 99, 108, 111, 115, 101, 13, 10]⟩ (by decide) (by decide)))
      obtain ⟨e7, i⟩ := x7
      dsimp only at h7
      subst h7
      have hk := q7.out.kd hbh.out rfl
      have hi := hk.i
      have kc2 := hk.k.c2
      have kc1 := hk.k.c1
      dsimp only at hi kc2 kc1 hcq
      have hcq1 := Lib.hid (hcq.out _ q7.out)
      have hcc := Lib.hid (hy8.out.symm.trans (close_cases bs i))
      clear hcq hk
      cases hp : isP sClose (bs.drop i) with
      | true =>
        rw [hp] at hcq1 hcc
        have hi19 : i + 19 ≤ bs.length := by have := pre_len (show sClose.isPrefixOf (bs.drop i) = true from hp); rw [List.length_drop, show sClose.length = 19 from rfl] at this; omega
        rw [if_pos rfl] at hcc
        have hc1 : y8 = (0, i + 19) := congrArg Prod.fst hcc.out
        have hc2 : c8 = true := congrArg Prod.snd hcc.out
        subst hc1 hc2
        clear hcc hp
        go_wp2_with (first
          | (go_at_call 54; refine (hcq1.out.out).mono ?_; rintro e w8 ⟨rfl, g8⟩; have q8 := q7.out.same g8; have zf8 := q8.z.f 2; have zc8 := q8.z.c2; have q8b := q8.zset2 true; have hk8 := q8b.kd hbh.out rfl; have kc8 := hk8.k.c1; have kf8 := hk8.k.f 1; dsimp only at kc8; replace q8b := Lib.hid q8b; clear q8 hk8))
        go_meet
        rw [show ((i : Int) + 19) = ((i + 19 : Nat) : Int) from by omega]
        exact q8b.out.at_ rfl (i + 19) hi19
      | false =>
        rw [hp] at hcq1 hcc
        rw [if_neg (by decide)] at hcc
        clear hp
        cases hq : moreP sClose (bs.drop i) with
        | true =>
          rw [hq] at hcq1 hcc
          by_cases hs : i < bs.length
          · have hsI : (i : Int) < (bs.length : Int) := by omega
            rw [Bool.true_and, decide_eq_true hs, if_pos rfl] at hcc
            have hc1 : y8 = (12, i) := congrArg Prod.fst hcc.out
            have hc2 : c8 = false := congrArg Prod.snd hcc.out
            subst hc1 hc2
            clear hcc hq hs
            go_wp2_with (first
              | (go_at_call 54; refine (hcq1.out.out).mono ?_; rintro e w8 ⟨rfl, g8⟩; have q8 := q7.out.same g8; have zf8 := q8.z.f 2; have zc8 := q8.z.c2; have q8b := q8.zset2 false; have hk8 := q8b.kd hbh.out rfl; have kc8 := hk8.k.c1; dsimp only at kc8; replace q8b := Lib.hid q8b; have hfq := Lib.hid (fail_q q8b.out 12 rfl (by decide)); clear q8 hk8)
              | (go_at_call 55; refine (hfq.out).mono ?_; rintro e w9 ⟨rfl, q9⟩))
            go_meet
            exact q9
          · have hsI : ¬ (i : Int) < (bs.length : Int) := by omega
            rw [Bool.true_and, decide_eq_false hs, if_neg (by decide)] at hcc
            have hc1 : y8 = (0, i) := congrArg Prod.fst hcc.out
            have hc2 : c8 = false := congrArg Prod.snd hcc.out
            subst hc1 hc2
            clear hcc hq hs
            go_wp2_with (first
              | (go_at_call 54; refine (hcq1.out.out).mono ?_; rintro e w8 ⟨rfl, g8⟩; have q8 := q7.out.same g8; have zf8 := q8.z.f 2; have zc8 := q8.z.c2; have q8b := q8.zset2 false; have hk8 := q8b.kd hbh.out rfl; have kc8 := hk8.k.c1; dsimp only at kc8; replace q8b := Lib.hid q8b; clear q8 hk8))
            go_meet
            exact q8b.out
        | false =>
          rw [hq] at hcq1 hcc
          rw [Bool.false_and, if_neg (by decide)] at hcc
          have hc1 : y8 = (0, i) := congrArg Prod.fst hcc.out
          have hc2 : c8 = false := congrArg Prod.snd hcc.out
          subst hc1 hc2
          clear hcc hq
          go_wp2_with (first
            | (go_at_call 54; refine (hcq1.out.out).mono ?_; rintro e w8 ⟨rfl, g8⟩; have q8 := q7.out.same g8; have zf8 := q8.z.f 2; have zc8 := q8.z.c2; have q8b := q8.zset2 false; have hk8 := q8b.kd hbh.out rfl; have kc8 := hk8.k.c1; dsimp only at kc8; replace q8b := Lib.hid q8b; clear q8 hk8))
          go_meet
          exact q8b.out
    | false =>
      have h7 : x7.1 ≠ 0 := by simpa using hb7.out
      have hc := hy8.out.symm.trans (close_skip h7)
      have hc1 : y8 = x7 := congrArg Prod.fst hc
      have hc2 : c8 = false := congrArg Prod.snd hc
      subst hc1 hc2
      clear hc h7
      go_wp2_with fail
      go_meet
      exact q7.out
  case rest =>
  have n9 : Hid (Calls Tryz.prog 50 #[.pointer (some ⟨w.heap.size + 1, 0, none⟩), .string ⟨#[13, 10]⟩] wc fun e w' => e = .returned (.tuple #[]) ∧ RQ w (.slice Ab bs.length cb) bs w' y9 v2 ST c8) := Lib.hid (by rw [← hy9.out]; exact need_q hcut hbh.out hl ⟨#[13, 10]⟩ (by decide) (by decide))
  have hfact := Lib.hid (read_facts (x9 := y9) hxx.out hv6.out (by rw [hy8.out]; exact hy9.out))
  clear hcut hb7 hb hwzh hxx q1a q2b q2c q3 q4 q5 q6 q7 hST hv6 hy8 hy9 kc7 g2 zf zc yc zf4 zc4
  obtain ⟨e9, i9⟩ := y9
  dsimp only at hfact hfin
  by_cases he : e9 = 0
  · subst he
    obtain ⟨hv0, hv1, hbn⟩ := hfact.out rfl
    obtain ⟨n6, rfl⟩ : ∃ n : Nat, v6 = (n : Int) := ⟨v6.toNat, by omega⟩
    rw [Int.toNat_natCast] at hfin
    by_cases hs : bs.length < i9 + n6
    · have hr : readP bs = .inl 12 := by
        rw [hfin.out, show finP bs (0, i9) (n6 : Int) = (12, i9) from if_pos ⟨rfl, by rw [Int.toNat_natCast]; exact hs⟩]; rfl
      replace hr := Lib.hid hr
      clear hfin hfact hv0 hbn
      have hRn := hs
      have hsh := Lib.hid hs
      clear hs hRn
      go_wp2_with (first
        | (go_at_call 50; refine (n9.out).mono ?_; rintro e w9 ⟨rfl, q9⟩; have hk9 := q9.kd hbh.out rfl; have hi9 := hk9.i; have kc1 := hk9.k.c1; have kc2 := hk9.k.c2; dsimp only at kc1 kc2 hi9; have hsI : (bs.length : Int) - (i9 : Int) < (n6 : Int) := (by have := hsh.out; omega); have hw : wrap64 ((bs.length : Int) - (i9 : Int)) = (bs.length : Int) - (i9 : Int) := wrap64_id (by omega) (by omega); have hfq := Lib.hid (fail_q q9 12 rfl (by decide)); clear hk9 hi9 q9)
        | (go_at_call 55; refine (hfq.out).mono ?_; rintro e wF ⟨rfl, qF⟩; have kc := qF.c2; have zf := fun i => qF.z.f i; have z0 := qF.z.c0; have z1 := qF.z.c1; have z2 := qF.z.c2; have z3 := qF.z.c3; dsimp only at kc; replace qF := Lib.hid qF; clear kc1 kc2 hfq))
      go_region
      all_goals
        go_wp2_with fail
        have hz4 := (qF.out.z.set4 0 ⟨#[]⟩ false (.slice none 0 0)).drewL
        have y0 := hz4.c0
        have y1 := hz4.c1
        have y2 := hz4.c2
        have y3 := hz4.c3
        refine bodyPost_ret (v := .tuple #[resp0, .int .i64 0, .int .i64 12]) (by simp [results, Tryz.results25, go_sem, y0, y1, y2, y3]) rfl ?_
        unfold RdR
        rw [hr.out]
        exact ⟨rfl, gb_drew (gb_set4 qF.out.gb)⟩
    · have hr : readP bs = .inr (⟨v2, ST.data.toList, c8, (bs.drop i9).take n6⟩, i9 + n6) := by
        rw [hfin.out, show finP bs (0, i9) (n6 : Int) = (0, i9) from if_neg (fun h => hs (by have := h.2; rw [Int.toNat_natCast] at this; exact this))]; rfl
      replace hr := Lib.hid hr
      obtain ⟨A', c', e', hcb, hbx⟩ := hbh.out
      cases e'
      obtain ⟨b, o, rfl, hba⟩ := hbx hbn
      have hsh := Lib.hid hs
      have hbah := Lib.hid hba
      have hcbh := Lib.hid hcb
      have hlh := Lib.hid hl
      clear hfin hfact hv0 hbn hbx hs hba hcb
      go_upto_region 21 with (first
        | (go_at_call 50; refine (n9.out).mono ?_; rintro e w9 ⟨rfl, q9⟩; have hk9 := q9.kd hbh.out rfl; have hi9 := hk9.i; have kc1 := hk9.k.c1; have kc2 := hk9.k.c2; dsimp only at kc1 kc2 hi9; obtain ⟨hk', hw, hw2, hw3, i0, i1, hk2⟩ := body_nums hi9 hl hsh.out; replace hi9 := Lib.hid hi9; replace hk9 := Lib.hid hk9; replace q9 := Lib.hid q9))
      clear hk' hw kc2 n9
      have hkn : ((bs.drop i9).take n6).length = n6 := by rw [List.length_take, List.length_drop]; have := hsh.out; omega
      have hsub : ((i9 : Int) + (n6 : Int)).toNat - i9 = n6 := by omega
      have hR9 := hk9.out.k.lt
      have hba9 : BA w9 b o bs := hbah.out.grown q9.out.gb (by simp)
      replace hba9 := Lib.hid hba9
      by_cases hci : cb = i9
      · have hn0 : n6 = 0 := by have := hsh.out; have := hcbh.out; omega
        replace hn0 := Lib.hid hn0
        have hcl := fun (n : Nat) (W : World) (hW : W = w9.drewN n) => Lib.hid (clone_any (.slice (some ⟨b, o, none⟩) n6 0) ((bs.drop i9).take n6) W ⟨_, _, by rw [hkn], by rw [hkn, hn0.out]; exact Nat.le_refl _, fun h => absurd (List.eq_nil_of_length_eq_zero (by rw [hkn]; exact hn0.out)) h⟩ (by rw [hkn]; omega))
        have i2 : (bs.length : Int) ≤ (cb : Int) := by have := hcbh.out; omega
        have i3 : (i9 : Int) + (n6 : Int) ≤ (cb : Int) := by have := hsh.out; omega
        subst hci
        replace hsub := hsub
        go_cut [] from 97 to 110 (fun wx => ∃ (A2 : Option Addr) (c2 b2 : Nat), Hid (BF wx (.slice A2 n6 c2) b2 ((bs.drop cb).take n6)) ∧ w.heap.size + 2 ≤ b2 ∧ PF wx w.heap.size v2 ST c8 (.slice A2 n6 c2) ∧ w.grownBy wx none ∧ KT wx (w.heap.size + 1) (.slice (some ⟨b, o, none⟩) bs.length cb) (0, cb))
        case first =>
          go_region_with (first
            | (go_at_call 47; refine ((hcl _ _ rfl).out).mono ?_; rintro e w2 ⟨bv, b2, rfl, hv, hb2, g2⟩; obtain ⟨A2, c2, rfl, hc2⟩ := hv.shape; rw [hkn] at hv; have h2 := (q9.out.z.drewN _).kept g2 (by simp); have f3 := h2.f 3; have x3 := h2.c3; replace h2 := Lib.hid h2))
          all_goals
            have hb3 : w.heap.size + 2 ≤ b2 := by have : w9.heap.size ≤ b2 := by simpa using hb2
                                                  omega
            go_wp2_with fail
            go_meet
            have g9 := gb_trans (gb_drewN (gb_refl w9 none) _) g2
            refine ⟨A2, c2, b2, Lib.hid (bf_set hv (by omega) 3 _), hb3, h2.out.set3 _, gb_new (gb_trans q9.out.gb g9) (gb_setR (gb_refl _ (some w.heap.size)) 3 _) (Nat.le_refl _), ?_⟩
            exact (hk9.out.k.kept g9 (by simp)).kept (gb_setR (gb_refl _ (some w.heap.size)) 3 _) (by intro e; have := Option.some.inj e; omega)
        case rest =>
        obtain ⟨A2, c2, b2, hbf, hb2, hzx, gx, hkx⟩ := hcut
        have kc1x := hkx.c1
        have zf := fun i => hzx.f i
        have z0 := hzx.c0
        have z1 := hzx.c1
        have z2 := hzx.c2
        have z3 := hzx.c3
        dsimp only at kc1x
        replace hzx := Lib.hid hzx
        clear hkx kc1 hk9 q9 hcl
        go_wp2_with fail
        go_region
        all_goals
          go_wp2_with fail
          have hz4 := (hzx.out.set4 v2 ST c8 (.slice A2 n6 c2)).drewL
          have y0 := hz4.c0
          have y1 := hz4.c1
          have y2 := hz4.c2
          have y3 := hz4.c3
          refine bodyPost_ret (v := .tuple #[.agg #[.int .i64 v2, .string ST, .bool c8, .slice A2 n6 c2], .int .i64 ((cb : Int) + (n6 : Int)), .int .i64 0]) (by simp [results, Tryz.results25, go_sem, y0, y1, y2, y3]) rfl ?_
          unfold RdR
          rw [hr.out]
          refine ⟨ST, _, by rw [Int.natCast_add], rfl, BF.bs (b := b2) ?_ (fun _ => by omega), gb_drew (gb_set4 gx)⟩
          exact hbf.out.grown (gb_drew (gb_setR (gb_setR (gb_setR (gb_setR (gb_refl _ (some w.heap.size)) _ _) _ _) _ _) _ _)) (by intro e; have := Option.some.inj e; omega)
      · have hcl := fun (n : Nat) (W : World) (hW : W = w9.drewN n) => Lib.hid (clone_any (.slice (some ⟨b, o + i9, none⟩) n6 (cb - i9)) ((bs.drop i9).take n6) W ⟨_, _, by rw [hkn], by rw [hkn]; have := hsh.out; have := hcbh.out; omega, fun _ => ⟨b, o + i9, rfl, by subst hW; exact (hba9.out.drop i9).take n6⟩⟩ (by rw [hkn]; omega))
        have i2 : (bs.length : Int) ≤ (cb : Int) := by have := hcbh.out; omega
        have i3 : (i9 : Int) + (n6 : Int) ≤ (cb : Int) := by have := hsh.out; have := hcbh.out; omega
        go_cut [] from 97 to 110 (fun wx => ∃ (A2 : Option Addr) (c2 b2 : Nat), Hid (BF wx (.slice A2 n6 c2) b2 ((bs.drop i9).take n6)) ∧ w.heap.size + 2 ≤ b2 ∧ PF wx w.heap.size v2 ST c8 (.slice A2 n6 c2) ∧ w.grownBy wx none ∧ KT wx (w.heap.size + 1) (.slice (some ⟨b, o, none⟩) bs.length cb) (0, i9))
        case first =>
          go_region_with (first
            | (go_at_call 47; refine ((hcl _ _ rfl).out).mono ?_; rintro e w2 ⟨bv, b2, rfl, hv, hb2, g2⟩; obtain ⟨A2, c2, rfl, hc2⟩ := hv.shape; rw [hkn] at hv; have h2 := (q9.out.z.drewN _).kept g2 (by simp); have f3 := h2.f 3; have x3 := h2.c3; replace h2 := Lib.hid h2))
          all_goals
            have hb3 : w.heap.size + 2 ≤ b2 := by have : w9.heap.size ≤ b2 := by simpa using hb2
                                                  omega
            go_wp2_with fail
            go_meet
            have g9 := gb_trans (gb_drewN (gb_refl w9 none) _) g2
            refine ⟨A2, c2, b2, Lib.hid (bf_set hv (by omega) 3 _), hb3, h2.out.set3 _, gb_new (gb_trans q9.out.gb g9) (gb_setR (gb_refl _ (some w.heap.size)) 3 _) (Nat.le_refl _), ?_⟩
            exact (hk9.out.k.kept g9 (by simp)).kept (gb_setR (gb_refl _ (some w.heap.size)) 3 _) (by intro e; have := Option.some.inj e; omega)
        case rest =>
        obtain ⟨A2, c2, b2, hbf, hb2, hzx, gx, hkx⟩ := hcut
        have kc1x := hkx.c1
        have zf := fun i => hzx.f i
        have z0 := hzx.c0
        have z1 := hzx.c1
        have z2 := hzx.c2
        have z3 := hzx.c3
        dsimp only at kc1x
        replace hzx := Lib.hid hzx
        clear hkx kc1 hk9 q9 hcl
        go_wp2_with fail
        go_region
        all_goals
          go_wp2_with fail
          have hz4 := (hzx.out.set4 v2 ST c8 (.slice A2 n6 c2)).drewL
          have y0 := hz4.c0
          have y1 := hz4.c1
          have y2 := hz4.c2
          have y3 := hz4.c3
          refine bodyPost_ret (v := .tuple #[.agg #[.int .i64 v2, .string ST, .bool c8, .slice A2 n6 c2], .int .i64 ((i9 : Int) + (n6 : Int)), .int .i64 0]) (by simp [results, Tryz.results25, go_sem, y0, y1, y2, y3]) rfl ?_
          unfold RdR
          rw [hr.out]
          refine ⟨ST, _, by rw [Int.natCast_add], rfl, BF.bs (b := b2) ?_ (fun _ => by omega), gb_drew (gb_set4 gx)⟩
          exact hbf.out.grown (gb_drew (gb_setR (gb_setR (gb_setR (gb_setR (gb_refl _ (some w.heap.size)) _ _) _ _) _ _) _ _)) (by intro e; have := Option.some.inj e; omega)
  · have hr : readP bs = .inl e9 := by
      rw [hfin.out, show finP bs (e9, i9) v6 = (e9, i9) from if_neg (fun h => he h.1), if_pos he]
    replace hr := Lib.hid hr
    have hne : (e9 == 0) = false := by simpa using he
    clear hfin hfact
    go_wp2_with (first
      | (go_at_call 50; refine (n9.out).mono ?_; rintro e w9 ⟨rfl, qF⟩; have kc := qF.c2; have zf := fun i => qF.z.f i; have z0 := qF.z.c0; have z1 := qF.z.c1; have z2 := qF.z.c2; have z3 := qF.z.c3; dsimp only at kc; replace qF := Lib.hid qF))
    go_region
    all_goals
      go_wp2_with fail
      have hz4 := (qF.out.z.set4 0 ⟨#[]⟩ false (.slice none 0 0)).drewL
      have y0 := hz4.c0
      have y1 := hz4.c1
      have y2 := hz4.c2
      have y3 := hz4.c3
      refine bodyPost_ret (v := .tuple #[resp0, .int .i64 0, .int .i64 e9]) (by simp [results, Tryz.results25, go_sem, y0, y1, y2, y3]) rfl ?_
      unfold RdR
      rw [hr.out]
      exact ⟨rfl, gb_drew (gb_set4 qF.out.gb)⟩
end Go.Proofs.YtdfgnoflohfnmaaGreatDoor.Hx
