/- HTTP: a response is read: the taker's block; fail, begins, need. -/
import Derived.Test.YtdfgnoflohfnmaaGreatDoorBc
import Derived.Test.YtdfgnoflohfnmaaGreatDoorHq
import Derived.Test.YtdfgnoflohfnmaaGreatDoorHb
import Derived.Test.YtdfgnoflohfnmaaGreatDoorG1
import Derived.Deep.RegionHeld3
import Derived.BigQuiet
namespace Go.Proofs.YtdfgnoflohfnmaaGreatDoor.Hx
open Go.RowKit Go.Maps

/-- the taker's block: an error and a place -/
def KT (w : World) (R : Nat) (bw : Value) (x : Ps) : Prop := w.heap[R]? = some (.cells #[bw, .int .i64 (x.2 : Nat), .int .i64 x.1] 86 (0, 0))
section
variable {w w' : World} {R : Nat} {bw : Value} {x : Ps}
theorem KT.lt (h : KT w R bw x) : R < w.heap.size := (Array.getElem?_eq_some_iff.1 h).1
theorem KT.c0 (h : KT w R bw x) : w.cell? ⟨R, 0, none⟩ = some bw := by rw [cell_of_row w R 0 _ _ _ h]; rfl
theorem KT.c1 (h : KT w R bw x) : w.cell? ⟨R, 1, none⟩ = some (.int .i64 (x.2 : Nat)) := by rw [cell_of_row w R 1 _ _ _ h]; rfl
theorem KT.c2 (h : KT w R bw x) : w.cell? ⟨R, 2, none⟩ = some (.int .i64 x.1) := by rw [cell_of_row w R 2 _ _ _ h]; rfl
theorem KT.f (h : KT w R bw x) (i : Nat) : w.frozen? ⟨R, i, none⟩ = false := by unfold KT at h; simp [World.frozen?, h]
theorem KT.kept (h : KT w R bw x) {row : Option Nat} (hg : w.grownBy w' row) (hne : some R ≠ row) : KT w' R bw x := (hg.block R h.lt hne).trans h
theorem KT.set1 (h : KT w R bw x) (j : Nat) : KT (w.setCell ⟨R, 1, none⟩ (.int .i64 (j : Nat))) R bw (x.1, j) := by unfold KT at h ⊢; simp [World.setCell, Array.getElem?_modify, h]
theorem KT.set2 (h : KT w R bw x) (e : Int) : KT (w.setCell ⟨R, 2, none⟩ (.int .i64 e)) R bw (e, x.2) := by unfold KT at h ⊢; simp [World.setCell, Array.getElem?_modify, h]
end
/-- what a taker's call leaves -/
def KQ (R : Nat) (bw : Value) (w : World) (v : Value) (x : Ps) (e : Ending) (w' : World) : Prop := e = .returned v ∧ KT w' R bw x ∧ w.grownBy w' (some R)
def failP (x : Ps) (e : Int) : Ps := if x.1 = 0 then (e, x.2) else x
theorem fail_any (R : Nat) (bw : Value) (x : Ps) (e : Int) (w : World) (h : KT w R bw x) : Calls Tryz.prog 55 #[.pointer (some ⟨R, 0, none⟩), .int .i64 e] w (KQ R bw w (.tuple #[]) (failP x e)) := by
  have c2 := h.c2
  have f2 := h.f 2
  by_cases h0 : x.1 = 0
  · have e0 : (x.1 == 0) = true := by simp [h0]
    have hx := Lib.hid (show failP x e = (e, x.2) from if_pos h0)
    replace h := Lib.hid h
    clear h0
    go_enter Tryz.func55, Tryz.ntmps55
    go_wp2_with fail
    refine bodyPost_ret (v := .tuple #[]) (by simp [results, Tryz.results55, go_sem]) rfl ?_
    exact ⟨rfl, by rw [hx.out]; exact h.out.set2 e, gb_setR (gb_refl _ _) _ _⟩
  · have e0 : (x.1 == 0) = false := by simpa using h0
    have hx := Lib.hid (show failP x e = x from if_neg h0)
    replace h := Lib.hid h
    clear h0
    go_enter Tryz.func55, Tryz.ntmps55
    go_wp2_with fail
    refine bodyPost_ret (v := .tuple #[]) (by simp [results, Tryz.results55, go_sem]) rfl ?_
    exact ⟨rfl, by rw [hx.out]; exact h.out, gb_refl _ _⟩
/-- does a text stand next; may it yet? -/
def isP (s D : Bs) : Bool := s.isPrefixOf D
def moreP (s D : Bs) : Bool := decide (D.length < s.length) && D.isPrefixOf s
theorem pre_take : ∀ (s D : Bs), s.length ≤ D.length → s.isPrefixOf D = decide (D.take s.length = s)
  | [], D, _ => by simp
  | a :: s, [], h => by simp at h
  | a :: s, b :: D, h => by
    have := pre_take s D (by simpa using h)
    by_cases e : a = b
    · subst e; simp [List.isPrefixOf, this]
    · have e2 : ¬ b = a := fun h => e h.symm
      simp [List.isPrefixOf, e, e2]
theorem pre_short : ∀ (s D : Bs), D.length < s.length → s.isPrefixOf D = false
  | [], D, h => by simp at h
  | a :: s, [], _ => rfl
  | a :: s, b :: D, h => by
    have := pre_short s D (by simpa using h)
    simp [List.isPrefixOf, this]
theorem ba_dec (a b : ByteArray) : (a.toList == b.toList) = decide (a.data.toList = b.data.toList) := by rw [Lib.toList_data, Lib.toList_data, Bool.eq_iff_iff, beq_iff_eq, decide_eq_true_eq]
set_option maxRecDepth 100000 in
set_option maxHeartbeats 1600000 in
theorem begins_emp0 (R : Nat) (bw : Value) (bs : Bs) (x : Ps) (s : ByteArray) (w : World) (h : KT w R bw x) (hbw : bw = .slice none 0 0) (hb0 : bs = []) (hx0 : x.2 = 0) (hs0 : 0 < s.size) (hs : s.size ≤ 1000) :
    Calls Tryz.prog 54 #[.pointer (some ⟨R, 0, none⟩), .string s] w fun e w' => e = .returned (.tuple #[.bool (isP s.data.toList (bs.drop x.2)), .bool (moreP s.data.toList (bs.drop x.2))]) ∧ w.grownBy w' none := by
  obtain ⟨xe, i⟩ := x
  dsimp only at *
  subst hbw hb0 hx0
  have hD : ([] : Bs).drop 0 = [] := rfl
  rw [hD]
  have hr1 : isP s.data.toList [] = false := pre_short _ _ (by rw [← ba_size]; exact hs0)
  have hr2 : moreP s.data.toList [] = true := by unfold moreP; rw [decide_eq_true (by rw [← ba_size]; exact hs0)]; rfl
  rw [hr1, hr2]
  have c0 := h.c0
  have c1 := h.c1
  have hcv : ∀ W, (convert 22 9 (.slice none 0 0)).run Tryz.prog W = .ok (.string ⟨#[]⟩) W := fun W => BV.str (w := W) (bs := []) ⟨_, _, rfl, Nat.zero_le _, fun h => absurd rfl h⟩
  have he : ((s.extract 0 0).toList == (⟨#[]⟩ : ByteArray).toList) = true := by rw [ba_dec]; simp
  have hsI : (0 : Int) < (s.size : Int) := by omega
  clear hr1 hr2 hD h
  go_enter Tryz.func54, Tryz.ntmps54
  go_wp2_with fail
  go_quiet (fail)
  go_wp2_with fail
  go_quiet (fail)
  go_wp2_with fail
  refine bodyPost_ret (v := .tuple #[.bool false, .bool true]) (by simp [results, Tryz.results54, go_sem]) rfl ?_
  exact ⟨rfl, gb_drewN (gb_drewN (gb_refl _ _) _) _⟩
set_option maxRecDepth 100000 in
set_option maxHeartbeats 1600000 in
theorem begins_emp1 (R : Nat) (bw : Value) (bs : Bs) (x : Ps) (s : ByteArray) (w : World) (h : KT w R bw x) (c : Nat) (hc : 0 < c) (hbw : bw = .slice none 0 c) (hb0 : bs = []) (hx0 : x.2 = 0) (hs0 : 0 < s.size) (hs : s.size ≤ 1000) :
    Calls Tryz.prog 54 #[.pointer (some ⟨R, 0, none⟩), .string s] w fun e w' => e = .returned (.tuple #[.bool (isP s.data.toList (bs.drop x.2)), .bool (moreP s.data.toList (bs.drop x.2))]) ∧ w.grownBy w' none := by
  obtain ⟨xe, i⟩ := x
  dsimp only at *
  subst hbw hb0 hx0
  have hD : ([] : Bs).drop 0 = [] := rfl
  have hc0 : ¬ c = 0 := by omega
  rw [hD]
  have hr1 : isP s.data.toList [] = false := pre_short _ _ (by rw [← ba_size]; exact hs0)
  have hr2 : moreP s.data.toList [] = true := by unfold moreP; rw [decide_eq_true (by rw [← ba_size]; exact hs0)]; rfl
  rw [hr1, hr2]
  have c0 := h.c0
  have c1 := h.c1
  have hcv : ∀ W, (convert 22 9 (.slice none 0 c)).run Tryz.prog W = .ok (.string ⟨#[]⟩) W := fun W => BV.str (w := W) (bs := []) ⟨_, _, rfl, Nat.zero_le _, fun h => absurd rfl h⟩
  have he : ((s.extract 0 0).toList == (⟨#[]⟩ : ByteArray).toList) = true := by rw [ba_dec]; simp
  have hsI : (0 : Int) < (s.size : Int) := by omega
  clear hr1 hr2 hD h
  go_enter Tryz.func54, Tryz.ntmps54
  go_wp2_with fail
  go_quiet (fail)
  go_wp2_with fail
  go_quiet (fail)
  go_wp2_with fail
  refine bodyPost_ret (v := .tuple #[.bool false, .bool true]) (by simp [results, Tryz.results54, go_sem]) rfl ?_
  exact ⟨rfl, gb_drewN (gb_drewN (gb_refl _ _) _) _⟩
set_option maxRecDepth 100000 in
set_option maxHeartbeats 1600000 in
theorem begins_emp2 (R : Nat) (bw : Value) (bs : Bs) (x : Ps) (s : ByteArray) (w : World) (h : KT w R bw x) (a : Addr) (hbw : bw = .slice (some a) 0 0) (hb0 : bs = []) (hx0 : x.2 = 0) (hs0 : 0 < s.size) (hs : s.size ≤ 1000) :
    Calls Tryz.prog 54 #[.pointer (some ⟨R, 0, none⟩), .string s] w fun e w' => e = .returned (.tuple #[.bool (isP s.data.toList (bs.drop x.2)), .bool (moreP s.data.toList (bs.drop x.2))]) ∧ w.grownBy w' none := by
  obtain ⟨xe, i⟩ := x
  dsimp only at *
  subst hbw hb0 hx0
  have hD : ([] : Bs).drop 0 = [] := rfl
  rw [hD]
  have hr1 : isP s.data.toList [] = false := pre_short _ _ (by rw [← ba_size]; exact hs0)
  have hr2 : moreP s.data.toList [] = true := by unfold moreP; rw [decide_eq_true (by rw [← ba_size]; exact hs0)]; rfl
  rw [hr1, hr2]
  have c0 := h.c0
  have c1 := h.c1
  have hcv : ∀ W, (convert 22 9 (.slice (some a) 0 0)).run Tryz.prog W = .ok (.string ⟨#[]⟩) W := fun W => BV.str (w := W) (bs := []) ⟨_, _, rfl, Nat.zero_le _, fun h => absurd rfl h⟩
  have he : ((s.extract 0 0).toList == (⟨#[]⟩ : ByteArray).toList) = true := by rw [ba_dec]; simp
  have hsI : (0 : Int) < (s.size : Int) := by omega
  clear hr1 hr2 hD h
  go_enter Tryz.func54, Tryz.ntmps54
  go_wp2_with fail
  go_quiet (fail)
  go_wp2_with fail
  go_quiet (fail)
  go_wp2_with fail
  refine bodyPost_ret (v := .tuple #[.bool false, .bool true]) (by simp [results, Tryz.results54, go_sem]) rfl ?_
  exact ⟨rfl, gb_drewN (gb_drewN (gb_refl _ _) _) _⟩
set_option maxRecDepth 100000 in
set_option maxHeartbeats 1600000 in
theorem begins_emp3 (R : Nat) (bw : Value) (bs : Bs) (x : Ps) (s : ByteArray) (w : World) (h : KT w R bw x) (a : Addr) (c : Nat) (hc : 0 < c) (hbw : bw = .slice (some a) 0 c) (hb0 : bs = []) (hx0 : x.2 = 0) (hs0 : 0 < s.size) (hs : s.size ≤ 1000) :
    Calls Tryz.prog 54 #[.pointer (some ⟨R, 0, none⟩), .string s] w fun e w' => e = .returned (.tuple #[.bool (isP s.data.toList (bs.drop x.2)), .bool (moreP s.data.toList (bs.drop x.2))]) ∧ w.grownBy w' none := by
  obtain ⟨xe, i⟩ := x
  dsimp only at *
  subst hbw hb0 hx0
  have hD : ([] : Bs).drop 0 = [] := rfl
  have hc0 : ¬ c = 0 := by omega
  rw [hD]
  have hr1 : isP s.data.toList [] = false := pre_short _ _ (by rw [← ba_size]; exact hs0)
  have hr2 : moreP s.data.toList [] = true := by unfold moreP; rw [decide_eq_true (by rw [← ba_size]; exact hs0)]; rfl
  rw [hr1, hr2]
  have c0 := h.c0
  have c1 := h.c1
  have hcv : ∀ W, (convert 22 9 (.slice (some a) 0 c)).run Tryz.prog W = .ok (.string ⟨#[]⟩) W := fun W => BV.str (w := W) (bs := []) ⟨_, _, rfl, Nat.zero_le _, fun h => absurd rfl h⟩
  have he : ((s.extract 0 0).toList == (⟨#[]⟩ : ByteArray).toList) = true := by rw [ba_dec]; simp
  have hsI : (0 : Int) < (s.size : Int) := by omega
  clear hr1 hr2 hD h
  go_enter Tryz.func54, Tryz.ntmps54
  go_wp2_with fail
  go_quiet (fail)
  go_wp2_with fail
  go_quiet (fail)
  go_wp2_with fail
  refine bodyPost_ret (v := .tuple #[.bool false, .bool true]) (by simp [results, Tryz.results54, go_sem]) rfl ?_
  exact ⟨rfl, gb_drewN (gb_drewN (gb_refl _ _) _) _⟩
set_option maxRecDepth 100000 in
set_option maxHeartbeats 1600000 in
theorem begins_end (R : Nat) (bw : Value) (bs : Bs) (x : Ps) (s : ByteArray) (w : World) (b o c : Nat) (h : KT w R bw x) (hbw : bw = .slice (some ⟨b, o, none⟩) bs.length c) (hc : bs.length ≤ c) (hi : x.2 ≤ bs.length) (hl : bs.length ≤ 2000000) (hs0 : 0 < s.size) (hs : s.size ≤ 1000) (hci : c = x.2) :
    Calls Tryz.prog 54 #[.pointer (some ⟨R, 0, none⟩), .string s] w fun e w' => e = .returned (.tuple #[.bool (isP s.data.toList (bs.drop x.2)), .bool (moreP s.data.toList (bs.drop x.2))]) ∧ w.grownBy w' none := by
  obtain ⟨xe, i⟩ := x
  dsimp only at *
  subst hbw
  have hil : bs.length = i := by omega
  have hD : bs.drop i = [] := List.drop_eq_nil_of_le (by omega)
  have i0 : (0 : Int) ≤ (i : Int) := by omega
  have i1 : bs.length - i = 0 := by omega
  rw [hD]
  have hr1 : isP s.data.toList [] = false := pre_short _ _ (by rw [← ba_size]; exact hs0)
  have hr2 : moreP s.data.toList [] = true := by unfold moreP; rw [decide_eq_true (by rw [← ba_size]; exact hs0)]; rfl
  rw [hr1, hr2]
  have c0 := h.c0
  have c1 := h.c1
  have hcv : ∀ W, (convert 22 9 (.slice (some ⟨b, o, none⟩) 0 0)).run Tryz.prog W = .ok (.string ⟨#[]⟩) W := fun W => BV.str (w := W) (bs := []) ⟨_, _, rfl, Nat.zero_le _, fun h => absurd rfl h⟩
  have he : ((s.extract 0 0).toList == (⟨#[]⟩ : ByteArray).toList) = true := by rw [ba_dec]; simp
  have hsI : (0 : Int) < (s.size : Int) := by omega
  replace hci := hci.symm
  subst hci
  clear hr1 hr2 hD h hi hl hc
  go_enter Tryz.func54, Tryz.ntmps54
  go_wp2_with fail
  go_quiet (fail)
  go_wp2_with fail
  go_quiet (fail)
  go_wp2_with fail
  refine bodyPost_ret (v := .tuple #[.bool false, .bool true]) (by simp [results, Tryz.results54, go_sem]) rfl ?_
  exact ⟨rfl, gb_drewN (gb_drewN (gb_refl _ _) _) _⟩
set_option maxRecDepth 100000 in
set_option maxHeartbeats 1600000 in
theorem begins_room (R : Nat) (bw : Value) (bs : Bs) (x : Ps) (s : ByteArray) (w : World) (b o c : Nat) (h : KT w R bw x) (hbw : bw = .slice (some ⟨b, o, none⟩) bs.length c) (hc : bs.length ≤ c) (hba : BA w b o bs) (hi : x.2 ≤ bs.length) (_ : bs.length ≤ 2000000) (hs0 : 0 < s.size) (hs : s.size ≤ 1000) (hci : c ≠ x.2) :
    Calls Tryz.prog 54 #[.pointer (some ⟨R, 0, none⟩), .string s] w fun e w' => e = .returned (.tuple #[.bool (isP s.data.toList (bs.drop x.2)), .bool (moreP s.data.toList (bs.drop x.2))]) ∧ w.grownBy w' none := by
  obtain ⟨xe, i⟩ := x
  dsimp only at *
  subst hbw
  have i0 : (0 : Int) ≤ (i : Int) := by omega
  have i1 : (i : Int) ≤ (bs.length : Int) := by omega
  have i2 : (i : Int) ≤ (c : Int) := by omega
  obtain ⟨n, hn⟩ : ∃ n, bs.length - i = n := ⟨_, rfl⟩
  obtain ⟨k, hk⟩ : ∃ k, c - i = k := ⟨_, rfl⟩
  have hnk : n ≤ k := by omega
  obtain ⟨D, hD⟩ : ∃ D, bs.drop i = D := ⟨_, rfl⟩
  have hDn : D.length = n := by rw [← hD, List.length_drop]; exact hn
  have hbD : BA w b (o + i) D := by rw [← hD]; exact hba.drop i
  rw [hD]
  have c0 := h.c0
  have c1 := h.c1
  obtain ⟨m, hm⟩ : ∃ m, s.size = m := ⟨_, rfl⟩
  have hmI : (m : Int) ≤ 1000 := by omega
  have m0 : (0 : Int) ≤ (m : Int) := by omega
  by_cases hlt : n < m
  · have hltI : (n : Int) < (m : Int) := by omega
    have hr1 : isP s.data.toList D = false := pre_short _ _ (by rw [← ba_size]; omega)
    have hr2 : moreP s.data.toList D = ((s.extract 0 n).toList == (⟨D.toArray⟩ : ByteArray).toList) := by
      unfold moreP
      rw [decide_eq_true (by rw [← ba_size]; omega), Bool.true_and, pre_take _ _ (by rw [← ba_size]; omega), ba_dec, Lib.extract_from_zero, hDn]
    rw [hr1, hr2]
    obtain ⟨E, hE⟩ : ∃ E : ByteArray, s.extract 0 n = E := ⟨_, rfl⟩
    obtain ⟨Y, hY⟩ : ∃ Y : ByteArray, (⟨D.toArray⟩ : ByteArray) = Y := ⟨_, rfl⟩
    have hcv : ∀ W, w.grownBy W none → (convert 22 9 (.slice (some ⟨b, o + i, none⟩) n k)).run Tryz.prog W = .ok (.string Y) W := fun W hW => by
      rw [← hY]
      exact BV.str (w := W) (bs := D) ⟨_, k, by rw [hDn], by omega, fun _ => ⟨b, o + i, rfl, hbD.grown hW (by simp)⟩⟩
    have hcv1 := fun q => hcv (w.drewN q) (gb_drewN (gb_refl _ _) q)
    have hcv2 := fun q p => hcv ((w.drewN q).drewN p) (gb_drewN (gb_drewN (gb_refl _ _) q) p)
    rw [hE, hY]
    have n0 : (0 : Int) ≤ (n : Int) := by omega
    have n1 : (n : Int) ≤ (m : Int) := by omega
    clear hr1 hr2 hD h hba hi hc hDn hbD hY hcv hs0 hs
    go_enter Tryz.func54, Tryz.ntmps54
    go_wp2_with fail
    go_quiet (fail)
    go_wp2_with fail
    go_quiet (fail)
    go_wp2_with fail
    refine bodyPost_ret (v := .tuple #[.bool false, .bool (E.toList == Y.toList)]) (by simp [results, Tryz.results54, go_sem]) rfl ?_
    exact ⟨rfl, gb_drewN (gb_drewN (gb_refl _ _) _) _⟩
  · have hltI : ¬ (n : Int) < (m : Int) := by omega
    have hr2 : moreP s.data.toList D = false := by unfold moreP; rw [decide_eq_false (by rw [← ba_size]; omega)]; rfl
    have hr1 : isP s.data.toList D = ((⟨(D.take m).toArray⟩ : ByteArray).toList == s.toList) := by
      unfold isP
      rw [pre_take _ _ (by rw [← ba_size]; omega), ba_dec, ← ba_size, hm]
    rw [hr1, hr2]
    obtain ⟨Y, hY⟩ : ∃ Y : ByteArray, (⟨(D.take m).toArray⟩ : ByteArray) = Y := ⟨_, rfl⟩
    have hlm : (D.take m).length = m := by rw [List.length_take]; omega
    have hcv : ∀ W, w.grownBy W none → (convert 22 9 (.slice (some ⟨b, o + i, none⟩) m k)).run Tryz.prog W = .ok (.string Y) W := fun W hW => by
      rw [← hY]
      exact BV.str (w := W) (bs := D.take m) ⟨_, k, by rw [hlm], by rw [hlm]; omega, fun _ => ⟨b, o + i, rfl, (hbD.grown hW (by simp)).take m⟩⟩
    have hcv1 := fun q => hcv (w.drewN q) (gb_drewN (gb_refl _ _) q)
    rw [hY]
    have n1 : (m : Int) ≤ (k : Int) := by omega
    have k0 : ¬ k = 0 := by omega
    clear hr1 hr2 hD h hba hi hc hDn hbD hY hcv hs0 hs hlm
    go_enter Tryz.func54, Tryz.ntmps54
    go_wp2_with fail
    go_quiet (fail)
    go_wp2_with fail
    refine bodyPost_ret (v := .tuple #[.bool (Y.toList == s.toList), .bool false]) (by simp [results, Tryz.results54, go_sem]) rfl ?_
    exact ⟨rfl, gb_drewN (gb_refl _ _) _⟩
/-- the bytes that a taker holds, in another block than its own -/
def KB (w : World) (R : Nat) (bw : Value) (bs : Bs) : Prop := (∃ A c, bw = .slice A 0 c ∧ bs = []) ∨ ∃ b o c, bw = .slice (some ⟨b, o, none⟩) bs.length c ∧ bs.length ≤ c ∧ b ≠ R ∧ bs ≠ [] ∧ BA w b o bs
structure KD (w : World) (R : Nat) (bw : Value) (bs : Bs) (x : Ps) : Prop where
  b : KB w R bw bs
  k : KT w R bw x
  i : x.2 ≤ bs.length
theorem KB.gt {w w' : World} {R : Nat} {bw : Value} {bs : Bs} (h : KB w R bw bs) (hg : w.grownBy w' (some R)) : KB w' R bw bs := by
  rcases h with h | ⟨b, o, c, e, h1, h2, h3, h4⟩
  · exact .inl h
  · exact .inr ⟨b, o, c, e, h1, h2, h3, h4.grown hg (by intro e; exact h2 (Option.some.inj e))⟩
theorem KB.gb {w w' : World} {R : Nat} {bw : Value} {bs : Bs} (h : KB w R bw bs) (hg : w.grownBy w' none) : KB w' R bw bs := by
  rcases h with h | ⟨b, o, c, e, h1, h2, h3, h4⟩
  · exact .inl h
  · exact .inr ⟨b, o, c, e, h1, h2, h3, h4.grown hg (by simp)⟩
theorem KD.kept {w w' : World} {R : Nat} {bw : Value} {bs : Bs} {x : Ps} (h : KD w R bw bs x) {y : Ps} (hy : KT w' R bw y) (hg : w.grownBy w' (some R)) (hl : y.2 ≤ bs.length) : KD w' R bw bs y := ⟨h.b.gt hg, hy, hl⟩
theorem KD.gb {w w' : World} {R : Nat} {bw : Value} {bs : Bs} {x : Ps} (h : KD w R bw bs x) (hg : w.grownBy w' none) : KD w' R bw bs x := ⟨h.b.gb hg, h.k.kept hg (by simp), h.i⟩
theorem KB.of {w : World} {R : Nat} {bw : Value} {bs : Bs} (h : BV w bw bs) (hR : w.heap.size ≤ R) : KB w R bw bs := by
  obtain ⟨A, c, e, hc, hx⟩ := h
  by_cases h0 : bs = []
  · subst h0; exact .inl ⟨A, c, e, rfl⟩
  · obtain ⟨b, o, rfl, hb⟩ := hx h0
    exact .inr ⟨b, o, c, e, hc, by have := hb.lt h0; omega, h0, hb⟩
theorem begins_any (R : Nat) (bw : Value) (bs : Bs) (x : Ps) (s : ByteArray) (w : World) (h : KD w R bw bs x) (hl : bs.length ≤ 2000000) (hs0 : 0 < s.size) (hs : s.size ≤ 1000) :
    Calls Tryz.prog 54 #[.pointer (some ⟨R, 0, none⟩), .string s] w fun e w' => e = .returned (.tuple #[.bool (isP s.data.toList (bs.drop x.2)), .bool (moreP s.data.toList (bs.drop x.2))]) ∧ w.grownBy w' none := by
  rcases h.b with ⟨A, c, e, hb⟩ | ⟨b, o, c, e, hc, _, _, hb⟩
  · have hi := h.i
    subst hb
    have hi0 : x.2 = 0 := by simpa using hi
    cases A with
    | none =>
      rcases Nat.eq_zero_or_pos c with hc | hc
      · subst hc; exact begins_emp0 R bw [] x s w h.k e rfl hi0 hs0 hs
      · exact begins_emp1 R bw [] x s w h.k c hc e rfl hi0 hs0 hs
    | some a =>
      rcases Nat.eq_zero_or_pos c with hc | hc
      · subst hc; exact begins_emp2 R bw [] x s w h.k a e rfl hi0 hs0 hs
      · exact begins_emp3 R bw [] x s w h.k a c hc e rfl hi0 hs0 hs
  · by_cases hci : c = x.2
    · exact begins_end R bw bs x s w b o c h.k e hc h.i hl hs0 hs hci
    · exact begins_room R bw bs x s w b o c h.k e hc hb h.i hl hs0 hs hci
/-- need -/
theorem need_le {bs s : Bs} {x : Ps} (h : x.2 ≤ bs.length) : (needP bs s x).2 ≤ bs.length := by
  unfold needP
  split
  · exact h
  · split
    · next hp => have := pre_len hp; rw [List.length_drop] at this; dsimp only; omega
    · split <;> exact h
theorem need_cases (bs s : Bs) (i : Nat) : needP bs s (0, i) = if isP s (bs.drop i) then (0, i + s.length) else if moreP s (bs.drop i) then (12, i) else (4, i) := by
  unfold needP isP moreP
  rw [if_neg (by simp)]
  split
  · rfl
  · split
    · next h => rw [if_pos (by simpa using h)]
    · next h => rw [if_neg (by simpa using h)]
set_option maxRecDepth 100000 in
set_option maxHeartbeats 1600000 in
theorem need_any (R : Nat) (bw : Value) (bs : Bs) (x : Ps) (s : ByteArray) (w : World) (h : KD w R bw bs x) (hl : bs.length ≤ 2000000) (hs0 : 0 < s.size) (hs : s.size ≤ 1000) :
    Calls Tryz.prog 50 #[.pointer (some ⟨R, 0, none⟩), .string s] w fun e w' => e = .returned (.tuple #[]) ∧ KD w' R bw bs (needP bs s.data.toList x) ∧ w.grownBy w' (some R) := by
  obtain ⟨xe, i⟩ := x
  have c1 := h.k.c1
  have c2 := h.k.c2
  by_cases h0 : xe = 0
  · subst h0
    have hbg := Lib.hid (begins_any R bw bs (0, i) s w h hl hs0 hs)
    have hn := Lib.hid (need_cases bs s.data.toList i)
    have hh := Lib.hid h
    have hi := h.i
    have hsz := ba_size s
    dsimp only at hbg hi
    obtain ⟨m, hm⟩ : ∃ m : Nat, s.size = m := ⟨_, rfl⟩
    have hms : m ≤ 1000 := by omega
    have hle := Lib.hid (need_le (bs := bs) (s := s.data.toList) (x := (0, i)) h.i)
    have hwm : wrap64 ((i : Int) + (m : Int)) = ((i + m : Nat) : Int) := (wrap64_id (by omega) (by omega)).trans (by omega)
    have hmh := Lib.hid (show s.data.toList.length = m from by rw [← hsz, hm])
    cases hp : isP s.data.toList (bs.drop i) with
    | true =>
      rw [hp] at hbg hn
      have hn2 := Lib.hid (show needP bs s.data.toList (0, i) = (0, i + m) from by rw [hn.out, if_pos rfl, hmh.out])
      clear h hn hp hsz hs0 hs hl
      go_enter Tryz.func50, Tryz.ntmps50
      go_wp2_with (first
        | (go_at_call 54; refine (hbg.out).mono ?_; rintro e w1 ⟨rfl, g1⟩; have h1 := hh.out.gb g1; have x1 := h1.k.c1; have f1 := h1.k.f 1; replace h1 := Lib.hid h1; have g1h := Lib.hid g1; clear g1))
      refine bodyPost_end (v := .tuple #[]) (by simp [results, Tryz.results50, go_sem]) rfl ?_
      have gE := gb_setR (gb_refl w1 (some R)) 1 (.int .i64 ((i + m : Nat) : Int))
      rw [hn2.out]
      exact ⟨rfl, h1.out.kept (h1.out.k.set1 (i + m)) gE (by have := hle.out; rw [hn2.out] at this; exact this), gb_trans (gb_row g1h.out _) gE⟩
    | false =>
      rw [hp] at hbg hn
      cases hq : moreP s.data.toList (bs.drop i) with
      | true =>
        rw [hq] at hbg hn
        have hn2 := Lib.hid (show needP bs s.data.toList (0, i) = (12, i) from by rw [hn.out, if_neg (by decide), if_pos rfl])
        clear h hn hp hq hsz hs0 hs hl
        go_enter Tryz.func50, Tryz.ntmps50
        go_wp2_with (first
          | (go_at_call 54; refine (hbg.out).mono ?_; rintro e w1 ⟨rfl, g1⟩; have h1 := hh.out.gb g1; have hfl := Lib.hid (fail_any R bw (0, i) 12 w1 h1.k); replace h1 := Lib.hid h1; have g1h := Lib.hid g1; clear g1)
          | (go_at_call 55; refine (hfl.out).mono ?_; rintro e w2 ⟨rfl, k2, g2⟩; have h2 := Lib.hid (h1.out.kept k2 g2 hi); have g2h := Lib.hid g2; clear k2 g2))
        refine bodyPost_end (v := .tuple #[]) (by simp [results, Tryz.results50, go_sem]) rfl ?_
        rw [hn2.out]
        exact ⟨rfl, h2.out, gb_trans (gb_row g1h.out _) g2h.out⟩
      | false =>
        rw [hq] at hbg hn
        have hn2 := Lib.hid (show needP bs s.data.toList (0, i) = (4, i) from by rw [hn.out, if_neg (by decide), if_neg (by decide)])
        clear h hn hp hq hsz hs0 hs hl
        go_enter Tryz.func50, Tryz.ntmps50
        go_wp2_with (first
          | (go_at_call 54; refine (hbg.out).mono ?_; rintro e w1 ⟨rfl, g1⟩; have h1 := hh.out.gb g1; have hfl := Lib.hid (fail_any R bw (0, i) 4 w1 h1.k); replace h1 := Lib.hid h1; have g1h := Lib.hid g1; clear g1)
          | (go_at_call 55; refine (hfl.out).mono ?_; rintro e w2 ⟨rfl, k2, g2⟩; have h2 := Lib.hid (h1.out.kept k2 g2 hi); have g2h := Lib.hid g2; clear k2 g2))
        refine bodyPost_end (v := .tuple #[]) (by simp [results, Tryz.results50, go_sem]) rfl ?_
        rw [hn2.out]
        exact ⟨rfl, h2.out, gb_trans (gb_row g1h.out _) g2h.out⟩
  · have hn2 := Lib.hid (show needP bs s.data.toList (xe, i) = (xe, i) from by unfold needP; rw [if_pos h0])
    have e0 : (xe != 0) = true := by simpa using h0
    have hh := Lib.hid h
    dsimp only at c2
    clear h0 h
    go_enter Tryz.func50, Tryz.ntmps50
    go_wp2_with fail
    refine bodyPost_ret (v := .tuple #[]) (by simp [results, Tryz.results50, go_sem]) rfl ?_
    rw [hn2.out]
    exact ⟨rfl, hh.out, gb_refl _ _⟩
end Go.Proofs.YtdfgnoflohfnmaaGreatDoor.Hx
/-! HTTP: a response is read: the taker's status. -/
namespace Go.Proofs.YtdfgnoflohfnmaaGreatDoor.Hx
open Go.RowKit Go.Maps

/-- may a byte be a status' digit of that place? -/
def stB (k : Nat) (c : UInt8) : Bool := digB c && !(decide (k = 0) && (decide (c.toNat < 49) || decide (53 < c.toNat)))
theorem st_more {D : Bs} {k : Nat} (hk : k < 3) (hl : D.length ≤ k) (h : ∀ j (hj : j < D.length), j < k → stB j D[j] = true) : statL D = .inl 12 := by
  match D, hl, h with
  | [], _, _ => rfl
  | [a], hl, h =>
    have h0 := h 0 (by simp) (by simp at hl; omega)
    simp [stB] at h0
    unfold statL
    dsimp only
    rw [if_neg (by omega)]
  | [a, c], hl, h =>
    have h0 := h 0 (by simp) (by simp at hl; omega)
    have h1 := h 1 (by simp) (by simp at hl; omega)
    simp [stB] at h0 h1
    unfold statL
    dsimp only
    rw [if_neg (by omega)]
    try dsimp only
    rw [if_neg (by rw [h1]; decide)]
  | a :: c :: d :: t, hl, h => simp at hl; omega
theorem st_bad {D : Bs} {k : Nat} (hk : k < 3) (hl : k < D.length) (h : ∀ j (hj : j < D.length), j < k → stB j D[j] = true) (hb : stB k D[k] = false) : statL D = .inl 4 := by
  match k, D, hl, h, hb with
  | 0, a :: t, _, _, hb =>
    unfold statL
    dsimp only
    rw [if_pos ?_]
    simp [stB, digB] at hb
    omega
  | 1, a :: c :: t, _, h, hb =>
    have h0 := h 0 (by simp) (by omega)
    simp [stB] at h0 hb
    unfold statL
    dsimp only
    rw [if_neg (by omega)]
    try dsimp only
    rw [if_pos hb]
  | 2, a :: c :: d :: t, _, h, hb =>
    have h0 := h 0 (by simp) (by omega)
    have h1 := h 1 (by simp) (by omega)
    simp [stB] at h0 h1 hb
    unfold statL
    dsimp only
    rw [if_neg (by omega)]
    try dsimp only
    rw [if_neg (by rw [h1]; decide)]
    try dsimp only
    rw [if_pos hb]
theorem st_good {D : Bs} (hl : 3 ≤ D.length) (h : ∀ j (hj : j < D.length), j < 3 → stB j D[j] = true) : statL D = .inr (decV (D.take 3)) ∧ (D.take 3).all digB = true ∧ 0 ≤ decV (D.take 3) ∧ decV (D.take 3) ≤ 999 := by
  match D, hl, h with
  | a :: c :: d :: t, _, h =>
    have h0 := h 0 (by simp) (by omega)
    have h1 := h 1 (by simp) (by omega)
    have h2 := h 2 (by simp) (by omega)
    simp [stB] at h0 h1 h2
    have ha : (([a, c, d] : Bs).all digB) = true := by simp [h0.1, h1, h2]
    have b0 : 48 ≤ a.toNat ∧ a.toNat ≤ 57 := by have := h0.1; simpa [digB] using this
    have b1 : 48 ≤ c.toNat ∧ c.toNat ≤ 57 := by simpa [digB] using h1
    have b2 : 48 ≤ d.toNat ∧ d.toNat ≤ 57 := by simpa [digB] using h2
    have ed : decV [a, c, d] = 100 * ((a.toNat : Int) - 48) + 10 * ((c.toNat : Int) - 48) + ((d.toNat : Int) - 48) := by
      unfold decV
      simp only [List.foldl_cons, List.foldl_nil]
      omega
    refine ⟨?_, ha, by show 0 ≤ decV [a, c, d]; omega, by show decV [a, c, d] ≤ 999; omega⟩
    unfold statL
    dsimp only
    rw [if_neg (by omega)]
    try dsimp only
    rw [if_neg (by rw [h1]; decide)]
    try dsimp only
    rw [if_neg (by rw [h2]; decide)]
    show _ = Sum.inr (decV [a, c, d])
    rw [ed]
theorem stat_of {bs : Bs} {i : Nat} {e : Int} (h : statL (bs.drop i) = .inl e) : statP bs (0, i) = ((e, i), 0) := by unfold statP; rw [if_neg (by simp), h]
theorem stat_good {bs : Bs} {i : Nat} {n : Int} (h : statL (bs.drop i) = .inr n) : statP bs (0, i) = ((0, i + 3), n) := by unfold statP; rw [if_neg (by simp), h]
theorem exact_k {a b : Int} (h : a = b) : Value.int .i64 b = .int .i64 a := by rw [h]
theorem KB.shape {w : World} {R : Nat} {bw : Value} {bs : Bs} (h : KB w R bw bs) : ∃ A c, bw = .slice A bs.length c := by
  rcases h with ⟨A, c, e, h0⟩ | ⟨b, o, c, e, _⟩
  · subst h0; exact ⟨A, c, e⟩
  · exact ⟨_, c, e⟩
set_option maxRecDepth 100000 in
set_option maxHeartbeats 1600000 in
theorem status_any (R : Nat) (bw : Value) (bs : Bs) (x : Ps) (w : World) (h : KD w R bw bs x) (hl : bs.length ≤ 2000000) :
    Calls Tryz.prog 51 #[.pointer (some ⟨R, 0, none⟩)] w fun e w' => e = .returned (.int .i64 (statP bs x).2) ∧ KD w' R bw bs (statP bs x).1 ∧ w.grownBy w' (some R) := by
  obtain ⟨xe, i⟩ := x
  have c2 := h.k.c2
  dsimp only at c2
  by_cases h0 : xe = 0
  · subst h0
    have hi := h.i
    dsimp only at hi
    have hh := Lib.hid h
    clear h
    go_enter Tryz.func51, Tryz.ntmps51
    go_wp2_with fail
    go_loopg [11] 3 (fun z u11 wr => ∃ k : Nat, k ≤ 3 ∧ i + k ≤ bs.length ∧ z = 3 - k ∧ u11 = .int .i64 (k : Nat) ∧ Hid (∀ j (hj : j < (bs.drop i).length), j < k → stB j (bs.drop i)[j] = true) ∧ w.grownBy wr none)
    case atStart => exact ⟨0, Nat.zero_le _, hi, rfl, rfl, fun j _ hj => absurd hj (Nat.not_lt_zero _), gb_refl _ _⟩
    case round =>
      obtain ⟨k, hk, hkl, rfl, rfl, hp, hgr⟩ := hrel
      have hr := hh.out.gb hgr
      have d0 := hr.k.c0
      have d1 := hr.k.c1
      dsimp only at d1
      obtain ⟨D, hD⟩ : ∃ D, bs.drop i = D := ⟨_, rfl⟩
      have hDl : D.length = bs.length - i := by rw [← hD, List.length_drop]
      rw [hD] at hp
      by_cases hk3 : k < 3
      · have k3I : (k : Int) < 3 := by omega
        obtain ⟨j, hj⟩ : ∃ j : Nat, j = i + k := ⟨_, rfl⟩
        have w1 : IntKind.i64.wrap ((i : Int) + (k : Int)) = (j : Int) := (wrap_id (by omega) (by omega)).trans (by omega)
        have hjh := Lib.hid hj
        have hDh := Lib.hid hD
        by_cases hs : j < bs.length
        · have hkD : k < D.length := by omega
          have hbs : bs ≠ [] := by rintro rfl; simp at hs
          obtain ⟨b, o, c, rfl, hc, hbR, hba⟩ : ∃ b o c, bw = .slice (some ⟨b, o, none⟩) bs.length c ∧ bs.length ≤ c ∧ b ≠ R ∧ BA wr b o bs := by
            rcases hr.b with ⟨_, _, _, e⟩ | ⟨b, o, c, e, h1, h2, _, h3⟩
            · exact absurd e hbs
            · exact ⟨b, o, c, e, h1, h2, h3⟩
          have hsI : ¬ (bs.length : Int) ≤ (j : Int) := by omega
          have j0 : (0 : Int) ≤ (j : Int) := by omega
          have j1 : (j : Int) < (bs.length : Int) := by omega
          have hcj := hba j hs
          have hci := hba i (by omega)
          have i0 : (0 : Int) ≤ (i : Int) := by omega
          have i1 : (i : Int) < (bs.length : Int) := by omega
          have ej : bs[j] = D[k] := by simp only [← hD, List.getElem_drop, hj]
          obtain ⟨C, hC⟩ : ∃ C, D[k] = C := ⟨_, rfl⟩
          rw [ej, hC] at hcj
          obtain ⟨I, hI⟩ : ∃ I, bs[i] = I := ⟨_, rfl⟩
          rw [hI] at hci
          have hdg := fun W => Lib.hid (digit_any C W)
          have hrh := Lib.hid hr
          have hgh := Lib.hid hgr
          have hkl2 := Lib.hid (show i + (k + 1) ≤ bs.length by omega)
          have hbad := fun (e : stB k C = false) => Lib.hid (show statP bs (0, i) = ((4, i), 0) from stat_of (by rw [hD]; exact st_bad hk3 hkD hp.out (by rw [hC]; exact e)))
          have hgood := fun (e : stB k C = true) => Lib.hid (show ∀ q (hq : q < D.length), q < k + 1 → stB q D[q] = true from fun q hq hlt => by
            rcases Nat.lt_succ_iff_lt_or_eq.mp hlt with h | h
            · exact hp.out q hq h
            · subst h; rw [hC]; exact e)
          have hIC : k = 0 → I = C := by
            intro e
            subst e
            have e2 : j = i := by omega
            subst e2
            rw [← hI, ← hC, ← ej]
          have hfl := fun W (hW : wr.grownBy W none) => Lib.hid (fail_any R (.slice (some ⟨b, o, none⟩) bs.length c) (0, i) 4 W (hr.k.kept hW (by simp)))
          clear hp hj hD hDl hr hgr hba hI hC ej hkD hbs hs
          cases hd : digB C with
          | false =>
            have hB : stB k C = false := by unfold stB; rw [hd]; rfl
            rw [hd] at hdg
            clear hd hIC
            have hst := hbad hB
            clear hbad hgood hB
            go_wp2_with fail
            go_quiet (fail)
            go_wp2_with fail
            obtain ⟨wq, hwq⟩ : ∃ W, wr.drewN nq = W := ⟨_, rfl⟩
            have gq : wr.grownBy wq none := by rw [← hwq]; exact gb_drewN (gb_refl _ _) _
            have hrq := hrh.out.gb gq
            have d0 := hrq.k.c0
            have d1 := hrq.k.c1
            dsimp only at d1
            replace hcj := cell_grown hcj gq (by simp)
            replace hci := cell_grown hci gq (by simp)
            replace gq := Lib.hid gq
            rw [hwq]
            clear hwq hrq
            go_quiet (first
              | (go_at_call 78; with_reducible exact Calls.quiet_of_same (hdg _).out))
            go_wp2_with (first
              | (go_at_call 55; refine ((hfl _ (gb_drewN gq.out _)).out).mono ?_; rintro e w2 ⟨rfl, k2, g2⟩))
            go_ret
            rw [hst.out]
            have g3 := gb_trans (gb_row (gb_drewN gq.out _) (some R)) g2
            exact ⟨rfl, hrh.out.kept k2 g3 hi, gb_trans (gb_row hgh.out _) g3⟩
          | true =>
            rw [hd] at hdg
            by_cases hk0 : k = 0
            · have hCI := hIC hk0
              subst hCI
              have k0 : ((k : Int) == 0) = true := by rw [hk0]; rfl
              by_cases l1 : (I.toNat : Int) < 49
              · have hB : stB k I = false := by unfold stB; rw [hd, decide_eq_true hk0, decide_eq_true (show I.toNat < 49 by omega)]; rfl
                have dl1 := decide_eq_true l1
                clear hd hIC hk0 l1
                have hst := hbad hB
                clear hbad hgood hB
                go_wp2_with fail
                go_quiet (fail)
                go_wp2_with fail
                obtain ⟨wq, hwq⟩ : ∃ W, wr.drewN nq = W := ⟨_, rfl⟩
                have gq : wr.grownBy wq none := by rw [← hwq]; exact gb_drewN (gb_refl _ _) _
                have hrq := hrh.out.gb gq
                have d0 := hrq.k.c0
                have d1 := hrq.k.c1
                dsimp only at d1
                replace hcj := cell_grown hcj gq (by simp)
                replace hci := cell_grown hci gq (by simp)
                replace gq := Lib.hid gq
                rw [hwq]
                clear hwq hrq
                go_quiet (first
                  | (go_at_call 78; with_reducible exact Calls.quiet_of_same (hdg _).out))
                go_wp2_with (first
                  | (go_at_call 55; refine ((hfl _ (gb_drewN gq.out _)).out).mono ?_; rintro e w2 ⟨rfl, k2, g2⟩))
                go_ret
                rw [hst.out]
                have g3 := gb_trans (gb_row (gb_drewN gq.out _) (some R)) g2
                exact ⟨rfl, hrh.out.kept k2 g3 hi, gb_trans (gb_row hgh.out _) g3⟩
              · by_cases l2 : (53 : Int) < (I.toNat : Int)
                · have hB : stB k I = false := by unfold stB; rw [hd, decide_eq_true hk0, decide_eq_true (show 53 < I.toNat by omega), Bool.or_true]; rfl
                  have dl1 := decide_eq_false l1
                  have dl2 := decide_eq_true l2
                  clear hd hIC hk0 l1 l2
                  have hst := hbad hB
                  clear hbad hgood hB
                  go_wp2_with fail
                  go_quiet (fail)
                  go_wp2_with fail
                  obtain ⟨wq, hwq⟩ : ∃ W, wr.drewN nq = W := ⟨_, rfl⟩
                  have gq : wr.grownBy wq none := by rw [← hwq]; exact gb_drewN (gb_refl _ _) _
                  have hrq := hrh.out.gb gq
                  have d0 := hrq.k.c0
                  have d1 := hrq.k.c1
                  dsimp only at d1
                  replace hcj := cell_grown hcj gq (by simp)
                  replace hci := cell_grown hci gq (by simp)
                  replace gq := Lib.hid gq
                  rw [hwq]
                  clear hwq hrq
                  go_quiet (first
                    | (go_at_call 78; with_reducible exact Calls.quiet_of_same (hdg _).out))
                  go_wp2_with (first
                    | (go_at_call 55; refine ((hfl _ (gb_drewN gq.out _)).out).mono ?_; rintro e w2 ⟨rfl, k2, g2⟩))
                  go_ret
                  rw [hst.out]
                  have g3 := gb_trans (gb_row (gb_drewN gq.out _) (some R)) g2
                  exact ⟨rfl, hrh.out.kept k2 g3 hi, gb_trans (gb_row hgh.out _) g3⟩
                · have hB : stB k I = true := by unfold stB; rw [hd, decide_eq_true hk0, decide_eq_false (show ¬ 53 < I.toNat by omega), decide_eq_false (show ¬ I.toNat < 49 by omega)]; rfl
                  have dl1 := decide_eq_false l1
                  have dl2 := decide_eq_false l2
                  clear hd hIC hk0 l1 l2
                  have hst := hgood hB
                  clear hbad hgood hB hfl
                  go_wp2_with fail
                  go_quiet (fail)
                  go_wp2_with fail
                  obtain ⟨wq, hwq⟩ : ∃ W, wr.drewN nq = W := ⟨_, rfl⟩
                  have gq : wr.grownBy wq none := by rw [← hwq]; exact gb_drewN (gb_refl _ _) _
                  have hrq := hrh.out.gb gq
                  have d0 := hrq.k.c0
                  have d1 := hrq.k.c1
                  dsimp only at d1
                  replace hcj := cell_grown hcj gq (by simp)
                  replace hci := cell_grown hci gq (by simp)
                  replace gq := Lib.hid gq
                  rw [hwq]
                  clear hwq hrq
                  go_quiet (first
                    | (go_at_call 78; with_reducible exact Calls.quiet_of_same (hdg _).out))
                  go_wp2_with fail
                  go_roundg (3 - (k + 1))
                  case measure => omega
                  case rel => exact ⟨k + 1, hk3, hkl2.out, rfl, by first | exact exact_k (Int.natCast_add k 1) | rfl, by rw [hDh.out]; exact hst.out, gb_trans hgh.out (gb_drewN gq.out _)⟩
            · have k0 : ((k : Int) == 0) = false := by simpa using hk0
              have hB : stB k C = true := by unfold stB; rw [hd, decide_eq_false hk0]; rfl
              clear hd hIC hk0
              have hst := hgood hB
              clear hbad hgood hB hfl
              go_wp2_with fail
              go_quiet (fail)
              go_wp2_with fail
              obtain ⟨wq, hwq⟩ : ∃ W, wr.drewN nq = W := ⟨_, rfl⟩
              have gq : wr.grownBy wq none := by rw [← hwq]; exact gb_drewN (gb_refl _ _) _
              have hrq := hrh.out.gb gq
              have d0 := hrq.k.c0
              have d1 := hrq.k.c1
              dsimp only at d1
              replace hcj := cell_grown hcj gq (by simp)
              replace hci := cell_grown hci gq (by simp)
              replace gq := Lib.hid gq
              rw [hwq]
              clear hwq hrq
              go_quiet (first
                | (go_at_call 78; with_reducible exact Calls.quiet_of_same (hdg _).out))
              go_wp2_with fail
              go_roundg (3 - (k + 1))
              case measure => omega
              case rel => exact ⟨k + 1, hk3, hkl2.out, rfl, by first | exact exact_k (Int.natCast_add k 1) | rfl, by rw [hDh.out]; exact hst.out, gb_trans hgh.out (gb_drewN gq.out _)⟩
        · have hsI : (bs.length : Int) ≤ (j : Int) := by omega
          have hst := Lib.hid (show statP bs (0, i) = ((12, i), 0) from stat_of (by rw [hD]; exact st_more hk3 (by omega) hp.out))
          have hfl := fun W (hW : wr.grownBy W none) => Lib.hid (fail_any R bw (0, i) 12 W (hr.k.kept hW (by simp)))
          have hrh := Lib.hid hr
          have hgh := Lib.hid hgr
          have shp := KB.shape hr.b
          obtain ⟨A, c, rfl⟩ := shp
          clear hp hj hD hDl hr hgr
          go_wp2_with fail
          go_quiet (fail)
          go_wp2_with (first
            | (go_at_call 55; refine ((hfl _ (gb_drewN (gb_refl _ _) _)).out).mono ?_; rintro e w2 ⟨rfl, k2, g2⟩))
          go_ret
          rw [hst.out]
          have g3 := gb_trans (gb_row (gb_drewN (gb_refl wr none) _) (some R)) g2
          exact ⟨rfl, hrh.out.kept k2 g3 hi, gb_trans (gb_row hgh.out _) g3⟩
      · have hk3e : k = 3 := by omega
        subst hk3e
        have hDl3 : 3 ≤ D.length ∨ D.length < 3 := by omega
        by_cases hD3 : 3 ≤ D.length
        · obtain ⟨s1, s2, s3, s4⟩ := st_good hD3 (fun q hq hlt => hp.out q hq hlt)
          have hst := Lib.hid (show statP bs (0, i) = ((0, i + 3), decV (D.take 3)) from stat_good (by rw [hD]; exact s1))
          have hbs : bs ≠ [] := by intro e; have : bs.length = 0 := (by rw [e]; rfl); omega
          obtain ⟨b, o, c, rfl, hc, hbR, hba⟩ : ∃ b o c, bw = .slice (some ⟨b, o, none⟩) bs.length c ∧ bs.length ≤ c ∧ b ≠ R ∧ BA wr b o bs := by
            rcases hr.b with ⟨_, _, _, e⟩ | ⟨b, o, c, e, h1, h2, _, h3⟩
            · exact absurd e hbs
            · exact ⟨b, o, c, e, h1, h2, h3⟩
          obtain ⟨N, hN⟩ : ∃ N, decV (D.take 3) = N := ⟨_, rfl⟩
          rw [hN] at hst s3 s4
          obtain ⟨V, hV⟩ : ∃ V : ByteArray, (⟨(D.take 3).toArray⟩ : ByteArray) = V := ⟨_, rfl⟩
          have hVl : V.data.toList = D.take 3 := by rw [← hV]
          have hl3 : (D.take 3).length = 3 := by rw [List.length_take]; omega
          have hat := fun W => Lib.hid (show Calls Tryz.prog 79 #[.string V] W _ from Tryz.strconv_Atoi V N (by rw [ba_size, hVl, hl3]; omega) (by rw [hVl, ← hN]; exact atoi_dig s2 (by omega)) W)
          have hbD : BA wr b (o + i) D := by rw [← hD]; exact hba.drop i
          have hcv : ∀ W, wr.grownBy W none → (convert 22 9 (.slice (some ⟨b, o + i, none⟩) 3 (c - i))).run Tryz.prog W = .ok (.string V) W := fun W hW => by
            rw [← hV]
            exact BV.str (w := W) (bs := D.take 3) ⟨_, c - i, by rw [hl3], by rw [hl3]; omega, fun _ => ⟨b, o + i, rfl, (hbD.grown hW (by simp)).take 3⟩⟩
          have hcvh := Lib.hid hcv
          have i0 : (0 : Int) ≤ (i : Int) := by omega
          have i3 : (i : Int) ≤ (i : Int) + 3 := by omega
          have ic : (i : Int) + 3 ≤ (c : Int) := by omega
          have w3 : IntKind.i64.wrap ((i : Int) + 3) = (i : Int) + 3 := wrap_id (by omega) (by omega)
          have nci : ¬ c = i := by omega
          have sub3 : ((i : Int) + 3).toNat - i = 3 := by omega
          have hi3 : i + 3 ≤ bs.length := by omega
          have hw64 := Lib.hid (show wrap64 ((i : Int) + 3) = ((i + 3 : Nat) : Int) from (wrap64_id (by omega) (by omega)).trans (by omega))
          have hrh := Lib.hid hr
          have hgh := Lib.hid hgr
          have hi3h := Lib.hid hi3
          clear hp hD hDl hr hgr hba hN hV hVl hl3 hbD s1 s2 hbs hD3 hDl3 hcv hk hk3 hc hi3
          have kS : ∀ W, wr.grownBy W none → W.cell? ⟨R, 0, none⟩ = some (.slice (some ⟨b, o, none⟩) bs.length c) ∧ W.cell? ⟨R, 1, none⟩ = some (.int .i64 (i : Nat)) := fun W hW => ⟨(hrh.out.gb hW).k.c0, (hrh.out.gb hW).k.c1⟩
          go_upto_region 13 with fail
          go_cut [4] from 77 to 95 (fun u4 wx => u4 = .int .i64 N ∧ wr.grownBy wx none)
          case first =>
            have P0 : ∀ G : Grown wr, G.W.cell? ⟨R, 0, none⟩ = some (.slice (some ⟨b, o, none⟩) bs.length c) := fun G => (kS G.W G.h).1
            have P1 : ∀ G : Grown wr, G.W.cell? ⟨R, 1, none⟩ = some (.int .i64 (i : Nat)) := fun G => (kS G.W G.h).2
            have cG : ∀ G : Grown wr, (convert 22 9 (.slice (some ⟨b, o + i, none⟩) 3 (c - i))).run Tryz.prog G.W = .ok (.string V) G.W := fun G => hcvh.out G.W G.h
            have q1 : Hid (QC Tryz.prog wr 79 #[.string V] (.tuple #[.int .i64 N, .nilIface])) := fun G => (hat G.W).out.mono fun e w' h => ⟨h.1, by obtain ⟨_, t, hw2⟩ := h; rw [hw2]; exact gb_trans G.h (gb_of_below (Lib.bytesWorld_below _ _ _))⟩
            refine wp_region_grown 21 0 (by simp only [List.take_succ_cons, List.take_zero]; rfl) (by kernel_rfl) (gb_drew (gb_refl _ _)) (by kernel_rfl) (by kernel_rfl) (by kernel_rfl) (by kernel_rfl) ?_
            repeat go_big_quiet_step (first
              | (rename_i G; with_reducible exact q1.out.at G))
            refine wpQuiet_nil ?_
            intro G
            refine wpAny_done (by kernel_rfl) ?_ _
            go_wp2_with fail
            go_meet
            exact ⟨rfl, G.h⟩
          case rest =>
            obtain ⟨rfl, g2⟩ := hcut
            have h2 := hrh.out.gb g2
            have y1 := h2.k.c1
            have yf := h2.k.f 1
            dsimp only at y1
            have g2h := Lib.hid g2
            replace h2 := Lib.hid h2
            have hw := hw64.out
            clear hcvh kS hat g2
            go_wp2_with fail
            go_ret
            rw [hst.out]
            exact ⟨rfl, h2.out.kept (h2.out.k.set1 (i + 3)) (gb_setR (gb_refl _ _) _ _) hi3h.out, gb_trans (gb_row (gb_trans hgh.out g2h.out) _) (gb_setR (gb_refl _ _) _ _)⟩
        · exfalso
          omega
  · have hs := Lib.hid (show statP bs (xe, i) = ((xe, i), 0) from by unfold statP; rw [if_pos h0])
    have e0 : (xe != 0) = true := by simpa using h0
    have hh := Lib.hid h
    clear h0 h
    go_enter Tryz.func51, Tryz.ntmps51
    go_wp2_with fail
    go_ret
    rw [hs.out]
    exact ⟨rfl, hh.out, gb_refl _ _⟩
end Go.Proofs.YtdfgnoflohfnmaaGreatDoor.Hx
