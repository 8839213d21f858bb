/- Both readers tell the same of any text: their states side by side; words, escapes, texts. -/
import Derived.Test.YtnnhkajjifmlfaaDoorRb
import Derived.RegionTactic
/-! Both readers tell the same of any text: their states side by side; words, escapes, texts. -/

namespace Go.Proofs.YtnnhkajjifmlfaaDoor
open Go.RowKit Go.Maps

/-- two readers' states -/
def Sm (σ : PS) (q : QS) : Prop := (σ.e = 0 ∧ q.bad < 0 ∧ σ.p = q.p) ∨ (σ.e ≠ 0 ∧ ¬ q.bad < 0 ∧ σ.e = q.e ∧ σ.bad = q.bad)
section
variable {s : ByteArray} {σ : PS} {q : QS}
theorem Sm.p (h : Sm σ q) (he : σ.e = 0) : σ.p = q.p := by
  rcases h with ⟨_, _, c⟩ | ⟨a, _⟩
  · exact c
  · exact absurd he a
end
end Go.Proofs.YtnnhkajjifmlfaaDoor

/-! Both readers tell the same of any text: numbers. -/

namespace Go.Proofs.YtnnhkajjifmlfaaDoor
open Go.RowKit Go.Maps

/-- the number that digits tell, with one ahead -/
def dval : List UInt8 → Nat → Nat
  | [], a => a
  | c :: r, a => dval r (a * 10 + (c.toNat - 48))
theorem dval_ge : ∀ (l : List UInt8) (a : Nat), a ≤ dval l a
  | [], a => Nat.le_refl _
  | c :: r, a => by
    have := dval_ge r (a * 10 + (c.toNat - 48))
    show a ≤ dval r (a * 10 + (c.toNat - 48))
    omega
def digs (l : List UInt8) : Prop := ∀ c ∈ l, 48 ≤ c.toNat ∧ c.toNat ≤ 57
theorem parseU (l : List UInt8) : ∀ (a : Nat), digs l → a ≤ 18446744073709551615 → Lib.parseUintM (2 ^ 64 - 1) a l = if dval l a ≤ 18446744073709551615 then .ok (dval l a) else .range := by
  induction l with
  | nil => intro a _ ha; show Lib.NumEnd.ok a = _; rw [if_pos (show dval [] a ≤ _ from ha)]; rfl
  | cons c r ih =>
    intro a hd ha
    have hc := hd c (by simp)
    have hr : digs r := fun x hx => hd x (by simp [hx])
    have e : dval (c :: r) a = dval r (a * 10 + (c.toNat - 48)) := rfl
    have hge := dval_ge r (a * 10 + (c.toNat - 48))
    rw [e]
    unfold Lib.parseUintM
    rw [if_pos hc]
    by_cases h1 : 1844674407370955162 ≤ a
    · rw [if_pos h1, if_neg (by omega)]
    · rw [if_neg h1]
      by_cases h2 : 2 ^ 64 - 1 < a * 10 + (c.toNat - 48)
      · rw [if_pos h2, if_neg (by omega)]
      · rw [if_neg h2]
        exact ih _ hr (by omega)
theorem wrap64_id {x : Int} (h1 : -9223372036854775808 ≤ x) (h2 : x ≤ 9223372036854775807) : wrap64 x = x := by unfold wrap64; omega
/-- a number without a sign -/
theorem pint_pos {l : List UInt8} (hd : digs l) (hl : l ≠ []) : PIok l = decide (dval l 0 < 9223372036854775808) ∧ (dval l 0 < 9223372036854775808 → PIn l = (dval l 0 : Int)) := by
  have hp := parseU l 0 hd (by omega)
  cases l with
  | nil => exact absurd rfl hl
  | cons c r =>
    have hc := hd c (by simp)
    have e2 : Lib.parseUintB 64 (c :: r) = Lib.parseUintM (2 ^ 64 - 1) 0 (c :: r) := by unfold Lib.parseUintB; rw [if_neg (by simp)]
    unfold PIok PIn Lib.parseIntB
    simp only
    rw [if_neg (by omega : ¬ (c.toNat = 43 ∨ c.toNat = 45)), e2, hp]
    by_cases h1 : dval (c :: r) 0 ≤ 18446744073709551615
    · rw [if_pos h1]
      simp only
      by_cases h2 : 2 ^ (64 - 1) ≤ dval (c :: r) 0
      · rw [if_pos ⟨by omega, h2⟩]
        exact ⟨(decide_eq_false (by omega)).symm, fun h => absurd h (by omega)⟩
      · rw [if_neg (by omega), if_neg (by omega)]
        exact ⟨(decide_eq_true (by omega)).symm, fun _ => by simp only; rw [if_neg (by omega)]⟩
    · rw [if_neg h1]
      exact ⟨(decide_eq_false (by omega)).symm, fun h => absurd h (by omega)⟩
end Go.Proofs.YtnnhkajjifmlfaaDoor

/-! Both readers tell the same of any text: values. -/

namespace Go.Proofs.YtnnhkajjifmlfaaDoor
open Go.RowKit Go.Maps

section
variable {s : ByteArray} {σ : PS} {q : QS}
theorem Sm.d {τ : PS} {r : QS} (h : Sm τ r) (d : Int) : Sm { τ with d := d } r := h
end
end Go.Proofs.YtnnhkajjifmlfaaDoor

/-! How long the lists of a value are that is read. -/

namespace Go.Proofs.YtnnhkajjifmlfaaDoor
open Go.RowKit Go.Maps

section
variable {s : ByteArray} {N : Nat}
end
end Go.Proofs.YtnnhkajjifmlfaaDoor

/-! Values are the same: bootprintkit's SameStrings and SameJson say so of equal values. -/

namespace Go.Proofs.YtnnhkajjifmlfaaDoor
open Go.RowKit Go.Maps

theorem cell_lt {w : World} {b o : Nat} {v : Value} (h : w.cell? ⟨b, o, none⟩ = some v) : b < w.heap.size := by
  unfold World.cell? at h
  rcases Nat.lt_or_ge b w.heap.size with h1 | h1
  · exact h1
  · simp [Array.getElem?_eq_none h1] at h
theorem cell_grown {w w' : World} {b o : Nat} {v : Value} {row : Option Nat} (h : w.cell? ⟨b, o, none⟩ = some v) (hg : w.grownBy w' row) (hr : some b ≠ row) : w'.cell? ⟨b, o, none⟩ = some v :=
  (World.cell?_of_block (w := w) (a := ⟨b, o, none⟩) (hg.block b (cell_lt h) hr)).trans h

end Go.Proofs.YtnnhkajjifmlfaaDoor

/-! Values are the same: SameJson. -/

namespace Go.Proofs.YtnnhkajjifmlfaaDoor
open Go.RowKit Go.Maps

end Go.Proofs.YtnnhkajjifmlfaaDoor

/-! JsonReads: the walk. -/

namespace Go.Proofs.YtnnhkajjifmlfaaDoor
open Go.RowKit Go.Maps

end Go.Proofs.YtnnhkajjifmlfaaDoor
