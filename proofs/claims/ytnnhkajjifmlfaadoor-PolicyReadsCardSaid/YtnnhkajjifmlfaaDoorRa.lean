/- The reference's reader of values: words, its small methods. -/
import Derived.Test.YtnnhkajjifmlfaaDoorJa
import Derived.Deep.LoopGhost
import Derived.Deep.RegionHeld3
import Derived.Deep.CutBlock
import Derived.Deep.DeepCutAuto
/-! The reference's reader of values: words, its small methods. -/

namespace Go.Proofs.YtnnhkajjifmlfaaDoor
open Go.RowKit Go.Maps

structure QS where
  p : Nat
  bad : Int
  e : Int
def RQ (w : World) (R : Nat) (s : ByteArray) (q : QS) : Prop :=
  w.heap[R]? = some (.cells #[.string s, .int .i64 q.p, .int .i64 q.bad, .int .i64 q.e] 72 (0, 0))
section
variable {w w' : World} {R : Nat} {s : ByteArray} {q : QS}
theorem RQ.lt (h : RQ w R s q) : R < w.heap.size := (Array.getElem?_eq_some_iff.1 h).1
theorem RQ.c0 (h : RQ w R s q) : w.cell? ⟨R, 0, none⟩ = some (.string s) := by rw [cell_of_row w R 0 _ _ _ h]; rfl
theorem RQ.c1 (h : RQ w R s q) : w.cell? ⟨R, 1, none⟩ = some (.int .i64 q.p) := by rw [cell_of_row w R 1 _ _ _ h]; rfl
theorem RQ.c2 (h : RQ w R s q) : w.cell? ⟨R, 2, none⟩ = some (.int .i64 q.bad) := by rw [cell_of_row w R 2 _ _ _ h]; rfl
theorem RQ.c3 (h : RQ w R s q) : w.cell? ⟨R, 3, none⟩ = some (.int .i64 q.e) := by rw [cell_of_row w R 3 _ _ _ h]; rfl
theorem RQ.f (h : RQ w R s q) (i : Nat) : w.frozen? ⟨R, i, none⟩ = false := by unfold RQ at h; simp [World.frozen?, h]
theorem RQ.set1 (h : RQ w R s q) (x : Nat) : RQ (w.setCell ⟨R, 1, none⟩ (.int .i64 x)) R s { q with p := x } := by
  unfold RQ at h ⊢; simp [World.setCell, Array.getElem?_modify, h]
theorem RQ.set2 (h : RQ w R s q) (x : Int) : RQ (w.setCell ⟨R, 2, none⟩ (.int .i64 x)) R s { q with bad := x } := by
  unfold RQ at h ⊢; simp [World.setCell, Array.getElem?_modify, h]
theorem RQ.set3 (h : RQ w R s q) (x : Int) : RQ (w.setCell ⟨R, 3, none⟩ (.int .i64 x)) R s { q with e := x } := by
  unfold RQ at h ⊢; simp [World.setCell, Array.getElem?_modify, h]
theorem RQ.alloc (h : RQ w R s q) (o : Obj) : RQ (w.alloc o) R s q := (Below.heap_alloc w o R h.lt).trans h
theorem RQ.drewN (h : RQ w R s q) (n : Nat) : RQ (w.drewN n) R s q := h
theorem RQ.drew (h : RQ w R s q) : RQ w.drew R s q := h
theorem RQ.far (h : RQ w R s q) {a : Addr} (hq : R ≠ a.block) (u : Value) : RQ (w.setCell a u) R s q := (Below.heap_setCell w a u R hq).trans h
theorem RQ.kept (h : RQ w R s q) {row : Option Nat} (hg : w.grownBy w' row) (hne : some R ≠ row) : RQ w' R s q := (hg.block R h.lt hne).trans h
theorem RQ.put5 {B : Nat} (h : RQ w R s q) (hne : R ≠ B) (a b c d e : Value) : RQ (YtnnhkajjifmlfaaDoor.put5 w B a b c d e) R s q :=
  ((((h.far (a := ⟨B, 0, none⟩) hne a).far (a := ⟨B, 1, none⟩) hne b).far (a := ⟨B, 2, none⟩) hne c).far (a := ⟨B, 3, none⟩) hne d).far (a := ⟨B, 4, none⟩) hne e
end
def failQ (q : QS) (pos en : Int) : QS := if q.bad < 0 then { q with bad := pos, e := en } else q
def blanksQ (s : ByteArray) (q : QS) : QS := { q with p := skip s q.p }
def stepQ (q : QS) : QS := { q with p := q.p + 1 }
def mustQ (s : ByteArray) : List Nat → QS → QS
  | [], q => q
  | c :: r, q => if q.bad < 0 then (if chr s q.p = c then mustQ s r (stepQ q) else failQ q q.p 4) else q

end Go.Proofs.YtnnhkajjifmlfaaDoor

/-! The reference's reader: must, hexOf. -/

namespace Go.Proofs.YtnnhkajjifmlfaaDoor
open Go.RowKit Go.Maps

def hexQ (c : Int) : Int := if 48 ≤ c ∧ c ≤ 57 then c - 48 else if 97 ≤ c ∧ c ≤ 102 then c - 87 else if 65 ≤ c ∧ c ≤ 70 then c - 55 else -1
def unescQ (c : Int) : Int := if c = 34 then 34 else if c = 92 then 92 else if c = 47 then 47 else if c = 98 then 8 else if c = 102 then 12 else if c = 110 then 10 else if c = 114 then 13 else if c = 116 then 9 else -1
def digQ (s : ByteArray) (q : QS) : Int × QS :=
  if hexQ (chr s q.p) < 0 then (0, failQ q q.p 4)
  else if hexQ (chr s (stepQ q).p) < 0 then (0, failQ (stepQ q) (stepQ q).p 4)
  else (16 * hexQ (chr s q.p) + hexQ (chr s (stepQ q).p), stepQ (stepQ q))
def escQ (s : ByteArray) (q : QS) : Int × QS :=
  if 0 ≤ unescQ (chr s q.p) then (unescQ (chr s q.p), stepQ q)
  else if (mustQ s (nats ⟨#[117, 48, 48]⟩) q).bad < 0 then digQ s (mustQ s (nats ⟨#[117, 48, 48]⟩) q)
  else (0, mustQ s (nats ⟨#[117, 48, 48]⟩) q)
end Go.Proofs.YtnnhkajjifmlfaaDoor

/-! The reference's reader: escape. -/

namespace Go.Proofs.YtnnhkajjifmlfaaDoor
open Go.RowKit Go.Maps

end Go.Proofs.YtnnhkajjifmlfaaDoor

/-! The reference's reader: quotedText. -/

namespace Go.Proofs.YtnnhkajjifmlfaaDoor
open Go.RowKit Go.Maps

def qtF (s : ByteArray) : Nat → List UInt8 → QS → List UInt8 × QS
  | 0, _, q => ([], q)
  | n + 1, acc, q =>
    if q.bad < 0 then
      if q.p = s.size ∨ chr s q.p < 32 then ([], failQ q q.p 4)
      else if chr s q.p = 34 then (acc, stepQ q)
      else if chr s q.p = 92 then qtF s n (acc ++ [toB (escQ s (stepQ q)).1]) (escQ s (stepQ q)).2
      else qtF s n (acc ++ [toB (chr s q.p)]) (stepQ q)
    else ([], q)
def qtQ (s : ByteArray) (q : QS) : List UInt8 × QS := qtF s (s.size + 2) [] (mustQ s (nats ⟨#[34]⟩) q)

end Go.Proofs.YtnnhkajjifmlfaaDoor

/-! The reference's reader: number, to the loop's end. -/

namespace Go.Proofs.YtnnhkajjifmlfaaDoor
open Go.RowKit Go.Maps

def nst (n d : Int) : Int := wrap64 (wrap64 (10 * n) - d)
def gst (n d : Int) : Bool := decide (n < (-9223372036854775808 + d).tdiv 10)
def numF (s : ByteArray) : Nat → Int → Bool → Nat → Int × Bool × Nat
  | 0, n, g, i => (n, g, i)
  | k + 1, n, g, i => if isDig (chr s i) then numF s k (nst n (chr s i - 48)) (g || gst n (chr s i - 48)) (i + 1) else (n, g, i)
def num3 (s : ByteArray) (i : Nat) (n : Int) (g : Bool) : Int × Bool × Nat := numF s (s.size - i) n g i
theorem num3_step {s : ByteArray} {i : Nat} (n : Int) (g : Bool) (h : isDig (chr s i) = true) : num3 s i n g = num3 s (i + 1) (nst n (chr s i - 48)) (g || gst n (chr s i - 48)) := by
  have hi := dig_chr h
  unfold num3
  rw [show s.size - i = (s.size - (i + 1)) + 1 from by omega, numF, if_pos h]
theorem num3_stop {s : ByteArray} {i : Nat} (n : Int) (g : Bool) (h : isDig (chr s i) = false) : num3 s i n g = (n, g, i) := by
  unfold num3
  cases s.size - i with
  | zero => rfl
  | succ k => rw [numF, if_neg (by simp [h])]
theorem num3_at {s : ByteArray} : ∀ (k i : Nat) (n : Int) (g : Bool), s.size - i = k → i ≤ s.size → (num3 s i n g).2.2 = dsk s i
  | 0, i, n, g, hk, hi => by
    have h : isDig (chr s i) = false := by
      cases h : isDig (chr s i) with
      | false => rfl
      | true => have := dig_chr h; omega
    rw [num3_stop n g h, dsk_stop h]
  | k + 1, i, n, g, hk, hi => by
    cases h : isDig (chr s i) with
    | false => rw [num3_stop n g h, dsk_stop h]
    | true =>
      have := dig_chr h
      rw [num3_step n g h, dsk_step h]
      exact num3_at k (i + 1) _ _ (by omega) (by omega)
def negQ (s : ByteArray) (q : QS) : Bool := chr s q.p == 45
def sgnQ (s : ByteArray) (q : QS) : QS := if negQ s q then stepQ q else q
def zeroQ (s : ByteArray) (neg : Bool) (d j : Nat) : Bool := chr s d == 48 && (decide (d + 1 < j) || neg)
def numQ (s : ByteArray) (q : QS) : Int × QS :=
  let d := (sgnQ s q).p
  let x := num3 s d 0 false
  let r : QS := { q with p := x.2.2 }
  if x.2.2 = d then (0, failQ r x.2.2 4)
  else if x.2.1 || zeroQ s (negQ s q) d x.2.2 || (!negQ s q && x.1 == -9223372036854775808) then (0, failQ r q.p 4)
  else (if negQ s q then x.1 else wrap64 (-x.1), r)
end Go.Proofs.YtnnhkajjifmlfaaDoor

/-! The reference's reader: number. -/

namespace Go.Proofs.YtnnhkajjifmlfaaDoor
open Go.RowKit Go.Maps

end Go.Proofs.YtnnhkajjifmlfaaDoor
