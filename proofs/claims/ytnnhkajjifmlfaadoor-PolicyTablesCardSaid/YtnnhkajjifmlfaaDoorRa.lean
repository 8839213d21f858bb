/- The reference's reader of values: words, its small methods. -/
import Derived.Test.YtnnhkajjifmlfaaDoorJa
import Derived.Deep.LoopGhost
import Derived.Deep.RegionHeld3
import Derived.Deep.CutBlock
import Derived.Deep.DeepCutAuto
/-! The reference's reader of values: words, its small methods. -/

namespace Go.Proofs.YtnnhkajjifmlfaaDoor
open Go.RowKit Go.Maps

structure QS where
  p : Nat
  bad : Int
  e : Int
def RQ (w : World) (R : Nat) (s : ByteArray) (q : QS) : Prop :=
  w.heap[R]? = some (.cells #[.string s, .int .i64 q.p, .int .i64 q.bad, .int .i64 q.e] 72 (0, 0))
section
variable {w w' : World} {R : Nat} {s : ByteArray} {q : QS}
theorem RQ.lt (h : RQ w R s q) : R < w.heap.size := (Array.getElem?_eq_some_iff.1 h).1
theorem RQ.c0 (h : RQ w R s q) : w.cell? ⟨R, 0, none⟩ = some (.string s) := by rw [cell_of_row w R 0 _ _ _ h]; rfl
theorem RQ.c1 (h : RQ w R s q) : w.cell? ⟨R, 1, none⟩ = some (.int .i64 q.p) := by rw [cell_of_row w R 1 _ _ _ h]; rfl
theorem RQ.c2 (h : RQ w R s q) : w.cell? ⟨R, 2, none⟩ = some (.int .i64 q.bad) := by rw [cell_of_row w R 2 _ _ _ h]; rfl
theorem RQ.c3 (h : RQ w R s q) : w.cell? ⟨R, 3, none⟩ = some (.int .i64 q.e) := by rw [cell_of_row w R 3 _ _ _ h]; rfl
theorem RQ.f (h : RQ w R s q) (i : Nat) : w.frozen? ⟨R, i, none⟩ = false := by unfold RQ at h; simp [World.frozen?, h]
theorem RQ.alloc (h : RQ w R s q) (o : Obj) : RQ (w.alloc o) R s q := (Below.heap_alloc w o R h.lt).trans h
theorem RQ.drewN (h : RQ w R s q) (n : Nat) : RQ (w.drewN n) R s q := h
theorem RQ.drew (h : RQ w R s q) : RQ w.drew R s q := h
theorem RQ.far (h : RQ w R s q) {a : Addr} (hq : R ≠ a.block) (u : Value) : RQ (w.setCell a u) R s q := (Below.heap_setCell w a u R hq).trans h
theorem RQ.kept (h : RQ w R s q) {row : Option Nat} (hg : w.grownBy w' row) (hne : some R ≠ row) : RQ w' R s q := (hg.block R h.lt hne).trans h
theorem RQ.put5 {B : Nat} (h : RQ w R s q) (hne : R ≠ B) (a b c d e : Value) : RQ (YtnnhkajjifmlfaaDoor.put5 w B a b c d e) R s q :=
  ((((h.far (a := ⟨B, 0, none⟩) hne a).far (a := ⟨B, 1, none⟩) hne b).far (a := ⟨B, 2, none⟩) hne c).far (a := ⟨B, 3, none⟩) hne d).far (a := ⟨B, 4, none⟩) hne e
end
end Go.Proofs.YtnnhkajjifmlfaaDoor

/-! The reference's reader: must, hexOf. -/

namespace Go.Proofs.YtnnhkajjifmlfaaDoor
open Go.RowKit Go.Maps

end Go.Proofs.YtnnhkajjifmlfaaDoor

/-! The reference's reader: escape. -/

namespace Go.Proofs.YtnnhkajjifmlfaaDoor
open Go.RowKit Go.Maps

end Go.Proofs.YtnnhkajjifmlfaaDoor

/-! The reference's reader: quotedText. -/

namespace Go.Proofs.YtnnhkajjifmlfaaDoor
open Go.RowKit Go.Maps

end Go.Proofs.YtnnhkajjifmlfaaDoor

/-! The reference's reader: number, to the loop's end. -/

namespace Go.Proofs.YtnnhkajjifmlfaaDoor
open Go.RowKit Go.Maps

def nst (n d : Int) : Int := wrap64 (wrap64 (10 * n) - d)
def gst (n d : Int) : Bool := decide (n < (-9223372036854775808 + d).tdiv 10)
def numF (s : ByteArray) : Nat → Int → Bool → Nat → Int × Bool × Nat
  | 0, n, g, i => (n, g, i)
  | k + 1, n, g, i => if isDig (chr s i) then numF s k (nst n (chr s i - 48)) (g || gst n (chr s i - 48)) (i + 1) else (n, g, i)
end Go.Proofs.YtnnhkajjifmlfaaDoor

/-! The reference's reader: number. -/

namespace Go.Proofs.YtnnhkajjifmlfaaDoor
open Go.RowKit Go.Maps

end Go.Proofs.YtnnhkajjifmlfaaDoor
