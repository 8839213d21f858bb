/- Policies: the reader's block; its small methods. -/
import Derived.Test.YtnnhkajjifmlfaaDoorPb
import Derived.Test.YtnnhkajjifmlfaaDoorShelfP
import Derived.Deep.LoopGhost
import Derived.Deep.AppendLies
import Derived.Deep.CutBlock
import Derived.Deep.DeepCutAuto
import Derived.Deep.DrawnRows
import Derived.Deep.RegionLaw
import Derived.BigQuiet
import Derived.BigRegion
import Derived.RegionTactic
namespace Go.Proofs.YtnnhkajjifmlfaaDoor.Pl
open Go.RowKit Go.Maps

def nodeC (x : PN) : List Value := [.int .i64 x.k, .int .i64 x.n, .string x.a, .string x.b, .int .i64 x.l, .int .i64 x.r]
abbrev nodeV (x : PN) : Value := .agg #[.int .i64 x.k, .int .i64 x.n, .string x.a, .string x.b, .int .i64 x.l, .int .i64 x.r]
def nodesC (l : List PN) : List Value := l.flatMap nodeC
/-- the reader's block -/
def PB (w : World) (R : Nat) (s : ByteArray) (σ : PQ) (nv : Value) : Prop :=
  w.heap[R]? = some (.cells #[.string s, .int .i64 σ.p, .int .i64 σ.k, .string σ.x, .int .i64 σ.ta, nv, .int .i64 σ.bad, .bool σ.gr] 95 (0, 0))
section
variable {w w' : World} {R : Nat} {s : ByteArray} {σ : PQ} {nv : Value}
theorem PB.lt (h : PB w R s σ nv) : R < w.heap.size := (Array.getElem?_eq_some_iff.1 h).1
theorem PB.c0 (h : PB w R s σ nv) : w.cell? ⟨R, 0, none⟩ = some (.string s) := by rw [cell_of_row w R 0 _ _ _ h]; rfl
theorem PB.c1 (h : PB w R s σ nv) : w.cell? ⟨R, 1, none⟩ = some (.int .i64 σ.p) := by rw [cell_of_row w R 1 _ _ _ h]; rfl
theorem PB.c2 (h : PB w R s σ nv) : w.cell? ⟨R, 2, none⟩ = some (.int .i64 σ.k) := by rw [cell_of_row w R 2 _ _ _ h]; rfl
theorem PB.c3 (h : PB w R s σ nv) : w.cell? ⟨R, 3, none⟩ = some (.string σ.x) := by rw [cell_of_row w R 3 _ _ _ h]; rfl
theorem PB.c4 (h : PB w R s σ nv) : w.cell? ⟨R, 4, none⟩ = some (.int .i64 σ.ta) := by rw [cell_of_row w R 4 _ _ _ h]; rfl
theorem PB.c5 (h : PB w R s σ nv) : w.cell? ⟨R, 5, none⟩ = some nv := by rw [cell_of_row w R 5 _ _ _ h]; rfl
theorem PB.c6 (h : PB w R s σ nv) : w.cell? ⟨R, 6, none⟩ = some (.int .i64 σ.bad) := by rw [cell_of_row w R 6 _ _ _ h]; rfl
theorem PB.c7 (h : PB w R s σ nv) : w.cell? ⟨R, 7, none⟩ = some (.bool σ.gr) := by rw [cell_of_row w R 7 _ _ _ h]; rfl
theorem PB.f (h : PB w R s σ nv) (i : Nat) : w.frozen? ⟨R, i, none⟩ = false := by unfold PB at h; simp [World.frozen?, h]
theorem PB.alloc (h : PB w R s σ nv) (o : Obj) : PB (w.alloc o) R s σ nv := (Below.heap_alloc w o R h.lt).trans h
theorem PB.drewN (h : PB w R s σ nv) (n : Nat) : PB (w.drewN n) R s σ nv := h
theorem PB.drew (h : PB w R s σ nv) : PB w.drew R s σ nv := h
theorem PB.kept (h : PB w R s σ nv) {row : Option Nat} (hg : w.grownBy w' row) (hne : some R ≠ row) : PB w' R s σ nv := (hg.block R h.lt hne).trans h
end
end Go.Proofs.YtnnhkajjifmlfaaDoor.Pl
