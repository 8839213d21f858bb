/- Policies: one thing is read: the walks. -/
import Derived.Test.YtnnhkajjifmlfaaDoorPi
namespace Go.Proofs.YtnnhkajjifmlfaaDoor.Pl
open Go.RowKit Go.Maps

/-- a block that holds a node -/
def NB (w : World) (L : Nat) (x : PN) : Prop := w.heap[L]? = some (.cells #[.int .i64 x.k, .int .i64 x.n, .string x.a, .string x.b, .int .i64 x.l, .int .i64 x.r] 64 (0, 0))
section
variable {w w' : World} {L : Nat} {x : PN}
theorem NB.lt (h : NB w L x) : L < w.heap.size := (Array.getElem?_eq_some_iff.1 h).1
theorem NB.all (h : NB w L x) : w.cell? ⟨L, 0, none⟩ = some (.int .i64 x.k) ∧ w.cell? ⟨L, 1, none⟩ = some (.int .i64 x.n) ∧ w.cell? ⟨L, 2, none⟩ = some (.string x.a) ∧ w.cell? ⟨L, 3, none⟩ = some (.string x.b) ∧ w.cell? ⟨L, 4, none⟩ = some (.int .i64 x.l) ∧ w.cell? ⟨L, 5, none⟩ = some (.int .i64 x.r) ∧ ∀ i, w.frozen? ⟨L, i, none⟩ = false := by
  unfold NB at h
  refine ⟨?_, ?_, ?_, ?_, ?_, ?_, fun i => by simp [World.frozen?, h]⟩
  · rw [cell_of_row w L 0 _ _ _ h]; rfl
  · rw [cell_of_row w L 1 _ _ _ h]; rfl
  · rw [cell_of_row w L 2 _ _ _ h]; rfl
  · rw [cell_of_row w L 3 _ _ _ h]; rfl
  · rw [cell_of_row w L 4 _ _ _ h]; rfl
  · rw [cell_of_row w L 5 _ _ _ h]; rfl
theorem NB.kept (h : NB w L x) {row : Option Nat} (hg : w.grownBy w' row) (hne : some L ≠ row) : NB w' L x := (hg.block L h.lt hne).trans h
theorem NB.new (w : World) : NB (w.alloc (.cells #[.int .i64 0, .int .i64 0, .string ⟨#[]⟩, .string ⟨#[]⟩, .int .i64 0, .int .i64 0] 64)) w.heap.size ⟨0, 0, ⟨#[]⟩, ⟨#[]⟩, 0, 0⟩ := heap_alloc_new w _
end
/-- a store into new memory is no turn of what was -/
theorem gb_setN {a w : World} {row : Option Nat} {L : Nat} (h : a.grownBy w row) (hL : a.heap.size ≤ L) (i : Nat) (u : Value) : a.grownBy (w.setCell ⟨L, i, none⟩ u) row :=
  ⟨h.os, h.tape, h.output, by simpa [World.setCell] using h.size, fun j hj hne => (Below.heap_setCell _ ⟨L, i, none⟩ u j (by simp; omega)).trans (h.block j hj hne)⟩
/-! nothing is put on the way -/
section
variable {s : ByteArray}
end
theorem txt_yes {x t : ByteArray} {l : List UInt8} (ht : t.toList = l) (h : x = t) : (x.toList == l) = true := by rw [← ht, ba_beq, decide_eq_true h]
theorem txt_no {x t : ByteArray} {l : List UInt8} (ht : t.toList = l) (h : x ≠ t) : (x.toList == l) = false := by rw [← ht, ba_beq, decide_eq_false h]
end Go.Proofs.YtnnhkajjifmlfaaDoor.Pl
