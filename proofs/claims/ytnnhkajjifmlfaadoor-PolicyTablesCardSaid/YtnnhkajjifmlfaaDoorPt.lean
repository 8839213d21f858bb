/- Policies: Parse: the walk. -/
import Derived.Test.YtnnhkajjifmlfaaDoorPs
namespace Go.Proofs.YtnnhkajjifmlfaaDoor.Pl
open Go.RowKit Go.Maps

/-- a policy in new memory, a place, an error -/
def RP (w : World) (x : List PN × Int × Int) (e : Ending) (w' : World) : Prop :=
  ∃ (v : Value) (S : Nat → Prop), e = .returned (.tuple #[.agg #[v], .int .i64 x.2.1, .int .i64 x.2.2]) ∧ NodesAt w' S v x.1 ∧ (∀ b, S b → w.heap.size ≤ b ∧ b < w'.heap.size) ∧ w.grownBy w' none
theorem NodesAt.nil (w : World) (S : Nat → Prop) : NodesAt w S (.slice none 0 0) [] := ⟨none, 0, rfl, fun h => absurd h (by simp)⟩
theorem RP.none {w w' : World} {a e : Int} (hg : w.grownBy w' none) : RP w ([], a, e) (.returned (.tuple #[.agg #[.slice none 0 0], .int .i64 a, .int .i64 e])) w' :=
  ⟨_, fun _ => False, rfl, NodesAt.nil _ _, fun _ h => h.elim, hg⟩
/-- a block that holds a policy -/
def QB (w : World) (P : Nat) (v : Value) : Prop := w.heap[P]? = some (.cells #[v] 48 (0, 0))
theorem QB.lt {w : World} {P : Nat} {v : Value} (h : QB w P v) : P < w.heap.size := (Array.getElem?_eq_some_iff.1 h).1
theorem QB.c0 {w : World} {P : Nat} {v : Value} (h : QB w P v) : w.cell? ⟨P, 0, none⟩ = some v := by rw [cell_of_row w P 0 _ _ _ h]; rfl
theorem QB.alloc {w : World} {P : Nat} {v : Value} (h : QB w P v) (o : Obj) : QB (w.alloc o) P v := (Below.heap_alloc w o P h.lt).trans h
theorem QB.set {w : World} {P : Nat} {v : Value} (h : QB w P v) (u : Value) : QB (w.setCell ⟨P, 0, none⟩ u) P u := by
  unfold QB at h ⊢; simp [World.setCell, Array.getElem?_modify, h]
end Go.Proofs.YtnnhkajjifmlfaaDoor.Pl
