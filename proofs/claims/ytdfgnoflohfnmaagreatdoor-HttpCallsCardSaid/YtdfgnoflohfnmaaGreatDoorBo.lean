/- HTTP: what is sent is told, and what is answered is read: the statement's own walk. -/
import Derived.Test.YtdfgnoflohfnmaaGreatDoorBm
import Derived.Test.YtdfgnoflohfnmaaGreatDoorHs
import Derived.Test.YtdfgnoflohfnmaaGreatDoorG1
namespace Go.Proofs.YtdfgnoflohfnmaaGreatDoor.Hx
open Go.RowKit Go.Maps

/-- the two lists: the bytes that were put together, and the requests -/
structure AL (w wr : World) (v v' : Value) (L : List Rq) : Prop where
  gb : w.grownBy wr none
  ex : ∃ (bo : Option Nat) (xs : List R5), BW wr v bo (strm L) ∧ (∀ b, bo = some b → w.heap.size ≤ b ∧ v'.ownBlock ≠ some b) ∧ wr.ownsRow w.heap.size 32 5 v' L.length (xs.flatMap R5.cells) ∧ xs.length = L.length ∧ ∀ i (h1 : i < L.length) (h2 : i < xs.length), RA w (fun _ => True) L[i] xs[i]
  ok : ∀ r ∈ L, mayS r = 0 ∧ SmR r
section
variable {w wr W : World} {v v' : Value} {L : List Rq}
theorem BW.grown {w w' : World} {bw : Value} {bo : Option Nat} {bs : Bs} (h : BW w bw bo bs) {row : Option Nat} (hg : w.grownBy w' row) (hb : ∀ b, bo = some b → row ≠ some b) : BW w' bw bo bs := by
  refine h.imp id ?_
  rintro ⟨b, e, hl, hf⟩
  exact ⟨b, e, Nat.lt_of_lt_of_le hl hg.size, hf.grown hg (fun h => hb b e h.symm)⟩
theorem AL.grown (h : AL w wr v v' L) (hg : wr.grownBy W none) : AL w W v v' L := by
  obtain ⟨bo, xs, h1, h2, h3, h4, h5⟩ := h.ex
  exact ⟨gb_trans h.gb hg, ⟨bo, xs, h1.grown hg (fun _ _ h => by cases h), h2, h3.kept hg (by cases e : v'.ownBlock <;> simp), h4, h5⟩, h.ok⟩
theorem AL.bv (h : AL w wr v v' L) : BV wr v (strm L) := by
  obtain ⟨bo, xs, h1, _⟩ := h.ex
  rcases h1 with ⟨rfl, e, _⟩ | ⟨b, _, _, hf⟩
  · rw [e]; exact ⟨none, 0, rfl, Nat.le_refl _, fun h => absurd rfl h⟩
  · exact (hf.bs (S := fun _ => True) (fun _ => trivial)).bv
end
theorem IV.grown {w w' : World} {v : Value} {l : List Int} (h : IV w v l) (hg : w.grownBy w' none) : IV w' v l := by
  obtain ⟨A, c, e, h⟩ := h
  exact ⟨A, c, e, fun i hi => by obtain ⟨⟨g, o, e, hc⟩, h2⟩ := h i hi; exact ⟨⟨g, o, e, cell_grown hc hg (by simp)⟩, h2⟩⟩
end Go.Proofs.YtdfgnoflohfnmaaGreatDoor.Hx
