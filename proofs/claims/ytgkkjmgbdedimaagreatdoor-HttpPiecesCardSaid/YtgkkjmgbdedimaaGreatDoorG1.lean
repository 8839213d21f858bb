/- A region in two parts, at the class of the worlds that have grown out of one. -/
import Derived.Test.YtgkkjmgbdedimaaGreatDoorG0
import Derived.BigQuiet
import Derived.Deep.RegionLaw
namespace Go.Proofs.YtgkkjmgbdedimaaGreatDoor
open Go Go.RowKit
/-- a world that has grown out of w -/
structure Grown (w : World) where
  W : World
  h : w.grownBy W none
instance (w : World) : Nonempty (Grown w) := ⟨⟨w, ⟨rfl, rfl, rfl, Nat.le_refl _, fun _ _ _ => rfl⟩⟩⟩
theorem wp_region_grown {P : Program} {id : Nat} {Q : Exit → Act → World → Prop} {a : Act} {w : World} {L l : List Oper} (p r : Nat) (hl : L.take p = l) (hr : (L.drop p).length = r) (hg : w.grownBy w.drew none)
    (hm : P.follows .mixedOrders = true) (hs : splitB .any L.toArray p = true) (hp : (L.take p).length = p) (hB : Region.lexB .any (L.take p).toArray = true)
    (h : wpQuiet P l.toArray (fun W => ∃ G : Grown w, W = G.W) (fun a' => ∀ G : Grown w, wpAny P .any L.toArray Q r (Array.replicate p true ++ Array.replicate r false) a' G.W) l a) :
    (Code.region id L.toArray true).wp P Q a w := by
  subst hl; subst hr
  have e : L = L.take p ++ L.drop p := (List.take_append_drop p L).symm
  have := wp_region_split (P := P) (id := id) (Q := Q) (a := a) (w := w) (C := fun W => ∃ G : Grown w, W = G.W) (l := L.take p) (m := L.drop p) hm (by rw [← e, hp]; exact hs) hB ⟨⟨w.drew, hg⟩, rfl⟩
    (by rw [← e, hp]; exact (show _ from by
          have h2 := h
          simpa using h2))
  rw [← e] at this
  exact this
/-- a call, in every world that has grown out of w: one value -/
def QC (P : Program) (w : World) (f : FuncId) (args : Array Value) (v : Value) : Prop := ∀ G : Grown w, Calls P f args G.W fun e w' => e = .returned v ∧ w.grownBy w' none
theorem QC.at {P : Program} {w : World} {f : FuncId} {args : Array Value} {v : Value} (h : QC P w f args v) (G : Grown w) : Calls P f args G.W fun e w' => e = .returned v ∧ ∃ G' : Grown w, w' = G'.W :=
  (h G).mono fun _ w' hh => ⟨hh.1, ⟨⟨w', hh.2⟩, rfl⟩⟩
end Go.Proofs.YtgkkjmgbdedimaaGreatDoor
