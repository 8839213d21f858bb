/- Policies: a node is put: the walk. -/
import Derived.Test.YtnnhkajjifmlfaaDoorPh
namespace Go.Proofs.YtnnhkajjifmlfaaDoor.Pl
open Go.RowKit Go.Maps

theorem info64 : (Tryd.prog.info? 64).map (fun i => (i.zero, i.size, i.bytes)) = some (some (nodeV ⟨0, 0, ⟨#[]⟩, ⟨#[]⟩, 0, 0⟩), 6, 64) := by kernel_rfl
theorem nodesC_len : ∀ l : List PN, (nodesC l).length = l.length * 6
  | [] => rfl
  | x :: l => by
    have := nodesC_len l
    unfold nodesC at *
    rw [List.flatMap_cons, List.length_append, this]
    simp [nodeC]
    omega
theorem nodesC_snoc (l : List PN) (x : PN) : nodesC (l ++ [x]) = nodesC l ++ nodeC x := by unfold nodesC; simp
theorem own_drew {w : World} {B : Nat} {e : TypeId} {sz : Nat} {v : Value} {n : Nat} {xs : List Value} (h : w.ownsRow B e sz v n xs) : w.drew.ownsRow B e sz v n xs := h
end Go.Proofs.YtnnhkajjifmlfaaDoor.Pl
