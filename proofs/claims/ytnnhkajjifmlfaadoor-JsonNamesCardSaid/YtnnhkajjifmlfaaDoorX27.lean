/- Tables laid as trees tell the truth. -/
import Derived.Test.YtnnhkajjifmlfaaDoorX26
namespace Go.Proofs.YtnnhkajjifmlfaaDoor
namespace Ax
theorem build_get {α : Type} (d : α) : ∀ (n : Nat) (g : Pn → α) (p : Pn), (Tr.build n g).get d p = d ∨ (Tr.build n g).get d p = g p
  | 0, g, p => .inl (get_leaf d p)
  | n + 1, g, .one => .inr rfl
  | n + 1, g, .o p => build_get d n (fun p => g (.o p)) p
  | n + 1, g, .i p => build_get d n (fun p => g (.i p)) p
end Ax
end Go.Proofs.YtnnhkajjifmlfaaDoor
