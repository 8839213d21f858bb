/- Policies: a number is read, a node is put: the walks. -/
import Derived.Test.YtnnhkajjifmlfaaDoorPg
namespace Go.Proofs.YtnnhkajjifmlfaaDoor.Pl
open Go.RowKit Go.Maps

theorem ba_nil' {x : ByteArray} (h : x.size = 0) : x = ⟨#[]⟩ := by
  obtain ⟨⟨l⟩⟩ := x
  have : l = [] := List.eq_nil_of_length_eq_zero h
  subst this; rfl
end Go.Proofs.YtnnhkajjifmlfaaDoor.Pl
