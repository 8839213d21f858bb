/- What quote tells is read as the text: the plain law. -/
import Derived.Test.YtnnhkajjifmlfaaDoorProg
import Derived.KernelRfl
import Derived.Shelf.Strings.BuilderK
import Derived.Shelf.Strings.BuilderX
import Derived.Shelf.RegionOpenPlain
import Derived.Lib.Strings
import Derived.Lib.Slices
import Derived.Lib.Walk
import Derived.Lib.Builder
import Derived.Lib.AppendStr
import Derived.Lib.UnsafeStr
import Derived.Lib.MakeNoZero
import Derived.WalkKit
import Derived.Laws.Externs
import Derived.Laws.IdiomCopy
import Derived.Laws.BitsLemmas
import Derived.Shelf.Strings.BuilderF
import Derived.Lib.FrozenHead2
import Derived.Lib.OthersKept
import Derived.Test.YtnnhkajjifmlfaaDoorJa
import Derived.Test.YtnnhkajjifmlfaaDoorLa
namespace Go.Proofs.YtnnhkajjifmlfaaDoor
open Go.RowKit Go.Maps

section
variable {q : ByteArray}
/-- from a place on the bytes are these -/
def From (q : ByteArray) (p : Nat) (l : List UInt8) : Prop := q.data.toList.drop p = l
theorem From.chr {p : Nat} {c : UInt8} {l : List UInt8} (h : From q p (c :: l)) : Go.Proofs.YtnnhkajjifmlfaaDoor.chr q p = c.toNat ∧ p < q.size := by
  unfold From at h
  have hlt : p < q.data.toList.length := by
    rcases Nat.lt_or_ge p q.data.toList.length with h1 | h1
    · exact h1
    · rw [List.drop_of_length_le h1] at h; cases h
  have hlt' : p < q.size := by rw [Array.length_toList] at hlt; exact hlt
  rw [List.drop_eq_getElem_cons hlt] at h
  injection h with h1 h2
  rw [chr_in hlt']
  refine ⟨?_, hlt'⟩
  rw [← h1]; rfl
theorem From.tail {p : Nat} {c : UInt8} {l : List UInt8} (h : From q p (c :: l)) : From q (p + 1) l := by
  unfold From at h ⊢
  rw [← List.drop_drop, h]; rfl
theorem From.nil {p : Nat} (h : From q p []) : q.size ≤ p := by
  unfold From at h
  have := congrArg List.length h
  rw [List.length_drop, Array.length_toList] at this
  simp only [List.length_nil] at this
  have e : q.data.size = q.size := rfl
  omega
end
end Go.Proofs.YtnnhkajjifmlfaaDoor
