/- What is told is read as the value: the plain law. -/
import Derived.Test.YtnnhkajjifmlfaaDoorProg
import Derived.KernelRfl
import Derived.Shelf.Strings.BuilderK
import Derived.Shelf.Strings.BuilderX
import Derived.Shelf.RegionOpenPlain
import Derived.Lib.Strings
import Derived.Lib.Slices
import Derived.Lib.Walk
import Derived.Lib.Builder
import Derived.Lib.AppendStr
import Derived.Lib.UnsafeStr
import Derived.Lib.MakeNoZero
import Derived.WalkKit
import Derived.Laws.Externs
import Derived.Laws.IdiomCopy
import Derived.Laws.BitsLemmas
import Derived.Shelf.Strings.BuilderF
import Derived.Lib.FrozenHead2
import Derived.Lib.OthersKept
import Derived.Test.YtnnhkajjifmlfaaDoorJa
import Derived.Test.YtnnhkajjifmlfaaDoorB3
import Derived.Shelf.Strings.Builder1
import Derived.Shelf.Small.Strs
import Derived.Shelf.LaysM
import Derived.Shelf.LaysC
import Derived.Lib.ItoaLen
namespace Go.Proofs.YtnnhkajjifmlfaaDoor
open Go.RowKit Go.Maps

section
variable {q : ByteArray}
theorem From.le {p : Nat} {l : List UInt8} (h : From q p l) : l.length ≤ q.size - p := by
  unfold From at h
  have := congrArg List.length h
  rw [List.length_drop, Array.length_toList] at this
  have e : q.data.size = q.size := rfl
  omega
theorem From.split {p : Nat} {l r : List UInt8} (h : From q p (l ++ r)) (hl : l ≠ []) : ∃ c l', l = c :: l' ∧ Go.Proofs.YtnnhkajjifmlfaaDoor.chr q p = c.toNat ∧ p < q.size := by
  cases l with
  | nil => exact absurd rfl hl
  | cons c l' =>
    obtain ⟨a, b⟩ := (show From q p (c :: (l' ++ r)) from h).chr
    exact ⟨c, l', rfl, a, b⟩
theorem ba_nil {t : ByteArray} (h : t.size = 0) : t = ⟨#[]⟩ := by
  cases t with
  | mk a => congr 1; exact Array.eq_empty_of_size_eq_zero h
end
end Go.Proofs.YtnnhkajjifmlfaaDoor
