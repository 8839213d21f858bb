/- Policies: how far a reader goes, how many nodes it puts. -/
import Derived.Test.YtnnhkajjifmlfaaDoorP5
namespace Go.Proofs.YtnnhkajjifmlfaaDoor.Pl
open Go.RowKit

/-- a reader's state as it may be -/
structure Lk (s : ByteArray) (σ : PQ) : Prop where
  ps : σ.p ≤ s.size
  le : σ.ta ≤ σ.p
  lt : σ.k ≠ 0 → σ.ta < σ.p
  xs : σ.x.size ≤ s.size
/-- from one state to a later one: m nodes more at most, beside two for each token -/
structure Gn (s : ByteArray) (m : Nat) (σ τ : PQ) : Prop where
  lk : Lk s τ
  ta : σ.ta ≤ τ.ta
  ns : τ.ns.length + 2 * σ.ta ≤ σ.ns.length + m + 2 * τ.ta
section
variable {s : ByteArray} {σ τ υ : PQ} {m n : Nat}
theorem Gn.refl (h : Lk s σ) : Gn s 0 σ σ := ⟨h, Nat.le_refl _, by omega⟩
theorem Gn.trans (h : Gn s m σ τ) (k : Gn s n τ υ) : Gn s (m + n) σ υ := ⟨k.lk, Nat.le_trans h.ta k.ta, by have := h.ns; have := k.ns; omega⟩
theorem Gn.mono (h : Gn s m σ τ) (k : m ≤ n) : Gn s n σ τ := ⟨h.lk, h.ta, by have := h.ns; omega⟩
end
end Go.Proofs.YtnnhkajjifmlfaaDoor.Pl
