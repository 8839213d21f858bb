/- Values, checked and told: the plain functions. -/
import Derived.Test.YtnnhkajjifmlfaaDoorProg
import Derived.KernelRfl
import Derived.Shelf.Strings.BuilderK
import Derived.Shelf.Strings.BuilderX
import Derived.Shelf.RegionOpenPlain
import Derived.Lib.Strings
import Derived.Lib.Slices
import Derived.Lib.Walk
import Derived.Lib.Builder
import Derived.Lib.AppendStr
import Derived.Lib.UnsafeStr
import Derived.Lib.MakeNoZero
import Derived.WalkKit
import Derived.Laws.Externs
import Derived.Laws.IdiomCopy
import Derived.Laws.BitsLemmas
import Derived.Shelf.Strings.BuilderF
import Derived.Lib.FrozenHead2
import Derived.Lib.OthersKept
import Derived.Test.YtnnhkajjifmlfaaDoorJa
import Derived.Test.YtnnhkajjifmlfaaDoorB3
import Derived.Shelf.Strings.Builder1
import Derived.Shelf.Small.Strs
import Derived.Shelf.LaysM
import Derived.Shelf.LaysC
import Derived.Lib.ItoaLen
namespace Go.Proofs.YtnnhkajjifmlfaaDoor
open Go.RowKit Go.Maps

/-! numerals -/
theorem dval_append : ∀ (l r : List UInt8) (a : Nat), dval (l ++ r) a = dval r (dval l a)
  | [], _, _ => rfl
  | _ :: l, r, _ => dval_append l r _
theorem dec_all : ∀ (n u : Nat), u < n → dval (Lib.decDigits u) 0 = u ∧ digs (Lib.decDigits u) ∧ Lib.decDigits u ≠ [] ∧ (∀ c l, Lib.decDigits u = c :: l → l ≠ [] → c.toNat ≠ 48) ∧ (1 ≤ u → ∀ c l, Lib.decDigits u = c :: l → c.toNat ≠ 48)
  | 0, u, h => absurd h (Nat.not_lt_zero _)
  | n + 1, u, h => by
    by_cases h10 : u < 10
    · have e : (UInt8.ofNat (48 + u)).toNat = 48 + u := by simp [UInt8.toNat_ofNat']; omega
      rw [Lib.decDigits, dif_pos h10]
      refine ⟨?_, ?_, by simp, ?_, ?_⟩
      · show dval [] (0 * 10 + ((UInt8.ofNat (48 + u)).toNat - 48)) = u
        rw [e]; show 0 * 10 + (48 + u - 48) = u; omega
      · intro c hc; rw [List.mem_singleton.1 hc, e]; omega
      · intro c l hcl hl; injection hcl with h1 h2; exact absurd h2.symm hl
      · intro h1 c l hcl; injection hcl with h2 h3; rw [← h2, e]; omega
    · have e : (UInt8.ofNat (48 + u % 10)).toNat = 48 + u % 10 := by simp [UInt8.toNat_ofNat']; omega
      obtain ⟨a1, a2, a3, a4, a5⟩ := dec_all n (u / 10) (by omega)
      have key : ∀ c l, Lib.decDigits u = c :: l → c.toNat ≠ 48 := by
        intro c l hcl
        rw [Lib.decDigits, dif_neg h10] at hcl
        cases hd : Lib.decDigits (u / 10) with
        | nil => exact absurd hd a3
        | cons c' l' =>
          rw [hd] at hcl
          injection hcl with h1 h2
          rw [← h1]
          exact a5 (by omega) c' l' hd
      refine ⟨?_, ?_, ?_, fun c l hcl _ => key c l hcl, fun _ => key⟩
      · rw [Lib.decDigits, dif_neg h10, dval_append, a1]
        show dval [] (u / 10 * 10 + ((UInt8.ofNat (48 + u % 10)).toNat - 48)) = u
        rw [e]; show u / 10 * 10 + (48 + u % 10 - 48) = u; omega
      · rw [Lib.decDigits, dif_neg h10]
        intro c hc
        rcases List.mem_append.1 hc with hc | hc
        · exact a2 c hc
        · rw [List.mem_singleton.1 hc, e]; omega
      · rw [Lib.decDigits, dif_neg h10]; simp
theorem dec_val (u : Nat) : dval (Lib.decDigits u) 0 = u := (dec_all (u + 1) u (by omega)).1
theorem dec_digs (u : Nat) : digs (Lib.decDigits u) := (dec_all (u + 1) u (by omega)).2.1
theorem dec_ne (u : Nat) : Lib.decDigits u ≠ [] := (dec_all (u + 1) u (by omega)).2.2.1
theorem dec_lead (u : Nat) : ∀ c l, Lib.decDigits u = c :: l → l ≠ [] → c.toNat ≠ 48 := (dec_all (u + 1) u (by omega)).2.2.2.1
end Go.Proofs.YtnnhkajjifmlfaaDoor
