/- json.quote: the plain function that it computes; what stands in the map of short escapes. -/
import Derived.Test.YtnnhkajjifmlfaaDoorB0
import Derived.Test.YtnnhkajjifmlfaaDoorJa
namespace Go.Proofs.YtnnhkajjifmlfaaDoor
open Go.RowKit Go.Maps

/-- the letter of a byte's short escape; -1: it has none -/
def shc (c : Int) : Int := if c = 34 then 34 else if c = 92 then 92 else if c = 8 then 98 else if c = 9 then 116 else if c = 10 then 110 else if c = 12 then 102 else if c = 13 then 114 else -1
def hxd (x : Nat) : Nat := if x < 10 then 48 + x else 87 + x
/-- a byte, told -/
def qch (c : UInt8) : List UInt8 :=
  if 0 ≤ shc c.toNat then [92, (shc c.toNat).toNat.toUInt8] else if 32 ≤ c.toNat ∧ c.toNat ≤ 126 then [c] else [92, 117, 48, 48, (hxd (c.toNat / 16)).toUInt8, (hxd (c.toNat % 16)).toUInt8]
def qlist (l : List UInt8) : List UInt8 := l.flatMap qch
theorem qch_len (c : UInt8) : (qch c).length ≤ 6 := by
  unfold qch
  repeat' split
  all_goals simp
theorem qlist_len : ∀ l : List UInt8, (qlist l).length ≤ 6 * l.length
  | [] => Nat.le_refl _
  | c :: r => by
    have h1 := qlist_len r
    have h2 := qch_len c
    show (qch c ++ qlist r).length ≤ _
    simp only [List.length_append, List.length_cons]
    omega
theorem qlist_snoc (l : List UInt8) (c : UInt8) : qlist (l ++ [c]) = qlist l ++ qch c := by simp [qlist]

/-! the map -/
def chk (c : Nat) : Bool := (match shortD.atKey (.int .u8 c) (.lit (.int .u8 0)) with
  | .lit (.int .u8 e) => e == (if 0 ≤ shc c then shc c else 0)
  | _ => false) && (Maps.has shortD (.int .u8 c) == decide (0 ≤ shc c))
theorem chk_all : (List.range 256).all chk = true := by kernel_rfl
theorem chk_at (c : Nat) (h : c < 256) : shortD.atKey (.int .u8 c) (.lit (.int .u8 0)) = .lit (.int .u8 (if 0 ≤ shc c then shc c else 0)) ∧ Maps.has shortD (.int .u8 c) = decide (0 ≤ shc c) := by
  have := List.all_eq_true.1 chk_all c (List.mem_range.2 h)
  unfold chk at this
  rw [Bool.and_eq_true] at this
  refine ⟨?_, by simpa using this.2⟩
  have h1 := this.1
  split at h1
  · rename_i e he
    rw [beq_iff_eq] at h1
    rw [he, h1]
  · cases h1
theorem plain_u8 {v : Value} {e : Int} {ps : List MemPlace} (h : plainElem (H := Unit) Tryd.prog 5 v = some (.lit (.int .u8 e), ps)) : v = .int .u8 e := by
  unfold plainElem at h
  have u5 := Tryd.underlying5
  revert h
  generalize Tryd.prog.underlying 5 = x at u5
  subst u5
  intro h
  cases v <;> simp only at h <;> first | (cases h; done) | skip
  split at h
  · rename_i h1
    obtain ⟨rfl, _⟩ := h1
    simp only [Option.some.injEq, Prod.mk.injEq, DataW.lit.injEq, Lit.int.injEq, true_and] at h
    rw [h.1]
  · cases h
theorem hz5 : plainElem (H := Unit) Tryd.prog 5 (.int .u8 0) = some (.lit (.int .u8 0), []) := by kernel_rfl
theorem key5 (c : Nat) (h : c < 256) : keyOf Tryd.prog 5 (.int .u8 c) = some (.int .u8 c) := keyOf_int_mk Tryd.underlying5 (by simp [Lit.wf, IntKind.min, IntKind.max, IntKind.bits, IntKind.signed]; omega)
/-! what stays -/
theorem bat_kept {T e : TypeId} {B b : Nat} {p : Value} {bs : List Value} {w w' : World} (h : Lib.BuilderAtF T e B b p bs w) (hg : w.grownBy w' none) : Lib.BuilderAtF T e B b p bs w' := by
  have hlt := h.lt
  obtain ⟨hB, v, hb, hown, hne⟩ := h
  exact ⟨hB, v, (hg.block b hlt (by simp)).trans hb, hown.kept hg (by cases hv : v.ownBlock <;> simp), hne⟩
theorem isb_kept {T e : TypeId} {B b : Nat} {bs : List Value} {w w' : World} (h : Lib.IsBuilderF T e B b bs w) (hg : w.grownBy w' none) : Lib.IsBuilderF T e B b bs w' := h.imp (fun x => bat_kept x hg) (fun x => bat_kept x hg)
theorem map_kept {w w' : World} {mb b n : Nat} {D : DataW Unit} (h : w.ownsMap Tryd.prog 5 (plainElem Tryd.prog 5) mb n D) (ho : Lib.OthersKept 5 (some b) w w') (hne : mb ≠ b) : w'.ownsMap Tryd.prog 5 (plainElem Tryd.prog 5) mb n D := by
  obtain ⟨es, clock, hb, rest⟩ := h
  exact ⟨es, clock, ho mb _ hb (by simpa using hne) (fun c fz => by simp), rest⟩
end Go.Proofs.YtnnhkajjifmlfaaDoor
