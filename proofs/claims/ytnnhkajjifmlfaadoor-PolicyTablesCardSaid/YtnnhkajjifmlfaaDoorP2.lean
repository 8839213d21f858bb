/- Policies: how the document reads a text, as plain functions. -/
import Derived.Test.YtnnhkajjifmlfaaDoorP1
namespace Go.Proofs.YtnnhkajjifmlfaaDoor.Pl
open Go.RowKit

/-- the document's reader: the place; the token's kind, text, place; what is wrong; is something too long; the nodes -/
structure RQ where
  p : Nat
  k : Int
  x : ByteArray
  ta : Int
  bad : Int
  lg : Bool
  ns : List PN
/-- the place behind bytes that may stand in quotes -/
def rskF (s : ByteArray) : Nat → Nat → Nat
  | 0, i => i
  | n + 1, i => if chr s i ≠ 34 ∧ 32 ≤ chr s i ∧ chr s i ≤ 126 then rskF s n (i + 1) else i
def rsk (s : ByteArray) (i : Nat) : Nat := rskF s (s.size - i) i
def wrongR (a : Int) (ρ : RQ) : RQ := { ρ with bad := if ρ.bad < 0 then a else ρ.bad, k := 0, x := ⟨#[]⟩, ta := a }
/-- may a run of letters and digits that begins with a digit be a number? -/
def numOk (x : ByteArray) : Bool := (decide (x.size = 1) || !(chr x 0 == 48)) && digTo x x.size
/-- the token at i: kind, text, what is behind it, may it be -/
def lexR (s : ByteArray) (i : Nat) : Int × ByteArray × Nat × Bool :=
  if s.size ≤ i then (0, ⟨#[]⟩, i, true)
  else if inW (chr s i) then
    (if isDig (chr s i) then (3, s.extract i (wsk s i), wsk s i, numOk (s.extract i (wsk s i)))
     else (1, s.extract i (wsk s i), wsk s i, wordB (s.extract i (wsk s i))))
  else if chr s i = 34 then
    (if rsk s (i + 1) < s.size ∧ chr s (rsk s (i + 1)) = 34 then (4, s.extract (i + 1) (rsk s (i + 1)), rsk s (i + 1) + 1, true)
     else (0, ⟨#[]⟩, i, false))
  else if signC (chr s i) then (2, s.extract i (i + 1), i + 1, true)
  else (0, ⟨#[]⟩, i, false)
def onR1 (s : ByteArray) (ρ : RQ) : RQ := { ρ with p := (lexR s (bsk s ρ.p)).2.2.1, k := (lexR s (bsk s ρ.p)).1, x := (lexR s (bsk s ρ.p)).2.1, ta := bsk s ρ.p }
def onR (s : ByteArray) (ρ : RQ) : RQ := if (lexR s (bsk s ρ.p)).2.2.2 then onR1 s ρ else wrongR (bsk s ρ.p) (onR1 s ρ)
def signR (c : UInt8) (ρ : RQ) : Bool := decide (ρ.bad < 0) && ρ.k == 2 && decide (ρ.x = ⟨#[c]⟩)
def putR (x : PN) (ρ : RQ) : Int × RQ := (ρ.ns.length, { ρ with lg := ρ.lg || longN x, ns := ρ.ns ++ [x] })
def quotedR (s : ByteArray) (ρ : RQ) : ByteArray × RQ := if ρ.k = 4 then (ρ.x, onR s ρ) else (⟨#[]⟩, wrongR ρ.ta ρ)
def numF : List UInt8 → Int → Bool → Int × Bool
  | [], n, g => (n, g)
  | c :: r, n, g => if 461168601842738790 < n then numF r (10 * 0 + ((c.toNat : Int) - 48)) true else numF r (10 * n + ((c.toNat : Int) - 48)) g
def numberR (s : ByteArray) (ρ : RQ) : Int × RQ :=
  if ρ.k = 3 then ((numF ρ.x.data.toList 0 ρ.lg).1, onR s { ρ with lg := (numF ρ.x.data.toList 0 ρ.lg).2 }) else (0, wrongR ρ.ta ρ)
def tagR (s : ByteArray) (ρ : RQ) : Int × RQ :=
  if signR 61 (quotedR s ρ).2 then
    putR ⟨5, 0, (quotedR s ρ).1, (quotedR s (onR s (quotedR s ρ).2)).1, 0, 0⟩ (quotedR s (onR s (quotedR s ρ).2)).2
  else (0, wrongR (quotedR s ρ).2.ta (quotedR s ρ).2)
def wordR (s : ByteArray) (x : ByteArray) (ρ : RQ) : Int × RQ :=
  if x = wAlways then putR ⟨1, 0, ⟨#[]⟩, ⟨#[]⟩, 0, 0⟩ ρ
  else if x = wError then putR ⟨2, 0, ⟨#[]⟩, ⟨#[]⟩, 0, 0⟩ ρ
  else if x = wSlow then putR ⟨3, (numberR s ρ).1, ⟨#[]⟩, ⟨#[]⟩, 0, 0⟩ (numberR s ρ).2
  else if x = wRatio then putR ⟨6, (numberR s ρ).1, ⟨#[]⟩, ⟨#[]⟩, 0, 0⟩ (numberR s ρ).2
  else if x = wService then putR ⟨4, 0, (quotedR s ρ).1, ⟨#[]⟩, 0, 0⟩ (quotedR s ρ).2
  else tagR s ρ
def needR (s : ByteArray) (c : UInt8) (ρ : RQ) : RQ := if signR c ρ then onR s ρ else wrongR ρ.ta ρ
def atomF (s : ByteArray) (anyR : RQ → Int × RQ) : Nat → RQ → Int × RQ
  | 0, ρ => (0, ρ)
  | f + 1, ρ =>
    if signR 33 ρ then putR ⟨7, 0, ⟨#[]⟩, ⟨#[]⟩, (atomF s anyR f (onR s ρ)).1, 0⟩ (atomF s anyR f (onR s ρ)).2
    else if signR 40 ρ then ((anyR (onR s ρ)).1, needR s 41 (anyR (onR s ρ)).2)
    else if 0 ≤ ρ.bad ∨ ρ.k ≠ 1 then (0, wrongR ρ.ta ρ)
    else wordR s ρ.x (onR s ρ)
end Go.Proofs.YtnnhkajjifmlfaaDoor.Pl
