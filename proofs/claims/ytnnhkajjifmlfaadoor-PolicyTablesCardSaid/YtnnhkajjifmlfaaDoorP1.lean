/- Policies: the plain functions: nodes, what may be, how a text is read. -/
import Derived.Test.YtnnhkajjifmlfaaDoorP0
namespace Go.Proofs.YtnnhkajjifmlfaaDoor.Pl
open Go.RowKit

/-- a node -/
structure PN where
  k : Int
  n : Int
  a : ByteArray
  b : ByteArray
  l : Int
  r : Int
deriving DecidableEq

def longN (x : PN) : Bool := decide (128 < x.a.size) || decide (128 < x.b.size) || (x.k == 3 && decide (4611686018427387903 < x.n)) || (x.k == 6 && decide (1000 < x.n))
def quotB (s : ByteArray) : Bool := textB s && !hasB s 34
/-- may a node be, its places aside? -/
def fineN (x : PN) : Bool :=
  decide (1 ≤ x.k) && decide (x.k ≤ 9) && (x.k == 3 || x.k == 6 || x.n == 0) && (x.k == 4 || x.k == 5 || decide (x.a.size = 0)) && (x.k == 5 || decide (x.b.size = 0)) &&
  (decide (7 ≤ x.k) || x.l == 0) && (decide (8 ≤ x.k) || x.r == 0) && decide (0 ≤ x.n) && (!(x.k == 4 || x.k == 5) || decide (x.a.size ≠ 0)) && quotB x.a && quotB x.b
/-- the place of the first node below the one at m - 1; -1: they do not stand in order -/
def fstF (l : List PN) : Nat → Nat → Int
  | 0, _ => -1
  | _ + 1, 0 => -1
  | f + 1, m + 1 =>
    match l[m]? with
    | none => -1
    | some x =>
      if x.k = 7 then (if x.l = (m : Int) - 1 then fstF l f m else -1)
      else if x.k = 8 ∨ x.k = 9 then
        (if x.r = (m : Int) - 1 then (if fstF l f m < 1 ∨ x.l ≠ fstF l f m - 1 then -1 else fstF l f (fstF l f m).toNat) else -1)
      else m
def checkN (l : List PN) : Int :=
  if decide (64 < l.length) || l.any longN then 3
  else if decide (l.length = 0) || l.any (fun x => !fineN x) || decide (fstF l l.length l.length ≠ 0) then 2 else 0
theorem fstF_lt (l : List PN) : ∀ (f m : Nat), fstF l f m < (m : Int) ∨ fstF l f m = -1
  | 0, _ => .inr rfl
  | _ + 1, 0 => .inr rfl
  | f + 1, m + 1 => by
    unfold fstF
    split
    · exact .inr rfl
    · split
      · split
        · rcases fstF_lt l f m with h | h
          · left; omega
          · right; exact h
        · exact .inr rfl
      · split
        · split
          · split
            · exact .inr rfl
            · have h1 := fstF_lt l f m
              rcases fstF_lt l f (fstF l f m).toNat with h | h
              · left; omega
              · right; exact h
          · exact .inr rfl
        · left; omega

/-! words -/
def inW (c : Nat) : Bool := (decide (97 ≤ c) && decide (c ≤ 122)) || (decide (48 ≤ c) && decide (c ≤ 57))
/-- the place behind blanks -/
def bskF (s : ByteArray) : Nat → Nat → Nat
  | 0, i => i
  | n + 1, i => if chr s i = 32 then bskF s n (i + 1) else i
def bsk (s : ByteArray) (i : Nat) : Nat := bskF s (s.size - i) i
/-- the place behind a word -/
def wskF (s : ByteArray) : Nat → Nat → Nat
  | 0, i => i
  | n + 1, i => if inW (chr s i) then wskF s n (i + 1) else i
def wsk (s : ByteArray) (i : Nat) : Nat := wskF s (s.size - i) i
theorem chr_ne {s : ByteArray} {i : Nat} (h : chr s i ≠ 0) : i < s.size := by
  rcases Nat.lt_or_ge i s.size with h1 | h1
  · exact h1
  · exact absurd (chr_out h1) h
theorem inW_chr {s : ByteArray} {i : Nat} (h : inW (chr s i) = true) : i < s.size := chr_ne (fun e => by rw [e] at h; exact absurd h (by decide))
theorem bsk_le (s : ByteArray) : ∀ (n i : Nat), i ≤ bskF s n i ∧ bskF s n i ≤ i + n
  | 0, i => by simp [bskF]
  | n + 1, i => by
    unfold bskF; split
    · have := bsk_le s n (i + 1); omega
    · omega
theorem bsk_bd {s : ByteArray} {i : Nat} (h : i ≤ s.size) : i ≤ bsk s i ∧ bsk s i ≤ s.size := by
  have := bsk_le s (s.size - i) i; unfold bsk; omega
theorem wsk_step {s : ByteArray} {i : Nat} (h : inW (chr s i) = true) : wsk s i = wsk s (i + 1) := by
  have hi := inW_chr h
  unfold wsk
  rw [show s.size - i = (s.size - (i + 1)) + 1 from by omega, wskF, if_pos h]
theorem wsk_le (s : ByteArray) : ∀ (n i : Nat), i ≤ wskF s n i ∧ wskF s n i ≤ i + n
  | 0, i => by simp [wskF]
  | n + 1, i => by
    unfold wskF; split
    · have := wsk_le s n (i + 1); omega
    · omega
theorem wsk_bd {s : ByteArray} {i : Nat} (h : i ≤ s.size) : i ≤ wsk s i ∧ wsk s i ≤ s.size := by
  have := wsk_le s (s.size - i) i; unfold wsk; omega

def wAlways : ByteArray := ⟨#[97, 108, 119, 97, 121, 115]⟩
def wError : ByteArray := ⟨#[101, 114, 114, 111, 114]⟩
def wSlow : ByteArray := ⟨#[115, 108, 111, 119]⟩
def wService : ByteArray := ⟨#[115, 101, 114, 118, 105, 99, 101]⟩
def wTag : ByteArray := ⟨#[116, 97, 103]⟩
def wRatio : ByteArray := ⟨#[114, 97, 116, 105, 111]⟩
def wordB (x : ByteArray) : Bool := decide (x = wAlways ∨ x = wError ∨ x = wSlow ∨ x = wService ∨ x = wTag ∨ x = wRatio)
/-- are all of the first k bytes digits? -/
def digTo (x : ByteArray) : Nat → Bool
  | 0 => true
  | k + 1 => digTo x k && (decide (48 ≤ chr x k) && decide (chr x k ≤ 57))
def digitsB (x : ByteArray) : Bool := digTo x x.size && (decide (x = ⟨#[48]⟩) || !(chr x 0 == 48))
def signC (c : Nat) : Bool := c == 33 || c == 38 || c == 124 || c == 40 || c == 41 || c == 61
/-- the place of the next quote, from i on -/
def qskF (s : ByteArray) : Nat → Nat → Nat
  | 0, i => i
  | n + 1, i => if chr s i = 34 then i else qskF s n (i + 1)
def qsk (s : ByteArray) (i : Nat) : Nat := qskF s (s.size - i) i

/-- a policy's reader: the place; the token's kind, text, place; the first fault; is a number too great; the nodes -/
structure PQ where
  p : Nat
  k : Int
  x : ByteArray
  ta : Nat
  bad : Int
  gr : Bool
  ns : List PN

/-- the next token, from i on (no blank there) -/
def lexAt (s : ByteArray) (i : Nat) (σ : PQ) : PQ :=
  if s.size ≤ i then { σ with p := i, k := 0, x := ⟨#[]⟩, ta := i }
  else if inW (chr s i) then
    { σ with p := wsk s i, x := s.extract i (wsk s i), ta := i, k := if digitsB (s.extract i (wsk s i)) then 2 else if wordB (s.extract i (wsk s i)) then 1 else 5 }
  else if chr s i = 34 then
    (if qsk s (i + 1) < s.size then
      { σ with p := qsk s (i + 1) + 1, x := s.extract (i + 1) (qsk s (i + 1)), ta := i, k := if plainB (s.extract (i + 1) (qsk s (i + 1))) then 3 else 5 }
    else { σ with p := s.size, x := ⟨#[]⟩, ta := i, k := 5 })
  else { σ with p := i + 1, x := s.extract i (i + 1), ta := i, k := if signC (chr s i) then 4 else 5 }
def nextP (s : ByteArray) (σ : PQ) : PQ := lexAt s (bsk s σ.p) σ
def faultP (σ : PQ) : PQ := if σ.bad < 0 then { σ with bad := σ.ta } else σ
def signB (c : UInt8) (σ : PQ) : Bool := decide (σ.bad < 0) && σ.k == 4 && decide (σ.x = ⟨#[c]⟩)
def takeP1 (kind : Int) (σ : PQ) : PQ := if σ.k = kind then σ else faultP σ
def takeP (s : ByteArray) (kind : Int) (σ : PQ) : ByteArray × PQ :=
  if 0 ≤ (takeP1 kind σ).bad then (⟨#[]⟩, takeP1 kind σ) else ((takeP1 kind σ).x, nextP s (takeP1 kind σ))
def putP (x : PN) (σ : PQ) : Int × PQ := (σ.ns.length, { σ with ns := σ.ns ++ [x] })
def numP (s : ByteArray) (σ : PQ) : Int × PQ :=
  (PIn (takeP s 2 σ).1.data.toList, { (takeP s 2 σ).2 with gr := (takeP s 2 σ).2.gr || (!PIok (takeP s 2 σ).1.data.toList && decide ((takeP s 2 σ).1.size ≠ 0)) })
def needP (s : ByteArray) (c : UInt8) (σ : PQ) : PQ := if signB c σ then nextP s σ else faultP σ
def tagP (s : ByteArray) (σ : PQ) : PN × PQ :=
  let y := takeP s 3 σ
  let z := takeP s 3 (needP s 61 y.2)
  (⟨5, 0, y.1, z.1, 0, 0⟩, z.2)
/-- what stands behind a word -/
def wordP (s : ByteArray) (x : ByteArray) (σ : PQ) : PN × PQ :=
  if x = wAlways then (⟨1, 0, ⟨#[]⟩, ⟨#[]⟩, 0, 0⟩, σ)
  else if x = wError then (⟨2, 0, ⟨#[]⟩, ⟨#[]⟩, 0, 0⟩, σ)
  else if x = wSlow then (⟨3, (numP s σ).1, ⟨#[]⟩, ⟨#[]⟩, 0, 0⟩, (numP s σ).2)
  else if x = wRatio then (⟨6, (numP s σ).1, ⟨#[]⟩, ⟨#[]⟩, 0, 0⟩, (numP s σ).2)
  else if x = wService then (⟨4, 0, (takeP s 3 σ).1, ⟨#[]⟩, 0, 0⟩, (takeP s 3 σ).2)
  else if x = wTag then tagP s σ
  else (⟨0, 0, ⟨#[]⟩, ⟨#[]⟩, 0, 0⟩, σ)
def oneP (s : ByteArray) (orP : PQ → Int × PQ) (σ : PQ) : Int × PQ :=
  if signB 40 σ then ((orP (nextP s σ)).1, needP s 41 (orP (nextP s σ)).2)
  else putP (wordP s (takeP s 1 σ).1 (takeP s 1 σ).2).1 (wordP s (takeP s 1 σ).1 (takeP s 1 σ).2).2
end Go.Proofs.YtnnhkajjifmlfaaDoor.Pl
