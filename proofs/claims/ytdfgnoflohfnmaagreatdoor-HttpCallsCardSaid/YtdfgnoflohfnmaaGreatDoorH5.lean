/- HTTP: responses: how one is written and read: the plain functions; a first part of one is read as 'more is wanted'. -/
import Derived.Test.YtdfgnoflohfnmaaGreatDoorH2
import Derived.Lib.ItoaNum
namespace Go.Proofs.YtdfgnoflohfnmaaGreatDoor.Hx

/-- a status' reason -/
def reasonP (n : Int) : Bs :=
  if n = 200 then [79, 75]
  else if n = 202 then [65, 99, 99, 101, 112, 116, 101, 100]
  else if n = 400 then [66, 97, 100, 32, 82, 101, 113, 117, 101, 115, 116]
  else if n = 404 then [78, 111, 116, 32, 70, 111, 117, 110, 100]
  else if n = 405 then [77, 101, 116, 104, 111, 100, 32, 78, 111, 116, 32, 65, 108, 108, 111, 119, 101, 100]
  else if n = 413 then [67, 111, 110, 116, 101, 110, 116, 32, 84, 111, 111, 32, 76, 97, 114, 103, 101]
  else if n = 429 then [84, 111, 111, 32, 77, 97, 110, 121, 32, 82, 101, 113, 117, 101, 115, 116, 115]
  else if n = 500 then [73, 110, 116, 101, 114, 110, 97, 108, 32, 83, 101, 114, 118, 101, 114, 32, 69, 114, 114, 111, 114]
  else if n = 503 then [83, 101, 114, 118, 105, 99, 101, 32, 85, 110, 97, 118, 97, 105, 108, 97, 98, 108, 101]
  else [85, 110, 107, 110, 111, 119, 110]
def sVers : Bs := [72, 84, 84, 80, 47, 49, 46, 49, 32]
def sType : Bs := [67, 111, 110, 116, 101, 110, 116, 45, 84, 121, 112, 101, 58, 32]
def sLen : Bs := [67, 111, 110, 116, 101, 110, 116, 45, 76, 101, 110, 103, 116, 104, 58, 32]
def sClose : Bs := [67, 111, 110, 110, 101, 99, 116, 105, 111, 110, 58, 32, 99, 108, 111, 115, 101, 13, 10]
structure Rs where
  st : Int
  ty : Bs
  cl : Bool
  body : Bs
deriving DecidableEq
/-- what is written of a response -/
def outP (r : Rs) : Bs := sVers ++ Lib.itoa r.st ++ [32] ++ reasonP r.st ++ crlf ++ (if r.ty = [] then [] else sType ++ r.ty ++ crlf) ++ sLen ++ Lib.itoa r.body.length ++ crlf ++ (if r.cl then sClose else []) ++ crlf ++ r.body
/-- may it be? 0: yes -/
def mayR (r : Rs) : Int :=
  if 4096 < r.ty.length ∨ 1048576 < r.body.length then 3
  else if r.st < 100 ∨ 599 < r.st ∨ r.ty.all prB = false then 2 else 0

/-! reading: an error, and the place -/
abbrev Ps := Int × Nat
def needP (b s : Bs) (x : Ps) : Ps :=
  if x.1 ≠ 0 then x
  else if s.isPrefixOf (b.drop x.2) then (0, x.2 + s.length)
  else if (b.drop x.2).length < s.length ∧ (b.drop x.2).isPrefixOf s = true then (12, x.2) else (4, x.2)
/-- three digits -/
def statL : Bs → Int ⊕ Int
  | [] => .inl 12
  | a :: t =>
    if a.toNat < 49 ∨ 53 < a.toNat then .inl 4
    else match t with
      | [] => .inl 12
      | c :: t =>
        if digB c = false then .inl 4
        else match t with
          | [] => .inl 12
          | d :: _ => if digB d = false then .inl 4 else .inr (100 * ((a.toNat : Int) - 48) + 10 * ((c.toNat : Int) - 48) + ((d.toNat : Int) - 48))
def statP (b : Bs) (x : Ps) : Ps × Int :=
  if x.1 ≠ 0 then (x, 0) else match statL (b.drop x.2) with
    | .inl e => ((e, x.2), 0)
    | .inr n => ((0, x.2 + 3), n)
/-- the bytes that may be, at the beginning: so many at most -/
def lead (p : UInt8 → Bool) : Nat → Bs → Bs
  | 0, _ => []
  | _ + 1, [] => []
  | n + 1, c :: t => if p c then c :: lead p n t else []
def kindP (b : Bs) (x : Ps) : Ps × Bs :=
  if x.1 ≠ 0 then (x, [])
  else if sType.isPrefixOf (b.drop x.2) then
    let s := lead prB 4097 (b.drop (x.2 + 14))
    if 4096 < s.length ∨ (s.length = 0 ∧ x.2 + 14 < b.length) then ((4, x.2 + 14 + s.length), s) else (needP b crlf (0, x.2 + 14 + s.length), s)
  else if (b.drop x.2).length < sType.length ∧ (b.drop x.2).isPrefixOf sType = true then ((12, x.2), []) else (x, [])
/-- digits up to a number -/
def numL (most : Int) (zero : Bool) : Nat → Int → Bs → Int ⊕ (Int × Nat)
  | _, _, [] => .inl 12
  | k, n, c :: t =>
    if digB c then
      if most < n * 10 + ((c.toNat : Int) - 48) ∨ (0 < k ∧ zero = true) then .inl 4
      else numL most (if k = 0 then decide (c.toNat = 48) else zero) (k + 1) (n * 10 + ((c.toNat : Int) - 48)) t
    else if k = 0 then .inl 4 else .inr (n, k)
def numP (b : Bs) (most : Int) (x : Ps) : Ps × Int :=
  if x.1 ≠ 0 then (x, 0) else match numL most false 0 0 (b.drop x.2) with
    | .inl e => ((e, x.2), 0)
    | .inr (n, k) => ((0, x.2 + k), n)
def closeP (b : Bs) (x : Ps) : Ps × Bool :=
  if x.1 ≠ 0 then (x, false)
  else if sClose.isPrefixOf (b.drop x.2) then ((0, x.2 + 19), true)
  else if (b.drop x.2).length < sClose.length ∧ (b.drop x.2).isPrefixOf sClose = true ∧ x.2 < b.length then ((12, x.2), false) else (x, false)
/-- a response, and how many bytes it has; or an error -/
def readP (b : Bs) : Int ⊕ (Rs × Nat) :=
  let x1 := needP b sVers (0, 0)
  let x2 := statP b x1
  let x3 := needP b ([32] ++ reasonP x2.2 ++ crlf) x2.1
  let x4 := kindP b x3
  let x5 := needP b sLen x4.1
  let x6 := numP b 1048576 x5
  let x7 := needP b crlf x6.1
  let x8 := closeP b x7
  let x9 := needP b crlf x8.1
  if x9.1 ≠ 0 then .inl x9.1
  else if b.length < x9.2 + x6.2.toNat then .inl 12
  else .inr (⟨x2.2, x4.2, x8.2, (b.drop x9.2).take x6.2.toNat⟩, x9.2 + x6.2.toNat)

theorem pre_len {s l : Bs} (h : s.isPrefixOf l = true) : s.length ≤ l.length := by
  rw [List.isPrefixOf_iff_prefix] at h
  exact h.length_le
/-- what a step says: done (0), wrong (4), or more is wanted (12) -/
structure Stay (b t : Bs) (y z : Ps) : Prop where
  /-- done or wrong: so it is with more bytes, too -/
  stay : y.1 ≠ 12 → z = y
  at_ : y.1 = 0 → y.2 ≤ b.length
  ok : y.1 = 0 ∨ y.1 = 4 ∨ y.1 = 12
theorem Stay.more (b t : Bs) (i : Nat) (z : Ps) : Stay b t (12, i) z := ⟨fun e => absurd rfl e, fun e => absurd (show (12 : Int) = 0 from e) (by decide), .inr (.inr rfl)⟩
theorem Stay.wrong (b t : Bs) (i : Nat) : Stay b t (4, i) (4, i) := ⟨fun _ => rfl, fun e => absurd (show (4 : Int) = 0 from e) (by decide), .inr (.inl rfl)⟩
theorem Stay.done (b t : Bs) {i : Nat} (h : i ≤ b.length) : Stay b t (0, i) (0, i) := ⟨fun _ => rfl, fun _ => h, .inl rfl⟩
/-- what is told beside: the same, unless more is wanted -/
structure StayV {α : Type} (b t : Bs) (y z : Ps × α) : Prop where
  st : Stay b t y.1 z.1
  v : y.1.1 = 0 → z.2 = y.2
theorem StayV.more {α : Type} (b t : Bs) (i : Nat) (v : α) (z : Ps × α) : StayV b t ((12, i), v) z := ⟨.more b t i _, fun e => absurd (show (12 : Int) = 0 from e) (by decide)⟩
theorem StayV.wrong {α : Type} (b t : Bs) (i : Nat) (v v' : α) : StayV b t ((4, i), v) ((4, i), v') := ⟨.wrong b t i, fun e => absurd (show (4 : Int) = 0 from e) (by decide)⟩
theorem StayV.done {α : Type} (b t : Bs) {i : Nat} (v : α) (h : i ≤ b.length) : StayV b t ((0, i), v) ((0, i), v) := ⟨.done b t h, fun _ => rfl⟩
theorem lead_le (p : UInt8 → Bool) : ∀ (n : Nat) (l : Bs), (lead p n l).length ≤ n ∧ (lead p n l).length ≤ l.length
  | 0, _ => by simp [lead]
  | _ + 1, [] => by simp [lead]
  | n + 1, c :: t => by
    unfold lead
    split
    · have := lead_le p n t; simp; omega
    · simp
theorem need_keep {b s : Bs} {x : Ps} (h : (needP b s x).1 = 0) : x.1 = 0 := by
  unfold needP at h
  split at h
  · next h1 => exact absurd h h1
  · next h1 => exact Decidable.of_not_not h1
end Go.Proofs.YtdfgnoflohfnmaaGreatDoor.Hx
/-! HTTP: what a client sends is told as it was: the plain law. -/
namespace Go.Proofs.YtdfgnoflohfnmaaGreatDoor.Hx

/-! ### what is sent -/
def safeB (slash : Bool) (c : UInt8) : Bool := letB c || digB c || decide (c.toNat = 45) || decide (c.toNat = 46) || decide (c.toNat = 95) || (slash && decide (c.toNat = 47))
def hexD (n : Nat) : UInt8 := UInt8.ofNat (if n < 10 then 48 + n else 55 + n)
def escP (slash : Bool) : Bs → Bs
  | [] => []
  | c :: t => if safeB slash c then c :: escP slash t else 37 :: hexD (c.toNat / 16) :: hexD (c.toNat % 16) :: escP slash t
def parsO : Bool → List (Bs × Bs) → Bs
  | _, [] => []
  | first, x :: l => (if first then 63 else 38) :: (escP false x.1 ++ 61 :: (escP false x.2 ++ parsO false l))
def tgtO (p : Bs) (q : List (Bs × Bs)) : Bs := escP true p ++ parsO true q
def parOK (x : Bs × Bs) : Bool := x.1.all prB && x.2.all prB && (decide (x.1 ≠ []) || decide (x.2 ≠ []))
/-- may a request be sent? 0: yes -/
def mayS (r : Rq) : Int :=
  if r.m.length < 1 ∨ 16 < r.m.length ∨ r.m.all capB = false ∨ r.p.head? ≠ some 47 ∨ r.p.all prB = false ∨ r.q.all parOK = false then 2
  else if 2048 < (tgtO r.p r.q).length ∨ 262144 < r.body.length ∨ 32 < r.q.length then 3 else 0
def sSpVers : Bs := 32 :: vers ++ crlf
def sendP (r : Rq) : Bs := r.m ++ 32 :: (tgtO r.p r.q ++ (sSpVers ++ ((if r.body = [] then [] else sLen ++ Lib.itoa r.body.length ++ crlf) ++ ((if r.cl then sClose else []) ++ (crlf ++ r.body)))))

end Go.Proofs.YtdfgnoflohfnmaaGreatDoor.Hx

/-! HTTP: what a client sends is told as it was, one request behind the other: the plain law. -/
namespace Go.Proofs.YtdfgnoflohfnmaaGreatDoor.Hx

/-! ### numbers -/
theorem nd_le : ∀ (k u : Nat), u < 10 ^ (k + 1) → Lib.nDigits u ≤ k + 1
  | 0, u, h => by rw [Lib.nDigits_small (by simpa using h)]; omega
  | k + 1, u, h => by
    by_cases h1 : u < 10
    · rw [Lib.nDigits_small h1]; omega
    · rw [Lib.nDigits_big h1]
      have := nd_le k (u / 10) (by rw [Nat.pow_succ] at h; omega)
      omega
theorem itoa_nat (u : Nat) : Lib.itoa (u : Int) = Lib.decDigits u := by unfold Lib.itoa; rw [if_neg (by omega), Int.toNat_natCast]
end Go.Proofs.YtdfgnoflohfnmaaGreatDoor.Hx
