/- HTTP: the plain functions: how a request is read, and that bytes in pieces tell the same. -/
import Derived.Lib.Split
import Derived.Lib.IndexMore
import Derived.Lib.SlTrimSet
import Derived.Lib.Case
import Derived.Lib.AtoiAll
namespace Go.Proofs.YtdfgnoflohfnmaaGreatDoor.Hx

abbrev Bs := List UInt8
def letB (c : UInt8) : Bool := (decide (97 ≤ c.toNat) && decide (c.toNat ≤ 122)) || (decide (65 ≤ c.toNat) && decide (c.toNat ≤ 90))
def digB (c : UInt8) : Bool := decide (48 ≤ c.toNat) && decide (c.toNat ≤ 57)
def prB (c : UInt8) : Bool := decide (32 ≤ c.toNat) && decide (c.toNat ≤ 126)
def capB (c : UInt8) : Bool := decide (65 ≤ c.toNat) && decide (c.toNat ≤ 90)
def tgB (c : UInt8) : Bool := decide (33 ≤ c.toNat) && decide (c.toNat ≤ 126)
def lnB (c : UInt8) : Bool := prB c || decide (c.toNat = 9)
def nmB (c : UInt8) : Bool := letB c || digB c || decide (c.toNat = 45)
/-- a digit's number -/
def hexV (c : UInt8) : Int :=
  if digB c then (c.toNat : Int) - 48
  else if 97 ≤ c.toNat ∧ c.toNat ≤ 102 then (c.toNat : Int) - 87
  else if 65 ≤ c.toNat ∧ c.toNat ≤ 70 then (c.toNat : Int) - 55 else -1
/-- escapes are taken away -/
def unesc (plus : Bool) : Bs → Option Bs
  | [] => some []
  | c :: t =>
    if c.toNat = 37 then
      match t with
      | a :: b :: r =>
        if hexV a < 0 ∨ hexV b < 0 then none
        else if prB (UInt8.ofNat (16 * (hexV a).toNat + (hexV b).toNat)) then (unesc plus r).map (UInt8.ofNat (16 * (hexV a).toNat + (hexV b).toNat) :: ·) else none
      | _ => none
    else if c.toNat = 43 ∧ plus = true then (unesc plus t).map (32 :: ·)
    else if prB c then (unesc plus t).map (c :: ·) else none
/-- a parameter's name and value -/
def parP (s : Bs) : Option (Bs × Bs) :=
  match unesc true (Lib.cut s [61]).1, unesc true (Lib.cut s [61]).2.1 with
  | some n, some v => some (n, v)
  | _, _ => none
def parsP : List Bs → Option (List (Bs × Bs))
  | [] => some []
  | s :: t =>
    match parP s, parsP t with
    | some (n, v), some l => some (if n ≠ [] ∨ v ≠ [] then (n, v) :: l else l)
    | _, _ => none
/-- a target: its path, its parameters -/
def tgtP (s : Bs) : Option (Bs × List (Bs × Bs)) :=
  if s.length < 1 ∨ 2048 < s.length ∨ s.head? ≠ some 47 ∨ s.all tgB = false then none
  else match unesc false (Lib.cut s [63]).1, parsP (Lib.split (Lib.cut s [63]).2.1 [38]) with
    | some p, some l => some (p, l)
    | _, _ => none

/-- a line of what waits -/
inductive Ln where
  | bad | more
  | got (s : Bs) (n : Nat)
def crlf : Bs := [13, 10]
def lineP (b : Bs) : Ln :=
  if 4096 < Lib.index b crlf ∨ (Lib.index b crlf < 0 ∧ 4098 ≤ b.length) then .bad
  else if Lib.index b crlf < 0 then .more
  else if (b.take (Lib.index b crlf).toNat).all lnB then .got (b.take (Lib.index b crlf).toNat) ((Lib.index b crlf).toNat + 2) else .bad
def vers : Bs := [72, 84, 84, 80, 47, 49, 46, 49]
/-- the first line -/
def startP (s : Bs) : Option (Bs × Bs × List (Bs × Bs)) :=
  match Lib.split s [32] with
  | [m, t, v] =>
    if v ≠ vers ∨ m.length < 1 ∨ 16 < m.length ∨ m.all capB = false then none
    else (tgtP t).map fun x => (m, x.1, x.2)
  | _ => none
def hLen : Bs := [99, 111, 110, 116, 101, 110, 116, 45, 108, 101, 110, 103, 116, 104]
def hTra : Bs := [116, 114, 97, 110, 115, 102, 101, 114, 45, 101, 110, 99, 111, 100, 105, 110, 103]
def hCon : Bs := [99, 111, 110, 110, 101, 99, 116, 105, 111, 110]
def hClo : Bs := [99, 108, 111, 115, 101]
def decV (s : Bs) : Int := s.foldl (fun n c => 10 * n + ((c.toNat : Int) - 48)) 0
/-- what a header says: how long the body is, whether the connection is closed -/
def hdrP (s : Bs) (len : Int) (cl : Bool) : Option (Int × Bool) :=
  if (Lib.cut s [58]).2.2 = false ∨ (Lib.cut s [58]).1.length < 1 ∨ 64 < (Lib.cut s [58]).1.length ∨ (Lib.cut s [58]).1.all nmB = false then none
  else
    let n := Lib.toLowerA (Lib.cut s [58]).1
    let v := Lib.trimS (Lib.cut s [58]).2.1 [32, 9]
    if n = hLen then (if 0 ≤ len ∨ v.length < 1 ∨ 9 < v.length ∨ v.all digB = false then none else some (decV v, cl))
    else if n = hTra then none
    else if n = hCon then some (len, cl || decide (Lib.toLowerA v = hClo))
    else some (len, cl)
inductive Hd where
  | more
  | fault (st : Int)
  | done (at_ : Nat) (len : Int) (cl : Bool)
def hdrsP (b : Bs) : Nat → Nat → Nat → Int → Bool → Hd
  | 0, _, _, _, _ => .fault 400
  | f + 1, i, k, len, cl =>
    match lineP (b.drop i) with
    | .more => .more
    | .bad => .fault 400
    | .got s n =>
      if s = [] then .done (i + n) len cl
      else if 32 < k + 1 then .fault 400
      else match hdrP s len cl with
        | none => .fault 400
        | some (l, c) => hdrsP b f (i + n) (k + 1) l c
structure Rq where
  m : Bs
  p : Bs
  q : List (Bs × Bs)
  body : Bs
  cl : Bool
inductive Nx where
  | more
  | fault (st : Int)
  | req (r : Rq) (n : Nat)
def bodyP (b : Bs) (m p : Bs) (q : List (Bs × Bs)) (i : Nat) (len : Int) (cl : Bool) : Nx :=
  if 262144 < max 0 len then .fault 413
  else if b.length < i + (max 0 len).toNat then .more
  else .req ⟨m, p, q, (b.drop i).take (max 0 len).toNat, cl⟩ (i + (max 0 len).toNat)
/-- the next request, or a fault -/
def nextP (b : Bs) : Nx :=
  match lineP b with
  | .more => .more
  | .bad => .fault 400
  | .got s n =>
    match startP s with
    | none => .fault 400
    | some (m, p, q) =>
      match hdrsP b 34 n 0 (-1) false with
      | .more => .more
      | .fault st => .fault st
      | .done i len cl => bodyP b m p q i len cl

/-! bytes behind change nothing of what is told -/
theorem occ_app {b : Bs} (t : Bs) {i : Nat} (h : i + 2 ≤ b.length) : Lib.occAt (b ++ t) crlf i = Lib.occAt b crlf i := by
  have e : crlf.length = 2 := rfl
  rw [Lib.occAt_iff_take _ _ _ (by rw [e, List.length_append]; omega), Lib.occAt_iff_take _ _ _ (by rw [e]; omega), e, List.drop_append_of_le_length (by omega), List.take_append_of_le_length (by rw [List.length_drop]; omega)]
theorem idx_app {b : Bs} (t : Bs) {i : Nat} (h : Lib.index b crlf = i) : Lib.index (b ++ t) crlf = i := by
  have hr := Lib.index_room b crlf (by omega)
  have e : crlf.length = 2 := rfl
  rw [h, e] at hr
  rcases Lib.index_spec b crlf with ⟨h1, _⟩ | ⟨j, h1, h2, h3, h4⟩
  · omega
  · obtain rfl : j = i := by omega
    refine Lib.index_first (by rw [List.length_append]; omega) ((occ_app t (by omega)).trans h3) (fun k hk => (occ_app t (by omega)).trans (h4 k hk))
theorem idx_none {b : Bs} (t : Bs) (h : Lib.index b crlf < 0) (hl : 4098 ≤ b.length) : 4096 < Lib.index (b ++ t) crlf ∨ Lib.index (b ++ t) crlf < 0 := by
  rcases Lib.index_spec b crlf with ⟨_, h1⟩ | ⟨j, h1, _⟩
  · rcases Lib.index_spec (b ++ t) crlf with ⟨h2, _⟩ | ⟨j, h2, _, h3, _⟩
    · right; omega
    · rcases Nat.lt_or_ge 4096 j with h4 | h4
      · left; omega
      · rw [occ_app t (by omega), h1 j (by omega)] at h3
        exact absurd h3 (by decide)
  · omega
theorem line_bad {b : Bs} (t : Bs) (h : lineP b = .bad) : lineP (b ++ t) = .bad := by
  unfold lineP at h
  split at h
  · next h1 =>
    rcases h1 with h1 | ⟨h1, h2⟩
    · obtain ⟨i, hi⟩ : ∃ i : Nat, Lib.index b crlf = i := ⟨(Lib.index b crlf).toNat, by omega⟩
      unfold lineP
      rw [if_pos (.inl (by rw [idx_app t hi]; omega))]
    · unfold lineP
      rw [if_pos]
      rcases idx_none t h1 h2 with h3 | h3
      · exact .inl h3
      · exact .inr ⟨h3, by rw [List.length_append]; omega⟩
  · next h1 =>
    split at h
    · cases h
    · next h2 =>
      split at h
      · cases h
      · next h3 =>
        obtain ⟨i, hi⟩ : ∃ i : Nat, Lib.index b crlf = i := ⟨(Lib.index b crlf).toNat, by omega⟩
        have hr := Lib.index_room b crlf (by omega)
        unfold lineP
        rw [idx_app t hi]
        rw [hi] at h1 h3 hr
        rw [if_neg (fun e => h1 (.inl (by rcases e with e | e <;> omega))), if_neg (by omega), if_neg]
        rw [Int.toNat_natCast, List.take_append_of_le_length (by omega)]
        rwa [Int.toNat_natCast] at h3
theorem line_got {b : Bs} (t : Bs) {s : Bs} {n : Nat} (h : lineP b = .got s n) : lineP (b ++ t) = .got s n ∧ 2 ≤ n ∧ n ≤ b.length := by
  unfold lineP at h
  split at h
  · cases h
  · next h1 =>
    split at h
    · cases h
    · next h2 =>
      split at h
      · next h3 =>
        obtain ⟨i, hi⟩ : ∃ i : Nat, Lib.index b crlf = i := ⟨(Lib.index b crlf).toNat, by omega⟩
        have hr := Lib.index_room b crlf (by omega)
        have e : crlf.length = 2 := rfl
        unfold lineP
        rw [idx_app t hi]
        rw [hi] at h h1 h3 hr
        rw [e] at hr
        rw [Int.toNat_natCast] at h h3
        cases h
        refine ⟨?_, by omega, by omega⟩
        rw [if_neg (fun e => h1 (.inl (by rcases e with e | e <;> omega))), if_neg (by omega), Int.toNat_natCast, List.take_append_of_le_length (by omega), if_pos h3]
      · cases h
theorem drop_app {b : Bs} (t : Bs) {i : Nat} (h : i ≤ b.length) : (b ++ t).drop i = b.drop i ++ t := List.drop_append_of_le_length h
theorem hdrs_app (b t : Bs) : ∀ (f i k : Nat) (len : Int) (cl : Bool), i ≤ b.length →
    (∀ st, hdrsP b f i k len cl = .fault st → hdrsP (b ++ t) f i k len cl = .fault st) ∧
    (∀ j l c, hdrsP b f i k len cl = .done j l c → hdrsP (b ++ t) f i k len cl = .done j l c ∧ i ≤ j ∧ j ≤ b.length)
  | 0, i, k, len, cl, _ => ⟨fun st h => h, fun j l c h => by simp [hdrsP] at h⟩
  | f + 1, i, k, len, cl, hi => by
    unfold hdrsP
    rw [drop_app t hi]
    cases hl : lineP (b.drop i) with
    | bad => rw [line_bad t hl]; exact ⟨fun st h => h, fun j l c h => by cases h⟩
    | more => exact ⟨(fun st h => by cases h), fun j l c h => by cases h⟩
    | got s n =>
      obtain ⟨h1, h2, h3⟩ := line_got t hl
      rw [List.length_drop] at h3
      rw [h1]
      dsimp only
      by_cases hs : s = []
      · rw [if_pos hs, if_pos hs]
        exact ⟨fun st h => h, fun j l c h => by cases h; exact ⟨rfl, by omega, by omega⟩⟩
      · rw [if_neg hs, if_neg hs]
        by_cases hk : 32 < k + 1
        · rw [if_pos hk, if_pos hk]
          exact ⟨fun st h => h, fun j l c h => by cases h⟩
        · rw [if_neg hk, if_neg hk]
          cases hdrP s len cl with
          | none => exact ⟨fun st h => h, fun j l c h => by cases h⟩
          | some x =>
            obtain ⟨g1, g2⟩ := hdrs_app b t f (i + n) (k + 1) x.1 x.2 (by omega)
            refine ⟨g1, fun j l c h => ?_⟩
            obtain ⟨g3, g4, g5⟩ := g2 j l c h
            exact ⟨g3, by omega, g5⟩
theorem body_app {b : Bs} (t m p : Bs) (q : List (Bs × Bs)) {i : Nat} (len : Int) (cl : Bool) (hi : i ≤ b.length) :
    (∀ st, bodyP b m p q i len cl = .fault st → bodyP (b ++ t) m p q i len cl = .fault st) ∧
    (∀ r n, bodyP b m p q i len cl = .req r n → bodyP (b ++ t) m p q i len cl = .req r n ∧ i ≤ n ∧ n ≤ b.length) := by
  unfold bodyP
  by_cases h1 : 262144 < max 0 len
  · rw [if_pos h1, if_pos h1]
    exact ⟨fun st h => h, fun r n h => by cases h⟩
  · rw [if_neg h1, if_neg h1]
    by_cases h2 : b.length < i + (max 0 len).toNat
    · rw [if_pos h2]
      exact ⟨(fun st h => by cases h), fun r n h => by cases h⟩
    · rw [if_neg h2, if_neg (by rw [List.length_append]; omega)]
      refine ⟨(fun st h => by cases h), fun r n h => ?_⟩
      cases h
      refine ⟨?_, by omega, by omega⟩
      rw [drop_app t hi, List.take_append_of_le_length (by rw [List.length_drop]; omega)]
theorem next_app (b t : Bs) :
    (∀ st, nextP b = .fault st → nextP (b ++ t) = .fault st) ∧
    (∀ r n, nextP b = .req r n → nextP (b ++ t) = .req r n ∧ 2 ≤ n ∧ n ≤ b.length) := by
  unfold nextP
  cases hl : lineP b with
  | bad => rw [line_bad t hl]; exact ⟨fun st h => h, fun r n h => by cases h⟩
  | more => exact ⟨(fun st h => by cases h), fun r n h => by cases h⟩
  | got s n =>
    obtain ⟨h1, h2, h3⟩ := line_got t hl
    rw [h1]
    dsimp only
    cases startP s with
    | none => exact ⟨fun st h => h, fun r n h => by cases h⟩
    | some x =>
      obtain ⟨m, p, q⟩ := x
      dsimp only
      obtain ⟨g1, g2⟩ := hdrs_app b t 34 n 0 (-1) false h3
      cases hh : hdrsP b 34 n 0 (-1) false with
      | more => exact ⟨(fun st h => by cases h), fun r n h => by cases h⟩
      | fault st => rw [g1 st hh]; exact ⟨fun st h => h, fun r n h => by cases h⟩
      | done i len cl =>
        obtain ⟨g3, g4, g5⟩ := g2 i len cl hh
        rw [g3]
        dsimp only
        obtain ⟨f1, f2⟩ := body_app t m p q len cl g5
        refine ⟨f1, fun r k h => ?_⟩
        obtain ⟨f3, f4, f5⟩ := f2 r k h
        exact ⟨f3, by omega, f5⟩

/-! what a connection tells -/
/-- a connection: the bytes that wait; is it over? -/
structure Cn where
  b : Bs
  over : Bool
/-- all that is told of what waits: requests (none: a fault) with their status, and what is left -/
def drainP : Nat → Bs → List (Option Rq × Int) × Cn
  | 0, b => ([], ⟨b, false⟩)
  | f + 1, b =>
    match nextP b with
    | .more => ([], ⟨b, false⟩)
    | .fault st => ([(none, st)], ⟨b, true⟩)
    | .req r n => if r.cl then ([(some r, 0)], ⟨b.drop n, true⟩) else ((some r, 0) :: (drainP f (b.drop n)).1, (drainP f (b.drop n)).2)
theorem drain_fuel : ∀ (f g : Nat) (b : Bs), b.length < f → b.length < g → drainP f b = drainP g b
  | 0, _, _, h, _ => absurd h (Nat.not_lt_zero _)
  | _, 0, _, _, h => absurd h (Nat.not_lt_zero _)
  | f + 1, g + 1, b, hf, hg => by
    unfold drainP
    cases hn : nextP b with
    | more => rfl
    | fault st => rfl
    | req r n =>
      obtain ⟨_, h1, h2⟩ := (next_app b []).2 r n hn
      dsimp only
      by_cases hc : r.cl = true
      · rw [if_pos hc, if_pos hc]
      · rw [if_neg hc, if_neg hc, drain_fuel f g (b.drop n) (by rw [List.length_drop]; omega) (by rw [List.length_drop]; omega)]
def drain (b : Bs) : List (Option Rq × Int) × Cn := drainP (b.length + 1) b
theorem drain_more {b : Bs} (h : nextP b = .more) : drain b = ([], ⟨b, false⟩) := by unfold drain drainP; rw [h]
theorem drain_fault {b : Bs} {st : Int} (h : nextP b = .fault st) : drain b = ([(none, st)], ⟨b, true⟩) := by unfold drain drainP; rw [h]
theorem drain_close {b : Bs} {r : Rq} {n : Nat} (h : nextP b = .req r n) (hc : r.cl = true) : drain b = ([(some r, 0)], ⟨b.drop n, true⟩) := by unfold drain drainP; rw [h]; dsimp only; rw [if_pos hc]
theorem drain_req {b : Bs} {r : Rq} {n : Nat} (h : nextP b = .req r n) (hc : r.cl = false) : drain b = ((some r, 0) :: (drain (b.drop n)).1, (drain (b.drop n)).2) := by
  obtain ⟨_, h1, h2⟩ := (next_app b []).2 r n h
  have e : drainP b.length (b.drop n) = drain (b.drop n) := drain_fuel _ _ _ (by rw [List.length_drop]; omega) (by rw [List.length_drop]; omega)
  unfold drain
  rw [drainP, h]
  dsimp only
  rw [if_neg (by rw [hc]; decide)]
  rw [e]; rfl
end Go.Proofs.YtdfgnoflohfnmaaGreatDoor.Hx
/-! HTTP: the plain functions of the document's reader, and that they tell what the program's tell. -/
namespace Go.Proofs.YtdfgnoflohfnmaaGreatDoor.Hx

/-! a text cut at one byte -/
theorem cut_miss {s : Bs} {c : UInt8} (h : Lib.index s [c] = -1) : Lib.cut s [c] = (s, [], false) := by unfold Lib.cut; rw [if_neg (by omega)]
theorem cut_hit {s : Bs} {c : UInt8} {i : Nat} (h : Lib.index s [c] = i) : Lib.cut s [c] = (s.take i, s.drop (i + 1), true) := by unfold Lib.cut; rw [if_pos (by omega), h]; rfl
theorem idx_cases (s : Bs) (c : UInt8) : Lib.index s [c] = -1 ∨ ∃ i : Nat, Lib.index s [c] = i ∧ i < s.length := by
  rcases Lib.index_spec s [c] with ⟨h, _⟩ | ⟨i, h, _⟩
  · exact .inl h
  · have := Lib.index_room s [c] (by omega)
    rw [h] at this
    exact .inr ⟨i, h, by simp at this; omega⟩
theorem split_cut (s : Bs) (c : UInt8) : Lib.split s [c] = if (Lib.cut s [c]).2.2 then (Lib.cut s [c]).1 :: Lib.split (Lib.cut s [c]).2.1 [c] else [s] := by
  rcases idx_cases s c with h | ⟨i, h, _⟩
  · rw [cut_miss h]
    unfold Lib.split
    rw [Lib.count_miss h]; rfl
  · rw [cut_hit h]
    unfold Lib.split
    rw [Lib.count_hit (by simp) h, Nat.add_comm 1, Lib.splitK, if_neg (by rw [h]; simp), h]
    simp
/-! escapes -/
def decP (plus : Bool) : Bs → Option Bs
  | [] => some []
  | c :: t =>
    if c.toNat = 37 then
      match t with
      | a :: b :: r => if hexV a < 0 ∨ hexV b < 0 then none else (decP plus r).map (UInt8.ofNat (16 * (hexV a).toNat + (hexV b).toNat) :: ·)
      | _ => none
    else if c.toNat = 43 ∧ plus = true then (decP plus t).map (32 :: ·)
    else (decP plus t).map (c :: ·)
/-- the document's answer: the bytes, all of which may be -/
def plainlyP (plus : Bool) (s : Bs) : Option Bs := (decP plus s).bind fun d => if d.all prB then some d else none
theorem plainly_eq (plus : Bool) : ∀ (n : Nat) (s : Bs), s.length ≤ n → plainlyP plus s = unesc plus s
  | _, [], _ => by simp [plainlyP, decP, unesc]
  | 0, c :: t, h => by simp at h
  | n + 1, c :: t, h => by
    have ih := fun s hs => plainly_eq plus n s hs
    unfold plainlyP at ih ⊢
    unfold decP unesc
    by_cases h1 : c.toNat = 37
    · rw [if_pos h1, if_pos h1]
      match t, h with
      | [], _ => rfl
      | [_], _ => rfl
      | a :: b :: r, h =>
        dsimp only
        by_cases h2 : hexV a < 0 ∨ hexV b < 0
        · rw [if_pos h2, if_pos h2]; rfl
        · rw [if_neg h2, if_neg h2]
          rw [← ih r (by simp at h; omega)]
          generalize UInt8.ofNat (16 * (hexV a).toNat + (hexV b).toNat) = z
          cases decP plus r with
          | none => simp
          | some d =>
            by_cases h3 : prB z = true
            · simp [h3]
            · simp [h3]
    · rw [if_neg h1, if_neg h1]
      have hi := ih t (by simp at h; omega)
      by_cases h2 : c.toNat = 43 ∧ plus = true
      · rw [if_pos h2, if_pos h2, ← hi]
        cases decP plus t with
        | none => rfl
        | some d =>
          have h3 : prB 32 = true := by decide
          simp [h3]
      · rw [if_neg h2, if_neg h2]
        by_cases h3 : prB c = true
        · rw [if_pos h3, ← hi]
          cases decP plus t with
          | none => rfl
          | some d => simp [h3]
        · rw [if_neg h3]
          cases decP plus t with
          | none => rfl
          | some d => simp [h3]
/-! parameters -/
def parsR : Nat → Bs → Option (List (Bs × Bs))
  | 0, _ => some []
  | f + 1, q =>
    if q = [] then some []
    else match parP (Lib.cut q [38]).1 with
      | none => none
      | some (n, v) => (parsR f (Lib.cut q [38]).2.1).map fun l => if n ≠ [] ∨ v ≠ [] then (n, v) :: l else l
theorem parP_nil : parP [] = some ([], []) := by decide
theorem pars_cons (s : Bs) (t : List Bs) : parsP (s :: t) = match parP s with | none => none | some (n, v) => (parsP t).map fun l => if n ≠ [] ∨ v ≠ [] then (n, v) :: l else l := by
  rw [parsP]
  cases parP s with
  | none => rfl
  | some x => cases parsP t <;> rfl
theorem pars_nil : parsP [[]] = some [] := by rw [pars_cons, parP_nil]; rfl
theorem pars_eq : ∀ (f : Nat) (q : Bs), q.length < f → parsR f q = parsP (Lib.split q [38])
  | 0, _, h => absurd h (Nat.not_lt_zero _)
  | f + 1, q, h => by
    unfold parsR
    by_cases hq : q = []
    · subst hq
      rw [if_pos rfl, split_cut, show (Lib.cut ([] : Bs) [38]).2.2 = false from by decide]
      exact pars_nil.symm
    · rw [if_neg hq, split_cut]
      have hl : 0 < q.length := List.length_pos_iff.mpr hq
      rcases idx_cases q 38 with hi | ⟨i, hi, hlt⟩
      · rw [cut_miss hi, if_neg (by simp), pars_cons]
        rw [pars_eq f [] (by simp; omega)]
        rw [show Lib.split ([] : Bs) [38] = [[]] from by decide, pars_nil]
        cases parP q <;> rfl
      · rw [cut_hit hi]
        dsimp only
        rw [if_pos rfl, pars_cons, pars_eq f (q.drop (i + 1)) (by rw [List.length_drop]; omega)]
end Go.Proofs.YtdfgnoflohfnmaaGreatDoor.Hx
