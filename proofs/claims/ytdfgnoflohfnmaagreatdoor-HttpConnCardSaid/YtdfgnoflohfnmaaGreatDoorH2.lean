/- HTTP: the plain functions of the document's reader, and that they tell what the program's tell. -/
import Derived.Test.YtdfgnoflohfnmaaGreatDoorH1
namespace Go.Proofs.YtdfgnoflohfnmaaGreatDoor.Hx

/-! a text cut at one byte -/
theorem cut_miss {s : Bs} {c : UInt8} (h : Lib.index s [c] = -1) : Lib.cut s [c] = (s, [], false) := by unfold Lib.cut; rw [if_neg (by omega)]
theorem cut_hit {s : Bs} {c : UInt8} {i : Nat} (h : Lib.index s [c] = i) : Lib.cut s [c] = (s.take i, s.drop (i + 1), true) := by unfold Lib.cut; rw [if_pos (by omega), h]; rfl
theorem idx_cases (s : Bs) (c : UInt8) : Lib.index s [c] = -1 ∨ ∃ i : Nat, Lib.index s [c] = i ∧ i < s.length := by
  rcases Lib.index_spec s [c] with ⟨h, _⟩ | ⟨i, h, _⟩
  · exact .inl h
  · have := Lib.index_room s [c] (by omega)
    rw [h] at this
    exact .inr ⟨i, h, by simp at this; omega⟩
theorem split_cut (s : Bs) (c : UInt8) : Lib.split s [c] = if (Lib.cut s [c]).2.2 then (Lib.cut s [c]).1 :: Lib.split (Lib.cut s [c]).2.1 [c] else [s] := by
  rcases idx_cases s c with h | ⟨i, h, _⟩
  · rw [cut_miss h]
    unfold Lib.split
    rw [Lib.count_miss h]; rfl
  · rw [cut_hit h]
    unfold Lib.split
    rw [Lib.count_hit (by simp) h, Nat.add_comm 1, Lib.splitK, if_neg (by rw [h]; simp), h]
    simp
/-! escapes -/
def decP (plus : Bool) : Bs → Option Bs
  | [] => some []
  | c :: t =>
    if c.toNat = 37 then
      match t with
      | a :: b :: r => if hexV a < 0 ∨ hexV b < 0 then none else (decP plus r).map (UInt8.ofNat (16 * (hexV a).toNat + (hexV b).toNat) :: ·)
      | _ => none
    else if c.toNat = 43 ∧ plus = true then (decP plus t).map (32 :: ·)
    else (decP plus t).map (c :: ·)
def plainlyP (plus : Bool) (s : Bs) : Option Bs := (decP plus s).bind fun d => if d.all prB then some d else none
theorem plainly_eq (plus : Bool) : ∀ (n : Nat) (s : Bs), s.length ≤ n → plainlyP plus s = unesc plus s
  | _, [], _ => by simp [plainlyP, decP, unesc]
  | 0, c :: t, h => by simp at h
  | n + 1, c :: t, h => by
    have ih := fun s hs => plainly_eq plus n s hs
    unfold plainlyP at ih ⊢
    unfold decP unesc
    by_cases h1 : c.toNat = 37
    · rw [if_pos h1, if_pos h1]
      match t, h with
      | [], _ => rfl
      | [_], _ => rfl
      | a :: b :: r, h =>
        dsimp only
        by_cases h2 : hexV a < 0 ∨ hexV b < 0
        · rw [if_pos h2, if_pos h2]; rfl
        · rw [if_neg h2, if_neg h2]
          rw [← ih r (by simp at h; omega)]
          generalize UInt8.ofNat (16 * (hexV a).toNat + (hexV b).toNat) = z
          cases decP plus r with
          | none => simp
          | some d =>
            by_cases h3 : prB z = true
            · simp [h3]
            · simp [h3]
    · rw [if_neg h1, if_neg h1]
      have hi := ih t (by simp at h; omega)
      by_cases h2 : c.toNat = 43 ∧ plus = true
      · rw [if_pos h2, if_pos h2, ← hi]
        cases decP plus t with
        | none => rfl
        | some d =>
          have h3 : prB 32 = true := by decide
          simp [h3]
      · rw [if_neg h2, if_neg h2]
        by_cases h3 : prB c = true
        · rw [if_pos h3, ← hi]
          cases decP plus t with
          | none => rfl
          | some d => simp [h3]
        · rw [if_neg h3]
          cases decP plus t with
          | none => rfl
          | some d => simp [h3]
/-! parameters -/
def parsR : Nat → Bs → Option (List (Bs × Bs))
  | 0, _ => some []
  | f + 1, q =>
    if q = [] then some []
    else match parP (Lib.cut q [38]).1 with
      | none => none
      | some (n, v) => (parsR f (Lib.cut q [38]).2.1).map fun l => if n ≠ [] ∨ v ≠ [] then (n, v) :: l else l
theorem parP_nil : parP [] = some ([], []) := by decide
theorem pars_cons (s : Bs) (t : List Bs) : parsP (s :: t) = match parP s with | none => none | some (n, v) => (parsP t).map fun l => if n ≠ [] ∨ v ≠ [] then (n, v) :: l else l := by
  rw [parsP]
  cases parP s with
  | none => rfl
  | some x => cases parsP t <;> rfl
theorem pars_nil : parsP [[]] = some [] := by rw [pars_cons, parP_nil]; rfl
theorem pars_eq : ∀ (f : Nat) (q : Bs), q.length < f → parsR f q = parsP (Lib.split q [38])
  | 0, _, h => absurd h (Nat.not_lt_zero _)
  | f + 1, q, h => by
    unfold parsR
    by_cases hq : q = []
    · subst hq
      rw [if_pos rfl, split_cut, show (Lib.cut ([] : Bs) [38]).2.2 = false from by decide]
      exact pars_nil.symm
    · rw [if_neg hq, split_cut]
      have hl : 0 < q.length := List.length_pos_iff.mpr hq
      rcases idx_cases q 38 with hi | ⟨i, hi, hlt⟩
      · rw [cut_miss hi, if_neg (by simp), pars_cons]
        rw [pars_eq f [] (by simp; omega)]
        rw [show Lib.split ([] : Bs) [38] = [[]] from by decide, pars_nil]
        cases parP q <;> rfl
      · rw [cut_hit hi]
        dsimp only
        rw [if_pos rfl, pars_cons, pars_eq f (q.drop (i + 1)) (by rw [List.length_drop]; omega)]
def tgtR (s : Bs) : Option (Bs × List (Bs × Bs)) :=
  if s.length < 1 ∨ 2048 < s.length ∨ s.head? ≠ some 47 ∨ s.all tgB = false then none
  else match plainlyP false (Lib.cut s [63]).1 with
    | none => none
    | some p => (parsR ((Lib.cut s [63]).2.1.length + 1) (Lib.cut s [63]).2.1).map fun l => (p, l)
theorem tgt_eq (s : Bs) : tgtR s = tgtP s := by
  unfold tgtR tgtP
  rw [plainly_eq _ _ _ (Nat.le_refl _), pars_eq _ _ (Nat.lt_succ_self _)]
  split
  · rfl
  · cases unesc false (Lib.cut s [63]).1 with
    | none => rfl
    | some p => cases parsP (Lib.split (Lib.cut s [63]).2.1 [38]) <;> rfl
/-! lines -/
def lineR (b : Bs) : Bs × Int :=
  if 0 ≤ Lib.index b crlf ∧ Lib.index b crlf ≤ 4096 then (b.take (Lib.index b crlf).toNat, Lib.index b crlf + 2)
  else if 4098 ≤ b.length then ([], -1) else ([], 0)
theorem line_eq (b : Bs) : lineP b = if (lineR b).2 < 0 then .bad else if (lineR b).2 = 0 then .more else if (lineR b).1.all lnB then .got (lineR b).1 (lineR b).2.toNat else .bad := by
  have hg := Lib.index_ge b crlf
  unfold lineP lineR
  by_cases h1 : 0 ≤ Lib.index b crlf ∧ Lib.index b crlf ≤ 4096
  · rw [if_pos h1, if_neg (by omega), if_neg (by omega)]
    dsimp only
    rw [if_neg (show ¬ (Lib.index b crlf + 2 < 0) from by omega), if_neg (show ¬ (Lib.index b crlf + 2 = 0) from by omega)]
    rw [show (Lib.index b crlf + 2).toNat = (Lib.index b crlf).toNat + 2 from by omega]
  · rw [if_neg h1]
    by_cases h2 : 4098 ≤ b.length
    · rw [if_pos h2, if_pos (by omega), if_pos (by decide)]
    · rw [if_neg h2]
      have h3 : ¬ 0 ≤ Lib.index b crlf := fun h => by
        have := Lib.index_room b crlf h
        rw [show crlf.length = 2 from rfl] at this
        omega
      rw [if_neg (by omega), if_pos (by omega), if_neg (by decide), if_pos rfl]
def firstR (s : Bs) : Option (Bs × Bs × List (Bs × Bs)) :=
  if (Lib.cut s [32]).2.2 = false ∨ (Lib.cut (Lib.cut s [32]).2.1 [32]).2.2 = false ∨ (Lib.cut s [32]).1.length < 1 ∨ 16 < (Lib.cut s [32]).1.length ∨ (Lib.cut (Lib.cut s [32]).2.1 [32]).2.1 ≠ vers ∨ s.all lnB = false ∨ (Lib.cut s [32]).1.all capB = false then none
  else (tgtR (Lib.cut (Lib.cut s [32]).2.1 [32]).1).map fun x => ((Lib.cut s [32]).1, x.1, x.2)
theorem vers_split : Lib.split vers [32] = [vers] := by decide
theorem first_eq (s : Bs) (hs : s.all lnB = true) : firstR s = startP s := by
  unfold firstR startP
  rw [split_cut s 32]
  generalize Lib.cut s [32] = x at *
  obtain ⟨m, r, is⟩ := x
  dsimp only
  cases is with
  | false => rw [if_pos (.inl rfl), if_neg (by decide)]
  | true =>
    rw [if_pos rfl, split_cut r 32]
    generalize Lib.cut r [32] = y at *
    obtain ⟨t, v, also⟩ := y
    dsimp only
    cases also with
    | false => rw [if_pos (.inr (.inl rfl)), if_neg (by decide)]
    | true =>
      rw [if_pos rfl]
      by_cases hv : v = vers
      · subst hv
        rw [vers_split]
        dsimp only
        by_cases hm : m.length < 1 ∨ 16 < m.length ∨ m.all capB = false
        · rw [if_pos (by rcases hm with h | h | h <;> simp [h]), if_pos (by rcases hm with h | h | h <;> simp [h])]
        · rw [not_or, not_or] at hm
          obtain ⟨a, b, c⟩ := hm
          have c' : m.all capB = true := by simpa using c
          rw [if_neg (by simp [a, b, c', hs]), if_neg (by simp [a, b, c']), tgt_eq]
      · rw [if_pos (by simp [hv])]
        have : ∀ l : List Bs, l = Lib.split v [32] → (match m :: t :: l with | [m, t, v] => if v ≠ vers ∨ m.length < 1 ∨ 16 < m.length ∨ m.all capB = false then none else (tgtP t).map fun x => (m, x.1, x.2) | _ => none) = (none : Option (Bs × Bs × List (Bs × Bs))) := by
          intro l hl
          match l, hl with
          | [], _ => rfl
          | [z], h =>
            have : z = v := by
              rw [split_cut] at h
              split at h
              · next h2 =>
                have h3 := congrArg List.length h
                have h4 : (Lib.split (Lib.cut v [32]).2.1 [32]).length ≠ 0 := by
                  rw [split_cut]; split <;> simp
                simp at h3
                exact absurd h3 (by simpa using h4)
              · exact (List.cons.inj h).1
            subst this
            dsimp only
            rw [if_pos (.inl hv)]
          | _ :: _ :: _, _ => rfl
        exact (this _ rfl).symm
/-! headers -/
def headR (s : Bs) : Option (Bs × Bs) :=
  if (Lib.cut s [58]).2.2 = false ∨ (Lib.cut s [58]).1.length < 1 ∨ 64 < (Lib.cut s [58]).1.length ∨ s.all lnB = false ∨ (Lib.cut s [58]).1.all nmB = false then none
  else some (Lib.toLowerA (Lib.cut s [58]).1, Lib.trimS (Lib.cut s [58]).2.1 [32, 9])
def lengthR (s : Bs) : Option Int := if s.length < 1 ∨ 9 < s.length ∨ s.all digB = false then none else some (decV s)
def hdrsR (b : Bs) : Nat → Nat → Nat → Int → Bool → Bool → Hd
  | 0, _, _, _, _, _ => .fault 400
  | f + 1, i, k, size, told, cl =>
    if (lineR (b.drop i)).2 ≤ 0 then (if (lineR (b.drop i)).2 = 0 then .more else .fault 400)
    else if (lineR (b.drop i)).1 = [] then .done (i + (lineR (b.drop i)).2.toNat) size cl
    else match headR (lineR (b.drop i)).1 with
      | none => .fault 400
      | some (nm, v) =>
        if 32 ≤ k ∨ nm = hTra then .fault 400
        else if nm = hLen then
          match lengthR v with
          | none => .fault 400
          | some x => if told = true then .fault 400 else hdrsR b f (i + (lineR (b.drop i)).2.toNat) (k + 1) x true cl
        else hdrsR b f (i + (lineR (b.drop i)).2.toNat) (k + 1) size told (cl || (decide (nm = hCon) && decide (Lib.toLowerA v = hClo)))
theorem decV_nonneg (s : Bs) (h : s.all digB = true) : 0 ≤ decV s := by
  have : ∀ (s : Bs) (n : Int), 0 ≤ n → s.all digB = true → 0 ≤ s.foldl (fun n c => 10 * n + ((c.toNat : Int) - 48)) n := by
    intro s
    induction s with
    | nil => intro n h _; exact h
    | cons c t ih =>
      intro n h ha
      rw [List.all_cons, Bool.and_eq_true] at ha
      have := ha.1
      unfold digB at this
      simp at this
      exact ih _ (by show 0 ≤ 10 * n + ((c.toNat : Int) - 48); omega) ha.2
  exact this s 0 (by omega) h
def Hd.nrm : Hd → Hd
  | .done i len cl => .done i (max 0 len) cl
  | x => x
theorem hCon_ne : hLen ≠ hCon := by decide
theorem hTra_ne : hCon ≠ hTra ∧ hLen ≠ hTra := by decide
theorem hdrs_eq (b : Bs) : ∀ (f i k : Nat) (size : Int) (told cl : Bool), 0 ≤ size → (told = false → size = 0) →
    hdrsR b f i k size told cl = (hdrsP b f i k (if told then size else -1) cl).nrm
  | 0, _, _, _, _, _, _, _ => rfl
  | f + 1, i, k, size, told, cl, h0, h1 => by
    unfold hdrsR hdrsP
    rw [line_eq (b.drop i)]
    generalize lineR (b.drop i) = x
    obtain ⟨s, n⟩ := x
    dsimp only
    by_cases hn : n ≤ 0
    · rw [if_pos hn]
      by_cases hz : n = 0
      · rw [if_pos hz, if_neg (show ¬ n < 0 from by omega), if_pos hz]; rfl
      · rw [if_neg hz, if_pos (show n < 0 from by omega)]; rfl
    · rw [if_neg hn, if_neg (show ¬ n < 0 from by omega), if_neg (show ¬ n = 0 from by omega)]
      by_cases hs : s = []
      · subst hs
        rw [if_pos rfl, if_pos (by rfl)]
        dsimp only
        rw [if_pos rfl]
        show Hd.done _ _ _ = Hd.done _ _ _
        congr 1
        cases told with
        | true => rw [if_pos rfl]; omega
        | false => rw [if_neg (by decide), h1 rfl]; rfl
      · rw [if_neg hs]
        unfold headR
        by_cases ha : s.all lnB = true
        · rw [if_pos ha]
          dsimp only
          rw [if_neg hs]
          unfold hdrP
          generalize Lib.cut s [58] = y
          obtain ⟨nm, v, is⟩ := y
          dsimp only
          by_cases hc : is = false ∨ nm.length < 1 ∨ 64 < nm.length ∨ nm.all nmB = false
          · rw [if_pos (by rcases hc with h | h | h | h <;> simp [h])]
            rw [if_pos hc]
            by_cases hk : 32 < k + 1
            · rw [if_pos hk]; rfl
            · rw [if_neg hk]; rfl
          · have hc2 : ¬ (is = false ∨ nm.length < 1 ∨ 64 < nm.length ∨ s.all lnB = false ∨ nm.all nmB = false) := fun e => hc (e.elim .inl fun e => e.elim (fun e => .inr (.inl e)) fun e => e.elim (fun e => .inr (.inr (.inl e))) fun e => e.elim (fun e => absurd ha (by rw [e]; decide)) fun e => .inr (.inr (.inr e)))
            rw [if_neg hc2, if_neg hc]
            dsimp only
            generalize Lib.toLowerA nm = N
            generalize Lib.trimS v [32, 9] = V
            by_cases hk : 32 ≤ k
            · rw [if_pos (.inl hk), if_pos (by omega)]; rfl
            · rw [if_neg (show ¬ 32 < k + 1 from by omega)]
              by_cases hl : N = hLen
              · subst hl
                rw [if_neg (by simp [hk, hTra_ne.2]), if_pos rfl, if_pos rfl]
                unfold lengthR
                by_cases hv : V.length < 1 ∨ 9 < V.length ∨ V.all digB = false
                · rw [if_pos hv, if_pos (.inr hv)]; rfl
                · rw [if_neg hv]
                  dsimp only
                  cases told with
                  | true => rw [if_pos rfl, if_pos rfl, if_pos (.inl h0)]; rfl
                  | false =>
                    rw [if_neg (show ¬ false = true from by decide), if_neg (show ¬ false = true from by decide), if_neg (show ¬ ((0 : Int) ≤ -1 ∨ V.length < 1 ∨ 9 < V.length ∨ V.all digB = false) from by rw [not_or]; exact ⟨by omega, hv⟩)]
                    rw [not_or, not_or] at hv
                    dsimp only
                    rw [hdrs_eq b f _ _ _ true cl (decV_nonneg V (by simpa using hv.2.2)) (by simp)]
                    rw [if_pos rfl]
              · rw [if_neg hl, if_neg hl]
                by_cases ht : N = hTra
                · rw [if_pos (.inr ht), if_pos ht]; rfl
                · rw [if_neg (by simp [hk, ht]), if_neg ht]
                  by_cases hcn : N = hCon
                  · rw [if_pos hcn, decide_eq_true hcn, Bool.true_and]
                    dsimp only
                    exact hdrs_eq b f _ _ size told _ h0 h1
                  · rw [if_neg hcn, decide_eq_false hcn, Bool.false_and, Bool.or_false]
                    dsimp only
                    exact hdrs_eq b f _ _ size told _ h0 h1
        · rw [if_neg ha, if_pos (by simp at ha; simp [ha])]; rfl
def readR (b : Bs) : Nx :=
  if (lineR b).2 ≤ 0 then (if (lineR b).2 = 0 then .more else .fault 400)
  else match firstR (lineR b).1 with
    | none => .fault 400
    | some (m, p, q) =>
      match hdrsR b 34 (lineR b).2.toNat 0 0 false false with
      | .more => .more
      | .fault st => .fault st
      | .done i size cl =>
        if 262144 < size then .fault 413
        else if b.length < i + size.toNat then .more
        else .req ⟨m, p, q, (b.drop i).take size.toNat, cl⟩ (i + size.toNat)
theorem first_bad (s : Bs) (hs : s.all lnB = false) : firstR s = none := by
  unfold firstR
  rw [if_pos (by simp [hs])]
theorem read_eq (b : Bs) : readR b = nextP b := by
  unfold readR nextP
  rw [line_eq b]
  generalize lineR b = x
  obtain ⟨s, n⟩ := x
  dsimp only
  by_cases hn : n ≤ 0
  · rw [if_pos hn]
    by_cases hz : n = 0
    · rw [if_pos hz, if_neg (show ¬ n < 0 from by omega), if_pos hz]
    · rw [if_neg hz, if_pos (show n < 0 from by omega)]
  · rw [if_neg hn, if_neg (show ¬ n < 0 from by omega), if_neg (show ¬ n = 0 from by omega)]
    by_cases hs : s.all lnB = true
    · rw [if_pos hs, first_eq s hs]
      dsimp only
      cases startP s with
      | none => rfl
      | some y =>
        obtain ⟨m, p, q⟩ := y
        dsimp only
        rw [hdrs_eq b 34 n.toNat 0 0 false false (by omega) (fun _ => rfl), if_neg (by decide)]
        cases hdrsP b 34 n.toNat 0 (-1) false with
        | more => rfl
        | fault st => rfl
        | done i len cl => rfl
    · rw [if_neg hs, first_bad s (by simpa using hs)]
end Go.Proofs.YtdfgnoflohfnmaaGreatDoor.Hx
