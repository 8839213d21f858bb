/- PolicyTables: the plain law: what is put together holds by its parts. -/
import Derived.Test.YtnnhkajjifmlfaaDoorEf
import Derived.Test.YtnnhkajjifmlfaaDoorP6
namespace Go.Proofs.YtnnhkajjifmlfaaDoor.Pl
open Go.RowKit

theorem quotN_nil : quotB ⟨#[]⟩ = true := by decide
theorem fineN_all (x : PN) : fineN x = true ↔ 1 ≤ x.k ∧ x.k ≤ 9 ∧ (x.k = 3 ∨ x.k = 6 ∨ x.n = 0) ∧ (x.k = 4 ∨ x.k = 5 ∨ x.a = ⟨#[]⟩) ∧ (x.k = 5 ∨ x.b = ⟨#[]⟩) ∧ (7 ≤ x.k ∨ x.l = 0) ∧ (8 ≤ x.k ∨ x.r = 0) ∧ 0 ≤ x.n ∧ (¬ (x.k = 4 ∨ x.k = 5) ∨ x.a ≠ ⟨#[]⟩) ∧ quotB x.a = true ∧ quotB x.b = true := by
  unfold fineN
  simp only [sz0, Bool.and_eq_true, Bool.or_eq_true, decide_eq_true_eq, beq_iff_eq, Bool.not_eq_true', Bool.or_eq_false_iff, beq_eq_false_iff_ne, ne_eq]
  grind

/-- does a tree hold? -/
def PT.ev (sh : Nat) (l : List Ad) : PT → Bool
  | .leaf x => truthN sh l [] x
  | .not t => !t.ev sh l
  | .bin k t u => if k = 8 then t.ev sh l && u.ev sh l else t.ev sh l || u.ev sh l
theorem truth_leaf {sh : Nat} {l : List Ad} {x : PN} (h : x.k < 7) (ts : List Bool) : truthN sh l ts x = truthN sh l [] x := by
  unfold truthN
  rw [if_neg (show ¬ x.k = 7 by omega), if_neg (show ¬ x.k = 7 by omega), if_neg (show ¬ x.k = 8 by omega), if_neg (show ¬ x.k = 8 by omega), if_neg (show ¬ x.k = 9 by omega), if_neg (show ¬ x.k = 9 by omega)]
theorem getD_behind (ts vs : List Bool) (i : Nat) : (ts ++ vs).getD (ts.length + i) false = vs.getD i false := by
  rw [List.getD_eq_getElem?_getD, List.getD_eq_getElem?_getD, List.getElem?_append_right (by omega), Nat.add_sub_cancel_left]
theorem getD_ahead (ts vs : List Bool) (i : Nat) (h : i < ts.length) : (ts ++ vs).getD i false = ts.getD i false := by
  rw [List.getD_eq_getElem?_getD, List.getD_eq_getElem?_getD, List.getElem?_append_left h]
/-- a tree's nodes: its truths are put, its own last -/
theorem tr_flat (sh : Nat) (l : List Ad) : ∀ (t : PT) (b : Nat) (ts : List Bool), t.ok = true → ts.length = b → ∃ vs, trF sh l (t.flat b) ts = ts ++ vs ∧ vs.length = t.size ∧ vs.getD (t.size - 1) false = t.ev sh l
  | .leaf x, b, ts, ho, hl => by
    simp only [PT.ok, leafOk, Bool.and_eq_true, decide_eq_true_eq] at ho
    refine ⟨[truthN sh l [] x], ?_, rfl, rfl⟩
    simp only [PT.flat, trF]
    rw [truth_leaf ho.2]
  | .not t, b, ts, ho, hl => by
    obtain ⟨vs, h1, h2, h3⟩ := tr_flat sh l t b ts ho hl
    have hp := t.pos
    refine ⟨vs ++ [!t.ev sh l], ?_, by simp [PT.size, h2], ?_⟩
    · simp only [PT.flat]
      rw [trF_append, h1]
      simp only [trF]
      have e : truthN sh l (ts ++ vs) ⟨7, 0, ⟨#[]⟩, ⟨#[]⟩, ((b + t.size : Nat) : Int) - 1, 0⟩ = !t.ev sh l := by
        unfold truthN
        simp only
        rw [if_neg (by omega), if_neg (by omega), if_pos trivial]
        have e1 : (((b + t.size : Nat) : Int) - 1).toNat = ts.length + (t.size - 1) := by omega
        rw [e1, getD_behind, h3]
      rw [e, List.append_assoc]
    · show (vs ++ [!t.ev sh l]).getD (t.size + 1 - 1) false = _
      have : t.size + 1 - 1 = vs.length + 0 := by omega
      rw [this, getD_behind]
      rfl
  | .bin k t u, b, ts, ho, hl => by
    simp only [PT.ok, Bool.and_eq_true, Bool.or_eq_true, beq_iff_eq] at ho
    obtain ⟨vs, h1, h2, h3⟩ := tr_flat sh l t b ts ho.1.2 hl
    obtain ⟨us, g1, g2, g3⟩ := tr_flat sh l u (b + t.size) (ts ++ vs) ho.2 (by rw [List.length_append, h2, hl])
    have hp := t.pos
    have hq := u.pos
    refine ⟨vs ++ (us ++ [PT.ev sh l (.bin k t u)]), ?_, by simp [PT.size, h2, g2]; omega, ?_⟩
    · simp only [PT.flat]
      rw [trF_append, h1, trF_append, g1]
      simp only [trF]
      have e1 : (((b + t.size : Nat) : Int) - 1).toNat = ts.length + (t.size - 1) := by omega
      have e2 : (((b + t.size + u.size : Nat) : Int) - 1).toNat = (ts ++ vs).length + (u.size - 1) := by rw [List.length_append]; omega
      have a1 : (ts ++ vs ++ us).getD (ts.length + (t.size - 1)) false = t.ev sh l := by
        rw [getD_ahead _ _ _ (by rw [List.length_append]; omega), getD_behind, h3]
      have a2 : (ts ++ vs ++ us).getD ((ts ++ vs).length + (u.size - 1)) false = u.ev sh l := by rw [getD_behind, g3]
      have e : truthN sh l (ts ++ vs ++ us) ⟨k, 0, ⟨#[]⟩, ⟨#[]⟩, ((b + t.size : Nat) : Int) - 1, ((b + t.size + u.size : Nat) : Int) - 1⟩ = PT.ev sh l (.bin k t u) := by
        unfold truthN PT.ev
        simp only
        rw [e1, e2, a1, a2]
        rcases ho.1.1 with rfl | rfl
        · rfl
        · rfl
      rw [e]
      simp only [List.append_assoc]
    · show (vs ++ (us ++ [PT.ev sh l (.bin k t u)])).getD (t.size + u.size + 1 - 1) false = _
      have : t.size + u.size + 1 - 1 = vs.length + (us.length + 0) := by omega
      rw [this, getD_behind, getD_behind]
      rfl
/-! ### nodes of trees may be -/
theorem flat_fine : ∀ (t : PT) (b : Nat), t.ok = true → ∀ x ∈ t.flat b, fineN x = true ∧ longN x = false
  | .leaf x, b, ho => by
    simp only [PT.ok, leafOk, Bool.and_eq_true, decide_eq_true_eq, Bool.not_eq_true'] at ho
    intro y hy
    simp only [PT.flat, List.mem_singleton] at hy
    subst hy
    exact ho.1
  | .not t, b, ho => by
    intro y hy
    simp only [PT.flat, List.mem_append, List.mem_singleton] at hy
    rcases hy with hy | rfl
    · exact flat_fine t b ho y hy
    · have hp := t.pos
      refine ⟨?_, by rfl⟩
      rw [fineN_all]
      simp only
      exact ⟨by omega, by omega, .inr (.inr trivial), .inr (.inr trivial), .inr trivial, .inl (by omega), .inr trivial, by omega, .inl (by omega), quotN_nil, quotN_nil⟩
  | .bin k t u, b, ho => by
    simp only [PT.ok, Bool.and_eq_true, Bool.or_eq_true, beq_iff_eq] at ho
    intro y hy
    simp only [PT.flat, List.mem_append, List.mem_singleton] at hy
    rcases hy with hy | hy | rfl
    · exact flat_fine t b ho.1.2 y hy
    · exact flat_fine u _ ho.2 y hy
    · rcases ho.1.1 with rfl | rfl
      all_goals
        refine ⟨?_, by rfl⟩
        rw [fineN_all]
        simp only
        exact ⟨by omega, by omega, .inr (.inr trivial), .inr (.inr trivial), .inr trivial, .inl (by omega), .inl (by omega), by omega, .inl (by omega), quotN_nil, quotN_nil⟩
theorem at_end {α : Type} {l pre post : List α} {x : α} (h : l = pre ++ x :: post) {m : Nat} (hm : m = pre.length) : l[m]? = some x := by
  subst h hm
  rw [List.getElem?_append_right (Nat.le_refl _), Nat.sub_self]
  rfl
theorem fst_step {l : List PN} {f m : Nat} {x : PN} (h : l[m]? = some x) : fstF l (f + 1) (m + 1) =
    if x.k = 7 then (if x.l = (m : Int) - 1 then fstF l f m else -1)
    else if x.k = 8 ∨ x.k = 9 then (if x.r = (m : Int) - 1 then (if fstF l f m < 1 ∨ x.l ≠ fstF l f m - 1 then -1 else fstF l f (fstF l f m).toNat) else -1)
    else m := by
  conv => lhs; unfold fstF
  rw [h]
/-- trees stand in order -/
theorem fst_flat (l : List PN) : ∀ (t : PT) (b f : Nat), t.ok = true → Stands l b t → b + t.size ≤ f → fstF l f (b + t.size) = (b : Int)
  | .leaf x, b, f, ho, ⟨pre, post, h1, h2⟩, hf => by
    simp only [PT.ok, leafOk, Bool.and_eq_true, decide_eq_true_eq] at ho
    simp only [PT.size] at hf ⊢
    obtain ⟨f, rfl⟩ : ∃ g, f = g + 1 := ⟨f - 1, by omega⟩
    simp only [PT.flat, List.cons_append, List.nil_append] at h1
    rw [fst_step (at_end h1 h2.symm), if_neg (by omega), if_neg (by omega)]
  | .not t, b, f, ho, ⟨pre, post, h1, h2⟩, hf => by
    simp only [PT.size] at hf ⊢
    obtain ⟨f, rfl⟩ : ∃ g, f = g + 1 := ⟨f - 1, by omega⟩
    simp only [PT.flat, List.append_assoc, List.cons_append, List.nil_append] at h1
    have hl := t.flat_len b
    have hx := at_end (l := l) (pre := pre ++ t.flat b) (post := post) (by rw [h1, List.append_assoc]) (m := b + t.size) (by rw [List.length_append, hl, h2])
    rw [show b + (t.size + 1) = (b + t.size) + 1 from by omega, fst_step hx, if_pos rfl, if_pos rfl]
    exact fst_flat l t b f ho ⟨pre, _, h1, h2⟩ (by omega)
  | .bin k t u, b, f, ho, ⟨pre, post, h1, h2⟩, hf => by
    simp only [PT.ok, Bool.and_eq_true, Bool.or_eq_true, beq_iff_eq] at ho
    simp only [PT.size] at hf ⊢
    obtain ⟨f, rfl⟩ : ∃ g, f = g + 1 := ⟨f - 1, by omega⟩
    simp only [PT.flat, List.append_assoc, List.cons_append, List.nil_append] at h1
    have hl := t.flat_len b
    have hk := u.flat_len (b + t.size)
    have hp := t.pos
    have hx := at_end (l := l) (pre := pre ++ (t.flat b ++ u.flat (b + t.size))) (post := post) (x := ⟨k, 0, ⟨#[]⟩, ⟨#[]⟩, ((b + t.size : Nat) : Int) - 1, ((b + t.size + u.size : Nat) : Int) - 1⟩) (by rw [h1]; simp only [List.append_assoc]) (m := b + t.size + u.size) (by rw [List.length_append, List.length_append, hl, hk, h2]; omega)
    have hU := fst_flat l u (b + t.size) f ho.2 ⟨pre ++ t.flat b, ⟨k, 0, ⟨#[]⟩, ⟨#[]⟩, ((b + t.size : Nat) : Int) - 1, ((b + t.size + u.size : Nat) : Int) - 1⟩ :: post, by rw [h1]; simp only [List.append_assoc], by rw [List.length_append, hl, h2]⟩ (by omega)
    have hT := fst_flat l t b f ho.1.2 ⟨pre, _, h1, h2⟩ (by omega)
    rw [show b + (t.size + u.size + 1) = (b + t.size + u.size) + 1 from by omega, fst_step hx]
    simp only
    rw [if_neg (by omega), if_pos ho.1.1, if_pos trivial, hU, if_neg (by omega), Int.toNat_natCast, hT]
theorem check_flat {t : PT} (ho : t.ok = true) (hs : t.size ≤ 64) : checkN (t.flat 0) = 0 := by
  have hl := t.flat_len 0
  have hp := t.pos
  have hf := fst_flat (t.flat 0) t 0 t.size ho ⟨[], [], by simp, rfl⟩ (by omega)
  rw [Nat.zero_add] at hf
  unfold checkN
  rw [hl, hf]
  have h1 : (t.flat 0).any longN = false := by rw [List.any_eq_false]; intro x hx; rw [(flat_fine t 0 ho x hx).2]; decide
  have h2 : (t.flat 0).any (fun x => !fineN x) = false := by rw [List.any_eq_false]; intro x hx; rw [(flat_fine t 0 ho x hx).1]; decide
  rw [h1, h2, decide_eq_false (by omega), decide_eq_false (by omega), decide_eq_false (by simp)]
  rfl
theorem flat_plc : ∀ (t : PT) (b : Nat), t.ok = true → ∀ (i : Nat) (x : PN), (t.flat b)[i]? = some x → 1 ≤ x.k ∧ x.k ≤ 9 ∧ (7 ≤ x.k → 0 ≤ x.l ∧ x.l < ((b + i : Nat) : Int)) ∧ (8 ≤ x.k → 0 ≤ x.r ∧ x.r < ((b + i : Nat) : Int))
  | .leaf y, b, ho, i, x, h => by
    simp only [PT.ok, leafOk, Bool.and_eq_true, decide_eq_true_eq] at ho
    have hf := (fineN_all y).1 ho.1.1
    simp only [PT.flat] at h
    cases i with
    | zero =>
      simp only [List.getElem?_cons_zero, Option.some.injEq] at h
      subst h
      exact ⟨hf.1, hf.2.1, fun h => by omega, fun h => by omega⟩
    | succ i => simp at h
  | .not t, b, ho, i, x, h => by
    have hl := t.flat_len b
    have hp := t.pos
    simp only [PT.flat] at h
    rcases Nat.lt_or_ge i t.size with hi | hi
    · rw [List.getElem?_append_left (by omega)] at h
      exact flat_plc t b ho i x h
    · rw [List.getElem?_append_right (by omega), hl] at h
      have hi0 : i - t.size = 0 := by
        have := (List.getElem?_eq_some_iff.1 h).1
        simpa using this
      rw [hi0] at h
      simp only [List.getElem?_cons_zero, Option.some.injEq] at h
      subst h
      simp only
      exact ⟨by omega, by omega, fun _ => ⟨by omega, by omega⟩, fun h => by omega⟩
  | .bin k t u, b, ho, i, x, h => by
    simp only [PT.ok, Bool.and_eq_true, Bool.or_eq_true, beq_iff_eq] at ho
    have hl := t.flat_len b
    have hk := u.flat_len (b + t.size)
    have hp := t.pos
    have hq := u.pos
    simp only [PT.flat] at h
    rcases Nat.lt_or_ge i t.size with hi | hi
    · rw [List.getElem?_append_left (by omega)] at h
      exact flat_plc t b ho.1.2 i x h
    · rw [List.getElem?_append_right (by omega), hl] at h
      rcases Nat.lt_or_ge (i - t.size) u.size with hj | hj
      · rw [List.getElem?_append_left (by omega)] at h
        have := flat_plc u (b + t.size) ho.2 (i - t.size) x h
        rw [show b + t.size + (i - t.size) = b + i from by omega] at this
        exact this
      · rw [List.getElem?_append_right (by omega), hk] at h
        have hi0 : i - t.size - u.size = 0 := by
          have := (List.getElem?_eq_some_iff.1 h).1
          simpa using this
        rw [hi0] at h
        simp only [List.getElem?_cons_zero, Option.some.injEq] at h
        subst h
        simp only
        rcases ho.1.1 with rfl | rfl <;> exact ⟨by omega, by omega, fun _ => ⟨by omega, by omega⟩, fun _ => ⟨by omega, by omega⟩⟩
theorem plc_of_check {p : List PN} (h : checkN p = 0) : Plc p ∧ 0 < p.length := by
  obtain ⟨t, h1, h2, h3⟩ := tree_of_check h
  have hp := t.pos
  have hl := t.flat_len 0
  rw [← h2]
  refine ⟨fun i hi => ?_, by omega⟩
  have := flat_plc t 0 h1 i _ (List.getElem?_eq_getElem hi)
  rw [Nat.zero_add] at this
  exact this
/-- a tree's answer -/
theorem holds_flat (sh : Nat) (l : List Ad) {t : PT} (ho : t.ok = true) (hs : t.size ≤ 64) : holdsN (t.flat 0) sh l = (t.ev sh l, 0) := by
  obtain ⟨vs, h1, h2, h3⟩ := tr_flat sh l t 0 [] ho rfl
  unfold holdsN
  rw [if_neg (fun h => h (check_flat ho hs)), h1, t.flat_len, List.nil_append, h3]
/-! ### put together -/
def shiftN (n : Int) (x : PN) : PN := { x with l := if 7 ≤ x.k then x.l + n else x.l, r := if 7 < x.k then x.r + n else x.r }
theorem flat_shift (n : Nat) : ∀ (t : PT) (b : Nat), t.ok = true → (t.flat b).map (shiftN n) = t.flat (b + n)
  | .leaf x, b, ho => by
    simp only [PT.ok, leafOk, Bool.and_eq_true, decide_eq_true_eq] at ho
    simp only [PT.flat, List.map_cons, List.map_nil]
    unfold shiftN
    rw [if_neg (by omega), if_neg (by omega)]
  | .not t, b, ho => by
    simp only [PT.flat, List.map_append, List.map_cons, List.map_nil]
    rw [flat_shift n t b ho]
    congr 2
    unfold shiftN
    simp only
    rw [if_pos (by omega), if_neg (by omega)]
    congr 1
    omega
  | .bin k t u, b, ho => by
    simp only [PT.ok, Bool.and_eq_true, Bool.or_eq_true, beq_iff_eq] at ho
    simp only [PT.flat, List.map_append, List.map_cons, List.map_nil]
    rw [flat_shift n t b ho.1.2, flat_shift n u (b + t.size) ho.2]
    have e : b + t.size + n = b + n + t.size := by omega
    rw [e]
    congr 3
    unfold shiftN
    simp only
    rw [if_pos (by omega), if_pos (by omega)]
    congr 1
    · omega
    · omega
/-- what the law puts together -/
def notL (p : List PN) : List PN := p ++ [⟨7, 0, ⟨#[]⟩, ⟨#[]⟩, (p.length : Int) - 1, 0⟩]
def bothL (p q : List PN) : List PN := p ++ q.map (shiftN (p.length : Nat))
def binL (k : Int) (p q : List PN) : List PN := bothL p q ++ [⟨k, 0, ⟨#[]⟩, ⟨#[]⟩, (p.length : Int) - 1, (p.length : Int) + (q.length : Int) - 1⟩]
/-- **the tables** -/
theorem tables {p q : List PN} (sh : Nat) (l : List Ad) (hp : checkN p = 0) (hq : checkN q = 0) (lp : p.length ≤ 30) (lq : q.length ≤ 30) :
    holdsN (notL p) sh l = (!(holdsN p sh l).1, 0) ∧ holdsN (binL 8 p q) sh l = ((holdsN p sh l).1 && (holdsN q sh l).1, 0) ∧ holdsN (binL 9 p q) sh l = ((holdsN p sh l).1 || (holdsN q sh l).1, 0) := by
  obtain ⟨t, t1, t2, t3⟩ := tree_of_check hp
  obtain ⟨u, u1, u2, u3⟩ := tree_of_check hq
  have hl := t.flat_len 0
  have hk := u.flat_len 0
  rw [← t2] at lp ⊢
  rw [← u2] at lq ⊢
  have e1 : notL (t.flat 0) = (PT.not t).flat 0 := by
    unfold notL
    simp only [PT.flat, hl, Nat.zero_add]
  have e2 : ∀ k, binL k (t.flat 0) (u.flat 0) = (PT.bin k t u).flat 0 := fun k => by
    unfold binL bothL
    rw [hl, hk, flat_shift _ u 0 u1]
    simp only [PT.flat, Nat.zero_add, List.append_assoc]
    congr 4
  have ok1 : (PT.not t).ok = true := t1
  have ok8 : (PT.bin 8 t u).ok = true := by simp [PT.ok, t1, u1]
  have ok9 : (PT.bin 9 t u).ok = true := by simp [PT.ok, t1, u1]
  rw [e1, e2, e2, holds_flat sh l ok1 (by simp only [PT.size]; omega), holds_flat sh l ok8 (by simp only [PT.size]; omega), holds_flat sh l ok9 (by simp only [PT.size]; omega), holds_flat sh l t1 t3, holds_flat sh l u1 u3]
  exact ⟨rfl, rfl, rfl⟩
/-- without a ratio the trace's number changes nothing -/
theorem trF_sh (sh sh' : Nat) (l : List Ad) : ∀ (p : List PN) (ts : List Bool), (∀ x ∈ p, x.k ≠ 6) → trF sh l p ts = trF sh' l p ts
  | [], _, _ => rfl
  | x :: p, ts, h => by
    have e : truthN sh l ts x = truthN sh' l ts x := by
      unfold truthN
      rw [if_neg (h x (by simp)), if_neg (h x (by simp))]
    rw [trF, trF, e]
    exact trF_sh sh sh' l p _ fun y hy => h y (by simp [hy])
theorem holds_sh {p : List PN} (sh sh' : Nat) (l : List Ad) (h : ∀ x ∈ p, x.k ≠ 6) : holdsN p sh l = holdsN p sh' l := by
  unfold holdsN
  rw [trF_sh sh sh' l p [] h]
end Go.Proofs.YtnnhkajjifmlfaaDoor.Pl
