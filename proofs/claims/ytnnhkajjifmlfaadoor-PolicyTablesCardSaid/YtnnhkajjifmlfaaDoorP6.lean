/- Policies that may be are trees; a tree's text. -/
import Derived.Test.YtnnhkajjifmlfaaDoorP5
import Derived.Test.YtnnhkajjifmlfaaDoorT1
namespace Go.Proofs.YtnnhkajjifmlfaaDoor.Pl
open Go.RowKit

/-- a policy as a tree -/
inductive PT where
  | leaf (x : PN)
  | not (t : PT)
  | bin (k : Int) (t u : PT)
def PT.size : PT → Nat
  | .leaf _ => 1
  | .not t => t.size + 1
  | .bin _ t u => t.size + u.size + 1
def PT.flat : PT → Nat → List PN
  | .leaf x, _ => [x]
  | .not t, b => t.flat b ++ [⟨7, 0, ⟨#[]⟩, ⟨#[]⟩, ((b + t.size : Nat) : Int) - 1, 0⟩]
  | .bin k t u, b => t.flat b ++ (u.flat (b + t.size) ++ [⟨k, 0, ⟨#[]⟩, ⟨#[]⟩, ((b + t.size : Nat) : Int) - 1, ((b + t.size + u.size : Nat) : Int) - 1⟩])
def leafOk (x : PN) : Bool := fineN x && !longN x && decide (x.k < 7)
def PT.ok : PT → Bool
  | .leaf x => leafOk x
  | .not t => t.ok
  | .bin k t u => (k == 8 || k == 9) && t.ok && u.ok
theorem PT.pos (t : PT) : 1 ≤ t.size := by cases t <;> simp [PT.size]
theorem PT.flat_len : ∀ (t : PT) (b : Nat), (t.flat b).length = t.size
  | .leaf _, _ => rfl
  | .not t, b => by simp [PT.flat, PT.size, PT.flat_len t b]
  | .bin k t u, b => by simp [PT.flat, PT.size, PT.flat_len t b, PT.flat_len u (b + t.size)]; omega
/-- the nodes of a tree stand at lo -/
def Stands (l : List PN) (lo : Nat) (t : PT) : Prop := ∃ pre post, l = pre ++ (t.flat lo ++ post) ∧ pre.length = lo

theorem ba_nil {x : ByteArray} (h : x.size = 0) : x = ⟨#[]⟩ := by
  obtain ⟨⟨l⟩⟩ := x
  have : l = [] := List.eq_nil_of_length_eq_zero h
  subst this; rfl
structure FineN (x : PN) : Prop where
  k1 : 1 ≤ x.k
  k9 : x.k ≤ 9
  n0 : x.k ≠ 3 → x.k ≠ 6 → x.n = 0
  a0 : x.k ≠ 4 → x.k ≠ 5 → x.a = ⟨#[]⟩
  b0 : x.k ≠ 5 → x.b = ⟨#[]⟩
  l0 : x.k < 7 → x.l = 0
  r0 : x.k < 8 → x.r = 0
  nn : 0 ≤ x.n
  a1 : x.k = 4 ∨ x.k = 5 → x.a.size ≠ 0
  qa : quotB x.a = true
  qb : quotB x.b = true
theorem fineN_iff {x : PN} (h : fineN x = true) : FineN x := by
  unfold fineN at h
  simp only [Bool.and_eq_true, Bool.or_eq_true, decide_eq_true_eq, beq_iff_eq, Bool.not_eq_true', Bool.or_eq_false_iff, beq_eq_false_iff_ne] at h
  obtain ⟨⟨⟨⟨⟨⟨⟨⟨⟨⟨h1, h2⟩, h3⟩, h4⟩, h5⟩, h6⟩, h7⟩, h8⟩, h9⟩, h10⟩, h11⟩ := h
  refine ⟨h1, h2, fun a b => ?_, fun a b => ba_nil ?_, fun a => ba_nil ?_, fun a => ?_, fun a => ?_, h8, fun a => ?_, h10, h11⟩
  · rcases h3 with (h | h) | h
    · exact absurd h a
    · exact absurd h b
    · exact h
  · rcases h4 with (h | h) | h
    · exact absurd h a
    · exact absurd h b
    · exact h
  · rcases h5 with h | h
    · exact absurd h a
    · exact h
  · rcases h6 with h | h
    · omega
    · exact h
  · rcases h7 with h | h
    · omega
    · exact h
  · rcases h9 with ⟨h, h'⟩ | h
    · rcases a with a | a
      · exact absurd a h
      · exact absurd a h'
    · exact h
theorem Stands.len {l : List PN} {lo : Nat} {t : PT} (h : Stands l lo t) : lo + t.size ≤ l.length := by
  obtain ⟨pre, post, h1, h2⟩ := h
  have := congrArg List.length h1
  rw [List.length_append, List.length_append, t.flat_len] at this
  omega
theorem split_at {α : Type} {a b c d : List α} (h : a ++ b = c ++ d) (hl : a.length = c.length) : a = c ∧ b = d := List.append_inj h hl
/-- nodes that stand in order are trees -/
theorem tree_of {l : List PN} (hf : ∀ x ∈ l, fineN x = true) (hl : ∀ x ∈ l, longN x = false) : ∀ (f m lo : Nat), m ≤ l.length → fstF l f m = (lo : Int) → ∃ t : PT, t.ok = true ∧ lo + t.size = m ∧ Stands l lo t
  | 0, _, _, _, h => by unfold fstF at h; omega
  | _ + 1, 0, _, _, h => by unfold fstF at h; omega
  | f + 1, m + 1, lo, hm, h => by
    unfold fstF at h
    have hx : l[m]? = some (l[m]'(by omega)) := List.getElem?_eq_getElem (by omega)
    have hmem : l[m]'(by omega) ∈ l := List.getElem_mem _
    rw [hx] at h
    simp only at h
    have hfx := fineN_iff (hf _ hmem)
    generalize hxx : l[m]'(by omega) = x at *
    -- what stands at m, behind a tree that ends there
    have behind : ∀ {p q : List PN}, l = p ++ q → p.length = m → ∃ q', q = x :: q' := fun {p q} h1 h2 => by
      cases q with
      | nil => have := congrArg List.length h1; simp at this; omega
      | cons y q =>
        refine ⟨q, ?_⟩
        have : l[m]? = some y := by rw [h1, List.getElem?_append_right (by omega), h2]; simp
        rw [hx] at this
        cases this; rfl
    by_cases h7 : x.k = 7
    · rw [if_pos h7] at h
      split at h
      · rename_i hxl
        obtain ⟨t, t1, t2, pre, post, t3, t4⟩ := tree_of hf hl f m lo (by omega) h
        obtain ⟨q', rfl⟩ := behind (p := pre ++ t.flat lo) (q := post) (by rw [t3, List.append_assoc]) (by rw [List.length_append, t.flat_len]; omega)
        refine ⟨.not t, t1, by simp only [PT.size]; omega, pre, q', ?_, t4⟩
        have e : x = ⟨7, 0, ⟨#[]⟩, ⟨#[]⟩, ((lo + t.size : Nat) : Int) - 1, 0⟩ := by
          have e1 := hfx.n0 (by omega) (by omega)
          have e2 := hfx.a0 (by omega) (by omega)
          have e3 := hfx.b0 (by omega)
          have e4 := hfx.r0 (by omega)
          obtain ⟨k, n, a, b, l', r⟩ := x
          simp only at *
          subst h7 e1 e2 e3 e4 hxl
          rw [t2]
        rw [PT.flat, ← e, List.append_assoc]
        exact t3
      · omega
    · rw [if_neg h7] at h
      by_cases h8 : x.k = 8 ∨ x.k = 9
      · rw [if_pos h8] at h
        split at h
        · rename_i hxr
          split at h
          · omega
          · rename_i hc
            have hc1 : 1 ≤ fstF l f m := by omega
            have hxl : x.l = fstF l f m - 1 := by
              rcases Decidable.em (x.l = fstF l f m - 1) with e | e
              · exact e
              · exact absurd (.inr e) hc
            obtain ⟨g, hg⟩ : ∃ g : Nat, fstF l f m = (g : Int) := ⟨(fstF l f m).toNat, by omega⟩
            have hlt := fstF_lt l f m
            rw [hg] at h hxl hc1 hlt
            rw [Int.toNat_natCast] at h
            obtain ⟨u, u1, u2, pre', post', u3, u4⟩ := tree_of hf hl f m g (by omega) hg
            obtain ⟨t, t1, t2, pre, post, t3, t4⟩ := tree_of hf hl f g lo (by omega) h
            obtain ⟨q', rfl⟩ := behind (p := pre' ++ u.flat g) (q := post') (by rw [u3, List.append_assoc]) (by rw [List.length_append, u.flat_len]; omega)
            have hp : pre' = pre ++ t.flat lo := by
              have : pre' ++ (u.flat g ++ x :: q') = (pre ++ t.flat lo) ++ post := by rw [← u3, t3, List.append_assoc]
              exact (split_at this (by rw [List.length_append, t.flat_len]; omega)).1
            refine ⟨.bin x.k t u, ?_, by simp only [PT.size]; omega, pre, q', ?_, t4⟩
            · simp only [PT.ok, t1, u1, Bool.and_true]
              rcases h8 with h8 | h8 <;> rw [h8] <;> rfl
            · have e : x = ⟨x.k, 0, ⟨#[]⟩, ⟨#[]⟩, ((lo + t.size : Nat) : Int) - 1, ((lo + t.size + u.size : Nat) : Int) - 1⟩ := by
                have e1 := hfx.n0 (by omega) (by omega)
                have e2 := hfx.a0 (by omega) (by omega)
                have e3 := hfx.b0 (by omega)
                obtain ⟨k, n, a, b, l', r⟩ := x
                simp only at *
                subst e1 e2 e3 hxl hxr
                rw [show lo + t.size + u.size = m by omega, t2]
              rw [PT.flat, ← e, t2]
              rw [u3, hp]
              simp only [List.append_assoc, List.cons_append, List.nil_append]
        · omega
      · rw [if_neg h8] at h
        obtain rfl : m = lo := by omega
        refine ⟨.leaf x, ?_, rfl, l.take m, l.drop (m + 1), ?_, by rw [List.length_take]; omega⟩
        · simp only [PT.ok, leafOk]
          rw [hf _ hmem, hl _ hmem]
          simp only [Bool.not_false, Bool.and_true, Bool.true_and, decide_eq_true_eq]
          have := hfx.k9
          omega
        · simp only [PT.flat, List.cons_append, List.nil_append]
          rw [← hxx, ← List.drop_eq_getElem_cons, List.take_append_drop]
/-- what may be is a tree's nodes -/
theorem tree_of_check {l : List PN} (h : checkN l = 0) : ∃ t : PT, t.ok = true ∧ t.flat 0 = l ∧ t.size ≤ 64 := by
  unfold checkN at h
  split at h
  · omega
  · rename_i h1
    split at h
    · omega
    · rename_i h2
      simp only [Bool.or_eq_true, decide_eq_true_eq, List.any_eq_true, not_or, not_exists, not_and, Bool.not_eq_true, Bool.not_eq_true'] at h1 h2
      obtain ⟨t, t1, t2, pre, post, t3, t4⟩ := tree_of (l := l) (fun x hx => by have := h2.1.2 x hx; simpa using this) (fun x hx => by simpa using h1.2 x hx) l.length l.length 0 (Nat.le_refl _) (Decidable.of_not_not h2.2)
      have hp : pre = [] := List.eq_nil_of_length_eq_zero t4
      subst hp
      have hq : post = [] := by
        have := congrArg List.length t3
        rw [List.nil_append, List.length_append, t.flat_len] at this
        exact List.eq_nil_of_length_eq_zero (by omega)
      subst hq
      exact ⟨t, t1, by rw [t3]; simp, by omega⟩
end Go.Proofs.YtnnhkajjifmlfaaDoor.Pl
