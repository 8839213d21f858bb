/- What is told is read as the value: the plain law. -/
import Derived.Test.YtnnhkajjifmlfaaDoorT0
namespace Go.Proofs.YtnnhkajjifmlfaaDoor
open Go.RowKit Go.Maps

section
variable {q : ByteArray}
theorem From.le {p : Nat} {l : List UInt8} (h : From q p l) : l.length ≤ q.size - p := by
  unfold From at h
  have := congrArg List.length h
  rw [List.length_drop, Array.length_toList] at this
  have e : q.data.size = q.size := rfl
  omega
theorem From.split {p : Nat} {l r : List UInt8} (h : From q p (l ++ r)) (hl : l ≠ []) : ∃ c l', l = c :: l' ∧ Go.Proofs.YtnnhkajjifmlfaaDoor.chr q p = c.toNat ∧ p < q.size := by
  cases l with
  | nil => exact absurd rfl hl
  | cons c l' =>
    obtain ⟨a, b⟩ := (show From q p (c :: (l' ++ r)) from h).chr
    exact ⟨c, l', rfl, a, b⟩
/-! values -/
theorem textJ_head {j : J} (hf : fineP j = true) : ∃ c l, textJ j = c :: l ∧ blank c.toNat = false ∧ c.toNat ≠ 93 ∧ c.toNat ≠ 125 := by
  obtain ⟨k, n, t, names, list⟩ := j
  rw [textJ]
  split
  · exact ⟨_, _, rfl, by decide, by decide, by decide⟩
  · split
    · split
      · exact ⟨_, _, rfl, by decide, by decide, by decide⟩
      · exact ⟨_, _, rfl, by decide, by decide, by decide⟩
    · split
      · unfold Lib.itoa
        split
        · exact ⟨_, _, rfl, by decide, by decide, by decide⟩
        · cases hd : Lib.decDigits n.toNat with
          | nil => exact absurd hd (dec_ne _)
          | cons c l =>
            have hc := dec_digs n.toNat c (by rw [hd]; simp)
            refine ⟨c, l, rfl, ?_, by omega, by omega⟩
            unfold blank
            simp only [Bool.or_eq_false_iff, beq_eq_false_iff_ne]
            omega
      · split
        · exact ⟨_, _, rfl, by decide, by decide, by decide⟩
        · unfold opn
          split
          · exact ⟨_, _, rfl, by decide, by decide, by decide⟩
          · exact ⟨_, _, rfl, by decide, by decide, by decide⟩
end
end Go.Proofs.YtnnhkajjifmlfaaDoor
/-! What is read may be, and is told in so many bytes: the plain law. -/
namespace Go.Proofs.YtnnhkajjifmlfaaDoor
open Go.RowKit Go.Maps

section
variable {s : ByteArray}
/-- parts that are told one more -/
theorem items_snoc (k : Int) (nm : List ByteArray) (j : J) : ∀ (list : List J) (names : List ByteArray) (first : Bool), (k = 6 → names.length = list.length) → (k ≠ 6 → names = []) →
    itemsJ k first (names ++ nm) (list ++ [j]) = itemsJ k first names list ++ itemsJ k (first && list.isEmpty) nm [j]
  | [], names, first, h6, h5 => by
    have : names = [] := by
      by_cases e : k = 6
      · exact List.eq_nil_of_length_eq_zero (h6 e)
      · exact h5 e
    subst this
    rw [items_nil]
    simp
  | x :: r, names, first, h6, h5 => by
    by_cases e : k = 6
    · cases names with
      | nil => have := h6 e; simp at this
      | cons a ns =>
        have ih := items_snoc k nm j r ns false (fun e => by have := h6 e; simpa using this) (fun e' => absurd e e')
        simp only [List.cons_append]
        rw [itemsJ, itemsJ]
        simp only [List.tail_cons]
        rw [ih]
        have hn : nameL k (a :: (ns ++ nm)) = nameL k (a :: ns) := by unfold nameL; rfl
        rw [hn]
        simp
    · have hnil := h5 e
      subst hnil
      have ih := items_snoc k nm j r [] false (fun e' => absurd e' e) (fun _ => rfl)
      have ht : itemsJ k false ([] ++ nm).tail (r ++ [j]) = itemsJ k false ([] ++ nm) (r ++ [j]) := by
        have key : ∀ (l : List J) (f : Bool) (n1 n2 : List ByteArray), itemsJ k f n1 l = itemsJ k f n2 l := by
          intro l
          induction l with
          | nil => intro f n1 n2; rw [items_nil, items_nil]
          | cons y l ihl =>
            intro f n1 n2
            rw [itemsJ, itemsJ, ihl false n1.tail n2.tail]
            have : nameL k n1 = nameL k n2 := by unfold nameL; rw [if_neg e, if_neg e]
            rw [this]
        exact key _ _ _ _
      have hn : nameL k ([] ++ nm) = nameL k [] := by unfold nameL; rw [if_neg e, if_neg e]
      rw [List.cons_append, itemsJ, itemsJ, ht, ih, hn]
      simp
/-- a value that was read from a to b -/
def Good (m : Nat) (j : J) (a b : Nat) : Prop := JBd j ∧ fineP j = true ∧ deepP j m = false ∧ (textJ j).length + 30 * a ≤ 30 * b ∧ a < b
theorem Good.from {m : Nat} {j : J} {a a' b : Nat} (h : Good m j a b) (ha : a' ≤ a) : Good m j a' b := by
  obtain ⟨h1, h2, h3, h4, h5⟩ := h
  exact ⟨h1, h2, h3, by omega, by omega⟩
theorem JBd.bare {k n : Int} (h0 : -9223372036854775808 ≤ n) (h1 : n ≤ 9223372036854775807) : JBd (YtnnhkajjifmlfaaDoor.bare k n) := .mk h0 h1 (by decide) (by simp) (by simp) (fun x hx => by cases hx) (fun x hx => by cases hx)
/-- what the loop has -/
structure LI (s : ByteArray) (m : Nat) (kind : Int) (names : List ByteArray) (list : List J) (p0 p : Nat) : Prop where
  each : ∀ j ∈ list, JBd j ∧ fineP j = true ∧ deepP j m = false
  six : kind = 6 → names.length = list.length
  five : kind ≠ 6 → names = []
  nm : ∀ x ∈ names, x.size ≤ s.size
  len : list.length + p0 ≤ p
  sz : (itemsJ kind true names list).length + 30 * p0 ≤ 30 * p
theorem LI.to {m : Nat} {kind : Int} {names : List ByteArray} {list : List J} {p0 p p' : Nat} (h : LI s m kind names list p0 p) (hp : p ≤ p') : LI s m kind names list p0 p' :=
  ⟨h.each, h.six, h.five, h.nm, by have := h.len; omega, by have := h.sz; omega⟩
theorem LI.more {m : Nat} {kind : Int} {names nm : List ByteArray} {list : List J} {j : J} {p0 p p' : Nat} (h : LI s m kind names list p0 p) (hj : JBd j ∧ fineP j = true ∧ deepP j m = false)
    (hn : (kind = 6 → nm.length = 1) ∧ (kind ≠ 6 → nm = []) ∧ ∀ x ∈ nm, x.size ≤ s.size) (hp : p < p') (hl : (nameL kind nm).length + (textJ j).length + 1 + 30 * p ≤ 30 * p') : LI s m kind (names ++ nm) (list ++ [j]) p0 p' := by
  refine ⟨?_, ?_, ?_, ?_, ?_, ?_⟩
  · intro x hx
    rcases List.mem_append.1 hx with hx | hx
    · exact h.each x hx
    · rw [List.mem_singleton.1 hx]; exact hj
  · intro e
    rw [List.length_append, List.length_append, h.six e, hn.1 e]; rfl
  · intro e
    rw [h.five e, hn.2.1 e]; rfl
  · intro x hx
    rcases List.mem_append.1 hx with hx | hx
    · exact h.nm x hx
    · exact hn.2.2 x hx
  · have := h.len
    simp only [List.length_append, List.length_singleton]; omega
  · rw [items_snoc kind nm j list names true h.six h.five]
    have e : itemsJ kind (true && list.isEmpty) nm [j] = (if (true && list.isEmpty) = true then [] else [44]) ++ (nameL kind nm ++ (textJ j ++ [])) := by
      rw [itemsJ, items_nil]
    rw [e]
    have e1 : (if (true && list.isEmpty) = true then ([] : List UInt8) else [44]).length ≤ 1 := by split <;> simp
    have := h.sz
    simp only [List.length_append, List.length_nil]
    omega
end
end Go.Proofs.YtnnhkajjifmlfaaDoor

/-! Blanks ahead of a text and behind it change nothing: the plain law. -/
namespace Go.Proofs.YtnnhkajjifmlfaaDoor
open Go.RowKit Go.Maps

/-- q is s with four blanks ahead and two behind -/
structure Wr (s q : ByteArray) : Prop where
  size : q.size = s.size + 6
  pre : ∀ i, i < 4 → blank (chr q i) = true
  mid : ∀ i, i < s.size → chr q (i + 4) = chr s i
  e0 : chr q (s.size + 4) = 32
  e1 : chr q (s.size + 5) = 10
section
variable {s q : ByteArray} {σ τ : PS}
theorem Wr.e2 (W : Wr s q) : chr q (s.size + 6) = 0 := chr_out (by have := W.size; omega)
end
end Go.Proofs.YtnnhkajjifmlfaaDoor
