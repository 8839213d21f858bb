/- Regions that draw their order: temporaries; the invariant. -/
import Derived.Test.YtnnhkajjifmlfaaDoorX24d
namespace Go.Proofs.YtnnhkajjifmlfaaDoor
namespace Ax
theorem tempsRow_spec {ops : List Oper} {y : Oper} {b : Nat} : ∀ (l : List Oper) (i : Nat), tempsRow ops y b l i = true → ∀ q x, l[q]? = some x → b.testBit (i + q) = true ∨ apart ops x y = true
  | [], i, _, q, x, h => by simp at h
  | x0 :: r, i, h, q, x, hq => by
    rw [tempsRow, Bool.and_eq_true, Bool.or_eq_true] at h
    cases q with
    | zero => simp at hq; subst hq; exact h.1
    | succ q =>
      have := tempsRow_spec r (i + 1) h.2 q x (by simpa using hq)
      rwa [show i + 1 + q = i + (q + 1) from by omega] at this
theorem tempsOk_spec {ops : List Oper} {bs : List Nat} : ∀ (l : List Oper) (j : Nat), tempsOk ops bs l j = true → ∀ q y, l[q]? = some y → ∀ i x, i < j + q → ops[i]? = some x → (bs.getD (j + q) 0).testBit i = true ∨ apart ops x y = true
  | [], j, _, q, y, h => by simp at h
  | y0 :: r, j, h, q, y, hq => by
    rw [tempsOk, Bool.and_eq_true] at h
    intro i x hi hx
    cases q with
    | zero =>
      simp at hq
      subst hq
      have := tempsRow_spec _ 0 h.1 i x (by rw [List.getElem?_take, if_pos (by omega)]; exact hx)
      rwa [Nat.zero_add] at this
    | succ q =>
      have := tempsOk_spec r (j + 1) h.2 q y (by simpa using hq) i x (by omega) hx
      rwa [show j + 1 + q = j + (q + 1) from by omega] at this
/-- an operation names a temporary -/
def Names (ops : Array Oper) (o : Oper) (t : Nat) : Prop := o.dst = some t ∨ Operand.tmp t ∈ o.op.operands ∨ GdT ops o t
theorem names_mem {ops : Array Oper} {o : Oper} {t : Nat} (h : Names ops o t) : t ∈ mentions ops.toList o := by
  unfold mentions looks
  rcases h with h | h | ⟨j, w, q, h1, h2, h3⟩
  · exact List.mem_append_left _ (by rw [h]; simp)
  · refine List.mem_append_right _ (List.mem_append_left _ ?_)
    rw [List.mem_filterMap]
    exact ⟨.tmp t, Array.mem_toList_iff.2 h, rfl⟩
  · refine List.mem_append_right _ (List.mem_append_right _ ?_)
    rw [h1]
    have : ops.toList[j]? = some q := by rw [Array.getElem?_toList]; exact h2
    simp only [this, Option.bind_some, h3]
    simp
theorem apart_no {ops : Array Oper} {x y : Oper} {t : Nat} (h : apart ops.toList x y = true) : (x.dst = some t → ¬ Names ops y t) ∧ (y.dst = some t → ¬ Names ops x t) := by
  unfold apart at h
  rw [Bool.and_eq_true] at h
  refine ⟨fun hd hn => ?_, fun hd hn => ?_⟩
  · have h1 := h.1
    rw [hd] at h1
    have := names_mem hn
    simp at h1
    exact h1 this
  · have h1 := h.2
    rw [hd] at h1
    have := names_mem hn
    simp at h1
    exact h1 this
section
variable {E : Env} {l : Option Nat} {ops : Array Oper} {nt : Nat} {ck : List Ck} {F : List (Tr AO)} {es : List Nat} {evs : List Ev} {s0 sN : St}
/-- whoever writes what another names stands in order with it -/
theorem Row.order (hr : Row E l ops nt ck F es evs s0 sN) {i j : Nat} {x y : Ev} (hi : evs[i]? = some x) (hj : evs[j]? = some y) (hij : i < j) {t : Nat} (h : (x.o.dst = some t ∧ Names ops y.o t) ∨ (y.o.dst = some t ∧ Names ops x.o t)) :
    ((befores ops.toList []).getD j 0).testBit i = true := by
  have h1 := hr.op_at hi
  have h2 := hr.op_at hj
  have := tempsOk_spec ops.toList 0 hr.te j y.o (by rw [Array.getElem?_toList]; exact h2) i x.o (by omega) (by rw [Array.getElem?_toList]; exact h1)
  rw [Nat.zero_add] at this
  rcases this with h3 | h3
  · exact h3
  · obtain ⟨a1, a2⟩ := apart_no (t := t) h3
    rcases h with ⟨g1, g2⟩ | ⟨g1, g2⟩
    · exact absurd g2 (a1 g1)
    · exact absurd g2 (a2 g1)
/-- the writers of a temporary that an operation names: those ahead of it in the row are those that are in -/
theorem Row.writers (hr : Row E l ops nt ck F es evs s0 sN) {S : Nat → Prop} {i : Nat} {e : Ev} (hS : Closed (befores ops.toList []) S) (hi : Ready ops.toList S i) (hn : ¬ S i) (he : evs[i]? = some e) {t : Nat} (ht : Names ops e.o t) :
    ∀ j ev, evs[j]? = some ev → ev.o.dst = some t → (S j ↔ j < i) := by
  intro j ev hj hd
  constructor
  · intro hs
    apply Nat.lt_of_not_le
    intro hle
    by_cases hij : i = j
    · subst hij; exact hn hs
    · exact hn (hS j hs i (hr.order he hj (by omega) (.inr ⟨hd, ht⟩)))
  · intro hlt
    exact ready_bits hS hi j (hr.order hj he hlt (.inl ⟨hd, ht⟩))
theorem Row.look (hr : Row E l ops nt ck F es evs s0 sN) {S : Nat → Prop} {i : Nat} {e : Ev} (hS : Closed (befores ops.toList []) S) (hi : Ready ops.toList S i) (hn : ¬ S i) (he : evs[i]? = some e) {t : Nat} (ht : Names ops e.o t) {v : AV} (hv : Last evs s0.tm S t v) :
    v = e.s.tm.get (.tu []) (pth t) := by
  have hlt : i < evs.length := (List.getElem?_eq_some_iff.1 he).1
  have h1 := row_tmps hr.ok t i e.s (by omega) (links_get hr.links he).1
  exact hv.unique h1 fun j ev hj hd => hr.writers hS hi hn he ht j ev hj hd
theorem Row.last_add (hr : Row E l ops nt ck F es evs s0 sN) {S : Nat → Prop} {i : Nat} {e : Ev} (hS : Closed (befores ops.toList []) S) (hi : Ready ops.toList S i) (hn : ¬ S i) (he : evs[i]? = some e) {t : Nat} {v : AV} (hv : Last evs s0.tm S t v) :
    Last evs s0.tm (fun x => x = i ∨ S x) t (if e.o.dst = some t then e.v else v) := by
  by_cases hd : e.o.dst = some t
  · rw [if_pos hd]
    refine .inr ⟨i, e, .inl rfl, he, hd, rfl, fun j ev' hj hje hjd => ?_⟩
    rcases hj with rfl | hj
    · exact Nat.le_refl _
    · exact Nat.le_of_lt ((hr.writers hS hi hn he (.inl hd) j ev' hje hjd).1 hj)
  · rw [if_neg hd]
    rcases hv with ⟨h1, h2⟩ | ⟨j, ev, h1, h2, h3, h4, h5⟩
    · refine .inl ⟨h1, fun j ev hj hje => ?_⟩
      rcases hj with rfl | hj
      · rw [he] at hje; injection hje with hje; subst hje; exact hd
      · exact h2 j ev hj hje
    · refine .inr ⟨j, ev, .inr h1, h2, h3, h4, fun q ev' hq hqe hqd => ?_⟩
      rcases hq with rfl | hq
      · rw [he] at hqe; injection hqe with hqe; subst hqe; exact absurd hqd hd
      · exact h5 q ev' hq hqe hqd
/-- what holds when the operations of S are done -/
structure Inv (E : Env) (nt : Nat) (F : List (Tr AO)) (es : List Nat) (evs : List Ev) (s0 sN : St) (bs : List Nat) (ρ0 : Ren) (w0 : World) (S : Nat → Prop) (a : Act) (w : World) (ρ : Ren) (k : Nat) (df : List AD) : Prop where
  cl : Closed bs S
  ks : KS es S k
  st : Step ρ0 (hv s0.h) w0 s0.n ρ (ovl (XS evs S k) (hv (F.getD k .leaf))) w sN.n
  fr : ∀ i e, evs[i]? = some e → ¬ S i → ∀ b : Pn, e.s.n.nat ≤ b.nat → b.nat < e.s'.n.nat → ρ b = none ∧ ovl (XS evs S k) (hv (F.getD k .leaf)) b = .x
  ap : ∀ i e ob, S i → evs[i]? = some e → e.al = some ob → k ≤ e.hi → hv (F.getD k .leaf) e.s.n = .x
  sz : a.tmps.size = nt
  tm : ∀ t, ∃ v, Last evs s0.tm S t v ∧ VR ρ v (a.tmps.getD t undef)
  dfc : (∀ e ∈ evs, e.s.k = k → e.s.df = df) ∧ (sN.k = k → sN.df = df)
  dr : DR E ρ df a.defers
end
end Ax
end Go.Proofs.YtnnhkajjifmlfaaDoor
