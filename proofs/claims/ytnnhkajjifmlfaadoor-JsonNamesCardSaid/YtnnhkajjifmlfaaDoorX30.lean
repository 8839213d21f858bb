/- The heap in which a law begins: the variables that the row lists. -/
import Derived.Test.YtnnhkajjifmlfaaDoorX29
namespace Go.Proofs.YtnnhkajjifmlfaaDoor
namespace Ax
/-- the listed variables' blocks: number, cells, type -/
abbrev Gl := Nat × List AV × TypeId
noncomputable def hOf (l : List Gl) : Tr AO := match l with
  | [] => .leaf
  | x :: r => (hOf r).put .x (.k x.2.1 x.2.2) (pth x.1)
theorem hOf_get (l : List Gl) (b : Pn) : hv (hOf l) b = .x ∨ ∃ x ∈ l, b = pth x.1 ∧ hv (hOf l) b = .k x.2.1 x.2.2 := by
  induction l with
  | nil => exact .inl (get_leaf _ _)
  | cons x r ih =>
    have e : hOf (x :: r) = (hOf r).put .x (.k x.2.1 x.2.2) (pth x.1) := rfl
    rw [e, hv_put]
    by_cases h : b = pth x.1
    · subst h
      rw [upd_same]
      exact .inr ⟨x, by simp, rfl, rfl⟩
    · rw [upd_other _ _ h]
      rcases ih with h1 | ⟨y, h1, h2, h3⟩
      · exact .inl h1
      · exact .inr ⟨y, by simp [h1], h2, h3⟩
theorem hOf_own (l : List Gl) (b : Pn) : ¬ own (hv (hOf l) b) := by
  rintro ⟨h1, h2⟩
  rcases hOf_get l b with h | ⟨x, _, _, h⟩
  · exact h1 h
  · exact h2 _ _ h
noncomputable def szOf (w : World) (c : Nat) : Nat := match w.heap[c]? with
  | some (.cells arr _ _) => arr.size
  | _ => 0
/-- where the variables lie -/
noncomputable def ren0 (w : World) (ng : Nat) : Ren := fun b => if b.nat ≤ ng then some ⟨b.nat - 1, 0, szOf w (b.nat - 1)⟩ else none
theorem ren0_pth (w : World) {ng g : Nat} (h : g < ng) : ren0 w ng (pth g) = some ⟨g, 0, szOf w g⟩ := by
  unfold ren0
  rw [nat_pth, if_pos (by omega), Nat.add_sub_cancel]
/-- the listed variables hold what the executor has -/
def Begun (l : List Gl) (ng : Nat) (w : World) : Prop := ∀ x ∈ l, x.1 < ng ∧ ∃ arr : Array Value, w.heap[x.1]? = some (.cells arr x.2.2 (0, 0)) ∧ ∀ ρ : Ren, VRs ρ x.2.1 arr.toList
theorem start_rel {l : List Gl} {ng : Nat} {w : World} (hl : Begun l ng w) : Rel (ren0 w ng) (hv (hOf l)) w where
  ob := fun b hb => by
    rcases hOf_get l b with h | ⟨x, h1, h2, h3⟩
    · exact absurd h hb
    · obtain ⟨hg, arr, ha, hv'⟩ := hl x h1
      refine ⟨⟨x.1, 0, szOf w x.1⟩, by rw [h2]; exact ren0_pth w hg, ?_⟩
      rw [h3]
      have hlen := (hv' (ren0 w ng)).1
      rw [Array.length_toList] at hlen
      refine ⟨arr, 0, 0, ha, ⟨by simp [szOf, ha], rfl⟩, rfl, by simp only; omega, ?_⟩
      have : (arr.toList.drop 0).take x.2.1.length = arr.toList := by
        rw [List.drop_zero, List.take_of_length_le (by rw [Array.length_toList]; omega)]
      simp only
      rw [this]
      exact hv' _
  inj := fun b _ _ _ h1 => absurd h1 (hOf_own l b)
theorem start_gl {E : Env} {ng : Nat} (h : E.ng = ng) (w : World) : GL E (ren0 w ng) := fun g hg => ⟨_, ren0_pth w (by omega), rfl, rfl⟩
theorem start_fresh {l : List Gl} {ng : Nat} {w : World} (hl : ∀ x ∈ l, x.1 < ng) (b : Pn) (hb : (pth ng).nat ≤ b.nat) : ren0 w ng b = none ∧ hv (hOf l) b = .x := by
  rw [nat_pth] at hb
  refine ⟨by unfold ren0; rw [if_neg (by omega)], ?_⟩
  rcases hOf_get l b with h | ⟨x, h1, h2, h3⟩
  · exact h
  · exfalso
    have := hl x h1
    rw [h2, nat_pth] at hb
    omega
/-- **a closed function that the executor finds true answers true in every world that holds the listed variables** -/
theorem begun_true {E : Env} (hE : EOK E) {ix : FuncId → Option Ix} (hI : IxOK E ix) {code : FuncId → Nat × CD} (hC : CodeT E ix code) {m : Nat} {f : FuncId} {us : List AV} {l : List Gl} (hix : ix f = none)
    (hk : okR (trueU E ix (bd E ix code m) f us (hOf l) (pth E.ng)) = true) {w : World} {args : Array Value} (hb : Begun l E.ng w) (ha : ∀ ρ : Ren, VRs ρ us args.toList) :
    Calls E.P f args w fun e w' => e = .returned (.bool true) ∧ Kept w w' :=
  call_true hE hI hC hix hk (start_gl rfl w) (start_rel hb) (ha _) (start_fresh fun x hx => (hb x hx).1) (hOf_own l)
end Ax
end Go.Proofs.YtnnhkajjifmlfaaDoor
