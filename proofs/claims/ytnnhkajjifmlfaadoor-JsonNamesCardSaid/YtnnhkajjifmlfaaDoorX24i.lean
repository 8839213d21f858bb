/- Regions that draw their order: every order. -/
import Derived.Test.YtnnhkajjifmlfaaDoorX24h
namespace Go.Proofs.YtnnhkajjifmlfaaDoor
namespace Ax
/-- those that are not listed yet -/
def left (N : Nat) (listed : Array Bool) : Nat := ((List.range N).filter fun x => !listed.getD x false).length
theorem left_zero {N : Nat} {listed : Array Bool} (h : left N listed = 0) : ∀ x, x < N → listed.getD x false = true := by
  intro x hx
  have := List.filter_eq_nil_iff.1 (List.length_eq_zero_iff.1 h) x (List.mem_range.2 hx)
  simpa using this
theorem left_set {N : Nat} {listed : Array Bool} {i : Nat} (hi : i < N) (hs : i < listed.size) (hl : listed.getD i false = false) : left N (listed.setIfInBounds i true) + 1 ≤ left N listed := by
  unfold left
  have : ∀ (l : List Nat), i ∈ l → (l.filter fun x => !(listed.setIfInBounds i true).getD x false).length + 1 ≤ (l.filter fun x => !listed.getD x false).length := by
    have hle : ∀ (l : List Nat), (l.filter fun x => !(listed.setIfInBounds i true).getD x false).length ≤ (l.filter fun x => !listed.getD x false).length := by
      intro l
      induction l with
      | nil => simp
      | cons x l ih =>
        rw [List.filter_cons, List.filter_cons]
        by_cases hx : x = i
        · subst hx
          have : (listed.setIfInBounds x true).getD x false = true := by simp [Array.getD, hs]
          rw [this, hl]
          simp only [Bool.not_true, Bool.false_eq_true, if_false, Bool.not_false, if_true, List.length_cons]
          omega
        · rw [getD_set_ne false (fun e => hx e.symm)]
          split
          · simp only [List.length_cons]; omega
          · exact ih
    intro l
    induction l with
    | nil => intro h; cases h
    | cons x l ih =>
      intro hm
      rw [List.filter_cons, List.filter_cons]
      by_cases hx : x = i
      · subst hx
        have : (listed.setIfInBounds x true).getD x false = true := by simp [Array.getD, hs]
        rw [this, hl]
        simp only [Bool.not_true, Bool.false_eq_true, if_false, Bool.not_false, if_true, List.length_cons]
        have := hle l
        omega
      · rw [getD_set_ne false (fun e => hx e.symm)]
        have hm' : i ∈ l := by
          rcases List.mem_cons.1 hm with h | h
          · exact absurd h.symm hx
          · exact h
        split
        · simp only [List.length_cons]; have := ih hm'; omega
        · exact ih hm'
  exact this _ (List.mem_range.2 hi)
section
variable {E : Env} {l : Option Nat} {ops : Array Oper} {nt : Nat} {ck : List Ck} {F : List (Tr AO)} {es : List Nat} {evs : List Ev} {s0 sN : St}
theorem Row.len (hr : Row E l ops nt ck F es evs s0 sN) : evs.length = ops.size := by
  have := congrArg List.length hr.opsE
  simpa using this
/-- where nothing may come up, all is listed -/
theorem Row.all_listed (hr : Row E l ops nt ck F es evs s0 sN) {listed : Array Bool} (hs : listed.size = ops.size) (h : Region.ready .any ops listed = []) : ∀ x, x < ops.size → listed.getD x false = true := by
  intro x
  induction x using Nat.strongRecOn with
  | _ x ih =>
    intro hx
    apply Classical.byContradiction
    intro hn
    have ho : ops[x]? = some ops[x] := Array.getElem?_eq_getElem hx
    have : x ∈ Region.ready .any ops listed := by
      rw [mem_ready]
      refine ⟨?_, ops[x], ho, fun e he hb => ?_⟩
      · have hlt : x < listed.size := by omega
        cases hv : listed[x] with
        | true => exact absurd (by simp [Array.getD, hlt, hv]) hn
        | false => simp [Array.getD, hlt, hv]
      · have := edges_prefix (ops := ops.toList) ops.toList 0 hr.ed x ops[x] (by rw [Array.getElem?_toList]; exact ho) e (Array.mem_toList_iff.2 he) hb
        exact ih e.on (by omega) (by omega)
    rw [h] at this
    cases this
theorem Row.any (hr : Row E l ops nt ck F es evs s0 sN) {ρ0 : Ren} {w0 : World} (hg0 : GL E ρ0) (Q : Exit → Act → World → Prop)
    (hfin : ∀ (S : Nat → Prop) a w ρ k df, (∀ x, x < ops.size → S x) → Inv E nt F es evs s0 sN (befores ops.toList []) ρ0 w0 S a w ρ k df → Q .normal a w) :
    ∀ (fuel : Nat) (listed : Array Bool) (a : Act) (w : World), listed.size = ops.size → Ax.left ops.size listed ≤ fuel → (∃ ρ k df, Inv E nt F es evs s0 sN (befores ops.toList []) ρ0 w0 (fun x => listed.getD x false = true) a w ρ k df) → wpAnyIn (FW l) 0 E.P .any ops Q fuel listed a w
  | 0, listed, a, w, hs, hl, ⟨ρ, k, df, inv⟩ => by
    have hall := left_zero (Nat.le_zero.1 hl)
    refine ⟨?_, hfin _ a w ρ k df hall inv⟩
    apply List.eq_nil_iff_forall_not_mem.2
    intro x hx
    rw [mem_ready] at hx
    obtain ⟨h1, o, h2, _⟩ := hx
    have hlt : x < ops.size := (Array.getElem?_eq_some_iff.1 h2).1
    have h3 := hall x hlt
    have hlt2 : x < listed.size := by omega
    simp [Array.getD, hlt2] at h1 h3
    rw [h1] at h3; cases h3
  | fuel + 1, listed, a, w, hs, hl, ⟨ρ, k, df, inv⟩ => by
    refine ⟨fun h => hfin _ a w ρ k df (hr.all_listed hs h) inv, fun i hi => ?_⟩
    rw [mem_ready] at hi
    obtain ⟨h1, o, h2, h3⟩ := hi
    have hlt : i < ops.size := (Array.getElem?_eq_some_iff.1 h2).1
    have hlt2 : i < listed.size := by omega
    have hnl : listed.getD i false = false := by simp [Array.getD, hlt2] at h1 ⊢; exact h1
    have hev : evs[i]? = some (evs[i]'(by rw [hr.len]; exact hlt)) := List.getElem?_eq_getElem _
    have hrd : Ready ops.toList (fun x => listed.getD x false = true) i := ⟨o, by rw [Array.getElem?_toList]; exact h2, fun e he hb => h3 e (Array.mem_toList_iff.1 he) hb⟩
    refine wpOpIn_mono (fun a' w' h => ?_) (hr.step hg0 inv hrd (by rw [hnl]; simp) hev Q)
    refine hr.any hg0 Q hfin fuel _ a' w' (by simpa using hs) (by have := left_set hlt hlt2 hnl; omega) ?_
    obtain ⟨ρ', k', df', inv'⟩ := h
    have hS : (fun x => (listed.setIfInBounds i true).getD x false = true) = fun x => x = i ∨ listed.getD x false = true := by
      funext x
      apply propext
      by_cases hx : x = i
      · subst hx
        simp [Array.getD, hlt2]
      · rw [getD_set_ne false (fun e => hx e.symm)]
        simp [hx]
    rw [hS]
    exact ⟨ρ', k', df', inv'⟩
end
end Ax
end Go.Proofs.YtnnhkajjifmlfaaDoor
