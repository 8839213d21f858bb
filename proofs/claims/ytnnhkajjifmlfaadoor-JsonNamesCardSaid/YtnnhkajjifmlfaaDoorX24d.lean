/- Regions that draw their order: what holds after any closed set of operations. -/
import Derived.Test.YtnnhkajjifmlfaaDoorX24c
namespace Go.Proofs.YtnnhkajjifmlfaaDoor
namespace Ax
/-- all that is known of a region's row -/
structure Row (E : Env) (l : Option Nat) (ops : Array Oper) (nt : Nat) (ck : List Ck) (F : List (Tr AO)) (es : List Nat) (evs : List Ev) (s0 sN : St) : Prop where
  links : Links evs s0 sN
  opsE : evs.map (·.o) = ops.toList
  ok : ∀ e ∈ evs, EvOK E l ops nt ck e
  win : ∀ (q : Nat) (ev : Ev), evs[q]? = some ev → ev.lo = loOf ((befores ops.toList []).getD q 0) es ∧ ev.hi = hiOf (befores ops.toList []) q es
  fs : ∀ ev ∈ evs, F[ev.s.k]? = some ev.s.h
  fN : F[sN.k]? = some sN.h
  ckE : ∀ c ∈ ck, ∀ S : Tr AO → AV → Prop, (∀ h (k : AV → R), Ok (c.f h k) → ∃ v, c.f h k = k v ∧ S h v) → ∀ q h, F[q]? = some h → c.lo ≤ q → q ≤ c.hi → S h c.v
  ef1 : ∀ (q : Nat) (ev : Ev), evs[q]? = some ev → ev.eff = true → es[ev.s.k]? = some q
  ef2 : ∀ (k p : Nat), es[k]? = some p → ∃ ev : Ev, evs[p]? = some ev ∧ ev.eff = true ∧ ev.s.k = k
  efN : es.length = sN.k
  kr : ∀ e ∈ evs, KRule e
  ch : chain (befores ops.toList []) es = true
  te : tempsOk ops.toList (befores ops.toList []) ops.toList 0 = true
  ed : edgesOk ops.toList 0 = true
  z : s0.k = 0 ∧ s0.pd = []
/-- so many effects are in -/
def KS (es : List Nat) (S : Nat → Prop) (k : Nat) : Prop := k ≤ es.length ∧ ∀ q e, es[q]? = some e → (S e ↔ q < k)
section
variable {E : Env} {l : Option Nat} {ops : Array Oper} {nt : Nat} {ck : List Ck} {F : List (Tr AO)} {es : List Nat} {evs : List Ev} {s0 sN : St}
theorem Row.in_win (hr : Row E l ops nt ck F es evs s0 sN) {S : Nat → Prop} {k i : Nat} {ev : Ev} (hS : Closed (befores ops.toList []) S) (hk : KS es S k) (hi : Ready ops.toList S i) (hn : ¬ S i) (he : evs[i]? = some ev) : ev.lo ≤ k ∧ k ≤ ev.hi := by
  obtain ⟨h1, h2⟩ := hr.win i ev he
  rw [h1, h2]
  constructor
  · apply Nat.le_of_not_lt
    intro hlt
    obtain ⟨e, g1, g2⟩ := loOf_spec _ es k hlt
    have := (hk.2 k e g1).1 (ready_bits hS hi e g2)
    omega
  · apply Nat.le_of_not_lt
    intro hlt
    obtain ⟨g1, g2⟩ := hiOf_spec (befores ops.toList []) i es
    have hlt2 : hiOf (befores ops.toList []) i es < es.length := Nat.lt_of_lt_of_le hlt hk.1
    have g3 := List.getElem?_eq_getElem hlt2
    exact hn (hS _ ((hk.2 _ _ g3).2 hlt) i (g2 _ g3))
theorem Row.op_at (hr : Row E l ops nt ck F es evs s0 sN) {i : Nat} {ev : Ev} (he : evs[i]? = some ev) : ops[i]? = some ev.o := by
  have : (evs.map (·.o))[i]? = some ev.o := by rw [List.getElem?_map, he]; rfl
  rw [hr.opsE] at this
  rw [← Array.getElem?_toList]; exact this
/-- at its own place in the row, too -/
theorem Row.own_win (hr : Row E l ops nt ck F es evs s0 sN) {i : Nat} {ev : Ev} (he : evs[i]? = some ev) : ev.lo ≤ ev.s.k ∧ ev.s.k ≤ ev.hi := by
  have hmem := List.mem_of_getElem? he
  have hop : ops.toList[i]? = some ev.o := by rw [Array.getElem?_toList]; exact hr.op_at he
  obtain ⟨l1, l2⟩ := links_get hr.links he
  refine hr.in_win (S := fun x => x < i) (prefix_closed hr.ed i) ⟨?_, fun q e hq => ?_⟩ (prefix_ready hr.ed hop) (Nat.lt_irrefl i) he
  · rw [hr.efN]
    have h1 := (links_const l2 (fun e he => hr.ok e (List.mem_of_mem_drop he)) (fun e he => hr.kr e (List.mem_of_mem_drop he))).1
    have h2 := hr.kr ev hmem
    unfold KRule at h2
    split at h2 <;> omega
  · obtain ⟨ev', g1, g2, g3⟩ := hr.ef2 q e hq
    constructor
    · intro hlt
      -- an effect ahead: fewer effects are behind it
      have hlt : e < i := hlt
      have h5 : (evs.take i)[e]? = some ev' := by rw [List.getElem?_take, if_pos hlt]; exact g1
      obtain ⟨_, m2⟩ := links_get l1 h5
      have h6 := (links_const m2 (fun x hx => hr.ok x (List.mem_of_mem_take (List.mem_of_mem_drop hx))) (fun x hx => hr.kr x (List.mem_of_mem_take (List.mem_of_mem_drop hx)))).1
      have h7 := hr.kr ev' (List.mem_of_getElem? g1)
      unfold KRule at h7
      rw [g2, if_pos rfl] at h7
      omega
    · intro hlt
      show e < i
      apply Nat.lt_of_not_le
      intro hle
      by_cases hei : e = i
      · subst hei
        rw [he] at g1
        injection g1 with g1
        subst g1
        omega
      · have h5 : (evs.drop (i + 1))[e - (i + 1)]? = some ev' := by rw [List.getElem?_drop, show i + 1 + (e - (i + 1)) = e from by omega]; exact g1
        have h6 := ((links_const l2 (fun x hx => hr.ok x (List.mem_of_mem_drop hx)) (fun x hx => hr.kr x (List.mem_of_mem_drop hx))).2.2 ev' (List.mem_of_getElem? h5)).1
        have h7 := hr.kr ev hmem
        unfold KRule at h7
        split at h7 <;> omega
/-- names of different operations lie apart -/
theorem Row.names (hr : Row E l ops nt ck F es evs s0 sN) {i j : Nat} {e e' : Ev} (hi : evs[i]? = some e) (hj : evs[j]? = some e') (hij : i < j) : e.s'.n.nat ≤ e'.s.n.nat := by
  obtain ⟨_, l2⟩ := links_get hr.links hi
  have h5 : (evs.drop (i + 1))[j - (i + 1)]? = some e' := by rw [List.getElem?_drop, show i + 1 + (j - (i + 1)) = j from by omega]; exact hj
  exact ((links_names l2 (fun x hx => hr.ok x (List.mem_of_mem_drop hx))).2 e' (List.mem_of_getElem? h5)).1
theorem Row.range (hr : Row E l ops nt ck F es evs s0 sN) {i : Nat} {e : Ev} (hi : evs[i]? = some e) : s0.n.nat ≤ e.s.n.nat ∧ e.s.n.nat ≤ e.s'.n.nat ∧ e.s'.n.nat ≤ sN.n.nat :=
  (links_names hr.links hr.ok).2 e (List.mem_of_getElem? hi)
/-- the blocks that operations of S have laid, and that no effect has taken over -/
noncomputable def XS (evs : List Ev) (S : Nat → Prop) (k : Nat) : Hp := fun b => open Classical in
  if h : ∃ ob i ev, S i ∧ evs[i]? = some ev ∧ ev.al = some ob ∧ k ≤ ev.hi ∧ ev.s.n = b then Classical.choose h else .x
theorem Row.al_one (hr : Row E l ops nt ck F es evs s0 sN) {i j : Nat} {e e' : Ev} {ob ob' : AO} (hi : evs[i]? = some e) (hj : evs[j]? = some e') (ha : e.al = some ob) (ha' : e'.al = some ob') (hn : e.s.n = e'.s.n) : i = j := by
  have h1 := (hr.ok e (List.mem_of_getElem? hi)).al ob ha
  have h2 := (hr.ok e' (List.mem_of_getElem? hj)).al ob' ha'
  apply Classical.byContradiction
  intro hne
  rcases Nat.lt_or_gt_of_ne hne with h | h
  · have := hr.names hi hj h
    rw [h1.2.2.1, nat_succ, hn] at this; omega
  · have := hr.names hj hi h
    rw [h2.2.2.1, nat_succ, ← hn] at this; omega
theorem Row.xs_some (hr : Row E l ops nt ck F es evs s0 sN) {S : Nat → Prop} {k i : Nat} {e : Ev} {ob : AO} (hi : evs[i]? = some e) (hS : S i) (ha : e.al = some ob) (hk : k ≤ e.hi) : XS evs S k e.s.n = ob := by
  have h : ∃ ob i ev, S i ∧ evs[i]? = some ev ∧ ev.al = some ob ∧ k ≤ ev.hi ∧ ev.s.n = e.s.n := ⟨ob, i, e, hS, hi, ha, hk, rfl⟩
  unfold XS
  rw [dif_pos h]
  obtain ⟨j, ev, _, g2, g3, _, g5⟩ := Classical.choose_spec h
  have hij := hr.al_one g2 hi g3 ha g5
  subst hij
  rw [g2] at hi
  injection hi with hi
  subst hi
  rw [g3] at ha
  injection ha
theorem xs_none {S : Nat → Prop} {k : Nat} {b : Pn} (h : ∀ ob i ev, S i → evs[i]? = some ev → ev.al = some ob → k ≤ ev.hi → ev.s.n ≠ b) : XS evs S k b = .x := by
  unfold XS
  rw [dif_neg]
  rintro ⟨ob, i, ev, h1, h2, h3, h4, h5⟩
  exact h ob i ev h1 h2 h3 h4 h5
theorem xs_inv {S : Nat → Prop} {k : Nat} {b : Pn} (h : XS evs S k b ≠ .x) : ∃ ob i ev, S i ∧ evs[i]? = some ev ∧ ev.al = some ob ∧ k ≤ ev.hi ∧ ev.s.n = b := by
  apply Classical.byContradiction
  intro hn
  exact h (xs_none fun ob i ev h1 h2 h3 h4 h5 => hn ⟨ob, i, ev, h1, h2, h3, h4, h5⟩)
end
end Ax
end Go.Proofs.YtnnhkajjifmlfaaDoor
