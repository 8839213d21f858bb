/- Regions that draw their order: the invariant is kept. -/
import Derived.Test.YtnnhkajjifmlfaaDoorX24e
namespace Go.Proofs.YtnnhkajjifmlfaaDoor
namespace Ax
theorem ovl_upd {X H : Hp} {n : Pn} {o : AO} (ho : o ≠ .x) : ovl (upd X n o) H = upd (ovl X H) n o := by
  funext b
  by_cases hb : b = n
  · subst hb; rw [ovl_some (by rw [upd_same]; exact ho), upd_same, upd_same]
  · rw [upd_other _ _ hb]
    by_cases hX : X b = .x
    · rw [ovl_none (by rw [upd_other _ _ hb]; exact hX), ovl_none hX]
    · rw [ovl_some (by rw [upd_other _ _ hb]; exact hX), ovl_some hX, upd_other _ _ hb]
section
variable {E : Env} {l : Option Nat} {ops : Array Oper} {nt : Nat} {ck : List Ck} {F : List (Tr AO)} {es : List Nat} {evs : List Ev} {s0 sN : St}
theorem Row.al_own (hr : Row E l ops nt ck F es evs s0 sN) {i : Nat} {e : Ev} {ob : AO} (he : evs[i]? = some e) (ha : e.al = some ob) : own ob := ((hr.ok e (List.mem_of_getElem? he)).al ob ha).2.2.2.2.2.1
/-- an operation that lays nothing of its own -/
theorem Row.xs_same (hr : Row E l ops nt ck F es evs s0 sN) {S : Nat → Prop} {i k : Nat} {e : Ev} (he : evs[i]? = some e) (ha : e.al = none) : XS evs (fun x => x = i ∨ S x) k = XS evs S k := by
  funext b
  by_cases hx : XS evs S k b = .x
  · rw [hx]
    refine xs_none fun ob j ev hj hje hal hk hn => ?_
    rcases hj with rfl | hj
    · rw [he] at hje; injection hje with hje; subst hje; rw [ha] at hal; cases hal
    · have := hr.xs_some hje hj hal hk
      rw [hn, hx] at this
      exact (hr.al_own hje hal).1 this.symm
  · obtain ⟨ob, j, ev, h1, h2, h3, h4, h5⟩ := xs_inv hx
    subst h5
    rw [hr.xs_some h2 h1 h3 h4]
    exact hr.xs_some (S := fun x => x = i ∨ S x) h2 (.inr h1) h3 h4
/-- one that lays a block -/
theorem Row.xs_add (hr : Row E l ops nt ck F es evs s0 sN) {S : Nat → Prop} {i k : Nat} {e : Ev} {ob : AO} (he : evs[i]? = some e) (ha : e.al = some ob) (hk : k ≤ e.hi) : XS evs (fun x => x = i ∨ S x) k = upd (XS evs S k) e.s.n ob := by
  funext b
  by_cases hb : b = e.s.n
  · subst hb
    rw [upd_same]
    exact hr.xs_some (S := fun x => x = i ∨ S x) he (.inl rfl) ha hk
  · rw [upd_other _ _ hb]
    by_cases hx : XS evs S k b = .x
    · rw [hx]
      refine xs_none fun ob' j ev hj hje hal hk' hn => ?_
      rcases hj with rfl | hj
      · rw [he] at hje; injection hje with hje; subst hje; exact hb hn.symm
      · have := hr.xs_some hje hj hal hk'
        rw [hn, hx] at this
        exact (hr.al_own hje hal).1 this.symm
    · obtain ⟨ob', j, ev, h1, h2, h3, h4, h5⟩ := xs_inv hx
      subst h5
      rw [hr.xs_some h2 h1 h3 h4]
      exact hr.xs_some (S := fun x => x = i ∨ S x) h2 (.inr h1) h3 h4
theorem put_tmps {a : Act} {o : Oper} {d : Option Pn} (hd : dstOf nt o = some d) (hs : a.tmps.size = nt) (v : Value) (t : Nat) : (a.put o.dst v).tmps.size = nt ∧ (a.put o.dst v).tmps.getD t undef = if o.dst = some t then v else a.tmps.getD t undef := by
  unfold dstOf at hd
  split at hd
  · rename_i hn
    rw [hn, if_neg (by simp)]
    exact ⟨hs, rfl⟩
  · rename_i u hu
    split at hd
    · rename_i hlt
      have hlt := ble_iff.1 hlt
      rw [hu]
      refine ⟨by simpa [Act.put] using hs, ?_⟩
      by_cases h : u = t
      · subst h
        rw [if_pos rfl]
        have : u < a.tmps.size := by rw [hs]; exact hlt
        simp [Act.put, Array.getD, this]
      · rw [if_neg (fun e => h (by injection e))]
        simp only [Act.put, Array.getD_eq_getD_getElem?]
        rw [Array.getElem?_setIfInBounds_ne h]
    · cases hd
/-- the temporaries behind an operation -/
theorem Row.tm_add (hr : Row E l ops nt ck F es evs s0 sN) {S : Nat → Prop} {i : Nat} {e : Ev} (hS : Closed (befores ops.toList []) S) (hi : Ready ops.toList S i) (hn : ¬ S i) (he : evs[i]? = some e) {ρ ρ' : Ren} {a : Act} {v' : Value}
    (hs : a.tmps.size = nt) (ht : ∀ t, ∃ v, Last evs s0.tm S t v ∧ VR ρ v (a.tmps.getD t undef)) (hl : ρ.le ρ') (hv : VR ρ' e.v v') :
    (a.put e.o.dst v').tmps.size = nt ∧ ∀ t, ∃ v, Last evs s0.tm (fun x => x = i ∨ S x) t v ∧ VR ρ' v ((a.put e.o.dst v').tmps.getD t undef) := by
  have hd := (hr.ok e (List.mem_of_getElem? he)).dst
  refine ⟨(put_tmps hd hs v' 0).1, fun t => ?_⟩
  obtain ⟨v, h1, h2⟩ := ht t
  refine ⟨_, hr.last_add hS hi hn he h1, ?_⟩
  rw [(put_tmps hd hs v' t).2]
  by_cases hc : e.o.dst = some t
  · rw [if_pos hc, if_pos hc]; exact hv
  · rw [if_neg hc, if_neg hc]; exact h2.mono hl
/-- what an operation that may come up looks at -/
theorem Row.vro (hr : Row E l ops nt ck F es evs s0 sN) {S : Nat → Prop} {i : Nat} {e : Ev} (hS : Closed (befores ops.toList []) S) (hi : Ready ops.toList S i) (hn : ¬ S i) (he : evs[i]? = some e) {ρ : Ren} {a : Act} (hg : GL E ρ)
    (ht : ∀ t, ∃ v, Last evs s0.tm S t v ∧ VR ρ v (a.tmps.getD t undef)) : VRo ρ e.s.tm a e.o ∧ Region.wanted e.o (yielded ops a.tmps) = e.b := by
  have ho := hr.ok e (List.mem_of_getElem? he)
  have hval : ∀ t, Names ops e.o t → VR ρ (e.s.tm.get (.tu []) (pth t)) (a.tmps.getD t undef) := by
    intro t hnm
    obtain ⟨v, h1, h2⟩ := ht t
    rw [← hr.look hS hi hn he hnm h1]
    exact h2
  refine ⟨fun x hx v hv => ?_, ho.gd ρ a.tmps fun t h => hval t (.inr (.inr h))⟩
  cases x with
  | tmp t => injection hv with hv; subst hv; exact hval t (.inr (.inl hx))
  | const w => exact ofV_rel ρ hv
  | global g =>
    injection hv with hv
    subst hv
    obtain ⟨t, h1, h2, h3⟩ := hg g (ble_iff.1 (gOk_mem ho.gok _ hx))
    have : a.eval (.global g) = .pointer (some ⟨t.c, t.d + 0, none⟩) := by rw [h2, h3]; rfl
    rw [this]
    exact .p h1
  | func f => injection hv with hv; subst hv; exact .f rfl rfl (fun i x v h => by simp at h) (fun i x v h => by simp at h)
/-- an operation that is no effect leaves the number of effects as it is -/
theorem Row.ks_same (hr : Row E l ops nt ck F es evs s0 sN) {S : Nat → Prop} {i k : Nat} {e : Ev} (he : evs[i]? = some e) (hef : e.eff = false) (hk : KS es S k) : KS es (fun x => x = i ∨ S x) k := by
  refine ⟨hk.1, fun q p hp => ?_⟩
  rw [← hk.2 q p hp]
  constructor
  · rintro (rfl | h)
    · obtain ⟨ev, g1, g2, _⟩ := hr.ef2 q p hp
      rw [he] at g1; injection g1 with g1; subst g1; rw [hef] at g2; cases g2
    · exact h
  · exact .inr
theorem Row.ks_next (hr : Row E l ops nt ck F es evs s0 sN) {S : Nat → Prop} {i k : Nat} {e : Ev} (hS : Closed (befores ops.toList []) S) (hi : Ready ops.toList S i) (hn : ¬ S i) (he : evs[i]? = some e) (hef : e.eff = true) (hk : KS es S k) :
    e.s.k = k ∧ KS es (fun x => x = i ∨ S x) (k + 1) := by
  have h1 := hr.ef1 i e he hef
  have hge : k ≤ e.s.k := by
    apply Nat.le_of_not_lt
    intro hlt
    exact hn ((hk.2 _ i h1).2 hlt)
  have hlt : e.s.k < es.length := (List.getElem?_eq_some_iff.1 h1).1
  have heq : e.s.k = k := by
    apply Classical.byContradiction
    intro hne
    -- the effect ahead of it is in
    have hk1 : e.s.k - 1 + 1 = e.s.k := by omega
    obtain ⟨e', g1, g2⟩ := chain_closed (closed_add hS hi) hr.ch (e.s.k - 1) i (by rw [hk1]; exact h1) (.inl rfl)
    rcases g2 with rfl | g2
    · obtain ⟨ev, p1, p2, p3⟩ := hr.ef2 _ _ g1
      rw [he] at p1; injection p1 with p1; subst p1; omega
    · have := (hk.2 _ e' g1).1 g2; omega
  subst heq
  refine ⟨rfl, by omega, fun q p hp => ?_⟩
  constructor
  · rintro (rfl | h)
    · obtain ⟨ev, p1, p2, p3⟩ := hr.ef2 q p hp
      rw [he] at p1; injection p1 with p1; subst p1; omega
    · have := (hk.2 q p hp).1 h; omega
  · intro hq
    by_cases hqe : q = e.s.k
    · subst hqe; rw [h1] at hp; injection hp with hp; exact .inl hp.symm
    · exact .inr ((hk.2 q p hp).2 (by omega))
end
end Ax
end Go.Proofs.YtnnhkajjifmlfaaDoor
