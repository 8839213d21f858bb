/- Regions that draw their order: pending blocks ahead of an effect. -/
import Derived.Test.YtnnhkajjifmlfaaDoorX24f
namespace Go.Proofs.YtnnhkajjifmlfaaDoor
namespace Ax
theorem ph_none : ∀ {l : Pend} {b : Pn}, (∀ p ∈ l, p.2.1 ≠ b) → PH l b = .x
  | [], b, _ => rfl
  | p :: r, b, h => by
    have h1 : PH r b = .x := ph_none fun q hq => h q (by simp [hq])
    show ovl (PH r) _ b = .x
    rw [ovl_none h1, upd_other _ _ (fun e => h p (by simp) e.symm)]
theorem ph_some : ∀ {l : Pend} {b : Pn} {o : AO}, (∃ p ∈ l, p.2.1 = b) → (∀ p ∈ l, p.2.1 = b → p.2.2 = o) → o ≠ .x → PH l b = o
  | [], b, o, h, _, _ => by obtain ⟨p, hp, _⟩ := h; cases hp
  | p :: r, b, o, h, hu, ho => by
    show ovl (PH r) _ b = o
    by_cases hr : ∃ q ∈ r, q.2.1 = b
    · have h1 : PH r b = o := ph_some hr (fun q hq => hu q (by simp [hq])) ho
      rw [ovl_some (by rw [h1]; exact ho), h1]
    · have h1 : PH r b = .x := ph_none fun q hq e => hr ⟨q, hq, e⟩
      rw [ovl_none h1]
      obtain ⟨q, hq, he⟩ := h
      rcases List.mem_cons.1 hq with rfl | hq
      · rw [← he, upd_same]; exact hu q (by simp) he
      · exact absurd ⟨q, hq, he⟩ hr
section
variable {E : Env} {l : Option Nat} {ops : Array Oper} {nt : Nat} {ck : List Ck} {F : List (Tr AO)} {es : List Nat} {evs : List Ev} {s0 sN : St}
/-- what an effect finds pending: the blocks that are due -/
theorem Row.pend (hr : Row E l ops nt ck F es evs s0 sN) {i : Nat} {e : Ev} (he : evs[i]? = some e) : ∀ p, p ∈ e.s.pd ↔ ∃ j ev ob, j < i ∧ evs[j]? = some ev ∧ ev.al = some ob ∧ p = (ev.hi, ev.s.n, ob) ∧ e.s.k ≤ ev.hi := by
  have hlt : i < evs.length := (List.getElem?_eq_some_iff.1 he).1
  exact row_pend hr.ok hr.kr (fun e he => by obtain ⟨i, hi⟩ := List.getElem?_of_mem he; exact (hr.own_win hi).2) hr.z.2 i e.s (by omega) (links_get hr.links he).1
/-- the blocks that are due at an effect are those of S -/
theorem Row.due (hr : Row E l ops nt ck F es evs s0 sN) {S : Nat → Prop} {i k : Nat} {e : Ev} (hS : Closed (befores ops.toList []) S) (hi : Ready ops.toList S i) (he : evs[i]? = some e) (hef : e.eff = true) (hk : e.s.k = k) {j : Nat} {ev : Ev} {ob : AO} (hj : evs[j]? = some ev) (_ha : ev.al = some ob) (hh : ev.hi = k) : S j ∧ j < i := by
  have h1 := hr.ef1 i e he hef
  obtain ⟨g1, g2⟩ := hiOf_spec (befores ops.toList []) j es
  have h2 := (hr.win j ev hj).2
  have hbit := g2 i (by rw [← h2, hh, ← hk]; exact h1)
  refine ⟨ready_bits hS hi j hbit, ?_⟩
  exact ready_bits (prefix_closed hr.ed i) (prefix_ready hr.ed (by rw [Array.getElem?_toList]; exact hr.op_at he)) j hbit
theorem Row.laid (hr : Row E l ops nt ck F es evs s0 sN) {S : Nat → Prop} {i k : Nat} {e : Ev} (hS : Closed (befores ops.toList []) S) (hi : Ready ops.toList S i) (he : evs[i]? = some e) (hef : e.eff = true) (hk : e.s.k = k) :
    ovl (XS evs S k) (hv e.s.h) = ovl (XS evs S (k + 1)) (hv e.hl) := by
  have ho := hr.ok e (List.mem_of_getElem? he)
  obtain ⟨_, _, _, hhl⟩ := ho.ef hef
  have hpd := hr.pend he
  rw [hhl]
  funext b
  by_cases hx1 : XS evs S (k + 1) b = .x
  · rw [ovl_none hx1]
    by_cases hx : XS evs S k b = .x
    · rw [ovl_none hx, ovl_none]
      refine ph_none fun p hp hb => ?_
      rw [List.mem_filter] at hp
      obtain ⟨j, ev, ob, g1, g2, g3, rfl, g5⟩ := (hpd p).1 hp.1
      have hle := ble_iff.1 hp.2
      have hhi : ev.hi = k := by simp only at hle; omega
      have hSj := (hr.due hS hi he hef hk g2 g3 hhi).1
      have := hr.xs_some (k := k) g2 hSj g3 (by omega)
      rw [show ev.s.n = b from hb, hx] at this
      exact (hr.al_own g2 g3).1 this.symm
    · obtain ⟨ob, j, ev, h1, h2, h3, h4, h5⟩ := xs_inv hx
      subst h5
      have hhi : ev.hi = k := by
        apply Classical.byContradiction
        intro hne
        have := hr.xs_some (k := k + 1) h2 h1 h3 (by omega)
        rw [hx1] at this
        exact (hr.al_own h2 h3).1 this.symm
      have hlt := (hr.due hS hi he hef hk h2 h3 hhi).2
      have hph : PH (e.s.pd.filter fun p => Nat.ble p.1 e.s.k) ev.s.n = ob := by
        refine ph_some ⟨(ev.hi, ev.s.n, ob), ?_, rfl⟩ (fun p hp hb => ?_) (hr.al_own h2 h3).1
        · rw [List.mem_filter]
          exact ⟨(hpd _).2 ⟨j, ev, ob, hlt, h2, h3, rfl, by omega⟩, ble_iff.2 (by simp only; omega)⟩
        · rw [List.mem_filter] at hp
          obtain ⟨j', ev', ob', g1, g2, g3, rfl, g5⟩ := (hpd p).1 hp.1
          have := hr.al_one g2 h2 g3 h3 hb
          subst this
          rw [h2] at g2; injection g2 with g2; subst g2
          rw [h3] at g3; injection g3 with g3; exact g3.symm
      rw [ovl_some hx, hr.xs_some h2 h1 h3 (by omega), ovl_some (by rw [hph]; exact (hr.al_own h2 h3).1), hph]
  · obtain ⟨ob, j, ev, h1, h2, h3, h4, h5⟩ := xs_inv hx1
    subst h5
    rw [ovl_some hx1, hr.xs_some h2 h1 h3 h4]
    have := hr.xs_some (k := k) h2 h1 h3 (by omega)
    rw [ovl_some (by rw [this]; exact (hr.al_own h2 h3).1), this]
/-- what is still pending is not laid -/
theorem Row.apart_hl (hr : Row E l ops nt ck F es evs s0 sN) {S : Nat → Prop} {i k : Nat} {e : Ev} (he : evs[i]? = some e) (hef : e.eff = true) (hk : e.s.k = k)
    (hap : ∀ j ev ob, S j → evs[j]? = some ev → ev.al = some ob → k ≤ ev.hi → hv e.s.h ev.s.n = .x) {j : Nat} {ev : Ev} {ob : AO} (hj : S j) (hje : evs[j]? = some ev) (ha : ev.al = some ob) (hh : k + 1 ≤ ev.hi) : hv e.hl ev.s.n = .x := by
  have ho := hr.ok e (List.mem_of_getElem? he)
  obtain ⟨_, _, _, hhl⟩ := ho.ef hef
  rw [hhl, ovl_none, hap j ev ob hj hje ha (by omega)]
  refine ph_none fun p hp hb => ?_
  rw [List.mem_filter] at hp
  obtain ⟨j', ev', ob', g1, g2, g3, rfl, g5⟩ := (hr.pend he p).1 hp.1
  have hle := ble_iff.1 hp.2
  have := hr.al_one g2 hje g3 ha hb
  subst this
  rw [hje] at g2; injection g2 with g2; subst g2
  simp only at hle
  omega
end
end Ax
end Go.Proofs.YtnnhkajjifmlfaaDoor
