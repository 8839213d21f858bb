/- Regions that draw their order: facts on a row of events. -/
import Derived.Test.YtnnhkajjifmlfaaDoorX24b
namespace Go.Proofs.YtnnhkajjifmlfaaDoor
namespace Ax
theorem links_get : ∀ {evs : List Ev} {s s' : St} {q : Nat} {ev : Ev}, Links evs s s' → evs[q]? = some ev → Links (evs.take q) s ev.s ∧ Links (evs.drop (q + 1)) ev.s' s'
  | [], s, s', q, ev, _, h => by simp at h
  | e :: r, s, s', 0, ev, hl, h => by
    simp at h
    subst h
    exact ⟨hl.1.symm, hl.2⟩
  | e :: r, s, s', q + 1, ev, hl, h => by
    obtain ⟨h1, h2⟩ := links_get (q := q) hl.2 (by simpa using h)
    exact ⟨⟨hl.1, h1⟩, h2⟩
/-- how many effects are behind -/
def KRule (e : Ev) : Prop := e.s'.k = if e.eff then e.s.k + 1 else e.s.k
theorem effs_links : ∀ {evs : List Ev} {cs : List CO} {s s' : St} (i : Nat), cs.map (fun c => isEff c.c) = evs.map (·.eff) → Links evs s s' → (∀ e ∈ evs, KRule e) →
    s'.k = s.k + (effs cs i).length ∧ (∀ q ev, evs[q]? = some ev → s.k ≤ ev.s.k ∧ ev.s.k ≤ s'.k ∧ (ev.eff = true → (effs cs i)[ev.s.k - s.k]? = some (i + q))) ∧
    ∀ k p, (effs cs i)[k]? = some p → ∃ q ev, p = i + q ∧ evs[q]? = some ev ∧ ev.eff = true ∧ ev.s.k = s.k + k
  | [], cs, s, s', i, hm, hl, _ => by
    have : cs = [] := by simpa using hm
    subst this
    have : s = s' := hl
    subst this
    exact ⟨rfl, fun q ev h => by simp at h, fun k p h => by simp [effs] at h⟩
  | e :: r, [], s, s', i, hm, _, _ => by simp at hm
  | e :: r, c :: cs, s, s', i, hm, hl, hr => by
    simp only [List.map_cons, List.cons.injEq] at hm
    obtain ⟨hm1, hm2⟩ := hm
    obtain ⟨rfl, hl2⟩ := hl
    have hk := hr e (by simp)
    unfold KRule at hk
    obtain ⟨h1, h2, h3⟩ := effs_links (i + 1) hm2 hl2 (fun e he => hr e (by simp [he]))
    unfold effs
    rw [hm1]
    cases he : e.eff with
    | false =>
      rw [he] at hk
      simp only [Bool.false_eq_true, if_false] at hk
      refine ⟨by rw [h1, hk], fun q ev hq => ?_, fun k p hp => ?_⟩
      · cases q with
        | zero => simp at hq; subst hq; exact ⟨Nat.le_refl _, by omega, fun h => by rw [he] at h; cases h⟩
        | succ q =>
          obtain ⟨g1, g2, g3⟩ := h2 q ev (by simpa using hq)
          refine ⟨by omega, g2, fun h => ?_⟩
          have := g3 h
          rw [hk, show i + 1 + q = i + (q + 1) from by omega] at this
          exact this
      · obtain ⟨q, ev, g1, g2, g3, g4⟩ := h3 k p hp
        exact ⟨q + 1, ev, by omega, by simpa using g2, g3, by omega⟩
    | true =>
      rw [he] at hk
      simp only [if_true] at hk
      refine ⟨by simp only [List.length_cons]; omega, fun q ev hq => ?_, fun k p hp => ?_⟩
      · cases q with
        | zero => simp at hq; subst hq; exact ⟨Nat.le_refl _, by omega, fun _ => by simp⟩
        | succ q =>
          obtain ⟨g1, g2, g3⟩ := h2 q ev (by simpa using hq)
          refine ⟨by omega, g2, fun h => ?_⟩
          have := g3 h
          rw [show ev.s.k - e.s.k = (ev.s.k - e.s'.k) + 1 from by omega, List.getElem?_cons_succ, this]
          congr 1; omega
      · cases k with
        | zero => simp at hp; exact ⟨0, e, by omega, rfl, he, by omega⟩
        | succ k =>
          obtain ⟨q, ev, g1, g2, g3, g4⟩ := h3 k p (by simpa using hp)
          exact ⟨q + 1, ev, by omega, by simpa using g2, g3, by omega⟩
/-- what does not turn between effects -/
theorem links_const {E : Env} {l : Option Nat} {ops : Array Oper} {nt : Nat} {ck : List Ck} : ∀ {evs : List Ev} {s s' : St}, Links evs s s' → (∀ e ∈ evs, EvOK E l ops nt ck e) → (∀ e ∈ evs, KRule e) →
    s.k ≤ s'.k ∧ (s'.k = s.k → s'.df = s.df ∧ s'.h = s.h) ∧ ∀ e ∈ evs, s.k ≤ e.s.k ∧ (e.s.k = s.k → e.s.df = s.df ∧ e.s.h = s.h)
  | [], s, s', hl, _, _ => by
    have : s = s' := hl
    subst this
    exact ⟨Nat.le_refl _, fun _ => ⟨rfl, rfl⟩, by simp⟩
  | e :: r, s, s', hl, hok, hr => by
    obtain ⟨rfl, hl2⟩ := hl
    have hk := hr e (by simp)
    have ho := hok e (by simp)
    unfold KRule at hk
    obtain ⟨h1, h2, h3⟩ := links_const hl2 (fun e he => hok e (by simp [he])) (fun e he => hr e (by simp [he]))
    cases he : e.eff with
    | false =>
      obtain ⟨g1, g2, g3⟩ := ho.ne he
      refine ⟨by omega, fun h => ?_, fun e' he' => ?_⟩
      · obtain ⟨q1, q2⟩ := h2 (by omega); exact ⟨by rw [q1, g3], by rw [q2, g2]⟩
      · rcases List.mem_cons.1 he' with rfl | he'
        · exact ⟨Nat.le_refl _, fun _ => ⟨rfl, rfl⟩⟩
        · obtain ⟨q1, q2⟩ := h3 e' he'
          exact ⟨by omega, fun h => by obtain ⟨p1, p2⟩ := q2 (by omega); exact ⟨by rw [p1, g3], by rw [p2, g2]⟩⟩
    | true =>
      rw [he] at hk
      simp only [if_true] at hk
      refine ⟨by omega, fun h => by omega, fun e' he' => ?_⟩
      rcases List.mem_cons.1 he' with rfl | he'
      · exact ⟨Nat.le_refl _, fun _ => ⟨rfl, rfl⟩⟩
      · obtain ⟨q1, q2⟩ := h3 e' he'
        exact ⟨by omega, fun h => by omega⟩
/-- names only grow -/
theorem links_names {E : Env} {l : Option Nat} {ops : Array Oper} {nt : Nat} {ck : List Ck} : ∀ {evs : List Ev} {s s' : St}, Links evs s s' → (∀ e ∈ evs, EvOK E l ops nt ck e) → s.n.nat ≤ s'.n.nat ∧ ∀ e ∈ evs, s.n.nat ≤ e.s.n.nat ∧ e.s.n.nat ≤ e.s'.n.nat ∧ e.s'.n.nat ≤ s'.n.nat
  | [], s, s', hl, _ => by
    have : s = s' := hl
    subst this
    exact ⟨Nat.le_refl _, by simp⟩
  | e :: r, s, s', hl, hok => by
    obtain ⟨rfl, hl2⟩ := hl
    have ho := (hok e (by simp)).le
    obtain ⟨h1, h2⟩ := links_names hl2 (fun e he => hok e (by simp [he]))
    refine ⟨by omega, fun e' he' => ?_⟩
    rcases List.mem_cons.1 he' with rfl | he'
    · exact ⟨Nat.le_refl _, ho, h1⟩
    · obtain ⟨q1, q2, q3⟩ := h2 e' he'; exact ⟨by omega, q2, q3⟩
/-- the last who wrote a temporary -/
def Last (evs : List Ev) (tm0 : Tr AV) (S : Nat → Prop) (t : Nat) (v : AV) : Prop :=
  (v = tm0.get (.tu []) (pth t) ∧ ∀ i ev, S i → evs[i]? = some ev → ev.o.dst ≠ some t) ∨ ∃ i ev, S i ∧ evs[i]? = some ev ∧ ev.o.dst = some t ∧ v = ev.v ∧ ∀ j ev', S j → evs[j]? = some ev' → ev'.o.dst = some t → j ≤ i
theorem Last.unique {evs : List Ev} {tm0 : Tr AV} {S S' : Nat → Prop} {t : Nat} {v v' : AV} (h : Last evs tm0 S t v) (h' : Last evs tm0 S' t v') (hs : ∀ i ev, evs[i]? = some ev → ev.o.dst = some t → (S i ↔ S' i)) : v = v' := by
  rcases h with ⟨h1, h2⟩ | ⟨i, ev, h1, h2, h3, h4, h5⟩
  · rcases h' with ⟨g1, g2⟩ | ⟨j, ev', g1, g2, g3, g4, g5⟩
    · rw [h1, g1]
    · exact absurd g3 (h2 j ev' ((hs j ev' g2 g3).2 g1) g2)
  · rcases h' with ⟨g1, g2⟩ | ⟨j, ev', g1, g2, g3, g4, g5⟩
    · exact absurd h3 (g2 i ev ((hs i ev h2 h3).1 h1) h2)
    · have a1 := h5 j ev' ((hs j ev' g2 g3).2 g1) g2 g3
      have a2 := g5 i ev ((hs i ev h2 h3).1 h1) h2 h3
      have : i = j := by omega
      subst this
      rw [h2] at g2
      injection g2 with g2
      subst g2
      rw [h4, g4]
theorem dst_get {nt : Nat} {o : Oper} {d : Option Pn} (hd : dstOf nt o = some d) (v : AV) (tm : Tr AV) (t : Nat) : (putD d v tm).get (.tu []) (pth t) = if o.dst = some t then v else tm.get (.tu []) (pth t) := by
  unfold dstOf at hd
  split at hd
  · rename_i hn
    injection hd with hd
    subst hd
    rw [hn, if_neg (by simp)]; rfl
  · rename_i u hu
    split at hd
    · injection hd with hd
      subst hd
      rw [hu]
      by_cases h : u = t
      · subst h; rw [if_pos rfl]; exact get_put_same _ _ _ _
      · rw [if_neg (fun e => h (by injection e))]; exact get_put_other _ _ _ _ (fun e => h (pth_inj e)) _
    · cases hd
theorem links_snoc : ∀ {xs : List Ev} {e : Ev} {s s' : St}, Links (xs ++ [e]) s s' → Links xs s e.s ∧ s' = e.s'
  | [], e, s, s', h => ⟨h.1.symm, h.2.symm⟩
  | x :: xs, e, s, s', h => by
    obtain ⟨h1, h2⟩ := links_snoc (xs := xs) h.2
    exact ⟨⟨h.1, h1⟩, h2⟩
theorem take_snoc {evs : List Ev} {i : Nat} {ev : Ev} (h : evs[i]? = some ev) : evs.take (i + 1) = evs.take i ++ [ev] := by
  rw [List.take_add_one, h]; rfl
section
variable {E : Env} {l : Option Nat} {ops : Array Oper} {nt : Nat} {ck : List Ck} {evs : List Ev} {s0 : St}
theorem row_tmps (hok : ∀ e ∈ evs, EvOK E l ops nt ck e) (t : Nat) : ∀ (i : Nat) (st : St), i ≤ evs.length → Links (evs.take i) s0 st → Last evs s0.tm (fun x => x < i) t (st.tm.get (.tu []) (pth t))
  | 0, st, _, h => by
    have : s0 = st := h
    subst this
    exact .inl ⟨rfl, fun i ev h => absurd h (Nat.not_lt_zero i)⟩
  | i + 1, st, hi, h => by
    have hev : evs[i]? = some evs[i] := List.getElem?_eq_getElem (by omega)
    rw [take_snoc hev] at h
    obtain ⟨h1, rfl⟩ := links_snoc h
    have ih := row_tmps hok t i _ (by omega) h1
    have ho := hok _ (List.getElem_mem (by omega : i < evs.length))
    rw [ho.tm, dst_get ho.dst]
    by_cases hd : evs[i].o.dst = some t
    · rw [if_pos hd]
      exact .inr ⟨i, evs[i], Nat.lt_succ_self i, hev, hd, rfl, fun j ev' hj _ _ => Nat.le_of_lt_succ hj⟩
    · rw [if_neg hd]
      rcases ih with ⟨g1, g2⟩ | ⟨j, ev, g1, g2, g3, g4, g5⟩
      · refine .inl ⟨g1, fun j ev hj he => ?_⟩
        by_cases hji : j = i
        · subst hji; rw [hev] at he; injection he with he; subst he; exact hd
        · exact g2 j ev (by have : j < i + 1 := hj; show j < i; omega) he
      · refine .inr ⟨j, ev, Nat.lt_succ_of_lt g1, g2, g3, g4, fun q ev' hq he hde => ?_⟩
        by_cases hqi : q = i
        · subst hqi; rw [hev] at he; injection he with he; subst he; exact absurd hde hd
        · exact g5 q ev' (by have : q < i + 1 := hq; show q < i; omega) he hde
/-- what is pending on the way -/
theorem row_pend (hok : ∀ e ∈ evs, EvOK E l ops nt ck e) (hkr : ∀ e ∈ evs, KRule e) (hhi : ∀ e ∈ evs, e.s.k ≤ e.hi) (h0 : s0.pd = []) : ∀ (i : Nat) (st : St), i ≤ evs.length → Links (evs.take i) s0 st →
    ∀ p, p ∈ st.pd ↔ ∃ j ev ob, j < i ∧ evs[j]? = some ev ∧ ev.al = some ob ∧ p = (ev.hi, ev.s.n, ob) ∧ st.k ≤ ev.hi
  | 0, st, _, h => by
    have : s0 = st := h
    subst this
    intro p
    rw [h0]
    simp
  | i + 1, st, hi, h => by
    have hev : evs[i]? = some evs[i] := List.getElem?_eq_getElem (by omega)
    rw [take_snoc hev] at h
    obtain ⟨h1, rfl⟩ := links_snoc h
    have ih := row_pend hok hkr hhi h0 i _ (by omega) h1
    have hmem := List.getElem_mem (by omega : i < evs.length)
    have ho := hok _ hmem
    have hk := hkr _ hmem
    have hh := hhi _ hmem
    unfold KRule at hk
    intro p
    cases he : evs[i].eff with
    | false =>
      rw [he] at hk
      simp only [Bool.false_eq_true, if_false] at hk
      cases ha : evs[i].al with
      | none =>
        rw [(ho.na he ha).2, ih p, hk]
        constructor
        · rintro ⟨j, ev, ob, g1, g2⟩; exact ⟨j, ev, ob, by omega, g2⟩
        · rintro ⟨j, ev, ob, g1, g2, g3, g4⟩
          by_cases hji : j = i
          · subst hji; rw [hev] at g2; injection g2 with g2; subst g2; rw [ha] at g3; cases g3
          · exact ⟨j, ev, ob, by omega, g2, g3, g4⟩
      | some ob0 =>
        obtain ⟨_, _, _, q, _⟩ := ho.al ob0 ha
        rw [q, List.mem_cons, ih p, hk]
        constructor
        · rintro (rfl | ⟨j, ev, ob, g1, g2⟩)
          · exact ⟨i, evs[i], ob0, by omega, hev, ha, rfl, hh⟩
          · exact ⟨j, ev, ob, by omega, g2⟩
        · rintro ⟨j, ev, ob, g1, g2, g3, g4⟩
          by_cases hji : j = i
          · subst hji; rw [hev] at g2; injection g2 with g2; subst g2; rw [ha] at g3; injection g3 with g3; subst g3; exact .inl g4.1
          · exact .inr ⟨j, ev, ob, by omega, g2, g3, g4⟩
    | true =>
      rw [he] at hk
      simp only [if_true] at hk
      obtain ⟨q1, q2, q3, _⟩ := ho.ef he
      rw [q3, List.mem_filter, ih p, hk]
      constructor
      · rintro ⟨⟨j, ev, ob, g1, g2, g3, rfl, g5⟩, g6⟩
        refine ⟨j, ev, ob, by omega, g2, g3, rfl, ?_⟩
        simp only [Bool.not_eq_true'] at g6
        apply Nat.lt_of_not_le
        intro hle
        rw [ble_iff.2 hle] at g6
        cases g6
      · rintro ⟨j, ev, ob, g1, g2, g3, rfl, g5⟩
        by_cases hji : j = i
        · subst hji; rw [hev] at g2; injection g2 with g2; subst g2; rw [q1] at g3; cases g3
        · refine ⟨⟨j, ev, ob, by omega, g2, g3, rfl, by omega⟩, ?_⟩
          cases hb : Nat.ble ev.hi evs[i].s.k with
          | false => rfl
          | true => have := ble_iff.1 hb; omega
end
end Ax
end Go.Proofs.YtnnhkajjifmlfaaDoor
