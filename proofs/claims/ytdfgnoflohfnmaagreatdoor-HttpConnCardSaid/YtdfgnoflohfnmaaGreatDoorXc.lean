/- Regions that draw their order: the frame of a step; what stands ahead of what. -/
import Derived.Test.YtdfgnoflohfnmaaGreatDoorXb
import Derived.OrdersIn
/-! Regions that draw their order: the frame of a step; what stands ahead of what. -/

namespace Go.Proofs.YtdfgnoflohfnmaaGreatDoor
namespace Ax
noncomputable def ovl (X H : Hp) : Hp := fun b => open Classical in if X b = .x then H b else X b
theorem ovl_none {X H : Hp} {b : Pn} (h : X b = .x) : ovl X H b = H b := by simp [ovl, h]
theorem ovl_some {X H : Hp} {b : Pn} (h : X b ≠ .x) : ovl X H b = X b := by simp [ovl, h]
section
variable {ρ ρ' ρ0 : Ren} {H H' H0 X : Hp} {w w' w0 : World} {n n' n0 m : Pn}
theorem Step.frame (h : Rel ρ (ovl X H) w) (s : Step ρ H w n ρ' H' w' n') (hx : ∀ b, X b ≠ .x → own (X b) ∧ H b = .x ∧ H' b = .x) : Step ρ (ovl X H) w n ρ' (ovl X H') w' n' := by
  have hap : ∀ b t, X b ≠ .x → ρ b = some t → ∀ b0 t0, H b0 ≠ .x → ρ b0 = some t0 → t0.c ≠ t.c := by
    intro b t hb ht b0 t0 h0 ht0 e
    have hX0 : X b0 = .x := by
      apply Classical.byContradiction
      intro hc
      exact h0 (hx b0 hc).2.1
    have := h.inj b b0 t t0 (by rw [ovl_some hb]; exact (hx b hb).1) (by rw [ovl_none hX0]; exact h0) ht ht0 e.symm
    subst this
    exact hb hX0
  have hlt : ∀ b t, X b ≠ .x → ρ b = some t → t.c < w.heap.size := fun b t hb ht => rel_lt h b t (by rw [ovl_some hb]; exact hb) ht
  have hρ : ∀ b, X b ≠ .x → ∃ t, ρ b = some t ∧ OR ρ w.heap[t.c]? t (X b) := by
    intro b hb
    have := h.ob b (by rw [ovl_some hb]; exact hb)
    rwa [ovl_some hb] at this
  refine ⟨s.ext, s.nw, ?_, s.le, ⟨?_, ?_⟩, s.size, ?_, ?_, s.os, s.tape, s.output, ?_⟩
  · intro b hb
    by_cases hX : X b = .x
    · rw [ovl_none hX] at hb ⊢; exact s.lv b hb
    · exact .inl (by rw [ovl_some hX]; exact hX)
  · intro b hb
    by_cases hX : X b = .x
    · rw [ovl_none hX] at hb ⊢; exact s.rel.ob b hb
    · rw [ovl_some hX]
      obtain ⟨t, h1, h2⟩ := hρ b hX
      refine ⟨t, s.ext _ _ h1, ?_⟩
      rw [s.same t.c (hlt b t hX h1) (fun b0 t0 h3 h4 => hap b t hX h1 b0 t0 h3.1 h4)]
      exact h2.mono s.ext
  · intro b b' t t' h1 h2 h3 h4 h5
    by_cases hX : X b = .x
    · rw [ovl_none hX] at h1
      by_cases hX' : X b' = .x
      · rw [ovl_none hX'] at h2
        exact s.rel.inj b b' t t' h1 h2 h3 h4 h5
      · exfalso
        obtain ⟨t1, g1, _⟩ := hρ b' hX'
        obtain rfl := Option.some.inj (h4.symm.trans (s.ext _ _ g1))
        rcases s.owns b t h1 h3 with ⟨b0, t0, p1, p2, p3⟩ | p
        · exact hap b' t' hX' g1 b0 t0 p1.1 p2 (by omega)
        · have := hlt b' t' hX' g1; omega
    · obtain ⟨t1, g1, _⟩ := hρ b hX
      obtain rfl := Option.some.inj (h3.symm.trans (s.ext _ _ g1))
      by_cases hX' : X b' = .x
      · exfalso
        rw [ovl_none hX'] at h2
        cases hk : H' b' with
        | k l ty =>
          have hk0 := s.ks b' l ty hk
          have hne : H b' ≠ .x := by rw [hk0]; simp
          obtain ⟨t2, q1, _⟩ := h.ob b' (by rw [ovl_none hX']; exact hne)
          obtain rfl := Option.some.inj (h4.symm.trans (s.ext _ _ q1))
          exact hap b t hX g1 b' t' hne q1 h5.symm
        | x => exact h2 hk
        | _ =>
          have hown : own (H' b') := ⟨by rw [hk]; simp, by rw [hk]; simp⟩
          rcases s.owns b' t' hown h4 with ⟨b0, t0, p1, p2, p3⟩ | p
          · exact hap b t hX g1 b0 t0 p1.1 p2 (by omega)
          · have := hlt b t hX g1; omega
      · obtain ⟨t2, g2, _⟩ := hρ b' hX'
        obtain rfl := Option.some.inj (h4.symm.trans (s.ext _ _ g2))
        exact h.inj b b' t t' (by rw [ovl_some hX]; exact (hx b hX).1) (by rw [ovl_some hX']; exact hX') g1 g2 h5
  · intro k hk hn
    refine s.same k hk fun b t h1 h2 => hn b t ?_ h2
    have hX : X b = .x := by
      apply Classical.byContradiction
      intro hc
      exact h1.1 (hx b hc).2.1
    rw [ovl_none hX]; exact h1
  · intro b t h1 h2
    by_cases hX : X b = .x
    · rw [ovl_none hX] at h1
      rcases s.owns b t h1 h2 with ⟨b0, t0, p1, p2, p3⟩ | p
      · have hX0 : X b0 = .x := by
          apply Classical.byContradiction
          intro hc
          exact p1.1 (hx b0 hc).2.1
        exact .inl ⟨b0, t0, by rw [ovl_none hX0]; exact p1, p2, p3⟩
      · exact .inr p
    · obtain ⟨t1, g1, _⟩ := hρ b hX
      obtain rfl := Option.some.inj (h2.symm.trans (s.ext _ _ g1))
      exact .inl ⟨b, t, by rw [ovl_some hX]; exact (hx b hX).1, g1, rfl⟩
  · intro b l ty e
    by_cases hX : X b = .x
    · rw [ovl_none hX] at e ⊢; exact s.ks b l ty e
    · rw [ovl_some hX] at e
      exact absurd e ((hx b hX).1.2 l ty)
theorem Step.within (h : Step ρ0 H0 w0 n0 ρ H w m) (k : Step ρ H w n ρ' H' w' n') (h1 : n0.nat ≤ n.nat) (h2 : n'.nat ≤ m.nat) : Step ρ0 H0 w0 n0 ρ' H' w' m where
  ext := Ren.le_trans h.ext k.ext
  nw := fun b e1 e2 => by
    by_cases e : ρ b = none
    · have := k.nw b e e2; omega
    · exact h.nw b e1 e
  lv := fun b hb => by
    rcases k.lv b hb with g | g
    · exact h.lv b g
    · right; omega
  le := h.le
  rel := k.rel
  size := Nat.le_trans h.size k.size
  same := fun j hj hn => by
    rw [k.same j (Nat.lt_of_lt_of_le hj h.size) (fun b t g1 g2 e => by
      rcases h.owns b t g1 g2 with ⟨b0, t0, g3, g4, g5⟩ | g3
      · exact hn b0 t0 g3 g4 (by omega)
      · omega)]
    exact h.same j hj hn
  owns := fun b t g1 g2 => by
    rcases k.owns b t g1 g2 with ⟨b0, t0, g3, g4, g5⟩ | g3
    · rcases h.owns b0 t0 g3 g4 with ⟨b1, t1, g6, g7, g8⟩ | g6
      · exact .inl ⟨b1, t1, g6, g7, by omega⟩
      · exact .inr (by omega)
    · exact .inr (Nat.le_trans h.size g3)
  os := k.os.trans h.os
  tape := k.tape.trans h.tape
  output := k.output.trans h.output
  ks := fun b l ty e => h.ks b l ty (k.ks b l ty e)
theorem Step.start (h : Rel ρ H w) (hle : n.nat ≤ m.nat) : Step ρ H w n ρ H w m :=
  { Step.refl (n := n) h with le := hle, nw := fun _ h k => absurd h k, lv := fun _ h => .inl h }
end

/-! ### bits -/
theorem befores_len : ∀ (ops : List Oper) (acc : List Nat), (befores ops acc).length = acc.length + ops.length
  | [], acc => by simp [befores]
  | o :: r, acc => by rw [befores, befores_len r]; simp; omega
theorem befores_old : ∀ (ops : List Oper) (acc : List Nat) (j : Nat), j < acc.length → (befores ops acc).getD j 0 = acc.getD j 0
  | [], acc, j, _ => rfl
  | o :: r, acc, j, h => by
    rw [befores, befores_old r _ j (by simp; omega)]
    simp only [List.getD_eq_getElem?_getD]
    rw [List.getElem?_append_left h]
theorem fold_bits (acc : List Nat) (j : Nat) : ∀ (l : List Edge) (s : Nat), (l.foldl (fun s e => if Region.binds .any e then s ||| 2 ^ e.on ||| acc.getD e.on 0 else s) s).testBit j = true →
    s.testBit j = true ∨ ∃ e ∈ l, Region.binds .any e = true ∧ (j = e.on ∨ (acc.getD e.on 0).testBit j = true)
  | [], s, h => .inl h
  | e :: l, s, h => by
    rw [List.foldl_cons] at h
    rcases fold_bits acc j l _ h with h1 | ⟨e', h1, h2, h3⟩
    · cases hb : Region.binds .any e with
      | false => rw [hb] at h1; exact .inl h1
      | true =>
        rw [hb, if_pos rfl, Nat.testBit_or, Nat.testBit_or, Bool.or_eq_true, Bool.or_eq_true] at h1
        rcases h1 with (h1 | h1) | h1
        · exact .inl h1
        · rw [Nat.testBit_two_pow, decide_eq_true_eq] at h1
          exact .inr ⟨e, by simp, hb, .inl h1.symm⟩
        · exact .inr ⟨e, by simp, hb, .inr h1⟩
    · exact .inr ⟨e', by simp [h1], h2, h3⟩
theorem befores_bit : ∀ (ops : List Oper) (acc : List Nat) (q : Nat) (o : Oper) (j : Nat), ops[q]? = some o → ((befores ops acc).getD (acc.length + q) 0).testBit j = true →
    ∃ e ∈ o.after.toList, Region.binds .any e = true ∧ (j = e.on ∨ ((befores ops acc).getD e.on 0).testBit j = true)
  | [], acc, q, o, j, h, _ => by simp at h
  | o0 :: r, acc, 0, o, j, h, hb => by
    simp at h
    subst h
    rw [befores] at hb ⊢
    rw [befores_old r _ _ (by simp)] at hb
    simp only [Nat.add_zero, List.getD_eq_getElem?_getD] at hb
    rw [List.getElem?_append_right (Nat.le_refl _)] at hb
    simp only [Nat.sub_self, List.getElem?_cons_zero, Option.getD_some] at hb
    have e0 : (fun (s : Nat) (e : Edge) => if Region.binds .any e then s ||| 2 ^ e.on ||| acc[e.on]?.getD 0 else s) = fun s e => if Region.binds .any e then s ||| 2 ^ e.on ||| acc.getD e.on 0 else s := by
      funext s e; rw [List.getD_eq_getElem?_getD]
    rw [e0] at hb
    rcases fold_bits acc j _ 0 hb with h1 | ⟨e, h1, h2, h3⟩
    · simp at h1
    · refine ⟨e, h1, h2, ?_⟩
      rcases h3 with h3 | h3
      · exact .inl h3
      · right
        by_cases hlt : e.on < acc.length
        · rw [befores_old r _ _ (by simp; omega)]
          simp only [List.getD_eq_getElem?_getD] at h3 ⊢
          rw [List.getElem?_append_left hlt]; exact h3
        · rw [List.getD_eq_getElem?_getD, List.getElem?_eq_none (by omega)] at h3
          simp at h3
  | o0 :: r, acc, q + 1, o, j, h, hb => by
    rw [befores] at hb ⊢
    exact befores_bit r _ q o j (by simpa using h) (by rw [List.length_append]; simp only [List.length_cons, List.length_nil]; rw [show acc.length + (0 + 1) + q = acc.length + (q + 1) from by omega]; exact hb)
def Closed (bs : List Nat) (S : Nat → Prop) : Prop := ∀ i, S i → ∀ j, (bs.getD i 0).testBit j = true → S j
def Ready (ops : List Oper) (S : Nat → Prop) (i : Nat) : Prop := ∃ o, ops[i]? = some o ∧ ∀ e ∈ o.after.toList, Region.binds .any e = true → S e.on
theorem ready_bits {ops : List Oper} {S : Nat → Prop} {i : Nat} (hS : Closed (befores ops []) S) (hi : Ready ops S i) (j : Nat) (hj : ((befores ops []).getD i 0).testBit j = true) : S j := by
  obtain ⟨o, h1, h2⟩ := hi
  obtain ⟨e, h3, h4, h5⟩ := befores_bit ops [] i o j h1 (by simpa using hj)
  rcases h5 with rfl | h5
  · exact h2 e h3 h4
  · exact hS _ (h2 e h3 h4) j h5
theorem closed_add {ops : List Oper} {S : Nat → Prop} {i : Nat} (hS : Closed (befores ops []) S) (hi : Ready ops S i) : Closed (befores ops []) (fun x => x = i ∨ S x) := by
  intro x hx j hj
  rcases hx with rfl | hx
  · exact .inr (ready_bits hS hi j hj)
  · exact .inr (hS x hx j hj)
theorem edges_prefix {ops : List Oper} : ∀ (l : List Oper) (i : Nat), edgesOk l i = true → ∀ q o, l[q]? = some o → ∀ e ∈ o.after.toList, Region.binds .any e = true → e.on < i + q
  | [], i, _, q, o, h => by simp at h
  | o0 :: r, i, h, q, o, hq => by
    rw [edgesOk, Bool.and_eq_true] at h
    intro e he hb
    cases q with
    | zero =>
      simp at hq
      subst hq
      have := List.all_eq_true.1 h.1 e he
      rw [hb] at this
      simp only [Bool.not_true, Bool.false_or] at this
      have := ble_iff.1 this
      omega
    | succ q =>
      have := edges_prefix (ops := ops) r (i + 1) h.2 q o (by simpa using hq) e he hb
      omega
theorem prefix_closed {ops : List Oper} (h : edgesOk ops 0 = true) (n : Nat) : Closed (befores ops []) (fun x => x < n) := by
  intro i
  induction i using Nat.strongRecOn with
  | _ i ih =>
    intro hi j hj
    cases ho : ops[i]? with
    | none =>
      have hle : (befores ops []).length ≤ i := by rw [befores_len]; simpa using List.getElem?_eq_none_iff.1 ho
      rw [List.getD_eq_getElem?_getD, List.getElem?_eq_none hle] at hj
      simp at hj
    | some o =>
      obtain ⟨e, h3, h4, h5⟩ := befores_bit ops [] i o j ho (by simpa using hj)
      have hlt := edges_prefix (ops := ops) ops 0 h i o ho e h3 h4
      rcases h5 with rfl | h5
      · show e.on < n; omega
      · exact ih e.on (by omega) (by show e.on < n; omega) j h5
theorem prefix_ready {ops : List Oper} (h : edgesOk ops 0 = true) {i : Nat} {o : Oper} (ho : ops[i]? = some o) : Ready ops (fun x => x < i) i :=
  ⟨o, ho, fun e he hb => by have := edges_prefix (ops := ops) ops 0 h i o ho e he hb; omega⟩
theorem chain_closed {bs : List Nat} {S : Nat → Prop} (hS : Closed bs S) : ∀ {es : List Nat}, chain bs es = true → ∀ (q : Nat) (e : Nat), es[q + 1]? = some e → S e → ∃ e', es[q]? = some e' ∧ S e'
  | [], _, q, e, h, _ => by simp at h
  | [_], _, q, e, h, _ => by simp at h
  | a :: b :: r, hc, q, e, h, he => by
    rw [chain, Bool.and_eq_true] at hc
    cases q with
    | zero =>
      simp at h
      subst h
      exact ⟨a, rfl, hS _ he a hc.1⟩
    | succ q =>
      obtain ⟨e', h1, h2⟩ := chain_closed hS hc.2 q e (by simpa using h) he
      exact ⟨e', by simpa using h1, h2⟩
theorem loOf_spec (b : Nat) : ∀ (es : List Nat) (q : Nat), q < loOf b es → ∃ e, es[q]? = some e ∧ b.testBit e = true
  | [], q, h => by simp [loOf] at h
  | e :: r, q, h => by
    rw [loOf] at h
    split at h
    · rename_i hb
      cases q with
      | zero => exact ⟨e, rfl, hb⟩
      | succ q =>
        obtain ⟨e', h1, h2⟩ := loOf_spec b r q (by omega)
        exact ⟨e', by simpa using h1, h2⟩
    · omega
theorem loOf_le (b : Nat) : ∀ es : List Nat, loOf b es ≤ es.length
  | [] => Nat.le_refl _
  | e :: r => by
    rw [loOf]
    have := loOf_le b r
    split <;> simp <;> omega
theorem hiOf_spec (bs : List Nat) (i : Nat) : ∀ (es : List Nat), hiOf bs i es ≤ es.length ∧ ∀ e, es[hiOf bs i es]? = some e → (bs.getD e 0).testBit i = true
  | [] => ⟨Nat.le_refl _, fun e h => by simp [hiOf] at h⟩
  | e :: r => by
    obtain ⟨h1, h2⟩ := hiOf_spec bs i r
    rw [hiOf]
    split
    · rename_i hb; exact ⟨by simp, fun e' h => by simp at h; subst h; exact hb⟩
    · exact ⟨by simp; omega, fun e' h => h2 e' (by simpa using h)⟩
end Ax
end Go.Proofs.YtdfgnoflohfnmaaGreatDoor

/-! Regions that draw their order: the executor's own run, as a row of events. -/

namespace Go.Proofs.YtdfgnoflohfnmaaGreatDoor
namespace Ax
noncomputable def PH : Pend → Hp
  | [] => fun _ => .x
  | e :: r => ovl (PH r) (upd (fun _ => .x) e.2.1 e.2.2)
theorem ovl_assoc (X Y H : Hp) : ovl (ovl X Y) H = ovl X (ovl Y H) := by
  funext b
  by_cases hX : X b = .x
  · by_cases hY : Y b = .x
    · rw [ovl_none (by rw [ovl_none hX]; exact hY), ovl_none hX, ovl_none hY]
    · rw [ovl_some (by rw [ovl_none hX]; exact hY), ovl_none hX, ovl_none hX, ovl_some hY]
  · rw [ovl_some (by rw [ovl_some hX]; exact hX), ovl_some hX, ovl_some hX]
theorem ovl_one {H : Hp} {n : Pn} {o : AO} (ho : o ≠ .x) : ovl (upd (fun _ => .x) n o) H = upd H n o := by
  funext b
  by_cases hb : b = n
  · subst hb; rw [ovl_some (by rw [upd_same]; exact ho), upd_same, upd_same]
  · rw [ovl_none (by rw [upd_other _ _ hb]), upd_other _ _ hb]
theorem ovl_empty (H : Hp) : ovl (fun _ => .x) H = H := by funext b; exact ovl_none rfl
theorem layP_eq (i : Nat) : ∀ (l : Pend) (h : Tr AO), (∀ e ∈ l, e.2.2 ≠ .x) → ∃ h', (∀ k : Pend → Tr AO → R, layP i l h k = k (l.filter fun e => !(Nat.ble e.1 i)) h') ∧ hv h' = ovl (PH (l.filter fun e => Nat.ble e.1 i)) (hv h)
  | [], h, _ => ⟨h, fun k => rfl, (ovl_empty _).symm⟩
  | e :: l, h, hx => by
    have e0 : ∀ k : Pend → Tr AO → R, layP i (e :: l) h k = Bool.rec (layP i l h fun l h => k (e :: l) h) (h.setK .x e.2.2 e.2.1 fun h => layP i l h k) (Nat.ble e.1 i) := fun k => rfl
    cases hb : Nat.ble e.1 i with
    | false =>
      obtain ⟨h', h1, h2⟩ := layP_eq i l h (fun e he => hx e (by simp [he]))
      refine ⟨h', fun k => ?_, ?_⟩
      · rw [e0, hb, List.filter_cons, hb]; exact h1 fun l h => k (e :: l) h
      · rw [List.filter_cons, hb]; exact h2
    | true =>
      obtain ⟨h', h1, h2⟩ := layP_eq i l (h.put .x e.2.2 e.2.1) (fun e he => hx e (by simp [he]))
      refine ⟨h', fun k => ?_, ?_⟩
      · rw [e0, hb, List.filter_cons, hb]
        show (h.setK .x e.2.2 e.2.1 fun h => layP i l h k) = _
        rw [setK_eq]; exact h1 k
      · rw [List.filter_cons, hb, h2, hv_put]
        show ovl _ (upd (hv h) e.2.1 e.2.2) = ovl (ovl _ _) _
        rw [ovl_assoc, ovl_one (hx e (by simp))]
structure St where
  tm : Tr AV
  df : List AD
  h : Tr AO
  n : Pn
  k : Nat
  pd : Pend
structure Ev where
  o : Oper
  lo : Nat
  hi : Nat
  b : Bool
  v : AV
  d : Option Pn
  al : Option AO
  eff : Bool
  s : St
  s' : St
  hl : Tr AO
section
variable {E : Env}
def RSem (E : Env) (o : Oper) (tm : Tr AV) (h : Tr AO) (v : AV) : Prop := ∀ (ρ : Ren) (a : Act) (w : World), VRo ρ tm a o → Rel ρ (hv h) w → ∃ v', VR ρ v v' ∧ (execOp a.eval o).run E.P w = .ok (.value v') w
def PuEv (E : Env) (ck : List Ck) (e : Ev) : Prop :=
  (∀ c, e.o.op ≠ .defer c) ∧ ((∀ h, RSem E e.o e.s.tm h e.v) ∨ (RSem E e.o e.s.tm e.s.h e.v ∧ (e.lo = e.hi ∨ ∃ c ∈ ck, c.lo = e.lo ∧ c.hi = e.hi ∧ c.v = e.v ∧ ∀ h (k : AV → R), Ok (c.f h k) → ∃ v, c.f h k = k v ∧ RSem E e.o e.s.tm h v)) ∨
    ∃ (t : Tmp) (b : Pn) (ob : AO) (hi : Nat), Operand.tmp t ∈ e.o.op.operands ∧ nameOf (e.s.tm.get (.tu []) (pth t)) = some b ∧ (hi, b, ob) ∈ e.s.pd ∧ e.hi ≤ hi ∧ RSem E e.o e.s.tm ((Tr.leaf : Tr AO).put .x ob b) e.v)
theorem pdF_inv {b : Pn} {hi : Nat} (l : Pend) : ∀ {k : AO → R}, Ok (pdF b hi l k) → ∃ hi' ob, (hi', b, ob) ∈ l ∧ hi ≤ hi' ∧ pdF b hi l k = k ob := by
  induction l with
  | nil => exact fun {k} hk => (ok_er hk).elim
  | cons p r ih =>
    intro k hk
    have e : pdF b hi (p :: r) k = Bool.rec (pdF b hi r k) (k p.2.2) (p.2.1.eq b && Nat.ble hi p.1) := rfl
    rw [e] at hk ⊢
    cases hp : (p.2.1.eq b && Nat.ble hi p.1) with
    | true =>
      rw [Bool.and_eq_true, ble_iff] at hp
      obtain ⟨h1, h2⟩ := hp
      obtain ⟨q1, q2, q3⟩ := p
      have := (pn_eq _ _).1 h1
      simp only at this h2
      subst this
      exact ⟨q1, q3, by simp, h2, rfl⟩
    | false =>
      rw [hp] at hk
      obtain ⟨hi', ob, h1, h2, h3⟩ := ih hk
      exact ⟨hi', ob, by simp [h1], h2, h3⟩
def AlEv (E : Env) (e : Ev) (ob : AO) : Prop :=
  (∀ c, e.o.op ≠ .defer c) ∧ own ob ∧ ∀ (ρ : Ren) (a : Act) (w : World), VRo ρ e.s.tm a e.o → ρ e.s.n = none → ∃ v' w' ob' t, (execOp a.eval e.o).run E.P w = .ok (.value v') w' ∧ Newer w w' ob' ∧ t.c = w.heap.size ∧ VR (updR ρ e.s.n t) e.v v' ∧ OR (updR ρ e.s.n t) (some ob') t ob
def EfEv (E : Env) (l : Option Nat) (e : Ev) : Prop :=
  ∀ (ρ : Ren) (a : Act) (w : World), GL E ρ → VRo ρ e.s.tm a e.o → DR E ρ e.s.df a.defers → Rel ρ (hv e.hl) w → Fresh ρ (hv e.hl) e.s.n e.s'.n →
    ∀ (next : Act → World → Prop) (Q : Exit → Act → World → Prop), (∀ ρ' v' w' ds', Step ρ (hv e.hl) w e.s.n ρ' (hv e.s'.h) w' e.s'.n → VR ρ' e.v v' → DR E ρ' e.s'.df ds' → next (({ a with defers := ds' } : Act).put e.o.dst v') w') → e.o.wpIn (FW l) 0 E.P a w next Q
structure EvOK (E : Env) (l : Option Nat) (ops : Array Oper) (nt : Nat) (ck : List Ck) (e : Ev) : Prop where
  gd : ∀ (ρ : Ren) (tmps : Array Value), (∀ t, GdT ops e.o t → VR ρ (e.s.tm.get (.tu []) (pth t)) (tmps.getD t undef)) → Region.wanted e.o (yielded ops tmps) = e.b
  dst : dstOf nt e.o = some e.d
  gok : gOk E e.o = true
  tm : e.s'.tm = putD e.d e.v e.s.tm
  le : e.s.n.nat ≤ e.s'.n.nat
  nb : e.b = false → e.v = .tu [] ∧ e.al = none ∧ e.s'.n = e.s.n ∧ e.s'.df = e.s.df
  ne : e.eff = false → e.s'.k = e.s.k ∧ e.s'.h = e.s.h ∧ e.s'.df = e.s.df
  na : e.eff = false → e.al = none → e.s'.n = e.s.n ∧ e.s'.pd = e.s.pd
  ef : e.eff = true → e.al = none ∧ e.s'.k = e.s.k + 1 ∧ e.s'.pd = (e.s.pd.filter fun p => !(Nat.ble p.1 e.s.k)) ∧ hv e.hl = ovl (PH (e.s.pd.filter fun p => Nat.ble p.1 e.s.k)) (hv e.s.h)
  efb : e.eff = true → e.b = false → e.s'.h = e.hl
  pu : e.b = true → e.eff = false → e.al = none → PuEv E ck e
  al : ∀ ob, e.al = some ob → e.b = true ∧ e.eff = false ∧ e.s'.n = e.s.n.succ ∧ e.s'.pd = (e.hi, e.s.n, ob) :: e.s.pd ∧ AlEv E e ob
  efs : e.b = true → e.eff = true → EfEv E l e
def Links : List Ev → St → St → Prop
  | [], s, s' => s = s'
  | e :: r, s, s' => e.s = s ∧ Links r e.s' s'
def stOf (tm : Tr AV) (df : List AD) (h : Tr AO) (n : Pn) (s : Dr) : St := { tm, df, h, n, k := s.kc, pd := s.pd }
theorem PuEv.mono {ck ck' : List Ck} (h : ∀ c ∈ ck, c ∈ ck') {e : Ev} (k : PuEv E ck e) : PuEv E ck' e := by
  refine ⟨k.1, ?_⟩
  rcases k.2 with k | ⟨h1, h3⟩ | k
  · exact .inl k
  · refine .inr (.inl ⟨h1, ?_⟩)
    rcases h3 with h3 | ⟨c, g1, g2⟩
    · exact .inl h3
    · exact .inr ⟨c, h c g1, g2⟩
  · exact .inr (.inr k)
theorem EvOK.mono {l : Option Nat} {ops : Array Oper} {nt : Nat} {ck ck' : List Ck} (h : ∀ c ∈ ck, c ∈ ck') {e : Ev} (k : EvOK E l ops nt ck e) : EvOK E l ops nt ck' e :=
  { k with pu := fun h1 h2 h3 => (k.pu h1 h2 h3).mono h }
def WfC (c : Ck) : Prop := ∀ h (k : AV → R), Ok (c.f h k) → ∃ v, c.f h k = k v
structure Bk2 (s s1 : Dr) (h : Tr AO) (eff : Bool) : Prop where
  ck : ∀ c ∈ s.ck, c ∈ s1.ck
  no : eff = false → s1.sn = s.sn ∧ s1.kc = s.kc
  ye : eff = true → s1.sn = h :: s.sn ∧ s1.kc = s.kc + 1
  pd : (∀ p ∈ s.pd, own p.2.2) → ∀ p ∈ s1.pd, own p.2.2
  wf : (∀ c ∈ s.ck, WfC c) → ∀ c ∈ s1.ck, WfC c
theorem runD1_inv {o : Oper} {ops : Array Oper} {nt : Nat} {c : DO} (hc : CS E o c.c.c) {l : Option Nat} (hl : (∃ f, c.c.c = .de f) → l = none) {B : Bd} (hB : BdOK E B) {tm : Tr AV} {df : List AD} {h : Tr AO} {n : Pn} {s : Dr} {K : KD} (hown : ∀ p ∈ s.pd, own p.2.2)
    (hgd : ∀ (ρ : Ren) (tmps : Array Value), (∀ t, GdT ops o t → VR ρ (tm.get (.tu []) (pth t)) (tmps.getD t undef)) → Region.wanted o (yielded ops tmps) = true) (hdst : dstOf nt o = some c.c.d) (hgok : gOk E o = true) (hpn : ∀ t, c.pn = some t → Operand.tmp t ∈ o.op.operands) (hk : Ok (runD1 c B tm df h n s K)) :
    ∃ e tm1 df1 h1 n1 s1, runD1 c B tm df h n s K = K tm1 df1 h1 n1 s1 ∧ e.o = o ∧ e.s = stOf tm df h n s ∧ e.s' = stOf tm1 df1 h1 n1 s1 ∧ e.lo = c.lo ∧ e.hi = c.hi ∧ e.eff = isEff c.c.c ∧ EvOK E l ops nt s1.ck e ∧ Bk2 s s1 h (isEff c.c.c) := by
  obtain ⟨co, lo, hi, pn⟩ := c
  obtain ⟨g, d, c⟩ := co
  simp only at hc hl hdst hpn hk ⊢
  have hex : ∀ {ro : Option Nat} {ρ : Operand → Value}, (∀ c, o.op ≠ .defer c) → o.semAt ro ρ = execOp ρ o := fun h => Oper.semAt_eq _ _ _ h
  cases c with
  | pu f =>
    obtain ⟨hnd, hs⟩ := hc
    have e : runD1 ⟨⟨g, d, .pu f⟩, lo, hi, pn⟩ B tm df h n s K = f tm fun v => put d v tm fun tm => K tm df h n s := rfl
    rw [e] at hk ⊢
    obtain ⟨v, h1, h2⟩ := hs tm _ hk
    rw [h1, put_eq]
    refine ⟨⟨o, lo, hi, true, v, d, none, false, stOf tm df h n s, stOf (putD d v tm) df h n s, h⟩, _, _, _, _, _, rfl, rfl, rfl, rfl, rfl, rfl, rfl, ?_, ⟨fun _ h => h, fun _ => ⟨rfl, rfl⟩, fun h => (by cases h), fun h => h, fun h => h⟩⟩
    exact { gd := hgd, dst := hdst, gok := hgok, tm := rfl, le := Nat.le_refl _, nb := fun h => (by cases h), ne := fun _ => ⟨rfl, rfl, rfl⟩, na := fun _ _ => ⟨rfl, rfl⟩, ef := fun h => (by cases h), efb := fun h => (by cases h),
            pu := fun _ _ _ => ⟨hnd, .inl fun _ ρ a w hr _ => h2 ρ a w hr⟩, al := fun ob h => (by cases h), efs := fun _ h => (by cases h) }
  | rd f =>
    obtain ⟨hnd, hs⟩ := hc
    cases pn with
    | some t =>
      have e : runD1 ⟨⟨g, d, .rd f⟩, lo, hi, some t⟩ B tm df h n s K = tm.getK (.tu []) (pth t) fun v0 => Option.rec (.er 253) (fun b => pdF b hi s.pd fun ob => (Tr.leaf : Tr AO).setK .x ob b fun hp => f tm hp fun v => put d v tm fun tm' => K tm' df h n s) (nameOf v0) := rfl
      rw [e] at hk ⊢
      rw [getK_eq] at hk ⊢
      cases hnm : nameOf (tm.get (.tu []) (pth t)) with
      | none => rw [hnm] at hk; exact (ok_er hk).elim
      | some b =>
        rw [hnm] at hk
        simp only at hk ⊢
        obtain ⟨hi', ob, p1, p2, p3⟩ := pdF_inv s.pd hk
        rw [p3] at hk ⊢
        rw [setK_eq] at hk ⊢
        obtain ⟨v, h1, h2⟩ := hs tm _ _ hk
        rw [h1, put_eq]
        refine ⟨⟨o, lo, hi, true, v, d, none, false, stOf tm df h n s, stOf (putD d v tm) df h n s, h⟩, _, _, _, _, _, rfl, rfl, rfl, rfl, rfl, rfl, rfl, ?_, ⟨fun _ h => h, fun _ => ⟨rfl, rfl⟩, fun h => (by cases h), fun h => h, fun h => h⟩⟩
        exact { gd := hgd, dst := hdst, gok := hgok, tm := rfl, le := Nat.le_refl _, nb := fun h => (by cases h), ne := fun _ => ⟨rfl, rfl, rfl⟩, na := fun _ _ => ⟨rfl, rfl⟩, ef := fun h => (by cases h), efb := fun h => (by cases h),
                pu := fun _ _ _ => ⟨hnd, .inr (.inr ⟨t, b, ob, hi', hpn t rfl, hnm, p1, p2, h2⟩)⟩, al := fun ob h => (by cases h), efs := fun _ h => (by cases h) }
    | none =>
    have e : runD1 ⟨⟨g, d, .rd f⟩, lo, hi, none⟩ B tm df h n s K = f tm h fun v => put d v tm fun tm' => K tm' df h n (Bool.rec { s with ck := { lo := lo, hi := hi, f := f tm, v } :: s.ck } s (Nat.beq lo hi)) := rfl
    rw [e] at hk ⊢
    obtain ⟨v, h1, h2⟩ := hs tm h _ hk
    rw [h1, put_eq]
    cases hlh : Nat.beq lo hi with
    | true =>
      refine ⟨⟨o, lo, hi, true, v, d, none, false, stOf tm df h n s, stOf (putD d v tm) df h n s, h⟩, _, _, _, _, _, rfl, rfl, rfl, rfl, rfl, rfl, rfl, ?_, ⟨fun _ h => h, fun _ => ⟨rfl, rfl⟩, fun h => (by cases h), fun h => h, fun h => h⟩⟩
      exact { gd := hgd, dst := hdst, gok := hgok, tm := rfl, le := Nat.le_refl _, nb := fun h => (by cases h), ne := fun _ => ⟨rfl, rfl, rfl⟩, na := fun _ _ => ⟨rfl, rfl⟩, ef := fun h => (by cases h), efb := fun h => (by cases h),
              pu := fun _ _ _ => ⟨hnd, .inr (.inl ⟨h2, .inl (beq_iff.1 hlh)⟩)⟩, al := fun ob h => (by cases h), efs := fun _ h => (by cases h) }
    | false =>
      refine ⟨⟨o, lo, hi, true, v, d, none, false, stOf tm df h n s, stOf (putD d v tm) df h n { s with ck := { lo := lo, hi := hi, f := f tm, v } :: s.ck }, h⟩, _, _, _, _, { s with ck := { lo := lo, hi := hi, f := f tm, v } :: s.ck }, rfl, rfl, rfl, rfl, rfl, rfl, rfl, ?_, ⟨fun _ h => by simp [h], fun _ => ⟨rfl, rfl⟩, fun h => (by cases h), fun h => h, fun hw c hc => ?_⟩⟩
      · exact { gd := hgd, dst := hdst, gok := hgok, tm := rfl, le := Nat.le_refl _, nb := fun h => (by cases h), ne := fun _ => ⟨rfl, rfl, rfl⟩, na := fun _ _ => ⟨rfl, rfl⟩, ef := fun h => (by cases h), efb := fun h => (by cases h),
                pu := fun _ _ _ => ⟨hnd, .inr (.inl ⟨h2, .inr ⟨{ lo := lo, hi := hi, f := f tm, v }, by simp, rfl, rfl, rfl, fun h k hk => hs tm h k hk⟩⟩)⟩, al := fun ob h => (by cases h), efs := fun _ h => (by cases h) }
      · rcases List.mem_cons.1 hc with rfl | hc
        · exact fun h k hk => by obtain ⟨v, q, _⟩ := hs tm h k hk; exact ⟨v, q⟩
        · exact hw c hc
  | al f =>
    obtain ⟨hnd, hs⟩ := hc
    have e : runD1 ⟨⟨g, d, .al f⟩, lo, hi, pn⟩ B tm df h n s K = f tm n fun v b => put d v tm fun tm => K tm df h n.succ { s with pd := (hi, n, b) :: s.pd } := rfl
    rw [e] at hk ⊢
    obtain ⟨v, b, h1, hob, h2⟩ := hs tm n _ hk
    rw [h1, put_eq]
    refine ⟨⟨o, lo, hi, true, v, d, some b, false, stOf tm df h n s, stOf (putD d v tm) df h n.succ { s with pd := (hi, n, b) :: s.pd }, h⟩, _, _, _, _, _, rfl, rfl, rfl, rfl, rfl, rfl, rfl, ?_, ⟨fun _ h => h, fun _ => ⟨rfl, rfl⟩, fun h => (by cases h), fun hp p hpm => ?_, fun h => h⟩⟩
    · exact { gd := hgd, dst := hdst, gok := hgok, tm := rfl, le := (by show n.nat ≤ n.succ.nat; rw [nat_succ]; omega), nb := fun h => (by cases h), ne := fun _ => ⟨rfl, rfl, rfl⟩, na := fun _ h => (by cases h), ef := fun h => (by cases h), efb := fun h => (by cases h),
              pu := fun _ _ h => (by cases h), al := fun ob h => (by injection h with h; subst h; exact ⟨rfl, rfl, rfl, rfl, hnd, hob, h2⟩), efs := fun _ h => (by cases h) }
    · rcases List.mem_cons.1 hpm with rfl | hpm
      · exact hob
      · exact hp p hpm
  | ef f =>
    obtain ⟨hnd, hs⟩ := hc
    have e : runD1 ⟨⟨g, d, .ef f⟩, lo, hi, pn⟩ B tm df h n s K = layP s.kc s.pd h fun pd h' => oneK (f B tm h' n pkO) fun v h'' n => put d v tm fun tm => K tm df h'' n (bump s h pd) := rfl
    rw [e] at hk ⊢
    obtain ⟨hh, h1, h2⟩ := layP_eq s.kc s.pd h (fun p hp => (hown p hp).1)
    rw [h1] at hk ⊢
    obtain ⟨v, h', n', h3, hle, h4⟩ := (EfS.alone ⟨hnd, hs⟩).2 B hB tm hh n _ hk
    simp only at h3
    rw [h3, put_eq]
    refine ⟨⟨o, lo, hi, true, v, d, none, true, stOf tm df h n s, stOf (putD d v tm) df h' n' (bump s h (s.pd.filter fun e => !(Nat.ble e.1 s.kc))), hh⟩, _, _, _, _, _, rfl, rfl, rfl, rfl, rfl, rfl, rfl, ?_, ⟨fun _ h => h, fun h => (by cases h), fun _ => ⟨rfl, rfl⟩, fun hp p hpm => hp p (List.mem_filter.1 hpm).1, fun h => h⟩⟩
    exact { gd := hgd, dst := hdst, gok := hgok, tm := rfl, le := hle, nb := fun h => (by cases h), ne := fun h => (by cases h), na := fun h => (by cases h), ef := fun _ => ⟨rfl, rfl, rfl, h2⟩, efb := fun _ h => (by cases h),
            pu := fun _ h => (by cases h), al := fun ob h => (by cases h),
            efs := fun _ _ ρ a w hg hr hd hR hF next Q hn => ⟨fun _ _ => trivial, by
              rw [hex hnd]
              exact h4 ρ a w hg hr hR hF l next Q fun ρ' v' w' st r => hn ρ' v' w' a.defers st r (hd.mono st.ext)⟩ }
  | de f =>
    obtain ⟨hdf, hs⟩ := hc
    have e : runD1 ⟨⟨g, d, .de f⟩, lo, hi, pn⟩ B tm df h n s K = layP s.kc s.pd h fun pd h' => f tm fun a => put d (.tu []) tm fun tm => K tm (a :: df) h' n (bump s h pd) := rfl
    rw [e] at hk ⊢
    obtain ⟨hh, h1, h2⟩ := layP_eq s.kc s.pd h (fun p hp => (hown p hp).1)
    rw [h1] at hk ⊢
    obtain ⟨ad, h3, h4⟩ := hs tm _ hk
    rw [h3, put_eq]
    obtain rfl := hl ⟨f, rfl⟩
    refine ⟨⟨o, lo, hi, true, .tu [], d, none, true, stOf tm df h n s, stOf (putD d (.tu []) tm) (ad :: df) hh n (bump s h (s.pd.filter fun e => !(Nat.ble e.1 s.kc))), hh⟩, _, _, _, _, _, rfl, rfl, rfl, rfl, rfl, rfl, rfl, ?_, ⟨fun _ h => h, fun h => (by cases h), fun _ => ⟨rfl, rfl⟩, fun hp p hpm => hp p (List.mem_filter.1 hpm).1, fun h => h⟩⟩
    exact { gd := hgd, dst := hdst, gok := hgok, tm := rfl, le := Nat.le_refl _, nb := fun h => (by cases h), ne := fun h => (by cases h), na := fun h => (by cases h), ef := fun _ => ⟨rfl, rfl, rfl, h2⟩, efb := fun _ h => (by cases h),
            pu := fun _ h => (by cases h), al := fun ob h => (by cases h),
            efs := fun _ _ ρ a w hg hr hd hR hF next Q hn => ⟨fun _ _ => trivial, by
              obtain ⟨dd, g1, g2⟩ := h4 ρ a w hr
              show o.uponIn (FW none) 0 E.P a next Q ((execOp a.eval o).run E.P w)
              rw [g1]
              refine hn ρ undef w (dd :: a.defers) (Step.refl hR) (VR.undef ρ) ?_
              cases ad with
              | fn g us => exact ⟨g2.1, hd⟩
              | mk b => exact ⟨g2.1, hd⟩⟩ }
  | no c => exact (ok_er hk).elim
theorem dNo_inv {o : Oper} {ops : Array Oper} {nt : Nat} {c : DO} {l : Option Nat} {tm : Tr AV} {df : List AD} {h : Tr AO} {n : Pn} {s : Dr} {K : KD} (hown : ∀ p ∈ s.pd, own p.2.2)
    (hgd : ∀ (ρ : Ren) (tmps : Array Value), (∀ t, GdT ops o t → VR ρ (tm.get (.tu []) (pth t)) (tmps.getD t undef)) → Region.wanted o (yielded ops tmps) = false) (hdst : dstOf nt o = some c.c.d) (hgok : gOk E o = true) :
    ∃ e tm1 df1 h1 n1 s1, dNo c tm df h n s K = K tm1 df1 h1 n1 s1 ∧ e.o = o ∧ e.s = stOf tm df h n s ∧ e.s' = stOf tm1 df1 h1 n1 s1 ∧ e.lo = c.lo ∧ e.hi = c.hi ∧ e.eff = isEff c.c.c ∧ EvOK E l ops nt s1.ck e ∧ Bk2 s s1 h (isEff c.c.c) := by
  unfold dNo
  rw [put_eq]
  cases hee : isEff c.c.c with
  | false =>
    refine ⟨⟨o, c.lo, c.hi, false, .tu [], c.c.d, none, false, stOf tm df h n s, stOf (putD c.c.d (.tu []) tm) df h n s, h⟩, _, _, _, _, _, rfl, rfl, rfl, rfl, rfl, rfl, rfl, ?_, ⟨fun _ h => h, fun _ => ⟨rfl, rfl⟩, fun h => (by cases h), fun h => h, fun h => h⟩⟩
    exact { gd := hgd, dst := hdst, gok := hgok, tm := rfl, le := Nat.le_refl _, nb := fun _ => ⟨rfl, rfl, rfl, rfl⟩, ne := fun _ => ⟨rfl, rfl, rfl⟩, na := fun _ _ => ⟨rfl, rfl⟩, ef := fun h => (by cases h), efb := fun h => (by cases h),
            pu := fun h => (by cases h), al := fun ob h => (by cases h), efs := fun h => (by cases h) }
  | true =>
    obtain ⟨hh, h1, h2⟩ := layP_eq s.kc s.pd h (fun p hp => (hown p hp).1)
    simp only [h1]
    refine ⟨⟨o, c.lo, c.hi, false, .tu [], c.c.d, none, true, stOf tm df h n s, stOf (putD c.c.d (.tu []) tm) df hh n (bump s h (s.pd.filter fun e => !(Nat.ble e.1 s.kc))), hh⟩, _, _, _, _, _, rfl, rfl, rfl, rfl, rfl, rfl, rfl, ?_, ⟨fun _ h => h, fun h => (by cases h), fun _ => ⟨rfl, rfl⟩, fun hp p hpm => hp p (List.mem_filter.1 hpm).1, fun h => h⟩⟩
    exact { gd := hgd, dst := hdst, gok := hgok, tm := rfl, le := Nat.le_refl _, nb := fun _ => ⟨rfl, rfl, rfl, rfl⟩, ne := fun h => (by cases h), na := fun h => (by cases h), ef := fun _ => ⟨rfl, rfl, rfl, h2⟩, efb := fun _ _ => rfl,
            pu := fun h => (by cases h), al := fun ob h => (by cases h), efs := fun h => (by cases h) }
theorem drwL_inv (hE : EOK E) {ix : FuncId → Option Ix} (hI : IxOK E ix) {B : Bd} (hB : BdOK E B) {nt : Nat} {ro : Bool} {l : Option Nat} (hl : ro = false → l = none) {ops : Array Oper} {pf : Nat → Option Tmp} {bs es : List Nat} :
    ∀ (rest : List Oper) (i : Nat) {tm : Tr AV} {df : List AD} {h : Tr AO} {n : Pn} {s : Dr} {K : KD}, Ok (drwL (dosOf pf bs es (cosOf E ix nt ro ops.toList rest) i) B tm df h n s K) → (∀ p ∈ s.pd, own p.2.2) → s.sn.length = s.kc → (∀ c ∈ s.ck, WfC c) → (∀ q o t, rest[q]? = some o → pf (i + q) = some t → Operand.tmp t ∈ o.op.operands) →
    ∃ evs tm' df' h' n' s', drwL (dosOf pf bs es (cosOf E ix nt ro ops.toList rest) i) B tm df h n s K = K tm' df' h' n' s' ∧ Links evs (stOf tm df h n s) (stOf tm' df' h' n' s') ∧ evs.map (·.o) = rest ∧
      (∀ q ev, evs[q]? = some ev → ev.lo = loOf (bs.getD (i + q) 0) es ∧ ev.hi = hiOf bs (i + q) es ∧ ev.eff = isEff (coOf E ix nt ro ops.toList ev.o).c) ∧ (∀ c ∈ s.ck, c ∈ s'.ck) ∧ (∀ ev ∈ evs, EvOK E l ops nt s'.ck ev) ∧
      (∀ c ∈ s'.ck, WfC c) ∧ (∀ p ∈ s'.pd, own p.2.2) ∧ s'.sn.length = s'.kc ∧ (∃ t, s'.sn.reverse ++ [h'] = s.sn.reverse ++ h :: t) ∧ ∀ ev ∈ evs, (s'.sn.reverse ++ [h'])[ev.s.k]? = some ev.s.h := by
  intro rest
  induction rest with
  | nil =>
    intro i tm df h n s K _ hown hsn hwf _
    exact ⟨[], tm, df, h, n, s, rfl, rfl, rfl, fun q ev h => by simp at h, fun _ h => h, by simp, hwf, hown, hsn, ⟨[], rfl⟩, by simp⟩
  | cons o rest ih =>
    intro i tm df h n s K hk hown hsn hwf hpf
    have e : drwL (dosOf pf bs es (cosOf E ix nt ro ops.toList (o :: rest)) i) B tm df h n s K =
        gd (coOf E ix nt ro ops.toList o).g tm
          (runD1 { c := coOf E ix nt ro ops.toList o, lo := loOf (bs.getD i 0) es, hi := hiOf bs i es, pn := pf i } B tm df h n s fun tm df h n s => drwL (dosOf pf bs es (cosOf E ix nt ro ops.toList rest) (i + 1)) B tm df h n s K)
          (dNo { c := coOf E ix nt ro ops.toList o, lo := loOf (bs.getD i 0) es, hi := hiOf bs i es, pn := pf i } tm df h n s fun tm df h n s => drwL (dosOf pf bs es (cosOf E ix nt ro ops.toList rest) (i + 1)) B tm df h n s K) := rfl
    rw [e] at hk ⊢
    rcases coOf_inv (E := E) (ix := ix) (nt := nt) (ro := ro) (ops := ops.toList) (o := o) with ⟨c, hc⟩ | ⟨g, d, hgu, hds, hgo, hc⟩
    · rw [hc] at hk; exact (ok_er hk).elim
    · have hstep : ∃ ev tm1 df1 h1 n1 s1, gd (coOf E ix nt ro ops.toList o).g tm
            (runD1 { c := coOf E ix nt ro ops.toList o, lo := loOf (bs.getD i 0) es, hi := hiOf bs i es, pn := pf i } B tm df h n s fun tm df h n s => drwL (dosOf pf bs es (cosOf E ix nt ro ops.toList rest) (i + 1)) B tm df h n s K)
            (dNo { c := coOf E ix nt ro ops.toList o, lo := loOf (bs.getD i 0) es, hi := hiOf bs i es, pn := pf i } tm df h n s fun tm df h n s => drwL (dosOf pf bs es (cosOf E ix nt ro ops.toList rest) (i + 1)) B tm df h n s K) =
            drwL (dosOf pf bs es (cosOf E ix nt ro ops.toList rest) (i + 1)) B tm1 df1 h1 n1 s1 K ∧ ev.o = o ∧ ev.s = stOf tm df h n s ∧ ev.s' = stOf tm1 df1 h1 n1 s1 ∧ ev.lo = loOf (bs.getD i 0) es ∧ ev.hi = hiOf bs i es ∧
            ev.eff = isEff (coOf E ix nt ro ops.toList o).c ∧ EvOK E l ops nt s1.ck ev ∧ Bk2 s s1 h (isEff (coOf E ix nt ro ops.toList o).c) := by
        rw [hc] at hk ⊢
        obtain ⟨b, h1, h2⟩ := gd_inv hgu hk
        rw [h1] at hk ⊢
        cases b with
        | true =>
          simp only [if_true] at hk ⊢
          exact runD1_inv (c := { c := { g, d, c := noDef ro (cop E ix o) }, lo := loOf (bs.getD i 0) es, hi := hiOf bs i es, pn := pf i }) (noDef_cs (cop_cs hE hI)) (noDef_de hl) hB hown h2 hds hgo (fun t ht => hpf 0 o t rfl ht) hk
        | false =>
          simp only [Bool.false_eq_true, if_false] at hk ⊢
          exact dNo_inv (c := { c := { g, d, c := noDef ro (cop E ix o) }, lo := loOf (bs.getD i 0) es, hi := hiOf bs i es, pn := pf i }) hown h2 hds hgo
      obtain ⟨ev, tm1, df1, h1, n1, s1, g1, g2, g3, g4, g5, g6, g7, g8, g9⟩ := hstep
      rw [g1] at hk ⊢
      have hsn1 : s1.sn.length = s1.kc ∧ (∃ t, s1.sn.reverse ++ [h1] = s.sn.reverse ++ h :: t) := by
        cases hee : isEff (coOf E ix nt ro ops.toList o).c with
        | false =>
          obtain ⟨q1, q2⟩ := g9.no hee
          have hh : h1 = h := by
            have := (g8.ne (by rw [g7, hee])).2.1
            rw [g3, g4] at this
            exact this
          rw [q1, q2, hh]
          exact ⟨hsn, [], rfl⟩
        | true =>
          obtain ⟨q1, q2⟩ := g9.ye hee
          rw [q1, q2]
          exact ⟨by simp [hsn], [h1], by simp⟩
      obtain ⟨evs, tm', df', h', n', s', k1, k2, k3, k4, k5, k6, k6', k7, k8, ⟨t2, k9⟩, k10⟩ := ih (i + 1) hk (g9.pd hown) hsn1.1 (g9.wf hwf) (fun q o2 t hq ht => hpf (q + 1) o2 t (by simpa using hq) (by rw [show i + (q + 1) = i + 1 + q from by omega]; exact ht))
      obtain ⟨t1, p1⟩ := hsn1.2
      have hfin : ∃ t, s'.sn.reverse ++ [h'] = s.sn.reverse ++ h :: t := by
        refine ⟨t1 ++ t2, ?_⟩
        rw [k9]
        have : s1.sn.reverse ++ h1 :: t2 = (s1.sn.reverse ++ [h1]) ++ t2 := by simp
        rw [this, p1]
        simp
      refine ⟨ev :: evs, tm', df', h', n', s', k1, ⟨g3, by rw [g4]; exact k2⟩, by rw [List.map_cons, k3, g2], ?_, fun c hc => k5 c (g9.ck c hc), ?_, k6', k7, k8, hfin, ?_⟩
      · intro q e2 hq
        cases q with
        | zero => simp at hq; subst hq; exact ⟨g5, g6, by rw [g2]; exact g7⟩
        | succ q =>
          have := k4 q e2 (by simpa using hq)
          rw [show i + 1 + q = i + (q + 1) from by omega] at this
          exact this
      · intro e2 he
        rcases List.mem_cons.1 he with rfl | he
        · exact g8.mono k5
        · exact k6 e2 he
      · intro e2 he
        rcases List.mem_cons.1 he with rfl | he
        · obtain ⟨t, ht⟩ := hfin
          rw [ht, g3]
          show (s.sn.reverse ++ h :: t)[s.kc]? = some h
          rw [← hsn, List.getElem?_append_right (by simp)]
          simp
        · exact k10 e2 he
end
end Ax
end Go.Proofs.YtdfgnoflohfnmaaGreatDoor

/-! Regions that draw their order: what is read within a window; rows of events. -/

namespace Go.Proofs.YtdfgnoflohfnmaaGreatDoor
namespace Ax
section
variable {E : Env} {ρ : Ren}
theorem ieqK_eq {k q : IntKind} (h : ieqK k q = true) : k = q := kidx_inj h
theorem fneq_eq {a b : Fn} (h : fneq a b = true) : a = b := by
  unfold fneq at h
  split at h
  · split at h
    · rw [beq_iff.1 h]
    · cases h
  · cases h
theorem aeq1_eq {u v : AV} (h : aeq1 u v = true) : u = v := by
  unfold aeq1 at h
  split at h <;> (try (split at h)) <;> (try (cases h; done)) <;> (try rfl) <;>
    (try simp only [Bool.and_eq_true, beq_iff, pn_eq, beq_eq, ieq_eq, seq_eq, beq_iff_eq] at h) <;>
    first
      | (subst h; rfl)
      | (obtain ⟨h1, rfl⟩ := h; have := ieqK_eq h1; subst this; rfl)
      | (obtain ⟨rfl, rfl⟩ := h; rfl)
      | (obtain ⟨⟨⟨⟨rfl, rfl⟩, rfl⟩, rfl⟩, rfl⟩ := h; rfl)
      | (obtain ⟨⟨rfl, rfl⟩, rfl⟩ := h; rfl)
      | (obtain ⟨⟨rfl, h1⟩, rfl⟩ := h; have := ieqK_eq h1; subst this; rfl)
      | (rw [fneq_eq h])
theorem aeqs_eq (x : List AV) : ∀ {y : List AV}, aeqs x y = true → x = y := by
  induction x with
  | nil => intro y h; cases y with
    | nil => rfl
    | cons b y => exact absurd h (by simp [aeqs])
  | cons a x ih => intro y h; cases y with
    | nil => exact absurd h (by simp [aeqs])
    | cons b y =>
      have e : aeqs (a :: x) (b :: y) = Bool.rec false (aeqs x y) (aeq1 a b) := rfl
      rw [e] at h
      cases hab : aeq1 a b with
      | false => rw [hab] at h; cases h
      | true => rw [hab] at h; rw [aeq1_eq hab, ih h]
theorem aeq_eq {u v : AV} (h : aeq u v = true) : u = v := by
  unfold aeq at h
  split at h
  · split at h
    · rw [aeqs_eq _ h]
    · cases h
  · split at h
    · rw [aeqs_eq _ h]
    · cases h
  · exact aeq1_eq h
theorem ckWin_inv {c : Ck} (hw : WfC c) : ∀ (l : List (Tr AO)) (i : Nat) {k : Unit → R}, Ok (ckWin c l i k) → ckWin c l i k = k () ∧ ∀ S : Tr AO → AV → Prop, (∀ h (k : AV → R), Ok (c.f h k) → ∃ v, c.f h k = k v ∧ S h v) → ∀ q h, l[q]? = some h → c.lo ≤ i + q → i + q ≤ c.hi → S h c.v
  | [], i, k, _ => ⟨rfl, fun S hS q h hq => by simp at hq⟩
  | h0 :: l, i, k, hk => by
    have e : ckWin c (h0 :: l) i k = Bool.rec (ckWin c l (i + 1) k) (c.f h0 fun v => ifK (aeq v c.v) 250 fun _ => ckWin c l (i + 1) k) (Nat.ble c.lo i && Nat.ble i c.hi) := rfl
    rw [e] at hk ⊢
    cases hin : (Nat.ble c.lo i && Nat.ble i c.hi) with
    | false =>
      rw [hin] at hk
      obtain ⟨h1, h2⟩ := ckWin_inv hw l (i + 1) hk
      refine ⟨h1, fun S hS q h hq hlo hhi => ?_⟩
      cases q with
      | zero =>
        have : (Nat.ble c.lo i && Nat.ble i c.hi) = true := by rw [Bool.and_eq_true, ble_iff, ble_iff]; omega
        rw [this] at hin; cases hin
      | succ q => exact h2 S hS q h (by simpa using hq) (by omega) (by omega)
    | true =>
      rw [hin] at hk
      simp only at hk ⊢
      have hk0 := hk
      obtain ⟨v, h1⟩ := hw h0 _ hk
      rw [h1] at hk ⊢
      obtain ⟨h2, h3⟩ := ifK_inv hk
      rw [h3] at hk ⊢
      obtain ⟨h4, h5⟩ := ckWin_inv hw l (i + 1) hk
      refine ⟨h4, fun S hS q h hq hlo hhi => ?_⟩
      cases q with
      | zero =>
        simp at hq
        subst hq
        obtain ⟨v2, g1, g2⟩ := hS h0 _ hk0
        rw [g1] at hk0
        rw [← aeq_eq (ifK_inv hk0).1]
        exact g2
      | succ q => exact h5 S hS q h (by simpa using hq) (by omega) (by omega)
theorem ckAll_inv (hs : List (Tr AO)) : ∀ (l : List Ck) {k : Unit → R}, (∀ c ∈ l, WfC c) → Ok (ckAll l hs k) → ckAll l hs k = k () ∧
    ∀ c ∈ l, ∀ S : Tr AO → AV → Prop, (∀ h (k : AV → R), Ok (c.f h k) → ∃ v, c.f h k = k v ∧ S h v) → ∀ q h, hs[q]? = some h → c.lo ≤ q → q ≤ c.hi → S h c.v
  | [], k, _, hk => ⟨rfl, by simp⟩
  | c :: l, k, hw, hk => by
    have e : ckAll (c :: l) hs k = ckWin c hs 0 fun _ => ckAll l hs k := rfl
    rw [e] at hk ⊢
    obtain ⟨h1, h2⟩ := ckWin_inv (hw c (by simp)) hs 0 hk
    rw [h1] at hk ⊢
    obtain ⟨h3, h4⟩ := ckAll_inv hs l (fun c hc => hw c (by simp [hc])) hk
    refine ⟨h3, fun c' hc S hS q h hq hlo hhi => ?_⟩
    rcases List.mem_cons.1 hc with rfl | hc
    · exact h2 S hS q h hq (by omega) (by omega)
    · exact h4 c' hc S hS q h hq hlo hhi
theorem pu_sem {ck : List Ck} {e : Ev} (hp : (∀ h, RSem E e.o e.s.tm h e.v) ∨ (RSem E e.o e.s.tm e.s.h e.v ∧ (e.lo = e.hi ∨ ∃ c ∈ ck, c.lo = e.lo ∧ c.hi = e.hi ∧ c.v = e.v ∧ ∀ h (k : AV → R), Ok (c.f h k) → ∃ v, c.f h k = k v ∧ RSem E e.o e.s.tm h v))) {F : List (Tr AO)} (hF : F[e.s.k]? = some e.s.h) (hin : e.lo ≤ e.s.k ∧ e.s.k ≤ e.hi)
    (hck : ∀ c ∈ ck, ∀ S : Tr AO → AV → Prop, (∀ h (k : AV → R), Ok (c.f h k) → ∃ v, c.f h k = k v ∧ S h v) → ∀ q h, F[q]? = some h → c.lo ≤ q → q ≤ c.hi → S h c.v)
    {q : Nat} {h : Tr AO} (hq : F[q]? = some h) (h1 : e.lo ≤ q) (h2 : q ≤ e.hi) : RSem E e.o e.s.tm h e.v := by
  rcases hp with g | ⟨g1, g | ⟨c, g2, g3, g4, g5, g6⟩⟩
  · exact g h
  · have : q = e.s.k := by omega
    subst this
    rw [hF] at hq
    injection hq with hq
    subst hq
    exact g1
  · rw [← g5]
    exact hck c g2 _ g6 q h hq (by omega) (by omega)
end
end Ax
end Go.Proofs.YtdfgnoflohfnmaaGreatDoor

/-! Regions that draw their order: facts on a row of events. -/

namespace Go.Proofs.YtdfgnoflohfnmaaGreatDoor
namespace Ax
theorem links_get : ∀ {evs : List Ev} {s s' : St} {q : Nat} {ev : Ev}, Links evs s s' → evs[q]? = some ev → Links (evs.take q) s ev.s ∧ Links (evs.drop (q + 1)) ev.s' s'
  | [], s, s', q, ev, _, h => by simp at h
  | e :: r, s, s', 0, ev, hl, h => by
    simp at h
    subst h
    exact ⟨hl.1.symm, hl.2⟩
  | e :: r, s, s', q + 1, ev, hl, h => by
    obtain ⟨h1, h2⟩ := links_get (q := q) hl.2 (by simpa using h)
    exact ⟨⟨hl.1, h1⟩, h2⟩
def KRule (e : Ev) : Prop := e.s'.k = if e.eff then e.s.k + 1 else e.s.k
theorem effs_links : ∀ {evs : List Ev} {cs : List CO} {s s' : St} (i : Nat), cs.map (fun c => isEff c.c) = evs.map (·.eff) → Links evs s s' → (∀ e ∈ evs, KRule e) →
    s'.k = s.k + (effs cs i).length ∧ (∀ q ev, evs[q]? = some ev → s.k ≤ ev.s.k ∧ ev.s.k ≤ s'.k ∧ (ev.eff = true → (effs cs i)[ev.s.k - s.k]? = some (i + q))) ∧
    ∀ k p, (effs cs i)[k]? = some p → ∃ q ev, p = i + q ∧ evs[q]? = some ev ∧ ev.eff = true ∧ ev.s.k = s.k + k
  | [], cs, s, s', i, hm, hl, _ => by
    have : cs = [] := by simpa using hm
    subst this
    have : s = s' := hl
    subst this
    exact ⟨rfl, fun q ev h => by simp at h, fun k p h => by simp [effs] at h⟩
  | e :: r, [], s, s', i, hm, _, _ => by simp at hm
  | e :: r, c :: cs, s, s', i, hm, hl, hr => by
    simp only [List.map_cons, List.cons.injEq] at hm
    obtain ⟨hm1, hm2⟩ := hm
    obtain ⟨rfl, hl2⟩ := hl
    have hk := hr e (by simp)
    unfold KRule at hk
    obtain ⟨h1, h2, h3⟩ := effs_links (i + 1) hm2 hl2 (fun e he => hr e (by simp [he]))
    unfold effs
    rw [hm1]
    cases he : e.eff with
    | false =>
      rw [he] at hk
      simp only [Bool.false_eq_true, if_false] at hk
      refine ⟨by rw [h1, hk], fun q ev hq => ?_, fun k p hp => ?_⟩
      · cases q with
        | zero => simp at hq; subst hq; exact ⟨Nat.le_refl _, by omega, fun h => by rw [he] at h; cases h⟩
        | succ q =>
          obtain ⟨g1, g2, g3⟩ := h2 q ev (by simpa using hq)
          refine ⟨by omega, g2, fun h => ?_⟩
          have := g3 h
          rw [hk, show i + 1 + q = i + (q + 1) from by omega] at this
          exact this
      · obtain ⟨q, ev, g1, g2, g3, g4⟩ := h3 k p hp
        exact ⟨q + 1, ev, by omega, by simpa using g2, g3, by omega⟩
    | true =>
      rw [he] at hk
      simp only [if_true] at hk
      refine ⟨by simp only [List.length_cons]; omega, fun q ev hq => ?_, fun k p hp => ?_⟩
      · cases q with
        | zero => simp at hq; subst hq; exact ⟨Nat.le_refl _, by omega, fun _ => by simp⟩
        | succ q =>
          obtain ⟨g1, g2, g3⟩ := h2 q ev (by simpa using hq)
          refine ⟨by omega, g2, fun h => ?_⟩
          have := g3 h
          rw [show ev.s.k - e.s.k = (ev.s.k - e.s'.k) + 1 from by omega, List.getElem?_cons_succ, this]
          congr 1; omega
      · cases k with
        | zero => simp at hp; exact ⟨0, e, by omega, rfl, he, by omega⟩
        | succ k =>
          obtain ⟨q, ev, g1, g2, g3, g4⟩ := h3 k p (by simpa using hp)
          exact ⟨q + 1, ev, by omega, by simpa using g2, g3, by omega⟩
theorem links_const {E : Env} {l : Option Nat} {ops : Array Oper} {nt : Nat} {ck : List Ck} : ∀ {evs : List Ev} {s s' : St}, Links evs s s' → (∀ e ∈ evs, EvOK E l ops nt ck e) → (∀ e ∈ evs, KRule e) →
    s.k ≤ s'.k ∧ (s'.k = s.k → s'.df = s.df ∧ s'.h = s.h) ∧ ∀ e ∈ evs, s.k ≤ e.s.k ∧ (e.s.k = s.k → e.s.df = s.df ∧ e.s.h = s.h)
  | [], s, s', hl, _, _ => by
    have : s = s' := hl
    subst this
    exact ⟨Nat.le_refl _, fun _ => ⟨rfl, rfl⟩, by simp⟩
  | e :: r, s, s', hl, hok, hr => by
    obtain ⟨rfl, hl2⟩ := hl
    have hk := hr e (by simp)
    have ho := hok e (by simp)
    unfold KRule at hk
    obtain ⟨h1, h2, h3⟩ := links_const hl2 (fun e he => hok e (by simp [he])) (fun e he => hr e (by simp [he]))
    cases he : e.eff with
    | false =>
      obtain ⟨g1, g2, g3⟩ := ho.ne he
      refine ⟨by omega, fun h => ?_, fun e' he' => ?_⟩
      · obtain ⟨q1, q2⟩ := h2 (by omega); exact ⟨by rw [q1, g3], by rw [q2, g2]⟩
      · rcases List.mem_cons.1 he' with rfl | he'
        · exact ⟨Nat.le_refl _, fun _ => ⟨rfl, rfl⟩⟩
        · obtain ⟨q1, q2⟩ := h3 e' he'
          exact ⟨by omega, fun h => by obtain ⟨p1, p2⟩ := q2 (by omega); exact ⟨by rw [p1, g3], by rw [p2, g2]⟩⟩
    | true =>
      rw [he] at hk
      simp only [if_true] at hk
      refine ⟨by omega, fun h => by omega, fun e' he' => ?_⟩
      rcases List.mem_cons.1 he' with rfl | he'
      · exact ⟨Nat.le_refl _, fun _ => ⟨rfl, rfl⟩⟩
      · obtain ⟨q1, q2⟩ := h3 e' he'
        exact ⟨by omega, fun h => by omega⟩
theorem links_names {E : Env} {l : Option Nat} {ops : Array Oper} {nt : Nat} {ck : List Ck} : ∀ {evs : List Ev} {s s' : St}, Links evs s s' → (∀ e ∈ evs, EvOK E l ops nt ck e) → s.n.nat ≤ s'.n.nat ∧ ∀ e ∈ evs, s.n.nat ≤ e.s.n.nat ∧ e.s.n.nat ≤ e.s'.n.nat ∧ e.s'.n.nat ≤ s'.n.nat
  | [], s, s', hl, _ => by
    have : s = s' := hl
    subst this
    exact ⟨Nat.le_refl _, by simp⟩
  | e :: r, s, s', hl, hok => by
    obtain ⟨rfl, hl2⟩ := hl
    have ho := (hok e (by simp)).le
    obtain ⟨h1, h2⟩ := links_names hl2 (fun e he => hok e (by simp [he]))
    refine ⟨by omega, fun e' he' => ?_⟩
    rcases List.mem_cons.1 he' with rfl | he'
    · exact ⟨Nat.le_refl _, ho, h1⟩
    · obtain ⟨q1, q2, q3⟩ := h2 e' he'; exact ⟨by omega, q2, q3⟩
def Last (evs : List Ev) (tm0 : Tr AV) (S : Nat → Prop) (t : Nat) (v : AV) : Prop :=
  (v = tm0.get (.tu []) (pth t) ∧ ∀ i ev, S i → evs[i]? = some ev → ev.o.dst ≠ some t) ∨ ∃ i ev, S i ∧ evs[i]? = some ev ∧ ev.o.dst = some t ∧ v = ev.v ∧ ∀ j ev', S j → evs[j]? = some ev' → ev'.o.dst = some t → j ≤ i
theorem Last.unique {evs : List Ev} {tm0 : Tr AV} {S S' : Nat → Prop} {t : Nat} {v v' : AV} (h : Last evs tm0 S t v) (h' : Last evs tm0 S' t v') (hs : ∀ i ev, evs[i]? = some ev → ev.o.dst = some t → (S i ↔ S' i)) : v = v' := by
  rcases h with ⟨h1, h2⟩ | ⟨i, ev, h1, h2, h3, h4, h5⟩
  · rcases h' with ⟨g1, g2⟩ | ⟨j, ev', g1, g2, g3, g4, g5⟩
    · rw [h1, g1]
    · exact absurd g3 (h2 j ev' ((hs j ev' g2 g3).2 g1) g2)
  · rcases h' with ⟨g1, g2⟩ | ⟨j, ev', g1, g2, g3, g4, g5⟩
    · exact absurd h3 (g2 i ev ((hs i ev h2 h3).1 h1) h2)
    · have a1 := h5 j ev' ((hs j ev' g2 g3).2 g1) g2 g3
      have a2 := g5 i ev ((hs i ev h2 h3).1 h1) h2 h3
      have : i = j := by omega
      subst this
      rw [h2] at g2
      injection g2 with g2
      subst g2
      rw [h4, g4]
theorem dst_get {nt : Nat} {o : Oper} {d : Option Pn} (hd : dstOf nt o = some d) (v : AV) (tm : Tr AV) (t : Nat) : (putD d v tm).get (.tu []) (pth t) = if o.dst = some t then v else tm.get (.tu []) (pth t) := by
  unfold dstOf at hd
  split at hd
  · rename_i hn
    injection hd with hd
    subst hd
    rw [hn, if_neg (by simp)]; rfl
  · rename_i u hu
    split at hd
    · injection hd with hd
      subst hd
      rw [hu]
      by_cases h : u = t
      · subst h; rw [if_pos rfl]; exact get_put_same _ _ _ _
      · rw [if_neg (fun e => h (by injection e))]; exact get_put_other _ _ _ _ (fun e => h (pth_inj e)) _
    · cases hd
theorem links_snoc : ∀ {xs : List Ev} {e : Ev} {s s' : St}, Links (xs ++ [e]) s s' → Links xs s e.s ∧ s' = e.s'
  | [], e, s, s', h => ⟨h.1.symm, h.2.symm⟩
  | x :: xs, e, s, s', h => by
    obtain ⟨h1, h2⟩ := links_snoc (xs := xs) h.2
    exact ⟨⟨h.1, h1⟩, h2⟩
theorem take_snoc {evs : List Ev} {i : Nat} {ev : Ev} (h : evs[i]? = some ev) : evs.take (i + 1) = evs.take i ++ [ev] := by
  rw [List.take_add_one, h]; rfl
section
variable {E : Env} {l : Option Nat} {ops : Array Oper} {nt : Nat} {ck : List Ck} {evs : List Ev} {s0 : St}
theorem row_tmps (hok : ∀ e ∈ evs, EvOK E l ops nt ck e) (t : Nat) : ∀ (i : Nat) (st : St), i ≤ evs.length → Links (evs.take i) s0 st → Last evs s0.tm (fun x => x < i) t (st.tm.get (.tu []) (pth t))
  | 0, st, _, h => by
    have : s0 = st := h
    subst this
    exact .inl ⟨rfl, fun i ev h => absurd h (Nat.not_lt_zero i)⟩
  | i + 1, st, hi, h => by
    have hev : evs[i]? = some evs[i] := List.getElem?_eq_getElem (by omega)
    rw [take_snoc hev] at h
    obtain ⟨h1, rfl⟩ := links_snoc h
    have ih := row_tmps hok t i _ (by omega) h1
    have ho := hok _ (List.getElem_mem (by omega : i < evs.length))
    rw [ho.tm, dst_get ho.dst]
    by_cases hd : evs[i].o.dst = some t
    · rw [if_pos hd]
      exact .inr ⟨i, evs[i], Nat.lt_succ_self i, hev, hd, rfl, fun j ev' hj _ _ => Nat.le_of_lt_succ hj⟩
    · rw [if_neg hd]
      rcases ih with ⟨g1, g2⟩ | ⟨j, ev, g1, g2, g3, g4, g5⟩
      · refine .inl ⟨g1, fun j ev hj he => ?_⟩
        by_cases hji : j = i
        · subst hji; rw [hev] at he; injection he with he; subst he; exact hd
        · exact g2 j ev (by have : j < i + 1 := hj; show j < i; omega) he
      · refine .inr ⟨j, ev, Nat.lt_succ_of_lt g1, g2, g3, g4, fun q ev' hq he hde => ?_⟩
        by_cases hqi : q = i
        · subst hqi; rw [hev] at he; injection he with he; subst he; exact absurd hde hd
        · exact g5 q ev' (by have : q < i + 1 := hq; show q < i; omega) he hde
theorem row_pend (hok : ∀ e ∈ evs, EvOK E l ops nt ck e) (hkr : ∀ e ∈ evs, KRule e) (hhi : ∀ e ∈ evs, e.s.k ≤ e.hi) (h0 : s0.pd = []) : ∀ (i : Nat) (st : St), i ≤ evs.length → Links (evs.take i) s0 st →
    ∀ p, p ∈ st.pd ↔ ∃ j ev ob, j < i ∧ evs[j]? = some ev ∧ ev.al = some ob ∧ p = (ev.hi, ev.s.n, ob) ∧ st.k ≤ ev.hi
  | 0, st, _, h => by
    have : s0 = st := h
    subst this
    intro p
    rw [h0]
    simp
  | i + 1, st, hi, h => by
    have hev : evs[i]? = some evs[i] := List.getElem?_eq_getElem (by omega)
    rw [take_snoc hev] at h
    obtain ⟨h1, rfl⟩ := links_snoc h
    have ih := row_pend hok hkr hhi h0 i _ (by omega) h1
    have hmem := List.getElem_mem (by omega : i < evs.length)
    have ho := hok _ hmem
    have hk := hkr _ hmem
    have hh := hhi _ hmem
    unfold KRule at hk
    intro p
    cases he : evs[i].eff with
    | false =>
      rw [he] at hk
      simp only [Bool.false_eq_true, if_false] at hk
      cases ha : evs[i].al with
      | none =>
        rw [(ho.na he ha).2, ih p, hk]
        constructor
        · rintro ⟨j, ev, ob, g1, g2⟩; exact ⟨j, ev, ob, by omega, g2⟩
        · rintro ⟨j, ev, ob, g1, g2, g3, g4⟩
          by_cases hji : j = i
          · subst hji; rw [hev] at g2; injection g2 with g2; subst g2; rw [ha] at g3; cases g3
          · exact ⟨j, ev, ob, by omega, g2, g3, g4⟩
      | some ob0 =>
        obtain ⟨_, _, _, q, _⟩ := ho.al ob0 ha
        rw [q, List.mem_cons, ih p, hk]
        constructor
        · rintro (rfl | ⟨j, ev, ob, g1, g2⟩)
          · exact ⟨i, evs[i], ob0, by omega, hev, ha, rfl, hh⟩
          · exact ⟨j, ev, ob, by omega, g2⟩
        · rintro ⟨j, ev, ob, g1, g2, g3, g4⟩
          by_cases hji : j = i
          · subst hji; rw [hev] at g2; injection g2 with g2; subst g2; rw [ha] at g3; injection g3 with g3; subst g3; exact .inl g4.1
          · exact .inr ⟨j, ev, ob, by omega, g2, g3, g4⟩
    | true =>
      rw [he] at hk
      simp only [if_true] at hk
      obtain ⟨q1, q2, q3, _⟩ := ho.ef he
      rw [q3, List.mem_filter, ih p, hk]
      constructor
      · rintro ⟨⟨j, ev, ob, g1, g2, g3, rfl, g5⟩, g6⟩
        refine ⟨j, ev, ob, by omega, g2, g3, rfl, ?_⟩
        simp only [Bool.not_eq_true'] at g6
        apply Nat.lt_of_not_le
        intro hle
        rw [ble_iff.2 hle] at g6
        cases g6
      · rintro ⟨j, ev, ob, g1, g2, g3, rfl, g5⟩
        by_cases hji : j = i
        · subst hji; rw [hev] at g2; injection g2 with g2; subst g2; rw [q1] at g3; cases g3
        · refine ⟨⟨j, ev, ob, by omega, g2, g3, rfl, by omega⟩, ?_⟩
          cases hb : Nat.ble ev.hi evs[i].s.k with
          | false => rfl
          | true => have := ble_iff.1 hb; omega
end
end Ax
end Go.Proofs.YtdfgnoflohfnmaaGreatDoor

/-! Regions that draw their order: what holds after any closed set of operations. -/

namespace Go.Proofs.YtdfgnoflohfnmaaGreatDoor
namespace Ax
structure Row (E : Env) (l : Option Nat) (ops : Array Oper) (nt : Nat) (ck : List Ck) (F : List (Tr AO)) (es : List Nat) (evs : List Ev) (s0 sN : St) : Prop where
  links : Links evs s0 sN
  opsE : evs.map (·.o) = ops.toList
  ok : ∀ e ∈ evs, EvOK E l ops nt ck e
  win : ∀ (q : Nat) (ev : Ev), evs[q]? = some ev → ev.lo = loOf ((befores ops.toList []).getD q 0) es ∧ ev.hi = hiOf (befores ops.toList []) q es
  fs : ∀ ev ∈ evs, F[ev.s.k]? = some ev.s.h
  fN : F[sN.k]? = some sN.h
  ckE : ∀ c ∈ ck, ∀ S : Tr AO → AV → Prop, (∀ h (k : AV → R), Ok (c.f h k) → ∃ v, c.f h k = k v ∧ S h v) → ∀ q h, F[q]? = some h → c.lo ≤ q → q ≤ c.hi → S h c.v
  ef1 : ∀ (q : Nat) (ev : Ev), evs[q]? = some ev → ev.eff = true → es[ev.s.k]? = some q
  ef2 : ∀ (k p : Nat), es[k]? = some p → ∃ ev : Ev, evs[p]? = some ev ∧ ev.eff = true ∧ ev.s.k = k
  efN : es.length = sN.k
  kr : ∀ e ∈ evs, KRule e
  ch : chain (befores ops.toList []) es = true
  te : tempsOk ops.toList (befores ops.toList []) ops.toList 0 = true
  ed : edgesOk ops.toList 0 = true
  z : s0.k = 0 ∧ s0.pd = []
def KS (es : List Nat) (S : Nat → Prop) (k : Nat) : Prop := k ≤ es.length ∧ ∀ q e, es[q]? = some e → (S e ↔ q < k)
section
variable {E : Env} {l : Option Nat} {ops : Array Oper} {nt : Nat} {ck : List Ck} {F : List (Tr AO)} {es : List Nat} {evs : List Ev} {s0 sN : St}
theorem Row.in_win (hr : Row E l ops nt ck F es evs s0 sN) {S : Nat → Prop} {k i : Nat} {ev : Ev} (hS : Closed (befores ops.toList []) S) (hk : KS es S k) (hi : Ready ops.toList S i) (hn : ¬ S i) (he : evs[i]? = some ev) : ev.lo ≤ k ∧ k ≤ ev.hi := by
  obtain ⟨h1, h2⟩ := hr.win i ev he
  rw [h1, h2]
  constructor
  · apply Nat.le_of_not_lt
    intro hlt
    obtain ⟨e, g1, g2⟩ := loOf_spec _ es k hlt
    have := (hk.2 k e g1).1 (ready_bits hS hi e g2)
    omega
  · apply Nat.le_of_not_lt
    intro hlt
    obtain ⟨g1, g2⟩ := hiOf_spec (befores ops.toList []) i es
    have hlt2 : hiOf (befores ops.toList []) i es < es.length := Nat.lt_of_lt_of_le hlt hk.1
    have g3 := List.getElem?_eq_getElem hlt2
    exact hn (hS _ ((hk.2 _ _ g3).2 hlt) i (g2 _ g3))
theorem Row.op_at (hr : Row E l ops nt ck F es evs s0 sN) {i : Nat} {ev : Ev} (he : evs[i]? = some ev) : ops[i]? = some ev.o := by
  have : (evs.map (·.o))[i]? = some ev.o := by rw [List.getElem?_map, he]; rfl
  rw [hr.opsE] at this
  rw [← Array.getElem?_toList]; exact this
theorem Row.own_win (hr : Row E l ops nt ck F es evs s0 sN) {i : Nat} {ev : Ev} (he : evs[i]? = some ev) : ev.lo ≤ ev.s.k ∧ ev.s.k ≤ ev.hi := by
  have hmem := List.mem_of_getElem? he
  have hop : ops.toList[i]? = some ev.o := by rw [Array.getElem?_toList]; exact hr.op_at he
  obtain ⟨l1, l2⟩ := links_get hr.links he
  refine hr.in_win (S := fun x => x < i) (prefix_closed hr.ed i) ⟨?_, fun q e hq => ?_⟩ (prefix_ready hr.ed hop) (Nat.lt_irrefl i) he
  · rw [hr.efN]
    have h1 := (links_const l2 (fun e he => hr.ok e (List.mem_of_mem_drop he)) (fun e he => hr.kr e (List.mem_of_mem_drop he))).1
    have h2 := hr.kr ev hmem
    unfold KRule at h2
    split at h2 <;> omega
  · obtain ⟨ev', g1, g2, g3⟩ := hr.ef2 q e hq
    constructor
    · intro hlt
      have hlt : e < i := hlt
      have h5 : (evs.take i)[e]? = some ev' := by rw [List.getElem?_take, if_pos hlt]; exact g1
      obtain ⟨_, m2⟩ := links_get l1 h5
      have h6 := (links_const m2 (fun x hx => hr.ok x (List.mem_of_mem_take (List.mem_of_mem_drop hx))) (fun x hx => hr.kr x (List.mem_of_mem_take (List.mem_of_mem_drop hx)))).1
      have h7 := hr.kr ev' (List.mem_of_getElem? g1)
      unfold KRule at h7
      rw [g2, if_pos rfl] at h7
      omega
    · intro hlt
      show e < i
      apply Nat.lt_of_not_le
      intro hle
      by_cases hei : e = i
      · subst hei
        rw [he] at g1
        injection g1 with g1
        subst g1
        omega
      · have h5 : (evs.drop (i + 1))[e - (i + 1)]? = some ev' := by rw [List.getElem?_drop, show i + 1 + (e - (i + 1)) = e from by omega]; exact g1
        have h6 := ((links_const l2 (fun x hx => hr.ok x (List.mem_of_mem_drop hx)) (fun x hx => hr.kr x (List.mem_of_mem_drop hx))).2.2 ev' (List.mem_of_getElem? h5)).1
        have h7 := hr.kr ev hmem
        unfold KRule at h7
        split at h7 <;> omega
theorem Row.names (hr : Row E l ops nt ck F es evs s0 sN) {i j : Nat} {e e' : Ev} (hi : evs[i]? = some e) (hj : evs[j]? = some e') (hij : i < j) : e.s'.n.nat ≤ e'.s.n.nat := by
  obtain ⟨_, l2⟩ := links_get hr.links hi
  have h5 : (evs.drop (i + 1))[j - (i + 1)]? = some e' := by rw [List.getElem?_drop, show i + 1 + (j - (i + 1)) = j from by omega]; exact hj
  exact ((links_names l2 (fun x hx => hr.ok x (List.mem_of_mem_drop hx))).2 e' (List.mem_of_getElem? h5)).1
theorem Row.range (hr : Row E l ops nt ck F es evs s0 sN) {i : Nat} {e : Ev} (hi : evs[i]? = some e) : s0.n.nat ≤ e.s.n.nat ∧ e.s.n.nat ≤ e.s'.n.nat ∧ e.s'.n.nat ≤ sN.n.nat :=
  (links_names hr.links hr.ok).2 e (List.mem_of_getElem? hi)
noncomputable def XS (evs : List Ev) (S : Nat → Prop) (k : Nat) : Hp := fun b => open Classical in
  if h : ∃ ob i ev, S i ∧ evs[i]? = some ev ∧ ev.al = some ob ∧ k ≤ ev.hi ∧ ev.s.n = b then Classical.choose h else .x
theorem Row.al_one (hr : Row E l ops nt ck F es evs s0 sN) {i j : Nat} {e e' : Ev} {ob ob' : AO} (hi : evs[i]? = some e) (hj : evs[j]? = some e') (ha : e.al = some ob) (ha' : e'.al = some ob') (hn : e.s.n = e'.s.n) : i = j := by
  have h1 := (hr.ok e (List.mem_of_getElem? hi)).al ob ha
  have h2 := (hr.ok e' (List.mem_of_getElem? hj)).al ob' ha'
  apply Classical.byContradiction
  intro hne
  rcases Nat.lt_or_gt_of_ne hne with h | h
  · have := hr.names hi hj h
    rw [h1.2.2.1, nat_succ, hn] at this; omega
  · have := hr.names hj hi h
    rw [h2.2.2.1, nat_succ, ← hn] at this; omega
theorem Row.xs_some (hr : Row E l ops nt ck F es evs s0 sN) {S : Nat → Prop} {k i : Nat} {e : Ev} {ob : AO} (hi : evs[i]? = some e) (hS : S i) (ha : e.al = some ob) (hk : k ≤ e.hi) : XS evs S k e.s.n = ob := by
  have h : ∃ ob i ev, S i ∧ evs[i]? = some ev ∧ ev.al = some ob ∧ k ≤ ev.hi ∧ ev.s.n = e.s.n := ⟨ob, i, e, hS, hi, ha, hk, rfl⟩
  unfold XS
  rw [dif_pos h]
  obtain ⟨j, ev, _, g2, g3, _, g5⟩ := Classical.choose_spec h
  have hij := hr.al_one g2 hi g3 ha g5
  subst hij
  rw [g2] at hi
  injection hi with hi
  subst hi
  rw [g3] at ha
  injection ha
theorem xs_none {S : Nat → Prop} {k : Nat} {b : Pn} (h : ∀ ob i ev, S i → evs[i]? = some ev → ev.al = some ob → k ≤ ev.hi → ev.s.n ≠ b) : XS evs S k b = .x := by
  unfold XS
  rw [dif_neg]
  rintro ⟨ob, i, ev, h1, h2, h3, h4, h5⟩
  exact h ob i ev h1 h2 h3 h4 h5
theorem xs_inv {S : Nat → Prop} {k : Nat} {b : Pn} (h : XS evs S k b ≠ .x) : ∃ ob i ev, S i ∧ evs[i]? = some ev ∧ ev.al = some ob ∧ k ≤ ev.hi ∧ ev.s.n = b := by
  apply Classical.byContradiction
  intro hn
  exact h (xs_none fun ob i ev h1 h2 h3 h4 h5 => hn ⟨ob, i, ev, h1, h2, h3, h4, h5⟩)
end
end Ax
end Go.Proofs.YtdfgnoflohfnmaaGreatDoor

/-! Regions that draw their order: temporaries; the invariant. -/

namespace Go.Proofs.YtdfgnoflohfnmaaGreatDoor
namespace Ax
theorem tempsRow_spec {ops : List Oper} {y : Oper} {b : Nat} : ∀ (l : List Oper) (i : Nat), tempsRow ops y b l i = true → ∀ q x, l[q]? = some x → b.testBit (i + q) = true ∨ apart ops x y = true
  | [], i, _, q, x, h => by simp at h
  | x0 :: r, i, h, q, x, hq => by
    rw [tempsRow, Bool.and_eq_true, Bool.or_eq_true] at h
    cases q with
    | zero => simp at hq; subst hq; exact h.1
    | succ q =>
      have := tempsRow_spec r (i + 1) h.2 q x (by simpa using hq)
      rwa [show i + 1 + q = i + (q + 1) from by omega] at this
theorem tempsOk_spec {ops : List Oper} {bs : List Nat} : ∀ (l : List Oper) (j : Nat), tempsOk ops bs l j = true → ∀ q y, l[q]? = some y → ∀ i x, i < j + q → ops[i]? = some x → (bs.getD (j + q) 0).testBit i = true ∨ apart ops x y = true
  | [], j, _, q, y, h => by simp at h
  | y0 :: r, j, h, q, y, hq => by
    rw [tempsOk, Bool.and_eq_true] at h
    intro i x hi hx
    cases q with
    | zero =>
      simp at hq
      subst hq
      have := tempsRow_spec _ 0 h.1 i x (by rw [List.getElem?_take, if_pos (by omega)]; exact hx)
      rwa [Nat.zero_add] at this
    | succ q =>
      have := tempsOk_spec r (j + 1) h.2 q y (by simpa using hq) i x (by omega) hx
      rwa [show j + 1 + q = j + (q + 1) from by omega] at this
def Names (ops : Array Oper) (o : Oper) (t : Nat) : Prop := o.dst = some t ∨ Operand.tmp t ∈ o.op.operands ∨ GdT ops o t
theorem names_mem {ops : Array Oper} {o : Oper} {t : Nat} (h : Names ops o t) : t ∈ mentions ops.toList o := by
  unfold mentions looks
  rcases h with h | h | ⟨j, w, q, h1, h2, h3⟩
  · exact List.mem_append_left _ (by rw [h]; simp)
  · refine List.mem_append_right _ (List.mem_append_left _ ?_)
    rw [List.mem_filterMap]
    exact ⟨.tmp t, Array.mem_toList_iff.2 h, rfl⟩
  · refine List.mem_append_right _ (List.mem_append_right _ ?_)
    rw [h1]
    have : ops.toList[j]? = some q := by rw [Array.getElem?_toList]; exact h2
    simp only [this, Option.bind_some, h3]
    simp
theorem apart_no {ops : Array Oper} {x y : Oper} {t : Nat} (h : apart ops.toList x y = true) : (x.dst = some t → ¬ Names ops y t) ∧ (y.dst = some t → ¬ Names ops x t) := by
  unfold apart at h
  rw [Bool.and_eq_true] at h
  refine ⟨fun hd hn => ?_, fun hd hn => ?_⟩
  · have h1 := h.1
    rw [hd] at h1
    have := names_mem hn
    simp at h1
    exact h1 this
  · have h1 := h.2
    rw [hd] at h1
    have := names_mem hn
    simp at h1
    exact h1 this
section
variable {E : Env} {l : Option Nat} {ops : Array Oper} {nt : Nat} {ck : List Ck} {F : List (Tr AO)} {es : List Nat} {evs : List Ev} {s0 sN : St}
theorem Row.order (hr : Row E l ops nt ck F es evs s0 sN) {i j : Nat} {x y : Ev} (hi : evs[i]? = some x) (hj : evs[j]? = some y) (hij : i < j) {t : Nat} (h : (x.o.dst = some t ∧ Names ops y.o t) ∨ (y.o.dst = some t ∧ Names ops x.o t)) :
    ((befores ops.toList []).getD j 0).testBit i = true := by
  have h1 := hr.op_at hi
  have h2 := hr.op_at hj
  have := tempsOk_spec ops.toList 0 hr.te j y.o (by rw [Array.getElem?_toList]; exact h2) i x.o (by omega) (by rw [Array.getElem?_toList]; exact h1)
  rw [Nat.zero_add] at this
  rcases this with h3 | h3
  · exact h3
  · obtain ⟨a1, a2⟩ := apart_no (t := t) h3
    rcases h with ⟨g1, g2⟩ | ⟨g1, g2⟩
    · exact absurd g2 (a1 g1)
    · exact absurd g2 (a2 g1)
theorem Row.writers (hr : Row E l ops nt ck F es evs s0 sN) {S : Nat → Prop} {i : Nat} {e : Ev} (hS : Closed (befores ops.toList []) S) (hi : Ready ops.toList S i) (hn : ¬ S i) (he : evs[i]? = some e) {t : Nat} (ht : Names ops e.o t) :
    ∀ j ev, evs[j]? = some ev → ev.o.dst = some t → (S j ↔ j < i) := by
  intro j ev hj hd
  constructor
  · intro hs
    apply Nat.lt_of_not_le
    intro hle
    by_cases hij : i = j
    · subst hij; exact hn hs
    · exact hn (hS j hs i (hr.order he hj (by omega) (.inr ⟨hd, ht⟩)))
  · intro hlt
    exact ready_bits hS hi j (hr.order hj he hlt (.inl ⟨hd, ht⟩))
theorem Row.look (hr : Row E l ops nt ck F es evs s0 sN) {S : Nat → Prop} {i : Nat} {e : Ev} (hS : Closed (befores ops.toList []) S) (hi : Ready ops.toList S i) (hn : ¬ S i) (he : evs[i]? = some e) {t : Nat} (ht : Names ops e.o t) {v : AV} (hv : Last evs s0.tm S t v) :
    v = e.s.tm.get (.tu []) (pth t) := by
  have hlt : i < evs.length := (List.getElem?_eq_some_iff.1 he).1
  have h1 := row_tmps hr.ok t i e.s (by omega) (links_get hr.links he).1
  exact hv.unique h1 fun j ev hj hd => hr.writers hS hi hn he ht j ev hj hd
theorem Row.last_add (hr : Row E l ops nt ck F es evs s0 sN) {S : Nat → Prop} {i : Nat} {e : Ev} (hS : Closed (befores ops.toList []) S) (hi : Ready ops.toList S i) (hn : ¬ S i) (he : evs[i]? = some e) {t : Nat} {v : AV} (hv : Last evs s0.tm S t v) :
    Last evs s0.tm (fun x => x = i ∨ S x) t (if e.o.dst = some t then e.v else v) := by
  by_cases hd : e.o.dst = some t
  · rw [if_pos hd]
    refine .inr ⟨i, e, .inl rfl, he, hd, rfl, fun j ev' hj hje hjd => ?_⟩
    rcases hj with rfl | hj
    · exact Nat.le_refl _
    · exact Nat.le_of_lt ((hr.writers hS hi hn he (.inl hd) j ev' hje hjd).1 hj)
  · rw [if_neg hd]
    rcases hv with ⟨h1, h2⟩ | ⟨j, ev, h1, h2, h3, h4, h5⟩
    · refine .inl ⟨h1, fun j ev hj hje => ?_⟩
      rcases hj with rfl | hj
      · rw [he] at hje; injection hje with hje; subst hje; exact hd
      · exact h2 j ev hj hje
    · refine .inr ⟨j, ev, .inr h1, h2, h3, h4, fun q ev' hq hqe hqd => ?_⟩
      rcases hq with rfl | hq
      · rw [he] at hqe; injection hqe with hqe; subst hqe; exact absurd hqd hd
      · exact h5 q ev' hq hqe hqd
structure Inv (E : Env) (nt : Nat) (F : List (Tr AO)) (es : List Nat) (evs : List Ev) (s0 sN : St) (bs : List Nat) (ρ0 : Ren) (w0 : World) (S : Nat → Prop) (a : Act) (w : World) (ρ : Ren) (k : Nat) (df : List AD) : Prop where
  cl : Closed bs S
  ks : KS es S k
  st : Step ρ0 (hv s0.h) w0 s0.n ρ (ovl (XS evs S k) (hv (F.getD k .leaf))) w sN.n
  fr : ∀ i e, evs[i]? = some e → ¬ S i → ∀ b : Pn, e.s.n.nat ≤ b.nat → b.nat < e.s'.n.nat → ρ b = none ∧ ovl (XS evs S k) (hv (F.getD k .leaf)) b = .x
  ap : ∀ i e ob, S i → evs[i]? = some e → e.al = some ob → k ≤ e.hi → hv (F.getD k .leaf) e.s.n = .x
  sz : a.tmps.size = nt
  tm : ∀ t, ∃ v, Last evs s0.tm S t v ∧ VR ρ v (a.tmps.getD t undef)
  dfc : (∀ e ∈ evs, e.s.k = k → e.s.df = df) ∧ (sN.k = k → sN.df = df)
  dr : DR E ρ df a.defers
end
end Ax
end Go.Proofs.YtdfgnoflohfnmaaGreatDoor

/-! Regions that draw their order: the invariant is kept. -/

namespace Go.Proofs.YtdfgnoflohfnmaaGreatDoor
namespace Ax
theorem ovl_upd {X H : Hp} {n : Pn} {o : AO} (ho : o ≠ .x) : ovl (upd X n o) H = upd (ovl X H) n o := by
  funext b
  by_cases hb : b = n
  · subst hb; rw [ovl_some (by rw [upd_same]; exact ho), upd_same, upd_same]
  · rw [upd_other _ _ hb]
    by_cases hX : X b = .x
    · rw [ovl_none (by rw [upd_other _ _ hb]; exact hX), ovl_none hX]
    · rw [ovl_some (by rw [upd_other _ _ hb]; exact hX), ovl_some hX, upd_other _ _ hb]
section
variable {E : Env} {l : Option Nat} {ops : Array Oper} {nt : Nat} {ck : List Ck} {F : List (Tr AO)} {es : List Nat} {evs : List Ev} {s0 sN : St}
theorem Row.al_own (hr : Row E l ops nt ck F es evs s0 sN) {i : Nat} {e : Ev} {ob : AO} (he : evs[i]? = some e) (ha : e.al = some ob) : own ob := ((hr.ok e (List.mem_of_getElem? he)).al ob ha).2.2.2.2.2.1
theorem Row.xs_same (hr : Row E l ops nt ck F es evs s0 sN) {S : Nat → Prop} {i k : Nat} {e : Ev} (he : evs[i]? = some e) (ha : e.al = none) : XS evs (fun x => x = i ∨ S x) k = XS evs S k := by
  funext b
  by_cases hx : XS evs S k b = .x
  · rw [hx]
    refine xs_none fun ob j ev hj hje hal hk hn => ?_
    rcases hj with rfl | hj
    · rw [he] at hje; injection hje with hje; subst hje; rw [ha] at hal; cases hal
    · have := hr.xs_some hje hj hal hk
      rw [hn, hx] at this
      exact (hr.al_own hje hal).1 this.symm
  · obtain ⟨ob, j, ev, h1, h2, h3, h4, h5⟩ := xs_inv hx
    subst h5
    rw [hr.xs_some h2 h1 h3 h4]
    exact hr.xs_some (S := fun x => x = i ∨ S x) h2 (.inr h1) h3 h4
theorem Row.xs_add (hr : Row E l ops nt ck F es evs s0 sN) {S : Nat → Prop} {i k : Nat} {e : Ev} {ob : AO} (he : evs[i]? = some e) (ha : e.al = some ob) (hk : k ≤ e.hi) : XS evs (fun x => x = i ∨ S x) k = upd (XS evs S k) e.s.n ob := by
  funext b
  by_cases hb : b = e.s.n
  · subst hb
    rw [upd_same]
    exact hr.xs_some (S := fun x => x = i ∨ S x) he (.inl rfl) ha hk
  · rw [upd_other _ _ hb]
    by_cases hx : XS evs S k b = .x
    · rw [hx]
      refine xs_none fun ob' j ev hj hje hal hk' hn => ?_
      rcases hj with rfl | hj
      · rw [he] at hje; injection hje with hje; subst hje; exact hb hn.symm
      · have := hr.xs_some hje hj hal hk'
        rw [hn, hx] at this
        exact (hr.al_own hje hal).1 this.symm
    · obtain ⟨ob', j, ev, h1, h2, h3, h4, h5⟩ := xs_inv hx
      subst h5
      rw [hr.xs_some h2 h1 h3 h4]
      exact hr.xs_some (S := fun x => x = i ∨ S x) h2 (.inr h1) h3 h4
theorem put_tmps {a : Act} {o : Oper} {d : Option Pn} (hd : dstOf nt o = some d) (hs : a.tmps.size = nt) (v : Value) (t : Nat) : (a.put o.dst v).tmps.size = nt ∧ (a.put o.dst v).tmps.getD t undef = if o.dst = some t then v else a.tmps.getD t undef := by
  unfold dstOf at hd
  split at hd
  · rename_i hn
    rw [hn, if_neg (by simp)]
    exact ⟨hs, rfl⟩
  · rename_i u hu
    split at hd
    · rename_i hlt
      have hlt := ble_iff.1 hlt
      rw [hu]
      refine ⟨by simpa [Act.put] using hs, ?_⟩
      by_cases h : u = t
      · subst h
        rw [if_pos rfl]
        have : u < a.tmps.size := by rw [hs]; exact hlt
        simp [Act.put, Array.getD, this]
      · rw [if_neg (fun e => h (by injection e))]
        simp only [Act.put, Array.getD_eq_getD_getElem?]
        rw [Array.getElem?_setIfInBounds_ne h]
    · cases hd
theorem Row.tm_add (hr : Row E l ops nt ck F es evs s0 sN) {S : Nat → Prop} {i : Nat} {e : Ev} (hS : Closed (befores ops.toList []) S) (hi : Ready ops.toList S i) (hn : ¬ S i) (he : evs[i]? = some e) {ρ ρ' : Ren} {a : Act} {v' : Value}
    (hs : a.tmps.size = nt) (ht : ∀ t, ∃ v, Last evs s0.tm S t v ∧ VR ρ v (a.tmps.getD t undef)) (hl : ρ.le ρ') (hv : VR ρ' e.v v') :
    (a.put e.o.dst v').tmps.size = nt ∧ ∀ t, ∃ v, Last evs s0.tm (fun x => x = i ∨ S x) t v ∧ VR ρ' v ((a.put e.o.dst v').tmps.getD t undef) := by
  have hd := (hr.ok e (List.mem_of_getElem? he)).dst
  refine ⟨(put_tmps hd hs v' 0).1, fun t => ?_⟩
  obtain ⟨v, h1, h2⟩ := ht t
  refine ⟨_, hr.last_add hS hi hn he h1, ?_⟩
  rw [(put_tmps hd hs v' t).2]
  by_cases hc : e.o.dst = some t
  · rw [if_pos hc, if_pos hc]; exact hv
  · rw [if_neg hc, if_neg hc]; exact h2.mono hl
theorem Row.vro (hr : Row E l ops nt ck F es evs s0 sN) {S : Nat → Prop} {i : Nat} {e : Ev} (hS : Closed (befores ops.toList []) S) (hi : Ready ops.toList S i) (hn : ¬ S i) (he : evs[i]? = some e) {ρ : Ren} {a : Act} (hg : GL E ρ)
    (ht : ∀ t, ∃ v, Last evs s0.tm S t v ∧ VR ρ v (a.tmps.getD t undef)) : VRo ρ e.s.tm a e.o ∧ Region.wanted e.o (yielded ops a.tmps) = e.b := by
  have ho := hr.ok e (List.mem_of_getElem? he)
  have hval : ∀ t, Names ops e.o t → VR ρ (e.s.tm.get (.tu []) (pth t)) (a.tmps.getD t undef) := by
    intro t hnm
    obtain ⟨v, h1, h2⟩ := ht t
    rw [← hr.look hS hi hn he hnm h1]
    exact h2
  refine ⟨fun x hx v hv => ?_, ho.gd ρ a.tmps fun t h => hval t (.inr (.inr h))⟩
  cases x with
  | tmp t => injection hv with hv; subst hv; exact hval t (.inr (.inl hx))
  | const w => exact ofV_rel ρ hv
  | global g =>
    injection hv with hv
    subst hv
    obtain ⟨t, h1, h2, h3⟩ := hg g (ble_iff.1 (gOk_mem ho.gok _ hx))
    have : a.eval (.global g) = .pointer (some ⟨t.c, t.d + 0, none⟩) := by rw [h2, h3]; rfl
    rw [this]
    exact .p h1
  | func f => injection hv with hv; subst hv; exact .f rfl rfl (fun i x v h => by simp at h) (fun i x v h => by simp at h)
theorem Row.ks_same (hr : Row E l ops nt ck F es evs s0 sN) {S : Nat → Prop} {i k : Nat} {e : Ev} (he : evs[i]? = some e) (hef : e.eff = false) (hk : KS es S k) : KS es (fun x => x = i ∨ S x) k := by
  refine ⟨hk.1, fun q p hp => ?_⟩
  rw [← hk.2 q p hp]
  constructor
  · rintro (rfl | h)
    · obtain ⟨ev, g1, g2, _⟩ := hr.ef2 q p hp
      rw [he] at g1; injection g1 with g1; subst g1; rw [hef] at g2; cases g2
    · exact h
  · exact .inr
theorem Row.ks_next (hr : Row E l ops nt ck F es evs s0 sN) {S : Nat → Prop} {i k : Nat} {e : Ev} (hS : Closed (befores ops.toList []) S) (hi : Ready ops.toList S i) (hn : ¬ S i) (he : evs[i]? = some e) (hef : e.eff = true) (hk : KS es S k) :
    e.s.k = k ∧ KS es (fun x => x = i ∨ S x) (k + 1) := by
  have h1 := hr.ef1 i e he hef
  have hge : k ≤ e.s.k := by
    apply Nat.le_of_not_lt
    intro hlt
    exact hn ((hk.2 _ i h1).2 hlt)
  have hlt : e.s.k < es.length := (List.getElem?_eq_some_iff.1 h1).1
  have heq : e.s.k = k := by
    apply Classical.byContradiction
    intro hne
    have hk1 : e.s.k - 1 + 1 = e.s.k := by omega
    obtain ⟨e', g1, g2⟩ := chain_closed (closed_add hS hi) hr.ch (e.s.k - 1) i (by rw [hk1]; exact h1) (.inl rfl)
    rcases g2 with rfl | g2
    · obtain ⟨ev, p1, p2, p3⟩ := hr.ef2 _ _ g1
      rw [he] at p1; injection p1 with p1; subst p1; omega
    · have := (hk.2 _ e' g1).1 g2; omega
  subst heq
  refine ⟨rfl, by omega, fun q p hp => ?_⟩
  constructor
  · rintro (rfl | h)
    · obtain ⟨ev, p1, p2, p3⟩ := hr.ef2 q p hp
      rw [he] at p1; injection p1 with p1; subst p1; omega
    · have := (hk.2 q p hp).1 h; omega
  · intro hq
    by_cases hqe : q = e.s.k
    · subst hqe; rw [h1] at hp; injection hp with hp; exact .inl hp.symm
    · exact .inr ((hk.2 q p hp).2 (by omega))
end
end Ax
end Go.Proofs.YtdfgnoflohfnmaaGreatDoor

/-! Regions that draw their order: pending blocks ahead of an effect. -/

namespace Go.Proofs.YtdfgnoflohfnmaaGreatDoor
namespace Ax
theorem ph_none : ∀ {l : Pend} {b : Pn}, (∀ p ∈ l, p.2.1 ≠ b) → PH l b = .x
  | [], b, _ => rfl
  | p :: r, b, h => by
    have h1 : PH r b = .x := ph_none fun q hq => h q (by simp [hq])
    show ovl (PH r) _ b = .x
    rw [ovl_none h1, upd_other _ _ (fun e => h p (by simp) e.symm)]
theorem ph_some : ∀ {l : Pend} {b : Pn} {o : AO}, (∃ p ∈ l, p.2.1 = b) → (∀ p ∈ l, p.2.1 = b → p.2.2 = o) → o ≠ .x → PH l b = o
  | [], b, o, h, _, _ => by obtain ⟨p, hp, _⟩ := h; cases hp
  | p :: r, b, o, h, hu, ho => by
    show ovl (PH r) _ b = o
    by_cases hr : ∃ q ∈ r, q.2.1 = b
    · have h1 : PH r b = o := ph_some hr (fun q hq => hu q (by simp [hq])) ho
      rw [ovl_some (by rw [h1]; exact ho), h1]
    · have h1 : PH r b = .x := ph_none fun q hq e => hr ⟨q, hq, e⟩
      rw [ovl_none h1]
      obtain ⟨q, hq, he⟩ := h
      rcases List.mem_cons.1 hq with rfl | hq
      · rw [← he, upd_same]; exact hu q (by simp) he
      · exact absurd ⟨q, hq, he⟩ hr
section
variable {E : Env} {l : Option Nat} {ops : Array Oper} {nt : Nat} {ck : List Ck} {F : List (Tr AO)} {es : List Nat} {evs : List Ev} {s0 sN : St}
theorem Row.pend (hr : Row E l ops nt ck F es evs s0 sN) {i : Nat} {e : Ev} (he : evs[i]? = some e) : ∀ p, p ∈ e.s.pd ↔ ∃ j ev ob, j < i ∧ evs[j]? = some ev ∧ ev.al = some ob ∧ p = (ev.hi, ev.s.n, ob) ∧ e.s.k ≤ ev.hi := by
  have hlt : i < evs.length := (List.getElem?_eq_some_iff.1 he).1
  exact row_pend hr.ok hr.kr (fun e he => by obtain ⟨i, hi⟩ := List.getElem?_of_mem he; exact (hr.own_win hi).2) hr.z.2 i e.s (by omega) (links_get hr.links he).1
theorem Row.due (hr : Row E l ops nt ck F es evs s0 sN) {S : Nat → Prop} {i k : Nat} {e : Ev} (hS : Closed (befores ops.toList []) S) (hi : Ready ops.toList S i) (he : evs[i]? = some e) (hef : e.eff = true) (hk : e.s.k = k) {j : Nat} {ev : Ev} {ob : AO} (hj : evs[j]? = some ev) (_ha : ev.al = some ob) (hh : ev.hi = k) : S j ∧ j < i := by
  have h1 := hr.ef1 i e he hef
  obtain ⟨g1, g2⟩ := hiOf_spec (befores ops.toList []) j es
  have h2 := (hr.win j ev hj).2
  have hbit := g2 i (by rw [← h2, hh, ← hk]; exact h1)
  refine ⟨ready_bits hS hi j hbit, ?_⟩
  exact ready_bits (prefix_closed hr.ed i) (prefix_ready hr.ed (by rw [Array.getElem?_toList]; exact hr.op_at he)) j hbit
theorem Row.laid (hr : Row E l ops nt ck F es evs s0 sN) {S : Nat → Prop} {i k : Nat} {e : Ev} (hS : Closed (befores ops.toList []) S) (hi : Ready ops.toList S i) (he : evs[i]? = some e) (hef : e.eff = true) (hk : e.s.k = k) :
    ovl (XS evs S k) (hv e.s.h) = ovl (XS evs S (k + 1)) (hv e.hl) := by
  have ho := hr.ok e (List.mem_of_getElem? he)
  obtain ⟨_, _, _, hhl⟩ := ho.ef hef
  have hpd := hr.pend he
  rw [hhl]
  funext b
  by_cases hx1 : XS evs S (k + 1) b = .x
  · rw [ovl_none hx1]
    by_cases hx : XS evs S k b = .x
    · rw [ovl_none hx, ovl_none]
      refine ph_none fun p hp hb => ?_
      rw [List.mem_filter] at hp
      obtain ⟨j, ev, ob, g1, g2, g3, rfl, g5⟩ := (hpd p).1 hp.1
      have hle := ble_iff.1 hp.2
      have hhi : ev.hi = k := by simp only at hle; omega
      have hSj := (hr.due hS hi he hef hk g2 g3 hhi).1
      have := hr.xs_some (k := k) g2 hSj g3 (by omega)
      rw [show ev.s.n = b from hb, hx] at this
      exact (hr.al_own g2 g3).1 this.symm
    · obtain ⟨ob, j, ev, h1, h2, h3, h4, h5⟩ := xs_inv hx
      subst h5
      have hhi : ev.hi = k := by
        apply Classical.byContradiction
        intro hne
        have := hr.xs_some (k := k + 1) h2 h1 h3 (by omega)
        rw [hx1] at this
        exact (hr.al_own h2 h3).1 this.symm
      have hlt := (hr.due hS hi he hef hk h2 h3 hhi).2
      have hph : PH (e.s.pd.filter fun p => Nat.ble p.1 e.s.k) ev.s.n = ob := by
        refine ph_some ⟨(ev.hi, ev.s.n, ob), ?_, rfl⟩ (fun p hp hb => ?_) (hr.al_own h2 h3).1
        · rw [List.mem_filter]
          exact ⟨(hpd _).2 ⟨j, ev, ob, hlt, h2, h3, rfl, by omega⟩, ble_iff.2 (by simp only; omega)⟩
        · rw [List.mem_filter] at hp
          obtain ⟨j', ev', ob', g1, g2, g3, rfl, g5⟩ := (hpd p).1 hp.1
          have := hr.al_one g2 h2 g3 h3 hb
          subst this
          rw [h2] at g2; injection g2 with g2; subst g2
          rw [h3] at g3; injection g3 with g3; exact g3.symm
      rw [ovl_some hx, hr.xs_some h2 h1 h3 (by omega), ovl_some (by rw [hph]; exact (hr.al_own h2 h3).1), hph]
  · obtain ⟨ob, j, ev, h1, h2, h3, h4, h5⟩ := xs_inv hx1
    subst h5
    rw [ovl_some hx1, hr.xs_some h2 h1 h3 h4]
    have := hr.xs_some (k := k) h2 h1 h3 (by omega)
    rw [ovl_some (by rw [this]; exact (hr.al_own h2 h3).1), this]
theorem Row.apart_hl (hr : Row E l ops nt ck F es evs s0 sN) {S : Nat → Prop} {i k : Nat} {e : Ev} (he : evs[i]? = some e) (hef : e.eff = true) (hk : e.s.k = k)
    (hap : ∀ j ev ob, S j → evs[j]? = some ev → ev.al = some ob → k ≤ ev.hi → hv e.s.h ev.s.n = .x) {j : Nat} {ev : Ev} {ob : AO} (hj : S j) (hje : evs[j]? = some ev) (ha : ev.al = some ob) (hh : k + 1 ≤ ev.hi) : hv e.hl ev.s.n = .x := by
  have ho := hr.ok e (List.mem_of_getElem? he)
  obtain ⟨_, _, _, hhl⟩ := ho.ef hef
  rw [hhl, ovl_none, hap j ev ob hj hje ha (by omega)]
  refine ph_none fun p hp hb => ?_
  rw [List.mem_filter] at hp
  obtain ⟨j', ev', ob', g1, g2, g3, rfl, g5⟩ := (hr.pend he p).1 hp.1
  have hle := ble_iff.1 hp.2
  have := hr.al_one g2 hje g3 ha hb
  subst this
  rw [hje] at g2; injection g2 with g2; subst g2
  simp only at hle
  omega
end
end Ax
end Go.Proofs.YtdfgnoflohfnmaaGreatDoor

/-! Regions that draw their order: one operation more. -/

namespace Go.Proofs.YtdfgnoflohfnmaaGreatDoor
namespace Ax
section
variable {E : Env} {l : Option Nat} {ops : Array Oper} {nt : Nat} {ck : List Ck} {F : List (Tr AO)} {es : List Nat} {evs : List Ev} {s0 sN : St}
theorem Row.heap_at (hr : Row E l ops nt ck F es evs s0 sN) {e : Ev} (he : e ∈ evs) : F.getD e.s.k .leaf = e.s.h := by
  rw [List.getD_eq_getElem?_getD, hr.fs e he]; rfl
theorem Row.next_at (hr : Row E l ops nt ck F es evs s0 sN) {i : Nat} {e : Ev} (he : evs[i]? = some e) (hef : e.eff = true) : F.getD (e.s.k + 1) .leaf = e.s'.h ∧ (∀ e' ∈ evs, e'.s.k = e.s.k + 1 → e'.s.df = e.s'.df) ∧ (sN.k = e.s.k + 1 → sN.df = e.s'.df) := by
  have hk := hr.kr e (List.mem_of_getElem? he)
  unfold KRule at hk
  rw [hef, if_pos rfl] at hk
  obtain ⟨l1, l2⟩ := links_get hr.links he
  have hc := links_const l2 (fun x hx => hr.ok x (List.mem_of_mem_drop hx)) (fun x hx => hr.kr x (List.mem_of_mem_drop hx))
  refine ⟨?_, fun e' he' hke => ?_, fun h => (hc.2.1 (by omega)).1⟩
  · rw [← hk, List.getD_eq_getElem?_getD]
    cases hd : evs.drop (i + 1) with
    | nil =>
      rw [hd] at l2
      have : e.s' = sN := l2
      rw [this, hr.fN]; rfl
    | cons e2 r =>
      rw [hd] at l2
      rw [← l2.1, hr.fs e2 (List.mem_of_mem_drop (i := i + 1) (by rw [hd]; simp))]; rfl
  · obtain ⟨j, hj⟩ := List.getElem?_of_mem he'
    by_cases hij : j < i + 1
    · exfalso
      by_cases hji : j = i
      · subst hji; rw [he] at hj; injection hj with hj; subst hj; omega
      · have h5 : (evs.take i)[j]? = some e' := by rw [List.getElem?_take, if_pos (by omega)]; exact hj
        obtain ⟨_, m2⟩ := links_get l1 h5
        have h6 := (links_const m2 (fun x hx => hr.ok x (List.mem_of_mem_take (List.mem_of_mem_drop hx))) (fun x hx => hr.kr x (List.mem_of_mem_take (List.mem_of_mem_drop hx)))).1
        have h7 := hr.kr e' he'
        unfold KRule at h7
        split at h7 <;> omega
    · have h5 : (evs.drop (i + 1))[j - (i + 1)]? = some e' := by rw [List.getElem?_drop, show i + 1 + (j - (i + 1)) = j from by omega]; exact hj
      exact ((hc.2.2 e' (List.mem_of_getElem? h5)).2 (by omega)).1
theorem Row.step (hr : Row E l ops nt ck F es evs s0 sN) {ρ0 : Ren} {w0 : World} (hg0 : GL E ρ0) {S : Nat → Prop} {i : Nat} {e : Ev} {a : Act} {w : World} {ρ : Ren} {k : Nat} {df : List AD}
    (inv : Inv E nt F es evs s0 sN (befores ops.toList []) ρ0 w0 S a w ρ k df) (hi : Ready ops.toList S i) (hn : ¬ S i) (he : evs[i]? = some e) (Q : Exit → Act → World → Prop) :
    wpOpIn (FW l) 0 E.P ops Q i (fun a' w' => ∃ ρ' k' df', Inv E nt F es evs s0 sN (befores ops.toList []) ρ0 w0 (fun x => x = i ∨ S x) a' w' ρ' k' df') a w := by
  have hmem := List.mem_of_getElem? he
  have ho := hr.ok e hmem
  have hg : GL E ρ := hg0.mono inv.st.ext
  obtain ⟨hvr, hw⟩ := hr.vro inv.cl hi hn he hg inv.tm
  have hcl := closed_add inv.cl hi
  have hwin := hr.in_win inv.cl inv.ks hi hn he
  unfold wpOpIn
  simp only [hr.op_at he, hw]
  cases hb : e.b with
  | false =>
    simp only [Bool.false_eq_true, if_false]
    obtain ⟨n1, n2, n3, n4⟩ := ho.nb hb
    refine ⟨fun _ _ => trivial, ?_⟩
    obtain ⟨t1, t2⟩ := hr.tm_add inv.cl hi hn he (v' := undef) inv.sz inv.tm (Ren.le_refl ρ) (by rw [n1]; exact VR.undef ρ)
    cases hef : e.eff with
    | false =>
      refine ⟨ρ, k, df, hcl, hr.ks_same he hef inv.ks, by rw [hr.xs_same he n2]; exact inv.st, ?_, ?_, t1, t2, inv.dfc, by rw [put_defers]; exact inv.dr⟩
      · intro j e' hj hns b h1 h2
        rw [hr.xs_same he n2]
        exact inv.fr j e' hj (fun h => hns (.inr h)) b h1 h2
      · intro j e' ob hj hje ha hh
        rcases hj with rfl | hj
        · rw [he] at hje; injection hje with hje; subst hje; rw [n2] at ha; cases ha
        · exact inv.ap j e' ob hj hje ha hh
    | true =>
      obtain ⟨hk, hks⟩ := hr.ks_next inv.cl hi hn he hef inv.ks
      subst hk
      obtain ⟨f1, f2, f3⟩ := hr.next_at he hef
      have hhl := ho.efb hef hb
      have hlaid := hr.laid inv.cl hi he hef rfl
      have hst := inv.st
      have hfr := inv.fr
      have hap := inv.ap
      rw [hr.heap_at hmem] at hst
      simp only [hr.heap_at hmem] at hfr hap
      have hhp : ovl (XS evs (fun x => x = i ∨ S x) (e.s.k + 1)) (hv (F.getD (e.s.k + 1) .leaf)) = ovl (XS evs S e.s.k) (hv e.s.h) := by
        rw [hr.xs_same he n2, f1, hhl, hlaid]
      refine ⟨ρ, e.s.k + 1, df, hcl, hks, by rw [hhp]; exact hst, ?_, ?_, t1, t2, ?_, by rw [put_defers]; exact inv.dr⟩
      · intro j e' hj hns b h1 h2
        rw [hhp]
        exact hfr j e' hj (fun h => hns (.inr h)) b h1 h2
      · intro j e' ob hj hje ha hh
        rcases hj with rfl | hj
        · rw [he] at hje; injection hje with hje; subst hje; rw [n2] at ha; cases ha
        · rw [f1, hhl]
          exact hr.apart_hl he hef rfl hap hj hje ha hh
      · have hdf := inv.dfc.1 e hmem rfl
        exact ⟨fun e' he' hk' => by rw [f2 e' he' hk', n4, hdf], fun hk' => by rw [f3 hk', n4, hdf]⟩
  | true =>
    simp only [if_true]
    have hex : (∀ c, e.o.op ≠ .defer c) → e.o.semAt l a.eval = execOp a.eval e.o := fun h => Oper.semAt_eq _ _ _ h
    have hFk : F[k]? = some (F.getD k .leaf) := by
      have h1 := hr.fN
      have h2 : k < F.length := by
        have := (List.getElem?_eq_some_iff.1 h1).1
        have := inv.ks.1
        have := hr.efN
        omega
      rw [List.getD_eq_getElem?_getD, List.getElem?_eq_getElem h2]; rfl
    have hweak : Rel ρ (hv (F.getD k .leaf)) w := inv.st.rel.weak fun b hb' => by
      by_cases hx : XS evs S k b = .x
      · rw [ovl_none hx]
      · obtain ⟨ob, j, ev, h1, h2, h3, h4, h5⟩ := xs_inv hx
        subst h5
        exact absurd (inv.ap j ev ob h1 h2 h3 h4) hb'
    cases hef : e.eff with
    | false =>
      cases hal : e.al with
      | none =>
        have hpu := ho.pu hb hef hal
        have hval : ∃ v', VR ρ e.v v' ∧ (execOp a.eval e.o).run E.P w = .ok (.value v') w := by
          rcases hpu.2 with hp | hp | ⟨t, b, ob, hi2, p1, p2, p3, p4, p5⟩
          · exact pu_sem (.inl hp) (hr.fs e hmem) (hr.own_win he) hr.ckE hFk hwin.1 hwin.2 ρ a w hvr hweak
          · exact pu_sem (.inr hp) (hr.fs e hmem) (hr.own_win he) hr.ckE hFk hwin.1 hwin.2 ρ a w hvr hweak
          · -- the block is pending; whoever names it has laid it
            have hρ : ∃ t', ρ b = some t' := by
              have hv2 := hvr (.tmp t) p1 _ rfl
              generalize hg2 : e.s.tm.get (.tu []) (pth t) = av at p2 hv2
              generalize a.eval (.tmp t) = uv at hv2
              cases av with
              | sl b0 o0 n0 c0 x0 =>
                have hb0 : b0 = b := Option.some.inj p2
                subst hb0
                cases hv2 with
                | sl h0 _ _ _ _ _ => exact ⟨_, h0⟩
              | p b0 o0 =>
                have hb0 : b0 = b := Option.some.inj p2
                subst hb0
                cases hv2 with
                | p h0 => exact ⟨_, h0⟩
              | _ => cases p2
            obtain ⟨t', hρ⟩ := hρ
            have hlk := (links_get hr.links he).1
            obtain ⟨j, ev, ob', g1, g2, g3, g4, g5⟩ := (row_pend hr.ok hr.kr (fun e he => by obtain ⟨i, hi⟩ := List.getElem?_of_mem he; exact (hr.own_win hi).2) hr.z.2 i _ (Nat.le_of_lt (List.getElem?_eq_some_iff.1 he).1) hlk (hi2, b, ob)).1 p3
            injection g4 with e1 e2
            injection e2 with e2 e3
            subst e1 e2 e3
            have hSj : S j := by
              apply Classical.byContradiction
              intro hns
              have hal2 := (hr.ok ev (List.mem_of_getElem? g2)).al ob g3
              have := (inv.fr j ev g2 hns ev.s.n (Nat.le_refl _) (by rw [hal2.2.2.1, nat_succ]; omega)).1
              rw [this] at hρ
              cases hρ
            have hx := hr.xs_some (k := k) g2 hSj g3 (Nat.le_trans hwin.2 p4)
            refine p5 ρ a w hvr (inv.st.rel.weak fun c hc => ?_)
            have hown := (hr.ok ev (List.mem_of_getElem? g2)).al ob g3
            rw [hv_put] at hc ⊢
            by_cases hcb : c = ev.s.n
            · subst hcb
              rw [upd_same] at hc ⊢
              rw [ovl_some (by rw [hx]; exact hc), hx]
            · rw [upd_other _ _ hcb] at hc
              exact absurd (get_leaf _ _) hc
        obtain ⟨v', g1, g2⟩ := hval
        refine ⟨fun _ _ => trivial, ?_⟩
        show e.o.uponIn (FW l) 0 E.P a _ Q ((e.o.semAt l a.eval).run E.P w)
        rw [hex hpu.1, g2]
        obtain ⟨t1, t2⟩ := hr.tm_add inv.cl hi hn he (v' := v') inv.sz inv.tm (Ren.le_refl ρ) g1
        refine ⟨ρ, k, df, hcl, hr.ks_same he hef inv.ks, by rw [hr.xs_same he hal]; exact inv.st, ?_, ?_, t1, t2, inv.dfc, by rw [put_defers]; exact inv.dr⟩
        · intro j e' hj hns b h1 h2
          rw [hr.xs_same he hal]
          exact inv.fr j e' hj (fun h => hns (.inr h)) b h1 h2
        · intro j e' ob hj hje ha hh
          rcases hj with rfl | hj
          · rw [he] at hje; injection hje with hje; subst hje; rw [hal] at ha; cases ha
          · exact inv.ap j e' ob hj hje ha hh
      | some ob =>
        obtain ⟨_, _, hn', _, hnd, hob, hsem⟩ := ho.al ob hal
        have hfr := inv.fr i e he hn e.s.n (Nat.le_refl _) (by rw [hn', nat_succ]; omega)
        obtain ⟨v', w', ob', t, g1, g2, g3, g4, g5⟩ := hsem ρ a w hvr hfr.1
        refine ⟨fun _ _ => trivial, ?_⟩
        show e.o.uponIn (FW l) 0 E.P a _ Q ((e.o.semAt l a.eval).run E.P w)
        rw [hex hnd, g1]
        have hst := Step.new inv.st.rel hfr.1 hfr.2 g3 g5 (rel_lt inv.st.rel) g2.heap g2.os g2.tape g2.output hob.2
        rw [← ovl_upd hob.1, ← hr.xs_add he hal hwin.2] at hst
        have hrg := hr.range he
        have hst2 := inv.st.within hst (by omega) (by rw [hn'] at hrg; omega)
        obtain ⟨t1, t2⟩ := hr.tm_add inv.cl hi hn he (v' := v') inv.sz inv.tm hst.ext g4
        refine ⟨_, k, df, hcl, hr.ks_same he hef inv.ks, hst2, ?_, ?_, t1, t2, inv.dfc, by rw [put_defers]; exact inv.dr.mono hst.ext⟩
        · intro j e' hj hns b h1 h2
          have hbn : b ≠ e.s.n := by
            intro hbe
            subst hbe
            rcases Nat.lt_trichotomy i j with h | h | h
            · have := hr.names he hj h; rw [hn', nat_succ] at this; omega
            · exact hns (.inl h.symm)
            · have := hr.names hj he h; omega
          have := inv.fr j e' hj (fun h => hns (.inr h)) b h1 h2
          rw [updR_other _ hbn, hr.xs_add he hal hwin.2, ovl_upd hob.1, upd_other _ _ hbn]
          exact this
        · intro j e' ob2 hj hje ha hh
          rcases hj with rfl | hj
          · rw [he] at hje; injection hje with hje; subst hje
            have := hfr.2
            by_cases hx : XS evs S k e.s.n = .x
            · rw [ovl_none hx] at this; exact this
            · rw [ovl_some hx] at this; exact absurd this hx
          · exact inv.ap j e' ob2 hj hje ha hh
    | true =>
      obtain ⟨hk, hks⟩ := hr.ks_next inv.cl hi hn he hef inv.ks
      subst hk
      obtain ⟨f1, f2, f3⟩ := hr.next_at he hef
      obtain ⟨hal, _, _, _⟩ := ho.ef hef
      have hlaid := hr.laid inv.cl hi he hef rfl
      have hst := inv.st
      have hfr := inv.fr
      have hap := inv.ap
      have hdf := inv.dfc.1 e hmem rfl
      rw [hr.heap_at hmem, hlaid] at hst
      simp only [hr.heap_at hmem, hlaid] at hfr
      simp only [hr.heap_at hmem] at hap
      have hX : ∀ b, XS evs S (e.s.k + 1) b ≠ .x → own (XS evs S (e.s.k + 1) b) ∧ hv e.hl b = .x ∧ ∃ j ev, S j ∧ evs[j]? = some ev ∧ ev.s.n = b ∧ ev.s'.n = ev.s.n.succ := by
        intro b hb'
        obtain ⟨ob, j, ev, h1, h2, h3, h4, h5⟩ := xs_inv hb'
        subst h5
        rw [hr.xs_some h2 h1 h3 h4]
        exact ⟨hr.al_own h2 h3, hr.apart_hl he hef rfl hap h1 h2 h3 h4, j, ev, h1, h2, rfl, ((hr.ok ev (List.mem_of_getElem? h2)).al ob h3).2.2.1⟩
      have hapart : ∀ (j : Nat) (ev : Ev), evs[j]? = some ev → j ≠ i → ∀ b : Pn, ev.s.n.nat ≤ b.nat → b.nat < ev.s'.n.nat → ¬ (e.s.n.nat ≤ b.nat ∧ b.nat < e.s'.n.nat) := by
        intro j ev hj hji b h1 h2 h3
        rcases Nat.lt_or_gt_of_ne hji with h | h
        · have := hr.names hj he h; omega
        · have := hr.names he hj h; omega
      have hnil : ∀ b, ovl (XS evs S (e.s.k + 1)) (hv e.hl) b = .x → XS evs S (e.s.k + 1) b = .x ∧ hv e.hl b = .x := by
        intro b h
        by_cases hx : XS evs S (e.s.k + 1) b = .x
        · exact ⟨hx, by rwa [ovl_none hx] at h⟩
        · rw [ovl_some hx] at h; exact absurd h hx
      have hR2 : Rel ρ (hv e.hl) w := hst.rel.weak fun b hb' => by
        by_cases hx : XS evs S (e.s.k + 1) b = .x
        · rw [ovl_none hx]
        · exact absurd (hX b hx).2.1 hb'
      have hF2 : Fresh ρ (hv e.hl) e.s.n e.s'.n := fun b h1 h2 => by
        obtain ⟨q1, q2⟩ := hfr i e he hn b h1 h2
        exact ⟨q1, (hnil b q2).2⟩
      have hdr : DR E ρ e.s.df a.defers := by rw [hdf]; exact inv.dr
      refine ho.efs hb hef ρ a w hg hvr hdr hR2 hF2 _ Q fun ρ' v' w' ds' st vr dr' => ?_
      have hx3 : ∀ b, XS evs S (e.s.k + 1) b ≠ .x → own (XS evs S (e.s.k + 1) b) ∧ hv e.hl b = .x ∧ hv e.s'.h b = .x := by
        intro b hb'
        obtain ⟨g1, g2, j, ev, g3, g4, g5, g6⟩ := hX b hb'
        refine ⟨g1, g2, ?_⟩
        apply Classical.byContradiction
        intro hc
        rcases st.lv b hc with h | h
        · exact h g2
        · exact hapart j ev g4 (fun hji => hn (by rw [← hji]; exact g3)) b (by rw [g5]; exact Nat.le_refl _) (by rw [g6, nat_succ, g5]; omega) h
      have hfs := Step.frame hst.rel st hx3
      have hrg := hr.range he
      have hst2 := hst.within hfs hrg.1 hrg.2.2
      have hhp : ovl (XS evs (fun x => x = i ∨ S x) (e.s.k + 1)) (hv (F.getD (e.s.k + 1) .leaf)) = ovl (XS evs S (e.s.k + 1)) (hv e.s'.h) := by
        rw [hr.xs_same he hal, f1]
      obtain ⟨t1, t2⟩ := hr.tm_add (a := { a with defers := ds' }) inv.cl hi hn he (v' := v') inv.sz inv.tm st.ext vr
      refine ⟨ρ', e.s.k + 1, e.s'.df, hcl, hks, by rw [hhp]; exact hst2, ?_, ?_, t1, t2, ⟨f2, f3⟩, by rw [put_defers]; exact dr'⟩
      · intro j e' hj hns b h1 h2
        obtain ⟨q1, q2⟩ := hfr j e' hj (fun h => hns (.inr h)) b h1 h2
        obtain ⟨q3, q4⟩ := hnil b q2
        have hnr := hapart j e' hj (fun h => hns (.inl h)) b h1 h2
        constructor
        · apply Classical.byContradiction
          intro hc
          exact hnr (st.nw b q1 hc)
        · rw [hhp, ovl_none q3]
          apply Classical.byContradiction
          intro hc
          rcases st.lv b hc with h | h
          · exact h q4
          · exact hnr h
      · intro j e' ob hj hje ha hh
        rcases hj with rfl | hj
        · rw [he] at hje; injection hje with hje; subst hje; rw [hal] at ha; cases ha
        · rw [f1]
          have hxs := hr.xs_some (k := e.s.k + 1) hje hj ha hh
          exact (hx3 e'.s.n (by rw [hxs]; exact (hr.al_own hje ha).1)).2.2
end
end Ax
end Go.Proofs.YtdfgnoflohfnmaaGreatDoor

/-! Regions that draw their order: every order. -/

namespace Go.Proofs.YtdfgnoflohfnmaaGreatDoor
namespace Ax
def left (N : Nat) (listed : Array Bool) : Nat := ((List.range N).filter fun x => !listed.getD x false).length
theorem left_zero {N : Nat} {listed : Array Bool} (h : left N listed = 0) : ∀ x, x < N → listed.getD x false = true := by
  intro x hx
  have := List.filter_eq_nil_iff.1 (List.length_eq_zero_iff.1 h) x (List.mem_range.2 hx)
  simpa using this
theorem left_set {N : Nat} {listed : Array Bool} {i : Nat} (hi : i < N) (hs : i < listed.size) (hl : listed.getD i false = false) : left N (listed.setIfInBounds i true) + 1 ≤ left N listed := by
  unfold left
  have : ∀ (l : List Nat), i ∈ l → (l.filter fun x => !(listed.setIfInBounds i true).getD x false).length + 1 ≤ (l.filter fun x => !listed.getD x false).length := by
    have hle : ∀ (l : List Nat), (l.filter fun x => !(listed.setIfInBounds i true).getD x false).length ≤ (l.filter fun x => !listed.getD x false).length := by
      intro l
      induction l with
      | nil => simp
      | cons x l ih =>
        rw [List.filter_cons, List.filter_cons]
        by_cases hx : x = i
        · subst hx
          have : (listed.setIfInBounds x true).getD x false = true := by simp [Array.getD, hs]
          rw [this, hl]
          simp only [Bool.not_true, Bool.false_eq_true, if_false, Bool.not_false, if_true, List.length_cons]
          omega
        · rw [getD_set_ne false (fun e => hx e.symm)]
          split
          · simp only [List.length_cons]; omega
          · exact ih
    intro l
    induction l with
    | nil => intro h; cases h
    | cons x l ih =>
      intro hm
      rw [List.filter_cons, List.filter_cons]
      by_cases hx : x = i
      · subst hx
        have : (listed.setIfInBounds x true).getD x false = true := by simp [Array.getD, hs]
        rw [this, hl]
        simp only [Bool.not_true, Bool.false_eq_true, if_false, Bool.not_false, if_true, List.length_cons]
        have := hle l
        omega
      · rw [getD_set_ne false (fun e => hx e.symm)]
        have hm' : i ∈ l := by
          rcases List.mem_cons.1 hm with h | h
          · exact absurd h.symm hx
          · exact h
        split
        · simp only [List.length_cons]; have := ih hm'; omega
        · exact ih hm'
  exact this _ (List.mem_range.2 hi)
section
variable {E : Env} {l : Option Nat} {ops : Array Oper} {nt : Nat} {ck : List Ck} {F : List (Tr AO)} {es : List Nat} {evs : List Ev} {s0 sN : St}
theorem Row.len (hr : Row E l ops nt ck F es evs s0 sN) : evs.length = ops.size := by
  have := congrArg List.length hr.opsE
  simpa using this
def Lin (ops : Array Oper) : List Nat → (Nat → Prop) → Prop
  | [], S => ∀ x, x < ops.size → S x
  | i :: r, S => ¬ S i ∧ Ready ops.toList S i ∧ Lin ops r fun x => x = i ∨ S x
theorem all_listed {ops : Array Oper} (hed : edgesOk ops.toList 0 = true) {listed : Array Bool} (hs : listed.size = ops.size) (h : Region.ready .any ops listed = []) : ∀ x, x < ops.size → listed.getD x false = true := by
  intro x
  induction x using Nat.strongRecOn with
  | _ x ih =>
    intro hx
    apply Classical.byContradiction
    intro hn
    have ho : ops[x]? = some ops[x] := Array.getElem?_eq_getElem hx
    have : x ∈ Region.ready .any ops listed := by
      rw [mem_ready]
      refine ⟨?_, ops[x], ho, fun e he hb => ?_⟩
      · have hlt : x < listed.size := by omega
        cases hv : listed[x] with
        | true => exact absurd (by simp [Array.getD, hlt, hv]) hn
        | false => simp [Array.getD, hlt, hv]
      · have := edges_prefix (ops := ops.toList) ops.toList 0 hed x ops[x] (by rw [Array.getElem?_toList]; exact ho) e (Array.mem_toList_iff.2 he) hb
        exact ih e.on (by omega) (by omega)
    rw [h] at this
    cases this
theorem lin_go {ops : Array Oper} (hed : edgesOk ops.toList 0 = true) : ∀ (fuel t : Nat) (listed : Array Bool), listed.size = ops.size → Ax.left ops.size listed ≤ fuel → Lin ops (Region.linearise.go .any ops fuel t listed []) (fun x => listed.getD x false = true)
  | 0, t, listed, hs, hl => by
    have hall := left_zero (Nat.le_zero.1 hl)
    simp only [Region.linearise.go, List.reverse_nil]
    exact hall
  | fuel + 1, t, listed, hs, hl => by
    simp only [Region.linearise.go]
    change Lin ops (match (Region.ready .any ops listed)[t % (Region.ready .any ops listed).length]? with
      | some i => Region.linearise.go .any ops fuel (t / (Region.ready .any ops listed).length) (listed.setIfInBounds i true) [i]
      | none => [].reverse) _
    cases hi : (Region.ready .any ops listed)[t % (Region.ready .any ops listed).length]? with
    | none =>
      have hnil : Region.ready .any ops listed = [] := by
        cases hr : Region.ready .any ops listed with
        | nil => rfl
        | cons x xs =>
          rw [hr] at hi
          have hlt : t % (x :: xs).length < (x :: xs).length := Nat.mod_lt _ (by simp)
          simp at hi
          simp at hlt
          omega
      exact all_listed hed hs hnil
    | some i =>
      simp only []
      rw [linearise_go_acc, List.reverse_singleton, List.singleton_append]
      have hmem := List.mem_of_getElem? hi
      rw [mem_ready] at hmem
      obtain ⟨h1, o, h2, h3⟩ := hmem
      have hlt : i < ops.size := (Array.getElem?_eq_some_iff.1 h2).1
      have hlt2 : i < listed.size := by omega
      have hnl : listed.getD i false = false := by simp [Array.getD, hlt2] at h1 ⊢; exact h1
      refine ⟨fun h => (by rw [show listed.getD i false = true from h] at hnl; cases hnl), ⟨o, by rw [Array.getElem?_toList]; exact h2, fun e he hb => h3 e (Array.mem_toList_iff.1 he) hb⟩, ?_⟩
      have := lin_go hed fuel (t / (Region.ready .any ops listed).length) (listed.setIfInBounds i true) (by simpa using hs) (by have := left_set hlt hlt2 hnl; omega)
      have hS : (fun x => (listed.setIfInBounds i true).getD x false = true) = fun x => x = i ∨ listed.getD x false = true := by
        funext x
        apply propext
        by_cases hx : x = i
        · subst hx
          simp [Array.getD, hlt2]
        · rw [getD_set_ne false (fun e => hx e.symm)]
          simp [hx]
      rw [hS] at this
      exact this
theorem Row.any (hr : Row E l ops nt ck F es evs s0 sN) {ρ0 : Ren} {w0 : World} (hg0 : GL E ρ0) (Q : Exit → Act → World → Prop)
    (hfin : ∀ (S : Nat → Prop) a w ρ k df, (∀ x, x < ops.size → S x) → Inv E nt F es evs s0 sN (befores ops.toList []) ρ0 w0 S a w ρ k df → Q .normal a w) :
    ∀ (σ : List Nat) (S : Nat → Prop) (a : Act) (w : World), Lin ops σ S → (∃ ρ k df, Inv E nt F es evs s0 sN (befores ops.toList []) ρ0 w0 S a w ρ k df) → wpOpsIn (FW l) 0 E.P ops Q σ a w
  | [], S, a, w, hL, ⟨ρ, k, df, inv⟩ => hfin _ a w ρ k df hL inv
  | i :: σ, S, a, w, hL, ⟨ρ, k, df, inv⟩ => by
    obtain ⟨h1, h2, h3⟩ := hL
    rw [wpOpsIn_cons]
    have hlt : i < ops.size := by
      obtain ⟨o, h4, _⟩ := h2
      have := (List.getElem?_eq_some_iff.1 h4).1
      simpa using this
    have hev : evs[i]? = some (evs[i]'(by rw [hr.len]; exact hlt)) := List.getElem?_eq_getElem _
    refine wpOpIn_mono (fun a' w' h => ?_) (hr.step hg0 inv h2 h1 hev Q)
    exact hr.any hg0 Q hfin σ _ a' w' h3 h
end
end Ax
end Go.Proofs.YtdfgnoflohfnmaaGreatDoor

/-! Regions that draw their order: the theorem. -/

namespace Go.Proofs.YtdfgnoflohfnmaaGreatDoor
namespace Ax
section
variable {E : Env} {o : Oper}
theorem krule_of {E : Env} {l : Option Nat} {ops : Array Oper} {nt : Nat} {ck : List Ck} {e : Ev} (h : EvOK E l ops nt ck e) : KRule e := by
  unfold KRule
  cases he : e.eff with
  | false => simp [(h.ne he).1]
  | true => simp [(h.ef he).2.1]
theorem pnRd_mem {cs : List CO} {ops : List Oper} {i : Nat} {t : Tmp} (h : pnRd cs ops i = some t) {o : Oper} (ho : ops[i]? = some o) : Operand.tmp t ∈ o.op.operands := by
  unfold pnRd at h
  rw [ho] at h
  simp only at h
  split at h
  · rename_i u v t' hop
    split at h
    · injection h with h
      subst h
      rw [hop]
      show Operand.tmp t' ∈ #[Operand.tmp t']
      simp
    · cases h
  · cases h
theorem drw_inv (hE : EOK E) {ix : FuncId → Option Ix} (hI : IxOK E ix) {B : Bd} (hB : BdOK E B) {nt : Nat} {ro : Bool} {l : Option Nat} (hl : ro = false → l = none) {ops : Array Oper} {ds : List DO} (hd : drawOf (cosOf E ix nt ro ops.toList ops.toList) ops.toList = some ds)
    {tm : Tr AV} {df : List AD} {h : Tr AO} {n : Pn} (hk : Ok (drw ds B tm df h n .nm)) :
    ∃ tm' df' h' n', drw ds B tm df h n .nm = .nm tm' df' h' n' ∧ n.nat ≤ n'.nat ∧ ∀ (ρ : Ren) (a : Act) (w : World), GL E ρ → FR ρ nt tm a.tmps → DR E ρ df a.defers → Rel ρ (hv h) w → Fresh ρ (hv h) n n' →
      ∀ Q : Exit → Act → World → Prop, (∀ ρ' a' w', Step ρ (hv h) w n ρ' (hv h') w' n' → FR ρ' nt tm' a'.tmps → DR E ρ' df' a'.defers → Q .normal a' w') → ∀ σ, Lin ops σ (fun _ => False) → wpOpsIn (FW l) 0 E.P ops Q σ a w := by
  unfold drawOf at hd
  simp only at hd
  split at hd
  · rename_i hcond
    injection hd with hd
    subst hd
    simp only [Bool.and_eq_true] at hcond
    obtain ⟨⟨hch, hte⟩, hed⟩ := hcond
    unfold drw at hk ⊢
    obtain ⟨evs, tm', df', h', n', s', k1, k2, k3, k4, k5, k6, k6', k7, k8, k9, k10⟩ := drwL_inv hE hI hB hl (bs := befores ops.toList []) (es := effs (cosOf E ix nt ro ops.toList ops.toList) 0) ops.toList 0 hk (by simp) rfl (by simp) (fun q o t hq ht => pnRd_mem (by rw [Nat.zero_add] at ht; exact ht) hq)
    rw [k1] at hk ⊢
    obtain ⟨h1, h2⟩ := ckAll_inv _ _ k6' hk
    rw [h1] at hk ⊢
    obtain ⟨hF, h3, h4⟩ := layP_eq s'.kc s'.pd h' (fun p hp => (k7 p hp).1)
    rw [h3]
    have hkr : ∀ e ∈ evs, KRule e := fun e he => krule_of (k6 e he)
    have hmap : (cosOf E ix nt ro ops.toList ops.toList).map (fun c => isEff c.c) = evs.map (·.eff) := by
      have hc : ∀ l : List Oper, cosOf E ix nt ro ops.toList l = l.map (coOf E ix nt ro ops.toList) := by
        intro l; induction l with
        | nil => rfl
        | cons o r ih => exact congrArg (_ :: ·) ih
      have e0 : List.map (coOf E ix nt ro ops.toList) ops.toList = List.map (coOf E ix nt ro ops.toList) (evs.map (·.o)) := by rw [k3]
      rw [hc, e0, List.map_map, List.map_map]
      apply List.map_congr_left
      intro ev hev
      obtain ⟨q, hq⟩ := List.getElem?_of_mem hev
      exact (k4 q ev hq).2.2.symm
    obtain ⟨e1, e2, e3⟩ := effs_links 0 hmap k2 hkr
    have hnn := (links_names k2 k6).1
    refine ⟨_, _, _, _, rfl, hnn, fun ρ a w hg hf hdr hR hFr Q hq σ hσ => ?_⟩
    have row : Row E l ops nt s'.ck (s'.sn.reverse ++ [h']) (effs (cosOf E ix nt ro ops.toList ops.toList) 0) evs (stOf tm df h n { kc := 0, sn := [], pd := [], ck := [] }) (stOf tm' df' h' n' s') :=
      { links := k2, opsE := k3, ok := k6
        win := fun q ev hq => by
          have := k4 q ev hq
          rw [Nat.zero_add] at this
          exact ⟨this.1, this.2.1⟩
        fs := k10
        fN := by
          show (s'.sn.reverse ++ [h'])[s'.kc]? = some h'
          rw [← k8, List.getElem?_append_right (by simp)]
          simp
        ckE := by simpa using h2
        ef1 := fun q ev hq he => by
          have := (e2 q ev hq).2.2 he
          simpa [stOf] using this
        ef2 := fun k p hp => by
          obtain ⟨q, ev, g1, g2, g3, g4⟩ := e3 k p hp
          exact ⟨ev, by rw [g1, Nat.zero_add]; exact g2, g3, by rw [g4]; simp [stOf]⟩
        efN := by rw [e1]; simp [stOf]
        kr := hkr, ch := hch, te := hte, ed := hed, z := ⟨rfl, rfl⟩ }
    have hno : ∀ x, ¬ ((Array.replicate ops.size false).getD x false = true) := by
      intro x hx
      by_cases hlt : x < ops.size <;> simp [Array.getD, hlt] at hx
    have hF0 : (s'.sn.reverse ++ [h']).getD 0 .leaf = h := by
      obtain ⟨tt, ht⟩ := k9
      rw [ht]; rfl
    have hX0 : XS evs (fun x => (Array.replicate ops.size false).getD x false = true) 0 = fun _ => .x := by
      funext b
      exact xs_none fun ob i ev hi => absurd hi (hno i)
    have hov : ovl (XS evs (fun x => (Array.replicate ops.size false).getD x false = true) 0) (hv ((s'.sn.reverse ++ [h']).getD 0 .leaf)) = hv h := by
      rw [hX0, hF0, ovl_empty]
    have hlc := links_const k2 k6 hkr
    have inv0 : Inv E nt (s'.sn.reverse ++ [h']) (effs (cosOf E ix nt ro ops.toList ops.toList) 0) evs (stOf tm df h n { kc := 0, sn := [], pd := [], ck := [] }) (stOf tm' df' h' n' s') (befores ops.toList []) ρ w (fun x => (Array.replicate ops.size false).getD x false = true) a w ρ 0 df :=
      { cl := fun i hi => absurd hi (hno i)
        ks := ⟨Nat.zero_le _, fun q e _ => ⟨fun h => absurd h (hno e), fun h => absurd h (Nat.not_lt_zero q)⟩⟩
        st := by rw [hov]; exact Step.start hR hnn
        fr := fun i e he _ b h1 h2 => by
          rw [hov]
          have := row.range he
          exact hFr b (Nat.le_trans this.1 h1) (Nat.lt_of_lt_of_le h2 this.2.2)
        ap := fun i e ob hi => absurd hi (hno i)
        sz := hf.1
        tm := fun t => ⟨_, .inl ⟨rfl, fun i ev hi => absurd hi (hno i)⟩, hf.2 t⟩
        dfc := ⟨fun e he hk => ((hlc.2.2 e he).2 hk).1, fun hk => (hlc.2.1 hk).1⟩
        dr := hdr }
    have hS0 : (fun x => (Array.replicate ops.size false).getD x false = true) = fun _ => False := funext fun x => propext ⟨hno x, False.elim⟩
    rw [hS0] at inv0
    refine row.any hg Q ?_ σ _ a w hσ ⟨ρ, 0, df, inv0⟩
    · intro S a' w' ρ' k' df2 hall inv
      have hlen := row.len
      have hkk : k' = s'.kc := by
        have h5 : (effs (cosOf E ix nt ro ops.toList ops.toList) 0).length = s'.kc := row.efN
        have h6 := inv.ks.1
        apply Classical.byContradiction
        intro hne
        have hlt : k' < (effs (cosOf E ix nt ro ops.toList ops.toList) 0).length := by omega
        have h7 := List.getElem?_eq_getElem hlt
        obtain ⟨ev, g1, _, _⟩ := row.ef2 _ _ h7
        have h8 := (List.getElem?_eq_some_iff.1 g1).1
        have := (inv.ks.2 _ _ h7).1 (hall _ (by omega))
        omega
      subst hkk
      have hpd := row_pend row.ok row.kr (fun e he => by obtain ⟨i, hi⟩ := List.getElem?_of_mem he; exact (row.own_win hi).2) row.z.2 evs.length _ (Nat.le_refl _) (by rw [List.take_length]; exact k2)
      have hFk : (s'.sn.reverse ++ [h']).getD s'.kc .leaf = h' := by
        have := row.fN
        rw [List.getD_eq_getElem?_getD]
        show ((s'.sn.reverse ++ [h'])[s'.kc]?).getD .leaf = h'
        rw [show (s'.sn.reverse ++ [h'])[s'.kc]? = some h' from this]; rfl
      have hst := inv.st
      rw [hFk] at hst
      refine hq ρ' a' w' (hst.weak fun b hb => ?_) ⟨inv.sz, fun t => ?_⟩ (by have h20 : df' = df2 := inv.dfc.2 rfl; rw [h20]; exact inv.dr)
      · rw [h4] at hb ⊢
        by_cases hx : XS evs S s'.kc b = .x
        · rw [ovl_none hx, ovl_none]
          refine ph_none fun p hp hpb => ?_
          rw [List.mem_filter] at hp
          obtain ⟨j, ev, ob, g1, g2, g3, rfl, g5⟩ := (hpd p).1 hp.1
          have := row.xs_some (k := s'.kc) g2 (hall j (by omega)) g3 g5
          rw [show ev.s.n = b from hpb, hx] at this
          exact (row.al_own g2 g3).1 this.symm
        · obtain ⟨ob, j, ev, g1, g2, g3, g4, g5⟩ := xs_inv hx
          subst g5
          rw [ovl_some hx, row.xs_some g2 g1 g3 g4]
          have hj : j < evs.length := (List.getElem?_eq_some_iff.1 g2).1
          have hph : PH (s'.pd.filter fun e => Nat.ble e.1 s'.kc) ev.s.n = ob := by
            refine ph_some ⟨(ev.hi, ev.s.n, ob), ?_, rfl⟩ (fun p hp hb2 => ?_) (row.al_own g2 g3).1
            · rw [List.mem_filter]
              refine ⟨(hpd _).2 ⟨j, ev, ob, hj, g2, g3, rfl, g4⟩, ble_iff.2 ?_⟩
              have h9 := (hiOf_spec (befores ops.toList []) j (effs (cosOf E ix nt ro ops.toList ops.toList) 0)).1
              rw [← (row.win j ev g2).2] at h9
              have h10 : (effs (cosOf E ix nt ro ops.toList ops.toList) 0).length = s'.kc := row.efN
              simp only; omega
            · rw [List.mem_filter] at hp
              obtain ⟨j', ev', ob', q1, q2, q3, rfl, q5⟩ := (hpd p).1 hp.1
              have := row.al_one q2 g2 q3 g3 hb2
              subst this
              rw [g2] at q2; injection q2 with q2; subst q2
              rw [g3] at q3; injection q3 with q3; exact q3.symm
          rw [ovl_some (by rw [hph]; exact (row.al_own g2 g3).1), hph]
      · obtain ⟨v, v1, v2⟩ := inv.tm t
        have h11 := row_tmps row.ok t evs.length _ (Nat.le_refl _) (by rw [List.take_length]; exact k2)
        have := v1.unique h11 fun i ev hi _ => by
          have h12 := (List.getElem?_eq_some_iff.1 hi).1
          exact ⟨fun _ => h12, fun _ => hall i (by omega)⟩
        rw [← show v = tm'.get (.tu []) (pth t) from this]
        exact v2
  · cases hd
theorem drawOf_edges {cs : List CO} {ops : List Oper} {ds : List DO} (h : drawOf cs ops = some ds) : edgesOk ops 0 = true := by
  unfold drawOf at h
  simp only at h
  split at h
  · rename_i hc
    simp only [Bool.and_eq_true] at hc
    exact hc.2
  · cases h
theorem lin_schedule (hE : EOK E) {ops : Array Oper} (hed : edgesOk ops.toList 0 = true) (t : Nat) : Lin ops (Region.schedule (E.P.follows .mixedOrders) ops t) (fun _ => False) := by
  unfold Region.schedule
  rw [hE.mix, Bool.true_or, if_pos rfl]
  have := lin_go hed ops.size t (Array.replicate ops.size false) (by simp) (by unfold Ax.left; exact Nat.le_trans (List.length_filter_le _ _) (by simp))
  have hS0 : (fun x => (Array.replicate ops.size false).getD x false = true) = fun _ => False := funext fun x => propext ⟨fun hx => by
    by_cases hlt : x < ops.size <;> simp [Array.getD, hlt] at hx, False.elim⟩
  rw [hS0] at this
  exact this
end
end Ax
end Go.Proofs.YtdfgnoflohfnmaaGreatDoor

/-! Ranges over maps by sets of entries: trees, what says no more, the iterator's steps. -/

namespace Go.Proofs.YtdfgnoflohfnmaaGreatDoor
namespace Ax
/-! ### objects are one -/
theorem aeqZ_eq {f : AV → AV → Bool} (hf : ∀ a b, f a b = true → a = b) (x : List AV) : ∀ {y : List AV}, aeqZ f x y = true → x = y := by
  induction x with
  | nil => intro y h; cases y with
    | nil => rfl
    | cons b y => cases h
  | cons a x ih => intro y h; cases y with
    | nil => cases h
    | cons b y =>
      have e : aeqZ f (a :: x) (b :: y) = Bool.rec false (aeqZ f x y) (f a b) := rfl
      rw [e] at h
      cases hab : f a b with
      | false => rw [hab] at h; cases h
      | true => rw [hab] at h; rw [hf a b hab, ih h]
theorem ieq_eq2 {x y : Int} (h : ieq x y = true) : x = y := by rw [ieq_eq] at h; exact beq_iff_eq.1 h
theorem aeqO_eq {f : AV → AV → Bool} (hf : ∀ a b, f a b = true → a = b) {u v : AV} (h : aeqO f u v = true) : u = v := by
  unfold aeqO at h
  split at h
  · split at h
    · rw [Bool.and_eq_true, Bool.and_eq_true] at h
      rw [fneq_eq h.1, aeqZ_eq hf _ h.2.1, aeqZ_eq hf _ h.2.2]
    · cases h
  · split at h
    · rw [Bool.and_eq_true, beq_iff] at h
      obtain ⟨rfl, h⟩ := h; rw [hf _ _ h]
    · cases h
  · split at h
    · rw [aeqZ_eq hf _ h]
    · cases h
  · split at h
    · rw [aeqZ_eq hf _ h]
    · cases h
  · split at h
    · rw [(pn_eq _ _).1 h]
    · cases h
  · split at h
    · rw [Bool.and_eq_true, Bool.and_eq_true] at h
      rw [ieqK_eq h.1, ieq_eq2 h.2.1, ieq_eq2 h.2.2]
    · cases h
  · split at h
    · rw [beq_iff] at h; rw [h]
    · cases h
  · cases h
theorem aeqN_eq : ∀ (n : Nat) {u v : AV}, aeqN n u v = true → u = v
  | 0, _, _, h => by cases h
  | n + 1, u, v, h => by
    have e : aeqN (n + 1) u v = Bool.rec (aeqO (aeqN n) u v) true (aeq u v) := rfl
    rw [e] at h
    cases hab : aeq u v with
    | true => exact aeq_eq hab
    | false => rw [hab] at h; exact aeqO_eq (fun _ _ => aeqN_eq n) h
theorem aeqW_eq {u v : AV} (h : aeqW u v = true) : u = v := by
  unfold aeqW at h
  cases hab : aeq u v with
  | true => exact aeq_eq hab
  | false => rw [hab] at h; exact aeqN_eq 8 h
theorem eeq_eq {a b : AV × AV × Option Nat} (h : eeq a b = true) : a = b := by
  obtain ⟨a1, a2, a3⟩ := a
  obtain ⟨b1, b2, b3⟩ := b
  unfold eeq at h
  simp only [Bool.and_eq_true] at h
  obtain ⟨⟨h1, h2⟩, h3⟩ := h
  obtain rfl := aeqW_eq h1
  obtain rfl := aeqW_eq h2
  cases a3 <;> cases b3 <;> first | rfl | (simp at h3; done) | skip
  simp only [beq_iff] at h3
  rw [h3]
theorem eeqs_eq (x : List (AV × AV × Option Nat)) : ∀ {y : List (AV × AV × Option Nat)}, eeqs x y = true → x = y := by
  induction x with
  | nil => intro y h; cases y with
    | nil => rfl
    | cons b y => exact absurd h (by simp [eeqs])
  | cons a x ih => intro y h; cases y with
    | nil => exact absurd h (by simp [eeqs])
    | cons b y =>
      have e : eeqs (a :: x) (b :: y) = Bool.rec false (eeqs x y) (eeq a b) := rfl
      rw [e] at h
      cases hab : eeq a b with
      | false => rw [hab] at h; cases h
      | true => rw [hab] at h; rw [eeq_eq hab, ih h]
theorem aeqL_eq (x : List AV) : ∀ {y : List AV}, aeqL x y = true → x = y := by
  induction x with
  | nil => intro y h; cases y with
    | nil => rfl
    | cons b y => exact absurd h (by simp [aeqL])
  | cons a x ih => intro y h; cases y with
    | nil => exact absurd h (by simp [aeqL])
    | cons b y =>
      have e : aeqL (a :: x) (b :: y) = Bool.rec false (aeqL x y) (aeqW a b) := rfl
      rw [e] at h
      cases hab : aeqW a b with
      | false => rw [hab] at h; cases h
      | true => rw [hab] at h; rw [aeqW_eq hab, ih h]
theorem oeq_eq {a b : AO} (h : oeq a b = true) : a = b := by
  unfold oeq at h
  split at h <;> (try (split at h)) <;> (try (cases h; done)) <;> (try rfl) <;> simp only [Bool.and_eq_true, beq_iff, beq_eq] at h
  · obtain ⟨⟨h1, rfl⟩, h2⟩ := h
    rw [aeqL_eq _ h1]
    have : _ = _ := beq_iff_eq.1 h2
    rw [this]
  · obtain ⟨h1, rfl⟩ := h; rw [aeqL_eq _ h1]
  · obtain ⟨h1, rfl⟩ := h; rw [eeqs_eq _ h1]
/-! ### trees -/
section
variable {α : Type}
theorem get_mapT {d : α} {f : α → α} (hf : f d = d) : ∀ (t : Tr α) (p : Pn), (mapT f t).get d p = f (t.get d p) := by
  intro t
  induction t with
  | leaf => intro p; show (Tr.leaf : Tr α).get d p = _; rw [get_leaf, hf]
  | node l v r ihl ihr =>
    intro p
    cases p with
    | one => rfl
    | o p => exact ihl p
    | i p => exact ihr p
theorem get_overT {d : α} {f : α → α → α} (hf : f d d = d) : ∀ (t u : Tr α) (p : Pn), (overT d f t u).get d p = f (t.get d p) (u.get d p) := by
  intro t
  induction t with
  | leaf => intro u p; show (mapT (f d) u).get d p = _; rw [get_mapT hf, get_leaf]
  | node l v r ihl ihr =>
    intro u p
    cases u with
    | leaf =>
      cases p with
      | one => rfl
      | o p => exact (ihl .leaf p).trans (by rw [get_leaf]; rfl)
      | i p => exact (ihr .leaf p).trans (by rw [get_leaf]; rfl)
    | node l' v' r' =>
      cases p with
      | one => rfl
      | o p => exact ihl l' p
      | i p => exact ihr r' p
theorem br_true {a b : Bool} (h : Bool.rec (motive := fun _ => Bool) false b a = true) : a = true ∧ b = true := by
  cases a with
  | false => cases h
  | true => exact ⟨rfl, h⟩
theorem trNone_get {d : α} {f : α → α → Bool} (hd : f d d = true) : ∀ {t : Tr α}, trNone d f t = true → ∀ p, f d (t.get d p) = true := by
  intro t
  induction t with
  | leaf => intro _ p; rw [get_leaf]; exact hd
  | node l v r ihl ihr =>
    intro h p
    obtain ⟨h1, h2⟩ := br_true (show Bool.rec (motive := fun _ => Bool) false (Bool.rec false (trNone d f r) (trNone d f l)) (f d v) = true from h)
    obtain ⟨h2, h3⟩ := br_true h2
    cases p with
    | one => exact h1
    | o p => exact ihl h2 p
    | i p => exact ihr h3 p
theorem trEq_get {d : α} {f : α → α → Bool} (hd : f d d = true) : ∀ {t u : Tr α}, trEq d f t u = true → ∀ p, f (t.get d p) (u.get d p) = true := by
  intro t
  induction t with
  | leaf => intro u h p; rw [get_leaf]; exact trNone_get hd h p
  | node l v r ihl ihr =>
    intro u h p
    cases u with
    | leaf =>
      obtain ⟨h1, h2⟩ := br_true (show Bool.rec (motive := fun _ => Bool) false (Bool.rec false (trEq d f r .leaf) (trEq d f l .leaf)) (f v d) = true from h)
      obtain ⟨h2, h3⟩ := br_true h2
      cases p with
      | one => exact h1
      | o p => have := ihl h2 p; rw [get_leaf] at this ⊢; exact this
      | i p => have := ihr h3 p; rw [get_leaf] at this ⊢; exact this
    | node l' v' r' =>
      obtain ⟨h1, h2⟩ := br_true (show Bool.rec (motive := fun _ => Bool) false (Bool.rec false (trEq d f r r') (trEq d f l l')) (f v v') = true from h)
      obtain ⟨h2, h3⟩ := br_true h2
      cases p with
      | one => exact h1
      | o p => exact ihl h2 p
      | i p => exact ihr h3 p
end
/-! ### what says no more -/
theorem vle_rel {a b : AV} (h : vle a b = true) {ρ : Ren} {v : Value} (hv : VR ρ a v) : VR ρ b v := by
  unfold vle at h
  rw [Bool.or_eq_true] at h
  rcases h with h | h
  · cases b <;> first | exact .z v | cases h
  · rw [← aeqW_eq h]; exact hv
theorem FR.vle {ρ : Ren} {nt : Nat} {tm tm' : Tr AV} {tmps : Array Value} (hf : FR ρ nt tm tmps) (h : trEq (.tu []) Ax.vle tm tm' = true) : FR ρ nt tm' tmps :=
  ⟨hf.1, fun t => vle_rel (trEq_get (by rfl) h (pth t)) (hf.2 t)⟩
theorem unbL_eq (l : Ents) : unbL l = l.map fun e => (e.1, e.2.1, none) := by
  induction l with
  | nil => rfl
  | cons e r ih => show _ :: unbL r = _; rw [ih]; rfl
theorem rmE_perm {e : AV × AV × Option Nat} : ∀ {l m : Ents}, rmE e l = some m → l.Perm ((e.1, e.2.1, none) :: m) := by
  intro l
  induction l with
  | nil => intro m h; cases h
  | cons x r ih =>
    intro m h
    have e1 : rmE e (x :: r) = Bool.rec (Option.rec none (fun m => some (x :: m)) (rmE e r)) (some r) (aeqW e.1 x.1 && aeqW e.2.1 x.2.1 && x.2.2.isNone) := rfl
    rw [e1] at h
    cases hc : (aeqW e.1 x.1 && aeqW e.2.1 x.2.1 && x.2.2.isNone) with
    | true =>
      rw [hc] at h
      injection h with h
      subst h
      simp only [Bool.and_eq_true] at hc
      obtain ⟨⟨h1, h2⟩, h3⟩ := hc
      obtain ⟨x1, x2, x3⟩ := x
      have h1 := aeqW_eq h1
      have h2 := aeqW_eq h2
      cases x3 with
      | some _ => cases h3
      | none => simp only at h1 h2; rw [h1, h2]
    | false =>
      rw [hc] at h
      cases hr : rmE e r with
      | none => rw [hr] at h; cases h
      | some m' =>
        rw [hr] at h
        injection h with h
        subst h
        exact ((ih hr).cons x).trans (List.Perm.swap _ _ _)
theorem permE_perm : ∀ {a m : Ents}, permE a m = true → m.Perm (unbL a) := by
  intro a
  induction a with
  | nil => intro m h; cases m with
    | nil => exact List.Perm.refl _
    | cons => cases h
  | cons e r ih =>
    intro m h
    have e1 : permE (e :: r) m = Option.rec false (fun m => permE r m) (rmE e m) := rfl
    rw [e1] at h
    cases hr : rmE e m with
    | none => rw [hr] at h; cases h
    | some m' =>
      rw [hr] at h
      exact (rmE_perm hr).trans ((ih h).cons _)
structure OLe (o o' : AO) : Prop where
  rel : ∀ (ρ : Ren) (ob : Option Obj) (t : Bk), OR ρ ob t o → OR ρ ob t o'
  own : own o' → own o
  x : o' ≠ .x → o ≠ .x
  k : ∀ l ty, o' = .k l ty → o = .k l ty
theorem OLe.refl (o : AO) : OLe o o := ⟨fun _ _ _ h => h, fun h => h, fun h => h, fun _ _ h => h⟩
theorem OLe.none (o : AO) : OLe o .x := ⟨fun _ _ _ _ => trivial, fun h => absurd rfl h.1, fun h => absurd rfl h, fun _ _ h => by cases h⟩
theorem OLe.mp {l l2 : Ents} {c : Nat} (h : l2.Perm (unbL l)) : OLe (.mp l c) (.mp l2 c) := by
  refine ⟨fun ρ ob t hr => ?_, fun _ => ⟨by simp, by simp⟩, fun _ => by simp, fun _ _ e => by cases e⟩
  obtain ⟨es, l', h1, h2, h3, h4⟩ := hr
  refine ⟨es, unbL l', h1, ?_, ?_, h4⟩
  · rw [unbL_eq] at h ⊢
    exact (h2.map _).trans h.symm
  · rw [unbL_eq]
    refine ⟨by rw [h3.1, List.length_map], fun i e m k1 k2 => ?_⟩
    rw [List.getElem?_map] at k1
    cases hl : l'[i]? with
    | none => rw [hl] at k1; cases k1
    | some e0 =>
      rw [hl] at k1
      injection k1 with k1
      subst k1
      have := h3.2 i e0 m hl k2
      exact ⟨this.1, this.2.1, fun s hs => by cases hs⟩
theorem ole_mp {l l' : Ents} {c : Nat} (h : Bool.rec (motive := fun _ => Bool) (permE l l') true (eeqs l l') = true) : OLe (.mp l c) (.mp l' c) := by
  cases he : eeqs l l' with
  | true => rw [eeqs_eq _ he]; exact OLe.refl _
  | false => rw [he] at h; exact OLe.mp (permE_perm h)
theorem ole_le {a b : AO} (h : ole a b = true) : OLe a b := by
  unfold ole at h
  split at h
  · exact OLe.none a
  · split at h
    · rw [Bool.and_eq_true] at h
      obtain rfl := beq_iff.1 h.1
      exact ole_mp h.2
    · cases h
  · rw [oeq_eq h]; exact OLe.refl _
theorem unb_le (o : AO) : OLe o (unbO o) := by
  unfold unbO
  split
  · exact OLe.mp (List.Perm.refl _)
  · exact OLe.refl _
theorem keep_le (g : Bool) (o : AO) : OLe o (keepO g o) := by
  unfold keepO
  split
  · exact OLe.none o
  · exact OLe.refl o
section
variable {ρ ρ' : Ren} {H H' H2 : Hp} {w w' : World} {n n' : Pn}
theorem Rel.weaker (h : Rel ρ H w) (hw : ∀ b, OLe (H b) (H2 b)) : Rel ρ H2 w :=
  ⟨fun b hb => by obtain ⟨t, h1, h2⟩ := h.ob b ((hw b).x hb); exact ⟨t, h1, (hw b).rel _ _ _ h2⟩,
   fun b b' t t' h1 h2 => h.inj b b' t t' ((hw b).own h1) ((hw b').x h2)⟩
theorem Step.weaker (h : Step ρ H w n ρ' H' w' n') (hw : ∀ b, OLe (H' b) (H2 b)) : Step ρ H w n ρ' H2 w' n' :=
  { h with
    lv := fun b hb => h.lv b ((hw b).x hb)
    rel := h.rel.weaker hw
    owns := fun b t h1 h2 => h.owns b t ((hw b).own h1) h2
    ks := fun b l ty e => h.ks b l ty ((hw b).k l ty e) }
end
/-! ### the iterator's steps -/
theorem run_next_any {P : Program} {w : World} {ty : TypeId} {bi mc since c0 clock : Nat} {seen : Array Nat} {es : Array MapEntry} (hi : w.heap[bi]? = some (.mapIter (some mc) since seen c0)) (hb : w.heap[mc]? = some (.map es clock))
    (hold : ∀ x ∈ es.toList, x.born < since) (hsc : since ≤ c0) :
    ((leftOf es seen).size = 0 ∧ (Instr.next (.pointer (some ⟨bi, 0, none⟩)) false ty).run P w = .ok (.tuple #[.bool false]) w) ∨
    ∃ e ∈ (leftOf es seen).toList, ∃ w1 : World, (w1.heap = w.heap ∧ w1.os = w.os ∧ w1.tape = w.tape ∧ w1.output = w.output) ∧
      (Instr.next (.pointer (some ⟨bi, 0, none⟩)) false ty).run P w = .ok (.tuple #[.bool true, e.key, e.val]) (w1.putObj bi (.mapIter (some mc) since (seen.push e.born) clock)) := by
  simp only [Instr.next, Sem.run_bind, run_getObj hi, run_getObj hb, Result.andThen, next_test_false seen es since c0 hold hsc, Bool.false_eq_true, if_false]
  unfold leftOf
  have hmem : ∀ x ∈ (Array.filter (fun e => !seen.contains e.born) es).toList, x.born < since := fun x hx => hold x (by simp at hx ⊢; exact hx.1)
  generalize Array.filter (fun e => !seen.contains e.born) es = L at hmem ⊢
  have e1 : L.filter (fun x => decide (x.born < since)) = L := Array.filter_eq_self.2 (fun x hx => by simpa using hmem x (by simpa using hx))
  have e2 : L.filter (fun x => decide (x.born ≥ since)) = #[] := by
    rw [Array.filter_eq_empty_iff]
    intro x hx
    have := hmem x (by simpa using hx)
    simp
    omega
  simp only [e1, e2, Array.append_empty]
  by_cases h0 : L.size = 0
  · left
    have : L = #[] := Array.eq_empty_of_size_eq_zero h0
    subst this
    refine ⟨rfl, ?_⟩
    simp [choose, Sem.run, Question.forced]
  · right
    have hne : L.isEmpty = false := by simp [Array.isEmpty, h0]
    simp only [hne, Bool.false_eq_true, if_false, Array.empty_append, Array.size_map]
    have hch : ∃ (j : Nat) (w1 : World), j < L.size ∧ (w1.heap = w.heap ∧ w1.os = w.os ∧ w1.tape = w.tape ∧ w1.output = w.output) ∧ (choose (Question.mapNext L.size)).run P w = .ok j w1 := by
      by_cases hf : L.size ≤ 1
      · exact ⟨0, w, by omega, ⟨rfl, rfl, rfl, rfl⟩, by simp [choose, Sem.run, Question.forced, hf]⟩
      · exact ⟨_, w.drew, Nat.mod_lt _ (by omega), ⟨rfl, rfl, rfl, rfl⟩, by
          simp only [choose, Sem.run, Question.forced, decide_eq_true_eq, hf, if_false, Question.cut]
          rfl⟩
    obtain ⟨j, w1, hj, hal, hrun⟩ := hch
    refine ⟨L[j], by simp, w1, hal, ?_⟩
    have hi1 : w1.heap[bi]? = some (.mapIter (some mc) since seen c0) := by rw [hal.1]; exact hi
    simp only [hrun, Array.getElem?_map, Array.getElem?_eq_getElem hj, Option.map_some, Sem.run_bind, run_setObj hi1, Result.andThen]
    rfl
theorem run_entry_any {P : Program} {w : World} {bi mc since clock : Nat} {seen : Array Nat} {es : Array MapEntry} {e : MapEntry} (hi : w.heap[bi]? = some (.mapIter (some mc) since (seen.push e.born) clock)) (hb : w.heap[mc]? = some (.map es clock))
    (he : e ∈ es.toList) (hn : (es.toList.map (·.born)).Nodup) :
    (Instr.entry (.pointer (some ⟨bi, 0, none⟩))).run P w = .ok (.tuple #[e.key, e.val]) w := by
  have hf : es.find? (·.born == e.born) = some e := by rw [← Array.find?_toList]; exact find_born e es.toList hn he
  simp only [Instr.entry, Sem.run_bind, run_getObj hi, run_getObj hb, Result.andThen, Array.back?_push, bne_self_eq_false, Bool.false_eq_true, if_false, hf]
  rfl
end Ax
end Go.Proofs.YtdfgnoflohfnmaaGreatDoor

/-! What is asked of a piece of code; loops; a step keeps what it does not know of. -/

namespace Go.Proofs.YtdfgnoflohfnmaaGreatDoor
namespace Ax
section
variable {ρ ρ' : Ren} {H H' X : Hp} {w w' : World} {n n' : Pn}
theorem Step.frame2 (h : Rel ρ (ovl X H) w) (s : Step ρ H w n ρ' H' w' n') (hx : ∀ b, X b ≠ .x → H b = .x ∧ H' b = .x) : Step ρ (ovl X H) w n ρ' (ovl X H') w' n' := by
  have hXof : ∀ b, H b ≠ .x → X b = .x := fun b hb => by
    apply Classical.byContradiction
    intro hc
    exact hb (hx b hc).1
  have hap : ∀ b t, X b ≠ .x → ρ b = some t → ∀ b0 t0, own (H b0) → ρ b0 = some t0 → t0.c ≠ t.c := by
    intro b t hb ht b0 t0 h0 ht0 e
    have hX0 := hXof b0 h0.1
    have := h.inj b0 b t0 t (by rw [ovl_none hX0]; exact h0) (by rw [ovl_some hb]; exact hb) ht0 ht e
    subst this
    exact hb hX0
  have hlt : ∀ b t, X b ≠ .x → ρ b = some t → t.c < w.heap.size := fun b t hb ht => rel_lt h b t (by rw [ovl_some hb]; exact hb) ht
  have hρ : ∀ b, X b ≠ .x → ∃ t, ρ b = some t ∧ OR ρ w.heap[t.c]? t (X b) := by
    intro b hb
    have := h.ob b (by rw [ovl_some hb]; exact hb)
    rwa [ovl_some hb] at this
  refine ⟨s.ext, s.nw, ?_, s.le, ⟨?_, ?_⟩, s.size, ?_, ?_, s.os, s.tape, s.output, ?_⟩
  · intro b hb
    by_cases hX : X b = .x
    · rw [ovl_none hX] at hb ⊢; exact s.lv b hb
    · exact .inl (by rw [ovl_some hX]; exact hX)
  · intro b hb
    by_cases hX : X b = .x
    · rw [ovl_none hX] at hb ⊢; exact s.rel.ob b hb
    · rw [ovl_some hX]
      obtain ⟨t, h1, h2⟩ := hρ b hX
      refine ⟨t, s.ext _ _ h1, ?_⟩
      rw [s.same t.c (hlt b t hX h1) (fun b0 t0 h3 h4 => hap b t hX h1 b0 t0 h3 h4)]
      exact h2.mono s.ext
  · intro b b' t t' h1 h2 h3 h4 h5
    by_cases hX : X b = .x
    · rw [ovl_none hX] at h1
      by_cases hX' : X b' = .x
      · rw [ovl_none hX'] at h2
        exact s.rel.inj b b' t t' h1 h2 h3 h4 h5
      · exfalso
        obtain ⟨t1, g1, _⟩ := hρ b' hX'
        obtain rfl := Option.some.inj (h4.symm.trans (s.ext _ _ g1))
        rcases s.owns b t h1 h3 with ⟨b0, t0, p1, p2, p3⟩ | p
        · exact hap b' t' hX' g1 b0 t0 p1 p2 (by omega)
        · have := hlt b' t' hX' g1; omega
    · rw [ovl_some hX] at h1
      obtain ⟨t1, g1, _⟩ := hρ b hX
      obtain rfl := Option.some.inj (h3.symm.trans (s.ext _ _ g1))
      by_cases hX' : X b' = .x
      · exfalso
        rw [ovl_none hX'] at h2
        cases hk : H' b' with
        | k l ty =>
          have hk0 := s.ks b' l ty hk
          have hne : H b' ≠ .x := by rw [hk0]; simp
          obtain ⟨t2, q1, _⟩ := h.ob b' (by rw [ovl_none hX']; exact hne)
          obtain rfl := Option.some.inj (h4.symm.trans (s.ext _ _ q1))
          have := h.inj b b' t t' (by rw [ovl_some hX]; exact h1) (by rw [ovl_none hX']; exact hne) g1 q1 h5
          subst this
          exact hX hX'
        | x => exact h2 hk
        | _ =>
          have hown : own (H' b') := ⟨by rw [hk]; simp, by rw [hk]; simp⟩
          rcases s.owns b' t' hown h4 with ⟨b0, t0, p1, p2, p3⟩ | p
          · exact hap b t hX g1 b0 t0 p1 p2 (by omega)
          · have := hlt b t hX g1; omega
      · obtain ⟨t2, g2, _⟩ := hρ b' hX'
        obtain rfl := Option.some.inj (h4.symm.trans (s.ext _ _ g2))
        exact h.inj b b' t t' (by rw [ovl_some hX]; exact h1) (by rw [ovl_some hX']; exact hX') g1 g2 h5
  · intro k hk hn
    refine s.same k hk fun b t h1 h2 => hn b t ?_ h2
    rw [ovl_none (hXof b h1.1)]; exact h1
  · intro b t h1 h2
    by_cases hX : X b = .x
    · rw [ovl_none hX] at h1
      rcases s.owns b t h1 h2 with ⟨b0, t0, p1, p2, p3⟩ | p
      · exact .inl ⟨b0, t0, by rw [ovl_none (hXof b0 p1.1)]; exact p1, p2, p3⟩
      · exact .inr p
    · rw [ovl_some hX] at h1
      obtain ⟨t1, g1, _⟩ := hρ b hX
      obtain rfl := Option.some.inj (h2.symm.trans (s.ext _ _ g1))
      exact .inl ⟨b, t, by rw [ovl_some hX]; exact h1, g1, rfl⟩
  · intro b l ty e
    by_cases hX : X b = .x
    · rw [ovl_none hX] at e ⊢; exact s.ks b l ty e
    · rw [ovl_some hX] at e ⊢; exact e
end
section
variable {E : Env} {ρ ρ' : Ren} {H H' : Hp} {w w' : World}
theorem PostR.step {nt : Nat} {n n' : Pn} {Q : Exit → Act → World → Prop} {r : R} (h : PostR E nt ρ H w n Q r) (s : Step ρ H w n ρ' H' w' n') : PostR E nt ρ' H' w' n' Q r := h.step0 s
theorem PostR.mono {nt : Nat} {n : Pn} {Q Q' : Exit → Act → World → Prop} {r : R} (h : PostR E nt ρ H w n Q r) (hq : ∀ e a w, Q e a w → Q' e a w) : PostR E nt ρ H w n Q' r := by
  induction r with
  | er c => trivial
  | nm tm df h2 n2 => exact fun ρ2 a2 w2 s2 f2 d2 => hq _ _ _ (h ρ2 a2 w2 s2 f2 d2)
  | ex id tm df h2 n2 => exact fun ρ2 a2 w2 s2 f2 d2 => hq _ _ _ (h ρ2 a2 w2 s2 f2 d2)
  | rt tm df h2 n2 => exact fun ρ2 a2 w2 s2 f2 d2 => hq _ _ _ (h ρ2 a2 w2 s2 f2 d2)
  | al a b ih1 ih2 => exact ⟨ih1 h.1, ih2 h.2⟩
def CodeS (E : Env) (B : Bd) (nt : Nat) (l : Option Nat) (c : Code) (f : CR) : Prop :=
  ∀ tm df h n, Ok (f B tm df h n) → n.nat ≤ (endN (f B tm df h n)).nat ∧ ∀ (ρ : Ren) (a : Act) (w : World), GL E ρ → FR ρ nt tm a.tmps → DR E ρ df a.defers → Rel ρ (hv h) w → Fresh ρ (hv h) n (endN (f B tm df h n)) →
    ∀ Q, PostR E nt ρ (hv h) w n Q (f B tm df h n) → c.wpIn (FW l) 0 E.P Q a w
def LoopW (F : Fence) (n : Nat) (P : Program) (c : Code) (Q : Exit → Act → World → Prop) (a : Act) (w : World) : Prop :=
  ∀ (b : Frame) (k : List Item) (cs : List Frame), b.roundOf = F.round → F.fn b.fn → F.room (cs.length + 1 + n) →
    ∃ e a' w', Q e a' w' ∧ ArrivesIn (Machine.fenced P F) P (lone (b.atR a (.code c :: .inLoop c :: k)) cs w) b k cs e a' w'
theorem loopW_step {F : Fence} {n : Nat} {P : Program} {c : Code} {Q : Exit → Act → World → Prop} {a : Act} (h : c.wpIn F n P (Exit.then (LoopW F n P c Q) Q) a w) : LoopW F n P c Q a w := by
  intro b k cs hro hb hr
  obtain ⟨e, a₁, w₁, hq, harr⟩ := h b (.inLoop c :: k) cs hro hb hr
  cases e with
  | normal =>
    obtain ⟨e₂, a₂, w₂, hq₂, harr₂⟩ := hq b k cs hro hb hr
    exact ⟨e₂, a₂, w₂, hq₂, .of_steps (StepsIn.trans harr (.one (fenced_calm hb hr rfl) stepR_inLoop)) harr₂⟩
  | exit id => exact ⟨_, a₁, w₁, hq, .pass (x := .inLoop c) rfl (fun _ _ => .inl (by simp)) harr⟩
  | goto l => exact ⟨_, a₁, w₁, hq, .pass (x := .inLoop c) rfl (fun _ _ => .inl (by simp)) harr⟩
  | ret => exact ⟨_, a₁, w₁, hq, .pass (x := .inLoop c) rfl (fun _ _ => .inl (by simp)) harr⟩
  | panic ch => exact ⟨_, a₁, w₁, hq, .pass (x := .inLoop c) rfl (fun _ _ => .inl (by simp)) harr⟩
  | outgrown => exact ⟨_, a₁, w₁, hq, .pass (x := .inLoop c) rfl (fun _ _ => .inl (by simp)) harr⟩
theorem wpIn_loopW {F : Fence} {n : Nat} {P : Program} {c : Code} {Q : Exit → Act → World → Prop} {a : Act} (h : LoopW F n P c Q a w) : (Code.loop c).wpIn F n P Q a w := by
  intro b k cs hro hb hr
  obtain ⟨e, a', w', hq, harr⟩ := h b k cs hro hb hr
  exact ⟨e, a', w', hq, .of_steps (.one (fenced_calm hb hr rfl) stepR_loop) harr⟩
theorem seq_key {B : Bd} {nt : Nat} {K : (Exit → Act → World → Prop) → Act → World → Prop} {g : CR}
    (hy : ∀ tm df h n, Ok (g B tm df h n) → n.nat ≤ (endN (g B tm df h n)).nat ∧ ∀ (ρ : Ren) (a : Act) (w : World), GL E ρ → FR ρ nt tm a.tmps → DR E ρ df a.defers → Rel ρ (hv h) w → Fresh ρ (hv h) n (endN (g B tm df h n)) →
      ∀ Q, PostR E nt ρ (hv h) w n Q (g B tm df h n) → K Q a w) :
    ∀ r : R, Ok (sqK r fun tm df h n => g B tm df h n) → Ok r ∧ (endN r).nat ≤ (endN (sqK r fun tm df h n => g B tm df h n)).nat ∧ ∀ (ρ : Ren) (H : Hp) (w : World) (n : Pn) (Q : Exit → Act → World → Prop), GL E ρ → Fresh ρ H n (endN (sqK r fun tm df h n => g B tm df h n)) →
      PostR E nt ρ H w n Q (sqK r fun tm df h n => g B tm df h n) → PostR E nt ρ H w n (Exit.then (K Q) Q) r := by
  intro r
  induction r with
  | er c => exact fun hk => (ok_er hk).elim
  | nm tm1 df1 h1 n1 =>
    intro hk
    obtain ⟨hle2, hsem2⟩ := hy tm1 df1 h1 n1 hk
    exact ⟨trivial, hle2, fun ρ H w n Q hg hF hp ρ1 a1 w1 s1 f1 d1 => hsem2 ρ1 a1 w1 (hg.mono s1.ext) f1 d1 s1.rel (hF.right s1) Q (hp.step s1)⟩
  | ex id tm1 df1 h1 n1 => exact fun _ => ⟨trivial, Nat.le_refl _, fun ρ H w n Q hg hF hp => hp⟩
  | rt tm1 df1 h1 n1 => exact fun _ => ⟨trivial, Nat.le_refl _, fun ρ H w n Q hg hF hp => hp⟩
  | al a b ih1 ih2 =>
    intro hk
    obtain ⟨a1, a2, a3⟩ := ih1 hk.1
    obtain ⟨b1, b2, b3⟩ := ih2 hk.2
    have m1 := mx_l (endN (sqK a fun tm df h n => g B tm df h n)) (endN (sqK b fun tm df h n => g B tm df h n))
    have m2 := mx_r (endN (sqK a fun tm df h n => g B tm df h n)) (endN (sqK b fun tm df h n => g B tm df h n))
    refine ⟨⟨a1, b1⟩, ?_, fun ρ H w n Q hg hF hp => ⟨a3 ρ H w n Q hg (hF.left m1) hp.1, b3 ρ H w n Q hg (hF.left m2) hp.2⟩⟩
    show (mx (endN a) (endN b)).nat ≤ (mx (endN (sqK a fun tm df h n => g B tm df h n)) (endN (sqK b fun tm df h n => g B tm df h n))).nat
    rcases mx_or (endN a) (endN b) with e | e
    · rw [e]; exact Nat.le_trans a2 m1
    · rw [e]; exact Nat.le_trans b2 m2
theorem seq_cs {B : Bd} {nt : Nat} {l : Option Nat} {K : (Exit → Act → World → Prop) → Act → World → Prop} {x : Code} {f g : CR} (hx : CodeS E B nt l x f)
    (hy : ∀ tm df h n, Ok (g B tm df h n) → n.nat ≤ (endN (g B tm df h n)).nat ∧ ∀ (ρ : Ren) (a : Act) (w : World), GL E ρ → FR ρ nt tm a.tmps → DR E ρ df a.defers → Rel ρ (hv h) w → Fresh ρ (hv h) n (endN (g B tm df h n)) →
      ∀ Q, PostR E nt ρ (hv h) w n Q (g B tm df h n) → K Q a w) :
    ∀ tm df h n, Ok (sqK (f B tm df h n) fun tm df h n => g B tm df h n) → n.nat ≤ (endN (sqK (f B tm df h n) fun tm df h n => g B tm df h n)).nat ∧ ∀ (ρ : Ren) (a : Act) (w : World), GL E ρ → FR ρ nt tm a.tmps → DR E ρ df a.defers → Rel ρ (hv h) w →
      Fresh ρ (hv h) n (endN (sqK (f B tm df h n) fun tm df h n => g B tm df h n)) → ∀ Q, PostR E nt ρ (hv h) w n Q (sqK (f B tm df h n) fun tm df h n => g B tm df h n) → x.wpIn (FW l) 0 E.P (Exit.then (K Q) Q) a w := by
  intro tm df h n hk
  obtain ⟨k1, k2, k3⟩ := seq_key hy _ hk
  obtain ⟨hle, hsem⟩ := hx tm df h n k1
  exact ⟨Nat.le_trans hle k2, fun ρ a w hg hf hd hR hF Q hp => hsem ρ a w hg hf hd hR (hF.left k2) _ (k3 ρ _ w n Q hg hF hp)⟩
theorem loop_cs {B : Bd} {nt : Nat} {l : Option Nat} {c : Code} {f : CR} (hc : CodeS E B nt l c f) : ∀ (m : Nat) tm df h n, Ok (loopN f m B tm df h n) → n.nat ≤ (endN (loopN f m B tm df h n)).nat ∧ ∀ (ρ : Ren) (a : Act) (w : World), GL E ρ → FR ρ nt tm a.tmps → DR E ρ df a.defers → Rel ρ (hv h) w → Fresh ρ (hv h) n (endN (loopN f m B tm df h n)) →
      ∀ Q, PostR E nt ρ (hv h) w n Q (loopN f m B tm df h n) → LoopW (FW l) 0 E.P c Q a w
  | 0, tm, df, h, n, hk => (ok_er hk).elim
  | m + 1, tm, df, h, n, hk => by
    obtain ⟨h1, h2⟩ := seq_cs (K := fun Q a w => LoopW (FW l) 0 E.P c Q a w) hc (g := loopN f m) (loop_cs hc m) tm df h n hk
    exact ⟨h1, fun ρ a w hg hf hd hR hF Q hp => loopW_step (h2 ρ a w hg hf hd hR hF Q hp)⟩
theorem blk_post {nt id : Nat} {n : Pn} {Q : Exit → Act → World → Prop} {r : R} (h : PostR E nt ρ H w n Q (blK id r)) : PostR E nt ρ H w n (Exit.inBlock id Q) r := by
  induction r with
  | er c => trivial
  | nm tm df h2 n2 => exact h
  | rt tm df h2 n2 => exact h
  | ex j tm df h2 n2 =>
    have e : blK id (.ex j tm df h2 n2) = Bool.rec (.ex j tm df h2 n2) (.nm tm df h2 n2) (Nat.beq j id) := rfl
    rw [e] at h
    intro ρ2 a2 w2 s2 f2 d2
    show if j = id then _ else _
    cases hj : Nat.beq j id with
    | true =>
      rw [hj] at h
      rw [if_pos (beq_iff.1 hj)]
      exact h ρ2 a2 w2 s2 f2 d2
    | false =>
      rw [hj] at h
      rw [if_neg (fun e => by rw [beq_iff.2 e] at hj; cases hj)]
      exact h ρ2 a2 w2 s2 f2 d2
  | al a b ih1 ih2 => exact ⟨ih1 h.1, ih2 h.2⟩
theorem blk_end {id : Nat} {r : R} (h : Ok (blK id r)) : Ok r ∧ endN (blK id r) = endN r := by
  induction r with
  | er c => exact (ok_er h).elim
  | nm tm df h2 n2 => exact ⟨trivial, rfl⟩
  | rt tm df h2 n2 => exact ⟨trivial, rfl⟩
  | ex j tm df h2 n2 =>
    refine ⟨trivial, ?_⟩
    have e : blK id (.ex j tm df h2 n2) = Bool.rec (.ex j tm df h2 n2) (.nm tm df h2 n2) (Nat.beq j id) := rfl
    rw [e]
    cases Nat.beq j id <;> rfl
  | al a b ih1 ih2 =>
    obtain ⟨a1, a2⟩ := ih1 h.1
    obtain ⟨b1, b2⟩ := ih2 h.2
    exact ⟨⟨a1, b1⟩, by show mx _ _ = mx _ _; rw [← a2, ← b2]; rfl⟩
end
end Ax
end Go.Proofs.YtdfgnoflohfnmaaGreatDoor

/-! Ranges over maps by sets of entries: a round; the levels; the loop. -/

namespace Go.Proofs.YtdfgnoflohfnmaaGreatDoor
namespace Ax
section
variable {E : Env}
theorem DR.nil_inv {ρ : Ren} {ds : List Deferred} (h : DR E ρ [] ds) : ds = [] := by
  cases ds with
  | nil => rfl
  | cons => exact h.elim
theorem nmK_inv {r : R} {k : Tr AV → Tr AO → Pn → R} (h : Ok (nmK r k)) : ∃ tm hh n, r = .nm tm [] hh n ∧ nmK r k = k tm hh n := by
  unfold nmK at h ⊢
  split at h
  · exact ⟨_, _, _, rfl, rfl⟩
  · exact (ok_er h).elim
  · exact (ok_er h).elim
theorem zapK_inv (l : List Pn) : ∀ {t : Tr AV} {k : Tr AV → R}, ∃ t', zapK l t k = k t' ∧ ∀ p, t'.get (.tu []) p = .z ∨ t'.get (.tu []) p = t.get (.tu []) p := by
  induction l with
  | nil => exact fun {t k} => ⟨t, rfl, fun p => .inr rfl⟩
  | cons x r ih =>
    intro t k
    have e : zapK (x :: r) t k = t.setK (.tu []) .z x fun t => zapK r t k := rfl
    rw [e, setK_eq]
    obtain ⟨t', h1, h2⟩ := ih (t := t.put (.tu []) .z x) (k := k)
    refine ⟨t', h1, fun p => ?_⟩
    rcases h2 p with h3 | h3
    · exact .inl h3
    · by_cases hp : p = x
      · subst hp; rw [get_put_same] at h3; exact .inl h3
      · rw [get_put_other _ _ _ _ (fun e => hp e.symm)] at h3; exact .inr h3
theorem FR.zap {ρ : Ren} {nt : Nat} {tm tm' : Tr AV} {tmps : Array Value} (hf : FR ρ nt tm tmps) (h : ∀ p, tm'.get (.tu []) p = .z ∨ tm'.get (.tu []) p = tm.get (.tu []) p) : FR ρ nt tm' tmps :=
  ⟨hf.1, fun t => by
    rcases h (pth t) with e | e
    · rw [e]; exact .z _
    · rw [e]; exact hf.2 t⟩
theorem ops_first {l : Option Nat} {ops : Array Oper} {o : Oper} {tl : List Oper} (hops : ops.toList = o :: tl) (hg : o.guard = none) (hnd : ∀ c, o.op ≠ .defer c) {a : Act} {w w' : World} {v : Value} (hrun : (execOp a.eval o).run E.P w = .ok (.value v) w')
    {Q : Exit → Act → World → Prop} (h : wpOpsIn (FW l) 0 E.P ops Q (List.range' 1 tl.length) (a.put o.dst v) w') : wpOpsIn (FW l) 0 E.P ops Q (List.range ops.size) a w := by
  have hsz : ops.size = tl.length + 1 := by rw [← Array.length_toList, hops]; rfl
  have h0 : ops[0]? = some o := by rw [← Array.getElem?_toList, hops]; rfl
  rw [hsz, List.range_eq_range', List.range'_succ]
  unfold wpOpsIn
  simp only [h0]
  have hw : Region.wanted o (yielded ops a.tmps) = true := by simp [Region.wanted, hg]
  rw [if_pos hw]
  refine ⟨fun _ _ => trivial, ?_⟩
  rw [Oper.semAt_eq _ _ _ hnd, hrun]
  exact h
theorem mrOf_inv {ix : FuncId → Option Ix} {nt : Nat} {ro : Bool} {b : Code} {p : MR} {l1 l2 : List CO} (h : mrOf E ix nt ro b = some (p, l1, l2)) :
    ∃ (r1 r2 : Nat) (opsN opsE : Array Oper) (rest : Code) (o1 o3 : Oper) (tl1 tl3 : List Oper), b = .seq (.region r1 opsN false) (.seq (.cond (.tmp p.ok) .skip (.exit p.x)) (.block p.y (.seq (.region r2 opsE false) rest))) ∧
      opsN.toList = o1 :: tl1 ∧ opsE.toList = o3 :: tl3 ∧ o1.op = .next (.tmp p.it) false ∧ o3.op = .entry (.tmp p.it) ∧ o1.dst = some p.nx ∧ o3.dst = some p.en ∧ o1.guard = none ∧ o3.guard = none ∧ p.nx < nt ∧ p.en < nt ∧
      l1 = cosOf E ix nt ro opsN.toList tl1 ∧ l2 = cosOf E ix nt ro opsE.toList tl3 := by
  unfold mrOf at h
  split at h
  · rename_i r1 opsN c x y r2 opsE rest
    split at h
    · rename_i o1 tl1 hN
      split at h
      · rename_i o3 tl3 hEo
        split at h
        · rename_i it h1
          split at h
          · rename_i it' h3
            split at h
            · rename_i nx hnx
              split at h
              · rename_i en hen
                split at h
                · rename_i hg1
                  split at h
                  · rename_i hg3
                    split at h
                    · rename_i hc
                      simp only [Bool.and_eq_true, beq_iff, ble_iff] at hc
                      obtain ⟨⟨rfl, hc1⟩, hc2⟩ := hc
                      injection h with h
                      injection h with h4 h5
                      injection h5 with h5 h6
                      subst h4
                      exact ⟨r1, r2, opsN, opsE, rest, o1, o3, tl1, tl3, rfl, hN, hEo, h1, h3, hnx, hen, hg1, hg3, hc1, hc2, h5.symm, h6.symm⟩
                    · cases h
                  · cases h
                · cases h
              · cases h
            · cases h
          · cases h
        · cases h
      · cases h
    · cases h
  · cases h
abbrev mrTail (p : MR) (r2 : Nat) (opsE : Array Oper) (rest : Code) : Code := .seq (.cond (.tmp p.ok) .skip (.exit p.x)) (.block p.y (.seq (.region r2 opsE false) rest))
def RndS (E : Env) (nt : Nat) (lo : Option Nat) (p : MR) (ib : Pn) (opsN : Array Oper) (ln : Nat) (tail : Code) (e : AV × AV × Option Nat) (tm : Tr AV) (h : Tr AO) (n : Pn) (tm' : Tr AV) (h' : Tr AO) (n' : Pn) : Prop :=
  n.nat ≤ n'.nat ∧ tm'.get (.tu []) (pth p.it) = .p ib 0 ∧
  ∀ (ρ : Ren) (a : Act) (w : World) (tb : Bk) (key val : Value), GL E ρ → FR ρ nt tm a.tmps → a.defers = [] → Rel ρ (hv h) w → Fresh ρ (hv h) n n' → ρ ib = some tb → tb.d = 0 → VR ρ e.1 key → VR ρ e.2.1 val →
    (∀ ρ2 H2 w2 n2, Step ρ (hv h) w n ρ2 H2 w2 n2 → (Instr.entry (.pointer (some ⟨tb.c, 0, none⟩))).run E.P w2 = .ok (.tuple #[key, val]) w2) →
    ∀ Q : Exit → Act → World → Prop, (∀ ρ' a' w', Step ρ (hv h) w n ρ' (hv h') w' n' → FR ρ' nt tm' a'.tmps → a'.defers = [] → Q .normal a' w') →
      wpOpsIn (FW lo) 0 E.P opsN (Exit.then (fun a w => tail.wpIn (FW lo) 0 E.P Q a w) Q) (List.range' 1 ln) (a.put (some p.nx) (.tuple #[.bool true, key, val])) w
theorem mrRound_inv (hE : EOK E) {ix : FuncId → Option Ix} (hI : IxOK E ix) {B : Bd} (hB : BdOK E B) {nt : Nat} {ro : Bool} {lo : Option Nat} (hl : ro = false → lo = none) {p : MR} {ib : Pn} {r2 : Nat} {opsN opsE : Array Oper} {rest : Code} {o1 o3 : Oper} {tl1 tl3 : List Oper}
    (hN : opsN.toList = o1 :: tl1) (hO : opsE.toList = o3 :: tl3) (h3 : o3.op = .entry (.tmp p.it)) (hen : o3.dst = some p.en) (hg3 : o3.guard = none) (hnx : p.nx < nt) (hent : p.en < nt)
    {fr : CR} (hr : CodeS E B nt lo rest fr) {e : AV × AV × Option Nat} {tm : Tr AV} {h : Tr AO} {n : Pn} {k : KM}
    (hk : Ok (mrRound p ib (fun tm h n => runL (cosOf E ix nt ro opsN.toList tl1) B tm [] h n .nm) (fun tm h n => blK p.y (sqK (runL (cosOf E ix nt ro opsE.toList tl3) B tm [] h n .nm) fun tm df h n => fr B tm df h n)) e tm h n k)) :
    ∃ tm' h' n', mrRound p ib (fun tm h n => runL (cosOf E ix nt ro opsN.toList tl1) B tm [] h n .nm) (fun tm h n => blK p.y (sqK (runL (cosOf E ix nt ro opsE.toList tl3) B tm [] h n .nm) fun tm df h n => fr B tm df h n)) e tm h n k = k tm' h' n' ∧
      RndS E nt lo p ib opsN tl1.length (mrTail p r2 opsE rest) e tm h n tm' h' n' := by
  unfold mrRound at hk ⊢
  rw [setK_eq] at hk ⊢
  obtain ⟨tm2, h2, n2, g1, g2⟩ := nmK_inv hk
  rw [g2] at hk ⊢
  rw [getK_eq] at hk ⊢
  obtain ⟨okb, hok, g3⟩ := asB_inv hk
  rw [g3] at hk ⊢
  cases okb with
  | false => exact (ok_er hk).elim
  | true =>
  simp only [if_true] at hk ⊢
  rw [getK_eq] at hk ⊢
  obtain ⟨g4, g5⟩ := ifK_inv hk
  rw [g5] at hk ⊢
  have g4 := aeq_eq g4
  rw [setK_eq] at hk ⊢
  obtain ⟨tm4, h4, n4, g6, g7⟩ := nmK_inv hk
  rw [g7] at hk ⊢
  obtain ⟨tm5, g8, g9⟩ := zapK_inv p.z (t := tm4) (k := fun tm => tm.getK (.tu []) (pth p.it) fun v => ifK (aeq v (.p ib 0)) 927 fun _ => k tm h4 n4)
  rw [g8] at hk ⊢
  rw [getK_eq] at hk ⊢
  obtain ⟨g10, g11⟩ := ifK_inv hk
  rw [g11] at hk ⊢
  have g10 := aeq_eq g10
  have hN1 : opsN.toList.drop 1 = tl1 := by rw [hN]; rfl
  have hO1 : opsE.toList.drop 1 = tl3 := by rw [hO]; rfl
  simp only at g1
  obtain ⟨a2, a3⟩ := runL_inv1 (l := lo) (nt := nt) hE hI hB hl (ops := opsN) tl1 1 hN1 g1
  have hbk : Ok (blK p.y (sqK (runL (cosOf E ix nt ro opsE.toList tl3) B (tm2.put (.tu []) (.tu [e.1, e.2.1]) (pth p.en)) [] h2 n2 .nm) fun tm df h n => fr B tm df h n)) := by rw [g6]; trivial
  obtain ⟨b1, b2⟩ := blk_end hbk
  rw [g6] at b2
  have hsc : ∀ tm df h n, Ok (fr B tm df h n) → n.nat ≤ (endN (fr B tm df h n)).nat ∧ ∀ (ρ : Ren) (a : Act) (w : World), GL E ρ → FR ρ nt tm a.tmps → DR E ρ df a.defers → Rel ρ (hv h) w → Fresh ρ (hv h) n (endN (fr B tm df h n)) → ∀ Q, PostR E nt ρ (hv h) w n Q (fr B tm df h n) → rest.wpIn (FW lo) 0 E.P Q a w := hr
  have hks : ∀ r : R, Ok (sqK r fun tm df h n => fr B tm df h n) → Ok r ∧ (endN r).nat ≤ (endN (sqK r fun tm df h n => fr B tm df h n)).nat ∧ ∀ (ρ : Ren) (H : Hp) (w : World) (n : Pn) (Q : Exit → Act → World → Prop), GL E ρ → Fresh ρ H n (endN (sqK r fun tm df h n => fr B tm df h n)) →
      PostR E nt ρ H w n Q (sqK r fun tm df h n => fr B tm df h n) → PostR E nt ρ H w n (Exit.then (fun a w => rest.wpIn (FW lo) 0 E.P Q a w) Q) r := seq_key hsc
  obtain ⟨c1, c2, c3⟩ := hks _ b1
  obtain ⟨d1, d2⟩ := runL_inv (l := lo) (nt := nt) hE hI hB hl (ops := opsE) tl3 1 hO1 c1
  have hend : endN (sqK (runL (cosOf E ix nt ro opsE.toList tl3) B (tm2.put (.tu []) (.tu [e.1, e.2.1]) (pth p.en)) [] h2 n2 .nm) fun tm df h n => fr B tm df h n) = n4 := b2.symm
  rw [hend] at c2
  refine ⟨tm5, h4, n4, rfl, by omega, g10, fun ρ a w tb key val hg hf hd hR hF ht0 hd0 hk1 hk2 hentry Q hQ => ?_⟩
  have hfA : FR ρ nt (tm.put (.tu []) (.tu [.b true, e.1, e.2.1]) (pth p.nx)) (a.put (some p.nx) (.tuple #[.bool true, key, val])).tmps :=
    hf.put hnx (VR.tu' ((((VRs.nil ρ).cons hk2).cons hk1).cons (.b true)))
  refine a3 ρ _ w hg hfA (by rw [put_defers, hd]; trivial) hR (hF.left (by omega)) _ fun ρ2 a2' w2 s2 f2 dd2 => ?_
  have hd2 := dd2.nil_inv
  have hokv : a2'.eval (.tmp p.ok) = .bool true := by
    have := f2.2 p.ok
    rw [hok] at this
    exact this.b_inv
  refine wpIn_seq (wpIn_cond_true hokv (wpIn_skip ?_))
  refine wpIn_block (wpIn_seq (wpIn_region ?_))
  have hitv : a2'.eval (.tmp p.it) = .pointer (some ⟨tb.c, 0, none⟩) := by
    have := f2.2 p.it
    rw [g4] at this
    obtain ⟨t', k1, k2⟩ := this.p_inv
    obtain rfl := Option.some.inj ((s2.ext _ _ ht0).symm.trans k1)
    rw [hd0] at k2
    exact k2
  refine ops_first hO hg3 (fun c => by rw [h3]; simp) (v := .tuple #[key, val]) (w' := w2) ?_ ?_
  · simp only [execOp, h3]
    refine run_v ?_
    rw [hitv]
    exact hentry ρ2 _ w2 _ s2
  · rw [hen]
    have hfB : FR ρ2 nt (tm2.put (.tu []) (.tu [e.1, e.2.1]) (pth p.en)) (a2'.put (some p.en) (.tuple #[key, val])).tmps :=
      f2.put hent (VR.tu' (((VRs.nil ρ2).cons (hk2.mono s2.ext)).cons (hk1.mono s2.ext)))
    refine d2 ρ2 _ w2 (hg.mono s2.ext) hfB (by rw [put_defers, hd2]; trivial) s2.rel ((hF.right s2).left c2) _ ?_
    refine c3 ρ2 _ w2 n2 _ (hg.mono s2.ext) (by rw [hend]; exact hF.right s2) ?_
    refine blk_post (id := p.y) ?_
    rw [g6]
    intro ρ4 a4 w4 s4 f4 dd4
    exact hQ ρ4 a4 w4 (s2.trans s4) (f4.zap g9) dd4.nil_inv
/-! ### levels -/
structure MLE (s t : MS) : Prop where
  n : t.n = s.n
  tm : ∀ ρ nt tmps, FR ρ nt s.tm tmps → FR ρ nt t.tm tmps
  h : ∀ b, OLe (hv s.h b) (hv t.h b)
theorem unb_hv (h : Tr AO) (b : Pn) : hv (unb h) b = unbO (hv h b) := get_mapT (by rfl) h b
theorem MLE.unb (g : Bool) (s : MS) : MLE s { u := s.u, tm := s.tm, h := Bool.rec s.h (Ax.unb s.h) g, n := s.n } := ⟨rfl, fun _ _ _ h => h, fun b => by
  cases g with
  | false => exact OLe.refl _
  | true => show OLe _ (hv (Ax.unb s.h) b); rw [unb_hv]; exact unb_le _⟩
theorem mle_inv {s t : MS} (h : mle s t = true) : MLE s t := by
  unfold mle at h
  rw [Bool.and_eq_true, Bool.and_eq_true] at h
  exact ⟨((pn_eq _ _).1 h.1).symm, fun _ _ _ hf => hf.vle h.2.1, fun b => ole_le (trEq_get (by rfl) h.2.2 b)⟩
theorem addM_inv {g : Bool} {s : MS} (acc : List MS) : ∀ {k : List MS → R}, Ok (addM g s acc k) → ∃ acc', addM g s acc k = k acc' ∧ (∀ t ∈ acc, t ∈ acc') ∧ ∃ t ∈ acc', t.u = s.u ∧ MLE s t := by
  induction acc with
  | nil => exact fun {k} _ => ⟨_, rfl, fun t ht => (by cases ht), _, List.mem_singleton.2 rfl, rfl, MLE.unb g s⟩
  | cons t r ih =>
    intro k hk
    have e : addM g s (t :: r) k = Bool.rec (addM g s r fun r => k (t :: r)) (ifK (mle s t) 926 fun _ => k (t :: r)) (g && Nat.beq s.u t.u) := rfl
    rw [e] at hk ⊢
    cases hu : (g && Nat.beq s.u t.u) with
    | true =>
      rw [hu] at hk
      simp only at hk ⊢
      obtain ⟨h1, h2⟩ := ifK_inv hk
      exact ⟨t :: r, h2, fun _ h => h, t, by simp, (beq_iff.1 ((Bool.and_eq_true _ _).mp hu).2).symm, mle_inv h1⟩
    | false =>
      rw [hu] at hk
      simp only at hk ⊢
      obtain ⟨acc', h1, h2, t', h3, h4, h5⟩ := ih hk
      refine ⟨t :: acc', h1, fun x hx => ?_, t', List.mem_cons_of_mem _ h3, h4, h5⟩
      rcases List.mem_cons.1 hx with rfl | hx
      · simp
      · exact List.mem_cons_of_mem _ (h2 x hx)
def Goes (G : AV × AV × Option Nat → Tr AV → Tr AO → Pn → Tr AV → Tr AO → Pn → Prop) (s : MS) (e : AV × AV × Option Nat) (u : Nat) (acc : List MS) : Prop :=
  ∃ tm h n, G e s.tm s.h s.n tm h n ∧ ∃ t ∈ acc, t.u = u ∧ MLE { u, tm, h, n } t
theorem Goes.more {G : AV × AV × Option Nat → Tr AV → Tr AO → Pn → Tr AV → Tr AO → Pn → Prop} {s : MS} {e : AV × AV × Option Nat} {u : Nat} {acc acc' : List MS} (h : Goes G s e u acc) (ha : ∀ t ∈ acc, t ∈ acc') : Goes G s e u acc' := by
  obtain ⟨tm, hh, n, h1, t, h2, h3⟩ := h
  exact ⟨tm, hh, n, h1, t, ha t h2, h3⟩
section
variable {g : Bool} {rd : Rd} {G : AV × AV × Option Nat → Tr AV → Tr AO → Pn → Tr AV → Tr AO → Pn → Prop} (hrd : ∀ e tm h n k, Ok (rd e tm h n k) → ∃ tm' h' n', rd e tm h n k = k tm' h' n' ∧ G e tm h n tm' h' n')
include hrd
theorem levS_inv {s : MS} (l : Ents) : ∀ {i : Nat} {b : Bool} {acc : List MS} {k : List MS → R}, Ok (levS g rd s l i b acc k) → ∃ acc', levS g rd s l i b acc k = k acc' ∧ (∀ t ∈ acc, t ∈ acc') ∧ (b = true ∨ ∃ j, j < l.length ∧ s.u.testBit (i + j) = false) ∧
    ∀ j e, l[j]? = some e → s.u.testBit (i + j) = false → Goes G s e (s.u ||| 2 ^ (i + j)) acc' := by
  induction l with
  | nil =>
    intro i b acc k hk
    have e : levS g rd s [] i b acc k = ifK b 935 fun _ => k acc := rfl
    rw [e] at hk ⊢
    obtain ⟨h1, h2⟩ := ifK_inv hk
    exact ⟨acc, h2, fun _ h => h, .inl h1, fun j e h => by simp at h⟩
  | cons e l ih =>
    intro i b acc k hk
    have e1 : levS g rd s (e :: l) i b acc k = Bool.rec (rd e s.tm s.h s.n fun tm h n => addM g { u := s.u ||| 2 ^ i, tm, h, n } acc fun acc => levS g rd s l (i + 1) true acc k) (levS g rd s l (i + 1) b acc k) (s.u.testBit i) := rfl
    rw [e1] at hk ⊢
    cases hb : s.u.testBit i with
    | true =>
      rw [hb] at hk
      simp only at hk ⊢
      obtain ⟨acc', h1, h2, h3, h4⟩ := ih hk
      refine ⟨acc', h1, h2, ?_, fun j e' hj hs => ?_⟩
      · rcases h3 with h3 | ⟨j, h3, h5⟩
        · exact .inl h3
        · exact .inr ⟨j + 1, by simpa using h3, by rw [show i + (j + 1) = i + 1 + j from by omega]; exact h5⟩
      · cases j with
        | zero => rw [Nat.add_zero] at hs; rw [hb] at hs; cases hs
        | succ j =>
          rw [show i + (j + 1) = i + 1 + j from by omega] at hs ⊢
          exact h4 j e' (by simpa using hj) hs
    | false =>
      rw [hb] at hk
      simp only at hk ⊢
      obtain ⟨tm', h', n', g1, g2⟩ := hrd _ _ _ _ _ hk
      rw [g1] at hk ⊢
      obtain ⟨acc1, g3, g4, t, g5, g6, g7⟩ := addM_inv acc hk
      rw [g3] at hk ⊢
      obtain ⟨acc', h1, h2, h3, h4⟩ := ih hk
      refine ⟨acc', h1, fun x hx => h2 x (g4 x hx), .inr ⟨0, by simp, hb⟩, fun j e' hj hs => ?_⟩
      cases j with
      | zero =>
        have : e = e' := by simpa using hj
        subst this
        exact ⟨tm', h', n', g2, t, h2 t g5, g6, g7⟩
      | succ j =>
        rw [show i + (j + 1) = i + 1 + j from by omega] at hs ⊢
        exact h4 j e' (by simpa using hj) hs
theorem levL_inv {l : Ents} (L : List MS) : ∀ {acc : List MS} {k : List MS → R}, Ok (levL g rd l L acc k) → ∃ acc', levL g rd l L acc k = k acc' ∧ (∀ t ∈ acc, t ∈ acc') ∧
    ∀ s ∈ L, (∃ j, j < l.length ∧ s.u.testBit j = false) ∧ ∀ j e, l[j]? = some e → s.u.testBit j = false → Goes G s e (s.u ||| 2 ^ j) acc' := by
  induction L with
  | nil => exact fun {acc k} _ => ⟨acc, rfl, fun _ h => h, fun s hs => by cases hs⟩
  | cons s L ih =>
    intro acc k hk
    have e1 : levL g rd l (s :: L) acc k = levS g rd s l 0 false acc fun acc => levL g rd l L acc k := rfl
    rw [e1] at hk ⊢
    obtain ⟨acc1, h1, h2, h3, h4⟩ := levS_inv hrd l hk
    rw [h1] at hk ⊢
    obtain ⟨acc', h5, h6, h7⟩ := ih hk
    refine ⟨acc', h5, fun t ht => h6 t (h2 t ht), fun s' hs' => ?_⟩
    rcases List.mem_cons.1 hs' with rfl | hs'
    · refine ⟨?_, fun j e hj hs => ?_⟩
      · rcases h3 with h3 | ⟨j, h3, h8⟩
        · cases h3
        · exact ⟨j, h3, by simpa using h8⟩
      · have := h4 j e hj (by simpa using hs)
        rw [Nat.zero_add] at this
        exact this.more h6
    · exact h7 s' hs'
end
theorem allB_inv {u : Nat} : ∀ {m : Nat}, allB u m = true → ∀ j, j < m → u.testBit j = true
  | 0, _, j, hj => by omega
  | m + 1, h, j, hj => by
    have e : allB u (m + 1) = Bool.rec false (allB u m) (u.testBit m) := rfl
    rw [e] at h
    obtain ⟨h1, h2⟩ := br_true h
    rcases Nat.lt_succ_iff_lt_or_eq.1 hj with h3 | rfl
    · exact allB_inv h2 j h3
    · exact h1
def SeenR (es : Array MapEntry) (f : Nat → Nat) (seen : Array Nat) (u : Nat) : Prop := ∀ (j : Nat) (e : MapEntry), es[j]? = some e → (seen.contains e.born = true ↔ u.testBit (f j) = true)
theorem SeenR.push {es : Array MapEntry} {f : Nat → Nat} {seen : Array Nat} {u : Nat} (h : SeenR es f seen u) (hn : (es.toList.map (·.born)).Nodup) (hf : ∀ i j, i < es.size → j < es.size → f i = f j → i = j) {j : Nat} {e : MapEntry} (he : es[j]? = some e) :
    SeenR es f (seen.push e.born) (u ||| 2 ^ f j) := by
  intro i x hx
  rw [contains_push, Nat.testBit_or, Nat.testBit_two_pow, Bool.or_eq_true, Bool.or_eq_true]
  have hi : i < es.size := (Array.getElem?_eq_some_iff.1 hx).1
  have hj : j < es.size := (Array.getElem?_eq_some_iff.1 he).1
  have hb : (x.born == e.born) = true ↔ i = j := by
    rw [beq_iff_eq]
    constructor
    · intro hbe
      have h1 : (es.toList.map (·.born))[i]? = some x.born := by rw [List.getElem?_map, Array.getElem?_toList, hx]; rfl
      have h2 : (es.toList.map (·.born))[j]? = some e.born := by rw [List.getElem?_map, Array.getElem?_toList, he]; rfl
      rw [hbe] at h1
      exact (List.getElem?_inj (by simpa using hi) hn).1 (h1.trans h2.symm)
    · rintro rfl
      rw [he] at hx
      injection hx with hx
      rw [hx]
  rw [hb, decide_eq_true_eq]
  constructor
  · rintro (h1 | h1)
    · exact .inl ((h i x hx).1 h1)
    · exact .inr (by rw [h1])
  · rintro (h1 | h1)
    · exact .inl ((h i x hx).2 h1)
    · exact .inr (hf i j hi hj h1.symm)
end
end Ax
end Go.Proofs.YtdfgnoflohfnmaaGreatDoor

/-! Ranges over maps by sets of entries: the loop. -/

namespace Go.Proofs.YtdfgnoflohfnmaaGreatDoor
namespace Ax
section
variable {E : Env}
noncomputable def asH (g : Bool) (H : Hp) (ib m : Pn) (l : Ents) (c : Nat) : Hp := fun b => open Classical in if b = m then .mp l c else if b = ib then .x else if asideB g (H b) = true then H b else .x
theorem asH_m (g : Bool) (H : Hp) (ib m : Pn) (l : Ents) (c : Nat) : asH g H ib m l c m = .mp l c := by simp [asH]
theorem asH_other (g : Bool) (H : Hp) {ib m b : Pn} (h1 : b ≠ m) (h2 : b ≠ ib) (l : Ents) (c : Nat) : asH g H ib m l c b = if asideB g (H b) = true then H b else .x := by simp [asH, h1, h2]
theorem aside_ne {g : Bool} {o : AO} (h : asideB g o = true) : o ≠ .x := by rintro rfl; cases g <;> cases h
noncomputable def itH (X : Hp) (ib m : Pn) (c : Nat) (seen : Array Nat) : Hp := upd X ib (.mi (some m) c seen.toList c)
theorem ap_keep {Y H : Hp} {ρ : Ren} {w : World} (h : Rel ρ (ovl Y H) w) (hap : ∀ b, Y b ≠ .x → H b = .x) {b0 : Pn} {t0 : Bk} (hY : Y b0 ≠ .x) (ht : ρ b0 = some t0) : ∀ b t, own (H b) → ρ b = some t → t.c ≠ t0.c := by
  intro b t hb hbt e
  have hYb : Y b = .x := by
    apply Classical.byContradiction
    intro hc
    exact hb.1 (hap b hc)
  have := h.inj b b0 t t0 (by rw [ovl_none hYb]; exact hb) (by rw [ovl_some hY]; exact hY) hbt ht e
  subst this
  exact hY hYb
structure MCtx (ρ0 : Ren) (H0 : Hp) (ib m : Pn) (tb mb : Bk) (l : Ents) (c : Nat) (es : Array MapEntry) (f : Nat → Nat) : Prop where
  rib : ρ0 ib = some tb
  d0 : tb.d = 0
  rm : ρ0 m = some mb
  ne : m ≠ ib
  oi : H0 ib ≠ .x
  om : H0 m = .mp l c
  st : Stp es.toList c
  at' : ∀ (j : Nat) (e : MapEntry), es[j]? = some e → ∃ x, l[f j]? = some x ∧ VR ρ0 x.1 e.key ∧ VR ρ0 x.2.1 e.val
  inj : ∀ i j, i < es.size → j < es.size → f i = f j → i = j
  onto : ∀ q, q < l.length → ∃ i, i < es.size ∧ f i = q
  lt : ∀ j, j < es.size → f j < l.length
structure MInv (g : Bool) (nt : Nat) (ρ0 : Ren) (H0 : Hp) (w0 : World) (n0 : Pn) (it : Tmp) (ib m : Pn) (tb mb : Bk) (l : Ents) (c : Nat) (es : Array MapEntry) (f : Nat → Nat) (s : MS) (a : Act) (w : World) : Prop where
  ex : ∃ ρ seen, Step ρ0 H0 w0 n0 ρ (ovl (itH (asH g H0 ib m l c) ib m c seen) (hv s.h)) w s.n ∧ FR ρ nt s.tm a.tmps ∧ SeenR es f seen s.u ∧ w.heap[tb.c]? = some (.mapIter (some mb.c) c seen c)
  ap : ∀ b, asH g H0 ib m l c b ≠ .x ∨ b = ib → hv s.h b = .x
  df : a.defers = []
  mp : w.heap[mb.c]? = some (.map es c)
  ti : a.eval (.tmp it) = .pointer (some ⟨tb.c, 0, none⟩)
theorem itH_ne {X : Hp} {ib m : Pn} {c : Nat} {seen : Array Nat} {b : Pn} : itH X ib m c seen b ≠ .x ↔ X b ≠ .x ∨ b = ib := by
  unfold itH
  by_cases hb : b = ib
  · subst hb; rw [upd_same]; simp
  · rw [upd_other _ _ hb]; simp [hb]
theorem itH_push {X H : Hp} {ib m : Pn} {c : Nat} {seen seen' : Array Nat} : upd (ovl (itH X ib m c seen) H) ib (.mi (some m) c seen'.toList c) = ovl (itH X ib m c seen') H := by
  funext b
  by_cases hb : b = ib
  · subst hb
    rw [upd_same, ovl_some (by simp [itH, upd_same])]
    simp [itH, upd_same]
  · rw [upd_other _ _ hb]
    have e : itH X ib m c seen b = itH X ib m c seen' b := by unfold itH; rw [upd_other _ _ hb, upd_other _ _ hb]
    by_cases hx : itH X ib m c seen b = .x
    · rw [ovl_none hx, ovl_none (by rw [← e]; exact hx)]
    · rw [ovl_some hx, ovl_some (by rw [← e]; exact hx), e]
section
variable {g : Bool} {nt : Nat} {ρ0 : Ren} {H0 : Hp} {w0 : World} {n0 : Pn} {ib m : Pn} {tb mb : Bk} {l : Ents} {c : Nat} {es : Array MapEntry} {f : Nat → Nat}
theorem fresh_in {ρ : Ren} {Y H : Hp} {n n' : Pn} (h : Fresh ρ (ovl Y H) n n') (hap : ∀ b, Y b ≠ .x → H b = .x) : Fresh ρ H n n' := fun b h1 h2 => by
  obtain ⟨g1, g2⟩ := h b h1 h2
  refine ⟨g1, ?_⟩
  by_cases hY : Y b = .x
  · rw [ovl_none hY] at g2; exact g2
  · exact hap b hY
theorem rel_in {ρ : Ren} {Y H : Hp} {w : World} (h : Rel ρ (ovl Y H) w) (hap : ∀ b, Y b ≠ .x → H b = .x) : Rel ρ H w := h.weak fun b hb => by
  rw [ovl_none]
  apply Classical.byContradiction
  intro hc
  exact hb (hap b hc)
theorem step_out {ρ ρ' : Ren} {Y H H' : Hp} {w w' : World} {n n' : Pn} (h : Rel ρ (ovl Y H) w) (hap : ∀ b, Y b ≠ .x → H b = .x) (hF : Fresh ρ (ovl Y H) n n') (s : Step ρ H w n ρ' H' w' n') :
    Step ρ (ovl Y H) w n ρ' (ovl Y H') w' n' ∧ (∀ b, Y b ≠ .x → H' b = .x) ∧ ∀ b t, Y b ≠ .x → ρ b = some t → w'.heap[t.c]? = w.heap[t.c]? := by
  have hx : ∀ b, Y b ≠ .x → H' b = .x := fun b hb => by
    apply Classical.byContradiction
    intro hc
    rcases s.lv b hc with h1 | ⟨h1, h2⟩
    · exact h1 (hap b hb)
    · have := (hF b h1 h2).2
      rw [ovl_some hb] at this
      exact hb this
  refine ⟨s.frame2 h fun b hb => ⟨hap b hb, hx b hb⟩, hx, fun b t hb ht => ?_⟩
  exact s.same t.c (rel_lt h b t (by rw [ovl_some hb]; exact hb) ht) (ap_keep h hap hb ht)
theorem mr_entry (hc : MCtx ρ0 H0 ib m tb mb l c es f) (hg : GL E ρ0) {lo : Option Nat} {p : MR} {r1 : Nat} {opsN : Array Oper} {o1 : Oper} {tl1 : List Oper} {tail : Code} (hN : opsN.toList = o1 :: tl1) (h1 : o1.op = .next (.tmp p.it) false) (hnx : o1.dst = some p.nx) (hg1 : o1.guard = none)
    {s : MS} {a : Act} {w : World} (hi : MInv g nt ρ0 H0 w0 n0 p.it ib m tb mb l c es f s a w) {L' : List MS} {nE : Pn} (hF : Fresh ρ0 H0 n0 nE) (hle : ∀ t ∈ L', t.n.nat ≤ nE.nat) {Q : Exit → Act → World → Prop}
    (hun : ∃ j, j < l.length ∧ s.u.testBit j = false) (hgo : ∀ j e, l[j]? = some e → s.u.testBit j = false → Goes (RndS E nt lo p ib opsN tl1.length tail) s e (s.u ||| 2 ^ j) L')
    (hQ : ∀ t ∈ L', ∀ a' w', MInv g nt ρ0 H0 w0 n0 p.it ib m tb mb l c es f t a' w' → Q .normal a' w') : (Code.seq (.region r1 opsN false) tail).wpIn (FW lo) 0 E.P Q a w := by
  obtain ⟨⟨ρ, seen, s0, f0, sr, hit⟩, hap, hdf, hmp, hti⟩ := hi
  have hY : ∀ b, itH (asH g H0 ib m l c) ib m c seen b ≠ .x → hv s.h b = .x := fun b hb => hap b (itH_ne.1 hb)
  refine wpIn_seq (wpIn_region ?_)
  have hrunN : ∀ (v : Value) (w' : World), (Instr.next (.pointer (some ⟨tb.c, 0, none⟩)) false o1.type).run E.P w = .ok v w' → (execOp a.eval o1).run E.P w = .ok (.value v) w' := by
    intro v w' hv'
    simp only [execOp, h1]
    refine run_v ?_
    rw [hti]
    exact hv'
  rcases run_next_any (P := E.P) (ty := o1.type) hit hmp hc.st.1 (Nat.le_refl c) with ⟨g1, _⟩ | ⟨e, he, w1, hw1, g2⟩
  · -- not all have been
    exfalso
    obtain ⟨q, hq1, hq2⟩ := hun
    obtain ⟨i, hi1, hi2⟩ := hc.onto q hq1
    have hei : es[i]? = some es[i] := Array.getElem?_eq_getElem hi1
    have hns : seen.contains es[i].born = false := by
      cases hcs : seen.contains es[i].born with
      | false => rfl
      | true => have := (sr i es[i] hei).1 hcs; rw [hi2, hq2] at this; cases this
    have hmem : es[i] ∈ leftOf es seen := Array.mem_filter.2 ⟨Array.getElem_mem hi1, by rw [hns]; rfl⟩
    have := Array.eq_empty_of_size_eq_zero g1
    rw [this] at hmem
    simp at hmem
  · obtain ⟨hmem, hns⟩ := mem_left he
    obtain ⟨j, hj, hje⟩ := List.getElem_of_mem hmem
    have hjs : j < es.size := by simpa using hj
    have hej : es[j]? = some e := by rw [← Array.getElem?_toList, List.getElem?_eq_getElem hj, hje]
    have hbit : s.u.testBit (f j) = false := by
      cases hb : s.u.testBit (f j) with
      | false => rfl
      | true => have := (sr j e hej).2 hb; rw [hns] at this; cases this
    obtain ⟨x, hx1, hx2, hx3⟩ := hc.at' j e hej
    obtain ⟨tm', h', n', ⟨r1', r2', r3'⟩, t, ht, htu, hml⟩ := hgo (f j) x hx1 hbit
    have hib := s0.ext _ _ hc.rib
    have hm := s0.ext _ _ hc.rm
    have sA : Step ρ (ovl (itH (asH g H0 ib m l c) ib m c seen) (hv s.h)) w s.n ρ (ovl (itH (asH g H0 ib m l c) ib m c seen) (hv s.h)) w1 s.n := Step.same_heap s0.rel hw1.1 hw1.2.1 hw1.2.2.1 hw1.2.2.2
    have hownib : own (ovl (itH (asH g H0 ib m l c) ib m c seen) (hv s.h) ib) := by
      rw [ovl_some (by simp [itH, upd_same])]
      simp [itH, upd_same, own]
    have sB := Step.obj (n := s.n) (o := .mi (some m) c (seen.push e.born).toList c) (ob := .mapIter (some mb.c) c (seen.push e.born) c) sA.rel hownib hib ⟨by simp, by simp⟩ ⟨some mb.c, by simp only [Array.toArray_toList], hc.d0, mb, hm, rfl⟩ (by rw [hw1.1]; exact hit)
    rw [itH_push] at sB
    have sAB := sA.trans sB
    have sC := s0.trans sAB
    have hY' : ∀ b, itH (asH g H0 ib m l c) ib m c (seen.push e.born) b ≠ .x → hv s.h b = .x := fun b hb => hap b (itH_ne.1 hb)
    have hneI : itH (asH g H0 ib m l c) ib m c (seen.push e.born) ib ≠ .x := itH_ne.2 (.inr rfl)
    have hneM : itH (asH g H0 ib m l c) ib m c (seen.push e.born) m ≠ .x := itH_ne.2 (.inl (by rw [asH_m]; simp))
    have htc : tb.c ≠ mb.c := by
      intro e2
      have := sC.rel.inj ib m tb mb (by rw [ovl_some hneI]; simp [itH, upd_same, own]) (by rw [ovl_some hneM]; exact hneM) hib hm e2
      exact hc.ne this.symm
    have hit2 : (w1.putObj tb.c (.mapIter (some mb.c) c (seen.push e.born) c)).heap[tb.c]? = some (.mapIter (some mb.c) c (seen.push e.born) c) := World.putObj_heap_same (by rw [hw1.1]; exact lt_of_some hit)
    have hmp2 : (w1.putObj tb.c (.mapIter (some mb.c) c (seen.push e.born) c)).heap[mb.c]? = some (.map es c) := by rw [World.putObj_heap_other (Ne.symm htc), hw1.1]; exact hmp
    have hFr := hF.right sC
    have hnn : n'.nat ≤ nE.nat := by have := hle t ht; rw [hml.n] at this; exact this
    have hFn := hFr.left (n1 := n') hnn
    refine ops_first hN hg1 (fun c => by rw [h1]; simp) (hrunN _ _ g2) ?_
    rw [hnx]
    refine r3' ρ a _ tb e.key e.val (hg.mono s0.ext) f0 hdf (rel_in sC.rel hY') (fresh_in hFn hY') hib hc.d0 (hx2.mono s0.ext) (hx3.mono s0.ext) ?_ Q ?_
    · intro ρ2 H2 w2 n2 s2
      have k1 := s2.same tb.c (rel_lt sC.rel ib tb (by rw [ovl_some hneI]; exact hneI) hib) (ap_keep sC.rel hY' hneI hib)
      have k2 := s2.same mb.c (rel_lt sC.rel m mb (by rw [ovl_some hneM]; exact hneM) hm) (ap_keep sC.rel hY' hneM hm)
      exact run_entry_any (by rw [k1]; exact hit2) (by rw [k2]; exact hmp2) hmem hc.st.2
    · intro ρ' a' w' s2 f2 d2
      obtain ⟨o1', o2', o3'⟩ := step_out sC.rel hY' hFn s2
      have sD := sC.trans o1'
      refine hQ t ht a' w' ⟨⟨ρ', seen.push e.born, ?_, hml.tm _ _ _ f2, ?_, ?_⟩, fun b hb => ?_, d2, ?_, ?_⟩
      · have e2 : t.n = n' := hml.n
        rw [e2]
        refine sD.weaker fun b => ?_
        by_cases hb : itH (asH g H0 ib m l c) ib m c (seen.push e.born) b = .x
        · rw [ovl_none hb, ovl_none hb]; exact hml.h b
        · rw [ovl_some hb, ovl_some hb]; exact OLe.refl _
      · rw [htu]; exact sr.push hc.st.2 hc.inj hej
      · rw [o3' ib tb hneI hib]; exact hit2
      · have h0 := o2' b (itH_ne.2 hb)
        apply Classical.byContradiction
        intro hcx
        exact ((hml.h b).x hcx) h0
      · rw [o3' m mb hneM hm]; exact hmp2
      · have := f2.2 p.it
        rw [r2'] at this
        obtain ⟨t', k1, k2⟩ := this.p_inv
        obtain rfl := Option.some.inj ((s2.ext _ _ hib).symm.trans k1)
        rw [hc.d0] at k2
        exact k2
theorem mr_last (hE : EOK E) {ix : FuncId → Option Ix} (hI : IxOK E ix) {B : Bd} (hB : BdOK E B) {ro : Bool} {lo : Option Nat} (hl : ro = false → lo = none) (hc : MCtx ρ0 H0 ib m tb mb l c es f) (hg : GL E ρ0) {p : MR} {r1 : Nat} {opsN : Array Oper} {o1 : Oper} {tl1 : List Oper} {z : Code} (hN : opsN.toList = o1 :: tl1) (h1 : o1.op = .next (.tmp p.it) false) (hnx : o1.dst = some p.nx) (hnxt : p.nx < nt) (hg1 : o1.guard = none)
    {h1' : Tr AO} (hh0 : hv h1' ib = .x) (hh1 : ∀ b, b ≠ ib → hv h1' b = H0 b) {s : MS} (hall : allB s.u l.length = true) (hk : Ok (mrFin g p m l c h1' (fun tm h n => runL (cosOf E ix nt ro opsN.toList tl1) B tm [] h n .nm) s)) :
    s.n.nat ≤ (endN (mrFin g p m l c h1' (fun tm h n => runL (cosOf E ix nt ro opsN.toList tl1) B tm [] h n .nm) s)).nat ∧ ∀ {a : Act} {w : World}, MInv g nt ρ0 H0 w0 n0 p.it ib m tb mb l c es f s a w → Fresh ρ0 H0 n0 (endN (mrFin g p m l c h1' (fun tm h n => runL (cosOf E ix nt ro opsN.toList tl1) B tm [] h n .nm) s)) →
      ∀ Q K, PostR E nt ρ0 H0 w0 n0 Q (mrFin g p m l c h1' (fun tm h n => runL (cosOf E ix nt ro opsN.toList tl1) B tm [] h n .nm) s) → (Code.seq (.region r1 opsN false) (.seq (.cond (.tmp p.ok) .skip (.exit p.x)) z)).wpIn (FW lo) 0 E.P (Exit.then K Q) a w := by
  unfold mrFin at hk ⊢
  rw [setK_eq] at hk ⊢
  obtain ⟨tm2, h2, n2, g1, g2⟩ := nmK_inv hk
  rw [g2] at hk ⊢
  rw [getK_eq] at hk ⊢
  obtain ⟨okb, hok, g3⟩ := asB_inv hk
  rw [g3] at hk ⊢
  cases okb with
  | true => exact (ok_er hk).elim
  | false =>
  simp only [Bool.false_eq_true, if_false] at hk ⊢
  rw [setK_eq] at hk ⊢
  simp only at g1
  have hN1 : opsN.toList.drop 1 = tl1 := by rw [hN]; rfl
  obtain ⟨a2, a3⟩ := runL_inv1 (l := lo) (nt := nt) hE hI hB hl (ops := opsN) tl1 1 hN1 g1
  refine ⟨a2, fun {a w} hi hF Q K hp => ?_⟩
  obtain ⟨⟨ρ, seen, s0, f0, sr, hit⟩, hap, hdf, hmp, hti⟩ := hi
  have hY : ∀ b, itH (asH g H0 ib m l c) ib m c seen b ≠ .x → hv s.h b = .x := fun b hb => hap b (itH_ne.1 hb)
  refine wpIn_seq (wpIn_region ?_)
  have hrunN : ∀ (v : Value) (w' : World), (Instr.next (.pointer (some ⟨tb.c, 0, none⟩)) false o1.type).run E.P w = .ok v w' → (execOp a.eval o1).run E.P w = .ok (.value v) w' := by
    intro v w' hv'
    simp only [execOp, h1]
    refine run_v ?_
    rw [hti]
    exact hv'
  have hend : endN (.ex p.x tm2 [] ((overT .x (overO g) h1' h2).put .x (.mp l c) m) n2) = n2 := rfl
  rw [hend] at hF
  rcases run_next_any (P := E.P) (ty := o1.type) hit hmp hc.st.1 (Nat.le_refl c) with ⟨_, g4⟩ | ⟨e, he, w1, hw1, g4⟩
  · refine ops_first hN hg1 (fun c => by rw [h1]; simp) (hrunN _ _ g4) ?_
    rw [hnx]
    have hFn := hF.right s0
    refine a3 ρ _ w (hg.mono s0.ext) (f0.put hnxt (VR.tu' ((VRs.nil ρ).cons (.b false)))) (by rw [put_defers, hdf]; trivial) (rel_in s0.rel hY) (fresh_in hFn hY) _ fun ρ2 a2' w2 s2 f2 dd2 => ?_
    have hokv : a2'.eval (.tmp p.ok) = .bool false := by
      have := f2.2 p.ok
      rw [hok] at this
      exact this.b_inv
    refine wpIn_seq (wpIn_cond_false hokv (wpIn_exit ?_))
    obtain ⟨o1', o2', _⟩ := step_out s0.rel hY hFn s2
    have sD := s0.trans o1'
    refine hp ρ2 a2' w2 (sD.weak fun b hb => ?_) f2 dd2
    rw [hv_put] at hb ⊢
    by_cases e : b = m
    · subst e
      rw [upd_same, ovl_some (itH_ne.2 (.inl (by rw [asH_m]; simp)))]
      unfold itH
      rw [upd_other _ _ hc.ne, asH_m]
    · rw [upd_other _ _ e] at hb ⊢
      have hov : hv (overT .x (overO g) h1' h2) b = overO g (hv h1' b) (hv h2 b) := get_overT (by cases g <;> rfl) _ _ _
      rw [hov] at hb ⊢
      by_cases e2 : b = ib
      · subst e2
        rw [hh0] at hb
        exact absurd (show overO g .x (hv h2 b) = .x from by
          have : asideB g .x = false := by cases g <;> rfl
          unfold overO; rw [this]; exact o2' b (itH_ne.2 (.inr rfl))) hb
      · rw [hh1 b e2]
        have e3 : itH (asH g H0 ib m l c) ib m c seen b = if asideB g (H0 b) = true then H0 b else .x := by unfold itH; rw [upd_other _ _ e2, asH_other _ _ e e2]
        unfold overO
        cases ha : asideB g (H0 b) with
        | true =>
          rw [ha, if_pos rfl] at e3
          rw [ovl_some (by rw [e3]; exact aside_ne ha), e3]
        | false =>
          rw [ha] at e3
          rw [ovl_none e3]
  · exfalso
    obtain ⟨hmem, hns⟩ := mem_left he
    obtain ⟨j, hj, hje⟩ := List.getElem_of_mem hmem
    have hjs : j < es.size := by simpa using hj
    have hej : es[j]? = some e := by rw [← Array.getElem?_toList, List.getElem?_eq_getElem hj, hje]
    have hb := allB_inv hall (f j) (hc.lt j hjs)
    have := (sr j e hej).2 hb
    rw [hns] at this
    cases this
end
end
end Ax
end Go.Proofs.YtdfgnoflohfnmaaGreatDoor

/-! Ranges over maps by sets of entries: the theorem. -/

namespace Go.Proofs.YtdfgnoflohfnmaaGreatDoor
namespace Ax
section
variable {E : Env}
theorem lev_ok {g : Bool} (hE : EOK E) {ix : FuncId → Option Ix} (hI : IxOK E ix) {B : Bd} (hB : BdOK E B) {nt : Nat} {ro : Bool} {lo : Option Nat} (hl : ro = false → lo = none) {ρ0 : Ren} {H0 : Hp} {w0 : World} {n0 : Pn} {ib m : Pn} {tb mb : Bk} {l : Ents} {c : Nat} {es : Array MapEntry} {f : Nat → Nat}
    {p : MR} {r1 r2 : Nat} {opsN opsE : Array Oper} {o1 o3 : Oper} {tl1 tl3 : List Oper} {rest : Code}
    (hN : opsN.toList = o1 :: tl1) (hO : opsE.toList = o3 :: tl3) (h1 : o1.op = .next (.tmp p.it) false) (h3 : o3.op = .entry (.tmp p.it)) (hnx : o1.dst = some p.nx) (hen : o3.dst = some p.en) (hg1 : o1.guard = none) (hg3 : o3.guard = none) (hnxt : p.nx < nt) (hent : p.en < nt)
    {fr : CR} (hr : CodeS E B nt lo rest fr) {h1' : Tr AO} (hh0 : hv h1' ib = .x) (hh1 : ∀ b, b ≠ ib → hv h1' b = H0 b) :
    ∀ (k : Nat) (L : List MS),
      Ok (lev g (mrRound p ib (fun tm h n => runL (cosOf E ix nt ro opsN.toList tl1) B tm [] h n .nm) (fun tm h n => blK p.y (sqK (runL (cosOf E ix nt ro opsE.toList tl3) B tm [] h n .nm) fun tm df h n => fr B tm df h n))) l (mrFin g p m l c h1' (fun tm h n => runL (cosOf E ix nt ro opsN.toList tl1) B tm [] h n .nm)) k L) →
      (∀ s ∈ L, s.n.nat ≤ (endN (lev g (mrRound p ib (fun tm h n => runL (cosOf E ix nt ro opsN.toList tl1) B tm [] h n .nm) (fun tm h n => blK p.y (sqK (runL (cosOf E ix nt ro opsE.toList tl3) B tm [] h n .nm) fun tm df h n => fr B tm df h n))) l (mrFin g p m l c h1' (fun tm h n => runL (cosOf E ix nt ro opsN.toList tl1) B tm [] h n .nm)) k L)).nat) ∧
      ((MCtx ρ0 H0 ib m tb mb l c es f) → GL E ρ0 → ∀ Q, Fresh ρ0 H0 n0 (endN (lev g (mrRound p ib (fun tm h n => runL (cosOf E ix nt ro opsN.toList tl1) B tm [] h n .nm) (fun tm h n => blK p.y (sqK (runL (cosOf E ix nt ro opsE.toList tl3) B tm [] h n .nm) fun tm df h n => fr B tm df h n))) l (mrFin g p m l c h1' (fun tm h n => runL (cosOf E ix nt ro opsN.toList tl1) B tm [] h n .nm)) k L)) →
        PostR E nt ρ0 H0 w0 n0 Q (lev g (mrRound p ib (fun tm h n => runL (cosOf E ix nt ro opsN.toList tl1) B tm [] h n .nm) (fun tm h n => blK p.y (sqK (runL (cosOf E ix nt ro opsE.toList tl3) B tm [] h n .nm) fun tm df h n => fr B tm df h n))) l (mrFin g p m l c h1' (fun tm h n => runL (cosOf E ix nt ro opsN.toList tl1) B tm [] h n .nm)) k L) →
        ∀ s ∈ L, ∀ a w, MInv g nt ρ0 H0 w0 n0 p.it ib m tb mb l c es f s a w → LoopW (FW lo) 0 E.P (.seq (.region r1 opsN false) (mrTail p r2 opsE rest)) Q a w) := by
  have hrd := fun e tm h n k hk => mrRound_inv (p := p) (ib := ib) (r2 := r2) hE hI hB hl hN hO h3 hen hg3 hnxt hent hr (e := e) (tm := tm) (h := h) (n := n) (k := k) hk
  generalize hrdD : mrRound p ib (fun tm h n => runL (cosOf E ix nt ro opsN.toList tl1) B tm [] h n .nm) (fun tm h n => blK p.y (sqK (runL (cosOf E ix nt ro opsE.toList tl3) B tm [] h n .nm) fun tm df h n => fr B tm df h n)) = rd at hrd ⊢
  have hfin := fun (s : MS) (hall : allB s.u l.length = true) hk (hc : MCtx ρ0 H0 ib m tb mb l c es f) (hg : GL E ρ0) => mr_last (g := g) (ix := ix) (B := B) (w0 := w0) (n0 := n0) (r1 := r1) (z := .block p.y (.seq (.region r2 opsE false) rest)) hE hI hB hl hc hg hN h1 hnx hnxt hg1 hh0 hh1 (s := s) hall hk
  have hfn : ∀ (s : MS), Ok (mrFin g p m l c h1' (fun tm h n => runL (cosOf E ix nt ro opsN.toList tl1) B tm [] h n .nm) s) → s.n.nat ≤ (endN (mrFin g p m l c h1' (fun tm h n => runL (cosOf E ix nt ro opsN.toList tl1) B tm [] h n .nm) s)).nat := fun s hk => by
    unfold mrFin at hk ⊢
    rw [setK_eq] at hk ⊢
    obtain ⟨tm2, h2, n2, g1, g2⟩ := nmK_inv hk
    rw [g2] at hk ⊢
    rw [getK_eq] at hk ⊢
    obtain ⟨okb, hok, g3⟩ := asB_inv hk
    rw [g3] at hk ⊢
    cases okb with
    | true => exact (ok_er hk).elim
    | false =>
    simp only [Bool.false_eq_true, if_false] at hk ⊢
    rw [setK_eq] at hk ⊢
    simp only at g1
    have hN1 : opsN.toList.drop 1 = tl1 := by rw [hN]; rfl
    obtain ⟨a2, _⟩ := runL_inv1 (l := lo) (nt := nt) hE hI hB hl (ops := opsN) tl1 1 hN1 g1
    exact a2
  generalize mrFin g p m l c h1' (fun tm h n => runL (cosOf E ix nt ro opsN.toList tl1) B tm [] h n .nm) = fin at hfin hfn ⊢
  intro k
  induction k with
  | zero =>
    intro L
    induction L with
    | nil => exact fun hk => (ok_er hk).elim
    | cons s r ihL =>
      intro hk
      have one : ∀ (hk : Ok (ifK (allB s.u l.length) 937 fun _ => fin s)), s.n.nat ≤ (endN (ifK (allB s.u l.length) 937 fun _ => fin s)).nat ∧ ((MCtx ρ0 H0 ib m tb mb l c es f) → GL E ρ0 → ∀ Q, Fresh ρ0 H0 n0 (endN (ifK (allB s.u l.length) 937 fun _ => fin s)) →
          PostR E nt ρ0 H0 w0 n0 Q (ifK (allB s.u l.length) 937 fun _ => fin s) → ∀ a w, MInv g nt ρ0 H0 w0 n0 p.it ib m tb mb l c es f s a w → LoopW (FW lo) 0 E.P (.seq (.region r1 opsN false) (mrTail p r2 opsE rest)) Q a w) := by
        intro hk
        obtain ⟨g1, g2⟩ := ifK_inv hk
        rw [g2] at hk ⊢
        refine ⟨hfn _ hk, fun hc hg Q hF hp a w hi => ?_⟩
        obtain ⟨_, g4⟩ := hfin s g1 hk hc hg
        exact loopW_step (g4 hi hF Q _ hp)
      cases r with
      | nil =>
        have e : lev g rd l fin 0 [s] = ifK (allB s.u l.length) 937 fun _ => fin s := rfl
        rw [e] at hk ⊢
        obtain ⟨o1, o2⟩ := one hk
        exact ⟨fun s' hs' => by obtain rfl := List.mem_singleton.1 hs'; exact o1, fun hc hg Q hF hp s' hs' a w hi => by obtain rfl := List.mem_singleton.1 hs'; exact o2 hc hg Q hF hp a w hi⟩
      | cons t r =>
        have e : lev g rd l fin 0 (s :: t :: r) = .al (ifK (allB s.u l.length) 937 fun _ => fin s) (lev g rd l fin 0 (t :: r)) := rfl
        rw [e] at hk ⊢
        obtain ⟨o1, o2⟩ := one hk.1
        obtain ⟨i1, i2⟩ := ihL hk.2
        have m1 := mx_l (endN (ifK (allB s.u l.length) 937 fun _ => fin s)) (endN (lev g rd l fin 0 (t :: r)))
        have m2 := mx_r (endN (ifK (allB s.u l.length) 937 fun _ => fin s)) (endN (lev g rd l fin 0 (t :: r)))
        refine ⟨fun s' hs' => ?_, fun hc hg Q hF hp s' hs' a w hi => ?_⟩
        · rcases List.mem_cons.1 hs' with rfl | hs'
          · exact Nat.le_trans o1 m1
          · exact Nat.le_trans (i1 s' hs') m2
        · rcases List.mem_cons.1 hs' with rfl | hs'
          · exact o2 hc hg Q (hF.left m1) hp.1 a w hi
          · exact i2 hc hg Q (hF.left m2) hp.2 s' hs' a w hi
  | succ k ih =>
    intro L hk
    have e : lev g rd l fin (k + 1) L = levL g rd l L [] (lev g rd l fin k) := rfl
    rw [e] at hk ⊢
    obtain ⟨L', g1, _, g2⟩ := levL_inv hrd L hk
    rw [g1] at hk ⊢
    obtain ⟨i1, i2⟩ := ih L' hk
    refine ⟨fun s hs => ?_, fun hc hg Q hF hp s hs a w hi => ?_⟩
    · obtain ⟨⟨j, hj, hjb⟩, h5⟩ := g2 s hs
      obtain ⟨tm', h', n', ⟨h6, _, _⟩, t, h7, _, h8⟩ := h5 j l[j] (List.getElem?_eq_getElem hj) hjb
      have := i1 t h7
      rw [h8.n] at this
      simp only at this
      omega
    · obtain ⟨hun, hgo⟩ := g2 s hs
      refine loopW_step (mr_entry (nE := endN (lev g rd l fin k L')) hc hg hN h1 hnx hg1 hi hF i1 hun hgo fun t ht a' w' hi' => ?_)
      exact i2 hc hg Q hF hp t ht a' w' hi'
theorem nilB_inv {α : Type} {l : List α} (h : nilB l = true) : l = [] := by
  cases l with
  | nil => rfl
  | cons => cases h
theorem mr_cs (hE : EOK E) {ix : FuncId → Option Ix} (hI : IxOK E ix) {B : Bd} (hB : BdOK E B) {nt : Nat} {ro : Bool} {lo : Option Nat} (hl : ro = false → lo = none) {b : Code} {p : MR} {l1 l2 : List CO} (hm : mrOf E ix nt ro b = some (p, l1, l2)) {old fr : CR} (hold : CodeS E B nt lo (.loop b) old)
    (hr : ∀ r1 r2 opsN opsE rest, b = .seq (.region r1 opsN false) (.seq (.cond (.tmp p.ok) .skip (.exit p.x)) (.block p.y (.seq (.region r2 opsE false) rest))) → CodeS E B nt lo rest fr) :
    CodeS E B nt lo (.loop b) (fun B tm df h n => mrK p (fun tm df h n => old B tm df h n) (fun tm h n => runL l1 B tm [] h n .nm) (fun tm h n => blK p.y (sqK (runL l2 B tm [] h n .nm) fun tm df h n => fr B tm df h n)) tm df h n) := by
  obtain ⟨r1, r2, opsN, opsE, rest, o1, o3, tl1, tl3, hb, hN, hO, h1, h3, hnx, hen, hg1, hg3, hnxt, hent, rfl, rfl⟩ := mrOf_inv hm
  have hr := hr _ _ _ _ _ hb
  intro tm df h n hk
  simp only at hk ⊢
  unfold mrK at hk ⊢
  rw [getK_eq] at hk ⊢
  obtain ⟨ib, o, e1, e2⟩ := asP_inv hk
  rw [e2] at hk ⊢
  obtain ⟨e3, e4⟩ := ifK_inv hk
  rw [e4] at hk ⊢
  obtain rfl := beq_iff.1 e3
  rw [getK_eq] at hk ⊢
  obtain ⟨mo, since, seen, last, e5, e6⟩ := aoI_inv hk
  rw [e6] at hk ⊢
  cases mo with
  | none => exact hold tm df h n hk
  | some m =>
    simp only at hk ⊢
    obtain ⟨l, c, e7, e8⟩ := mapK_inv hk
    rw [e8] at hk ⊢
    cases h9 : oneE l with
    | true => rw [h9] at hk; exact hold tm df h n hk
    | false =>
      rw [h9] at hk
      simp only at hk ⊢
      unfold mrGo at hk ⊢
      obtain ⟨e10, e11⟩ := ifK_inv hk
      rw [e11] at hk ⊢
      simp only [Bool.and_eq_true, beq_iff] at e10
      obtain ⟨hdf, hse, rfl, rfl⟩ := e10
      obtain rfl := nilB_inv hdf
      obtain rfl := nilB_inv hse
      simp only [setK_eq] at hk ⊢
      have hne : m ≠ ib := by
        rintro rfl
        have : h.get .x m = .mi (some m) last [] last := e5
        rw [e7] at this
        cases this
      have hh0 : hv (h.put .x .x ib) ib = .x := get_put_same _ _ _ _
      have hh1 : ∀ b, b ≠ ib → hv (h.put .x .x ib) b = hv h b := fun b hb => get_put_other _ _ _ _ (fun e => hb e.symm) _
      refine ⟨?_, fun ρ a w hg hf hd hR hF Q hp => ?_⟩
      · exact (lev_ok (g := manyE l && !p.dy) (tb := ⟨0, 0, 0⟩) (mb := ⟨0, 0, 0⟩) (es := #[]) (f := id) (ρ0 := fun _ => none) (H0 := hv h) (w0 := default) (n0 := .one) (r1 := r1) (r2 := r2) hE hI hB hl hN hO h1 h3 hnx hen hg1 hg3 hnxt hent hr hh0 hh1 l.length _ hk).1 _ (List.mem_singleton.2 rfl)
      · obtain ⟨tb, mc, q1, q0, q2, _, q3⟩ := iter_rel hR e5
        obtain ⟨mb, q4, rfl⟩ := q3 m rfl
        obtain ⟨mb', es, l', q5, q6, q7, q8⟩ := map_rel hR e7
        obtain rfl := Option.some.inj (q4.symm.trans q5)
        have q9 := map_st hR e7 q4 q6
        obtain ⟨f, pi⟩ := perm_places q7
        have hlen : es.size = l'.length := by rw [← Array.length_toList]; exact q8.1
        have hc : MCtx ρ (hv h) ib m tb mb l last es f := {
          rib := q1, d0 := q0, rm := q4, ne := hne, oi := by rw [show hv h ib = _ from e5]; simp, om := e7, st := q9
          at' := fun j e he => by
            have hj : j < es.size := (Array.getElem?_eq_some_iff.1 he).1
            have hx : l'[j]? = some l'[j] := List.getElem?_eq_getElem (by omega)
            have := q8.2 j l'[j] e hx (by rw [Array.getElem?_toList]; exact he)
            exact ⟨l'[j], by rw [(pi.at' j (by omega)).2]; exact hx, this.1, this.2.1⟩
          inj := fun i j hi hj e => pi.inj i j (by omega) (by omega) e
          onto := fun q hq => by obtain ⟨i, hi, e⟩ := pi.onto q hq; exact ⟨i, by omega, e⟩
          lt := fun j hj => (pi.at' j (by omega)).1 }
        have hti : a.eval (.tmp p.it) = .pointer (some ⟨tb.c, 0, none⟩) := by
          have := hf.2 p.it
          rw [e1] at this
          obtain ⟨t', k1, k2⟩ := this.p_inv
          obtain rfl := Option.some.inj (q1.symm.trans k1)
          rw [q0] at k2
          exact k2
        rw [hb]
        refine wpIn_loopW ((lev_ok (g := manyE l && !p.dy) (tb := tb) (mb := mb) (es := es) (f := f) (w0 := w) (n0 := n) (r1 := r1) (r2 := r2) hE hI hB hl hN hO h1 h3 hnx hen hg1 hg3 hnxt hent hr hh0 hh1 l.length _ hk).2 hc hg Q hF hp _ (List.mem_singleton.2 rfl) a w ?_)
        have hs0 : ∀ b, hv (mapT (keepO (manyE l && !p.dy)) ((h.put .x .x ib).put .x .x m)) b = keepO (manyE l && !p.dy) (hv ((h.put .x .x ib).put .x .x m) b) := fun b => get_mapT (by cases (manyE l && !p.dy) <;> rfl) _ _
        have hsm : hv ((h.put .x .x ib).put .x .x m) m = .x := get_put_same _ _ _ _
        have hsi : hv ((h.put .x .x ib).put .x .x m) ib = .x := by
          show ((h.put .x .x ib).put .x .x m).get .x ib = .x
          rw [get_put_other _ _ _ _ hne]; exact hh0
        have hso : ∀ b, b ≠ m → b ≠ ib → hv ((h.put .x .x ib).put .x .x m) b = hv h b := fun b h1 h2 => by
          show ((h.put .x .x ib).put .x .x m).get .x b = _
          rw [get_put_other _ _ _ _ (fun e => h1 e.symm)]; exact hh1 b h2
        refine ⟨⟨ρ, #[], (Step.refl hR).weaker fun b => ?_, hf, fun j e _ => by simp, by simpa using q2⟩, fun b hb => ?_, hd.nil_inv, q6, hti⟩
        · by_cases hbi : b = ib
          · subst hbi
            rw [ovl_some (itH_ne.2 (.inr rfl))]
            unfold itH
            rw [upd_same, show hv h b = _ from e5]
            exact OLe.refl _
          · by_cases hbm : b = m
            · subst hbm
              rw [ovl_some (itH_ne.2 (.inl (by rw [asH_m]; simp)))]
              unfold itH
              rw [upd_other _ _ hbi, asH_m, show hv h b = _ from e7]
              exact OLe.refl _
            · have e3 : itH (asH (manyE l && !p.dy) (hv h) ib m l last) ib m last #[] b = if asideB (manyE l && !p.dy) (hv h b) = true then hv h b else .x := by unfold itH; rw [upd_other _ _ hbi, asH_other _ _ hbm hbi]
              cases ha : asideB (manyE l && !p.dy) (hv h b) with
              | true =>
                rw [ha, if_pos rfl] at e3
                rw [ovl_some (by rw [e3]; exact aside_ne ha), e3]
                exact OLe.refl _
              | false =>
                rw [ha] at e3
                rw [ovl_none e3, hs0, hso b hbm hbi]
                exact keep_le _ _
        · rw [hs0]
          rcases hb with hb | rfl
          · by_cases hbm : b = m
            · subst hbm; rw [hsm]; cases (manyE l && !p.dy) <;> rfl
            · by_cases hbi : b = ib
              · subst hbi; rw [hsi]; cases (manyE l && !p.dy) <;> rfl
              · rw [asH_other _ _ hbm hbi] at hb
                rw [hso b hbm hbi]
                unfold keepO
                cases ha : asideB (manyE l && !p.dy) (hv h b) with
                | true => rfl
                | false => rw [ha] at hb; exact absurd rfl hb
          · rw [hsi]; cases (manyE l && !p.dy) <;> rfl
end
end Ax
end Go.Proofs.YtdfgnoflohfnmaaGreatDoor

/-! Two effects that stand in no order: both orders are run. -/

namespace Go.Proofs.YtdfgnoflohfnmaaGreatDoor
namespace Ax
def Bef (a b : Nat) : List Nat → Prop
  | [] => True
  | i :: r => i = a ∨ (i ≠ b ∧ Bef a b r)
theorem bef_or (a b : Nat) : ∀ σ : List Nat, Bef a b σ ∨ Bef b a σ
  | [] => .inl trivial
  | i :: r => by
    by_cases h1 : i = a
    · exact .inl (.inl h1)
    · by_cases h2 : i = b
      · exact .inr (.inl h2)
      · rcases bef_or a b r with h | h
        · exact .inl (.inr ⟨h2, h⟩)
        · exact .inr (.inr ⟨h1, h⟩)
structure Pm (pl : List Nat) (N : Nat) : Prop where
  len : pl.length = N
  at' : ∀ i, i < N → pl[pl.idxOf i]? = some i ∧ pl.idxOf i < N
  onto : ∀ x, x < N → ∃ y, y < N ∧ pl.idxOf y = x
theorem permOk_inv {pl : List Nat} {N : Nat} (h : permOk pl N = true) : Pm pl N := by
  unfold permOk at h
  simp only [Bool.and_eq_true, List.all_eq_true, List.mem_range] at h
  obtain ⟨⟨h1, h2⟩, h3⟩ := h
  refine ⟨beq_iff.1 h1, fun i hi => ?_, fun x hx => ?_⟩
  · have := h2 i hi
    cases hp : pl[pl.idxOf i]? with
    | none => rw [hp] at this; cases this
    | some j =>
      rw [hp] at this
      simp only [Bool.and_eq_true, beq_iff, ble_iff] at this
      exact ⟨by rw [this.1], by omega⟩
  · have := h3 x hx
    cases hp : pl[x]? with
    | none => rw [hp] at this; cases this
    | some y =>
      rw [hp] at this
      simp only [Bool.and_eq_true, beq_iff, ble_iff] at this
      exact ⟨y, by omega, this.1⟩
theorem Pm.inj {pl : List Nat} {N : Nat} (h : Pm pl N) {i j : Nat} (hi : i < N) (hj : j < N) (e : pl.idxOf i = pl.idxOf j) : i = j := by
  have h1 := (h.at' i hi).1
  have h2 := (h.at' j hj).1
  rw [e, h2] at h1
  exact (Option.some.inj h1).symm
theorem var_at {ops : List Oper} {pl : List Nat} {a b : Nat} (h : Pm pl ops.length) {i : Nat} {o : Oper} (ho : ops[i]? = some o) : (varOf ops pl a b)[pl.idxOf i]? = some (varO pl a b i o) := by
  have hi : i < ops.length := (List.getElem?_eq_some_iff.1 ho).1
  unfold varOf
  rw [List.getElem?_map, (h.at' i hi).1]
  simp [ho]
theorem var_len {ops : List Oper} {pl : List Nat} {a b : Nat} (h : Pm pl ops.length) : (varOf ops pl a b).length = ops.length := by
  unfold varOf
  rw [List.length_map, h.len]
theorem wpIn_after {F : Fence} {n : Nat} {P : Program} {o : Oper} {x : Array Edge} {a : Act} {w : World} {K : Act → World → Prop} {Q : Exit → Act → World → Prop} (h : ({ o with after := x } : Oper).wpIn F n P a w K Q) : o.wpIn F n P a w K Q := h
theorem var_wp {F : Fence} {n : Nat} {P : Program} {Q : Exit → Act → World → Prop} {ops : Array Oper} {pl : List Nat} {a b : Nat} (h : Pm pl ops.toList.length) (hg : ∀ o ∈ ops.toList, o.guard = none) : ∀ (σ : List Nat) (A : Act) (w : World), (∀ i ∈ σ, i < ops.size) →
    wpOpsIn F n P (varOf ops.toList pl a b).toArray Q (σ.map fun i => pl.idxOf i) A w → wpOpsIn F n P ops Q σ A w
  | [], A, w, _, hw => hw
  | i :: σ, A, w, hi, hw => by
    rw [List.map_cons, wpOpsIn_cons] at hw
    rw [wpOpsIn_cons]
    have hlt := hi i (by simp)
    have ho : ops.toList[i]? = some ops[i] := by rw [Array.getElem?_toList, Array.getElem?_eq_getElem hlt]
    have hgi := hg ops[i] (by simp)
    have hv := var_at (a := a) (b := b) h ho
    unfold wpOpIn at hw ⊢
    have e1 : ops[i]? = some ops[i] := Array.getElem?_eq_getElem hlt
    have e2 : (varOf ops.toList pl a b).toArray[pl.idxOf i]? = some (varO pl a b i ops[i]) := by rw [← Array.getElem?_toList, List.toList_toArray]; exact hv
    rw [e2] at hw
    rw [e1]
    simp only at hw ⊢
    have w1 : ∀ y, Region.wanted (varO pl a b i ops[i]) y = true := fun y => by
      have : (varO pl a b i ops[i]).guard = none := hgi
      simp [Region.wanted, this]
    have w2 : ∀ y, Region.wanted ops[i] y = true := fun y => by simp [Region.wanted, hgi]
    rw [if_pos (w1 _)] at hw
    rw [if_pos (w2 _)]
    exact Oper.wpIn_mono (fun A' w' h' => var_wp h hg σ A' w' (fun j hj => hi j (by simp [hj])) h') (wpIn_after hw)
theorem lin_lt {ops : Array Oper} : ∀ {σ : List Nat} {S : Nat → Prop}, Lin ops σ S → ∀ i ∈ σ, i < ops.size
  | [], _, _, i, hi => by cases hi
  | j :: σ, S, h, i, hi => by
    rcases List.mem_cons.1 hi with rfl | hi
    · obtain ⟨_, ⟨o, h2, _⟩, _⟩ := h
      have := (List.getElem?_eq_some_iff.1 h2).1
      simpa using this
    · exact lin_lt h.2.2 i hi
theorem var_lin {ops : Array Oper} {pl : List Nat} {a b : Nat} (h : Pm pl ops.toList.length) (hab : a ≠ b) : ∀ (σ : List Nat) (S S' : Nat → Prop), (∀ x, S x → x < ops.size) → (∀ i, i < ops.size → (S' (pl.idxOf i) ↔ S i)) → (S a ∨ Bef a b σ) → Lin ops σ S →
    Lin (varOf ops.toList pl a b).toArray (σ.map fun i => pl.idxOf i) S'
  | [], S, S', _, hS, _, hL => fun x hx => by
    have hx : x < ops.toList.length := by
      have : x < (varOf ops.toList pl a b).length := by simpa using hx
      rwa [var_len h] at this
    obtain ⟨y, hy, rfl⟩ := h.onto x hx
    have hy : y < ops.size := by simpa using hy
    exact (hS y hy).2 (hL y hy)
  | i :: σ, S, S', hlt, hS, hB, hL => by
    obtain ⟨h1, ⟨o, h2, h3⟩, h4⟩ := hL
    have hi : i < ops.size := by have := (List.getElem?_eq_some_iff.1 h2).1; simpa using this
    refine ⟨fun hc => h1 ((hS i hi).1 hc), ⟨varO pl a b i o, by rw [List.toList_toArray]; exact var_at h h2, fun e he hb => ?_⟩, ?_⟩
    · have he : e ∈ (o.after.toList.map fun e => ({ on := pl.idxOf e.on, ground := e.ground } : Edge)) ++ xtraE pl a b i := by simpa [varO] using he
      rcases List.mem_append.1 he with he | he
      · obtain ⟨e0, g1, g2⟩ := List.mem_map.1 he
        subst g2
        have hs := h3 e0 g1 hb
        exact (hS _ (hlt _ hs)).2 hs
      · unfold xtraE at he
        cases hib : Nat.beq i b with
        | false => rw [hib] at he; cases he
        | true =>
          rw [hib] at he
          have he := List.mem_singleton.1 he
          subst he
          have hib := beq_iff.1 hib
          rcases hB with hB | hB
          · exact (hS _ (hlt _ hB)).2 hB
          · rcases hB with hB | hB
            · exact absurd (hB.symm.trans hib) hab
            · exact absurd hib hB.1
    · refine var_lin h hab σ _ _ (fun x hx => ?_) (fun j hj => ?_) ?_ h4
      · rcases hx with rfl | hx
        · exact hi
        · exact hlt x hx
      · constructor
        · rintro (hj2 | hj2)
          · exact .inl (h.inj (by simpa using hj) (by simpa using hi) hj2)
          · exact .inr ((hS j hj).1 hj2)
        · rintro (hj2 | hj2)
          · exact .inl (by rw [hj2])
          · exact .inr ((hS j hj).2 hj2)
      · rcases hB with hB | hB | hB
        · exact .inl (.inr hB)
        · exact .inl (.inl hB.symm)
        · exact .inr hB.2
section
variable {E : Env}
theorem d2Of_inv {ix : FuncId → Option Ix} {nt : Nat} {ro : Bool} {ops : List Oper} {x y : List DO} (h : d2Of E ix nt ro ops = some (x, y)) : ∃ (a b : Nat) (p q : List Nat), a ≠ b ∧ Pm p ops.length ∧ Pm q ops.length ∧ (∀ o ∈ ops, o.guard = none) ∧ edgesOk ops 0 = true ∧
    drawOf (cosOf E ix nt ro (varOf ops p a b) (varOf ops p a b)) (varOf ops p a b) = some x ∧ drawOf (cosOf E ix nt ro (varOf ops q b a) (varOf ops q b a)) (varOf ops q b a) = some y := by
  unfold d2Of at h
  split at h
  · rename_i h0
    rw [Bool.and_eq_true, List.all_eq_true] at h0
    split at h
    · rename_i a b _
      split at h
      · rename_i h1
        simp only [Bool.and_eq_true, Bool.not_eq_true'] at h1
        split at h
        · rename_i x' hx
          split at h
          · rename_i y' hy
            injection h with h
            injection h with h2 h3
            subst h2 h3
            refine ⟨a, b, _, _, fun e => ?_, permOk_inv h1.1.1, permOk_inv h1.1.2, fun o ho => by simpa using h0.1 o ho, h0.2, hx, hy⟩
            have := h1.2
            rw [beq_iff.2 e] at this
            cases this
          · cases h
        · cases h
      · cases h
    · cases h
  · cases h
theorem d2_cs (hE : EOK E) {ix : FuncId → Option Ix} (hI : IxOK E ix) {B : Bd} (hB : BdOK E B) {nt : Nat} {ro : Bool} {lo : Option Nat} (hl : ro = false → lo = none) {id : Nat} {ops : Array Oper} {x y : List DO} (hd : d2Of E ix nt ro ops.toList = some (x, y)) :
    CodeS E B nt lo (.region id ops true) (fun B tm df h n => d2K (fun tm h n => drw x B tm [] h n .nm) (fun tm h n => drw y B tm [] h n .nm) tm df h n) := by
  obtain ⟨a0, b0, p, q, hab, hp, hq, hg0, hed, hx, hy⟩ := d2Of_inv hd
  intro tm df h n hk
  simp only at hk ⊢
  unfold d2K at hk ⊢
  obtain ⟨e1, e2⟩ := ifK_inv hk
  rw [e2] at hk ⊢
  obtain rfl := nilB_inv e1
  obtain ⟨tmA, hA, nA, a1, a2⟩ := nmK_inv hk
  rw [a2] at hk ⊢
  obtain ⟨tmB, hB2, nB, b1, b2⟩ := nmK_inv hk
  rw [b2] at hk ⊢
  obtain ⟨e3, e4⟩ := ifK_inv hk
  rw [e4] at hk ⊢
  simp only at a1 b1
  have hm := mle_inv e3
  have hnAB : nA = nB := hm.n
  obtain ⟨tA, dA, gA, mA, c1, c2, c3⟩ := drw_inv (l := lo) (ops := (varOf ops.toList p a0 b0).toArray) hE hI hB hl (by simpa using hx) (tm := tm) (df := []) (h := mapT (keepO true) h) (n := n) (by rw [a1]; trivial)
  rw [a1] at c1
  injection c1 with q1 q2 q3 q4
  subst q1 q2 q3 q4
  obtain ⟨tB, dB, gB, mB, d1, d2, d3⟩ := drw_inv (l := lo) (ops := (varOf ops.toList q b0 a0).toArray) hE hI hB hl (by simpa using hy) (tm := tm) (df := []) (h := mapT (keepO true) h) (n := n) (by rw [b1]; trivial)
  rw [b1] at d1
  injection d1 with q1 q2 q3 q4
  subst q1 q2 q3 q4
  refine ⟨c2, fun ρ a w hg hf hdr hR hF Q hpost => wpIn_region_draw fun t => ?_⟩
  have hend : endN (.nm tmA [] (overT .x (overO true) h (unb hA)) nA) = nA := rfl
  rw [hend] at hF
  have hs : Step ρ (hv h) w n ρ (hv h) { w with drawn := w.drawn + 1 } n := Step.same_heap hR rfl rfl rfl rfl
  let Y : Hp := fun b => open Classical in if asideB true (hv h b) = true then hv h b else .x
  have hk0 : ∀ b, hv (mapT (keepO true) h) b = keepO true (hv h b) := fun b => get_mapT (by rfl) _ _
  have hYn : ∀ b, Y b ≠ .x → asideB true (hv h b) = true := fun b hb => by
    cases ha : asideB true (hv h b) with
    | true => rfl
    | false => exact absurd (show Y b = .x by simp only [Y, ha]; rfl) hb
  have hYs : ∀ b, asideB true (hv h b) = true → Y b = hv h b := fun b hb => by simp only [Y, hb, if_true]
  have hap : ∀ b, Y b ≠ .x → hv (mapT (keepO true) h) b = .x := fun b hb => by
    rw [hk0]; unfold keepO; rw [hYn b hb]
  have hov : ovl Y (hv (mapT (keepO true) h)) = hv h := by
    funext b
    by_cases hb : Y b = .x
    · rw [ovl_none hb, hk0]
      unfold keepO
      cases ha : asideB true (hv h b) with
      | true => rw [hYs b ha] at hb; exact hb.symm
      | false => rfl
    · rw [ovl_some hb, hYs b (hYn b hb)]
  have hR1 : Rel ρ (ovl Y (hv (mapT (keepO true) h))) { w with drawn := w.drawn + 1 } := by rw [hov]; exact hs.rel
  have hF1 : Fresh ρ (ovl Y (hv (mapT (keepO true) h))) n nA := by rw [hov]; exact hF
  have hlast : ∀ {ρ' : Ren} {w' : World} {H' : Hp}, Step ρ (hv (mapT (keepO true) h)) { w with drawn := w.drawn + 1 } n ρ' H' w' nA → (∀ b, OLe (H' b) (hv (unb hA) b)) → Step ρ (hv h) w n ρ' (hv (overT .x (overO true) h (unb hA))) w' nA := by
    intro ρ' w' H' s hle
    obtain ⟨s1, s2, _⟩ := step_out hR1 hap hF1 s
    rw [hov] at s1
    refine (hs.trans s1).weaker fun b => ?_
    have h1 : hv (overT .x (overO true) h (unb hA)) b = overO true (hv h b) (hv (unb hA) b) := get_overT (by rfl) _ _ _
    rw [h1]
    unfold overO
    cases ha : asideB true (hv h b) with
    | true =>
      simp only
      rw [ovl_some (by rw [hYs b ha]; exact aside_ne ha), hYs b ha]
      exact OLe.refl _
    | false =>
      simp only
      rw [ovl_none (show Y b = .x by simp only [Y, ha]; rfl)]
      exact hle b
  have hσ := lin_schedule hE hed t
  have hlt := lin_lt hσ
  have hS0 : ∀ (pl : List Nat) (i : Nat), i < ops.size → ((fun _ => False : Nat → Prop) (pl.idxOf i) ↔ (fun _ => False : Nat → Prop) i) := fun _ _ _ => Iff.rfl
  have hFi : Fresh ρ (hv (mapT (keepO true) h)) n nA := fresh_in hF1 hap
  rcases bef_or a0 b0 (Region.schedule (E.P.follows .mixedOrders) ops t) with hb | hb
  · refine var_wp (a := a0) (b := b0) hp hg0 _ _ _ hlt ?_
    refine c3 ρ a _ hg hf hdr (rel_in hR1 hap) hFi Q (fun ρ' a' w' s f d => hpost ρ' a' w' (hlast s fun b => by rw [unb_hv]; exact unb_le _) f d) _ ?_
    exact var_lin hp hab _ _ _ (fun x hx => hx.elim) (hS0 p) (.inr hb) hσ
  · refine var_wp (a := b0) (b := a0) hq hg0 _ _ _ hlt ?_
    rw [hnAB] at hlast hpost hFi
    refine d3 ρ a _ hg hf hdr (rel_in hR1 hap) hFi Q (fun ρ' a' w' s f d => ?_) _ ?_
    · rw [← hnAB] at s
      have hst := hlast (by rw [← hnAB]; exact s) hm.h
      exact hpost ρ' a' w' hst (hm.tm _ _ _ f) d
    · exact var_lin hq (Ne.symm hab) _ _ _ (fun x hx => hx.elim) (hS0 q) (.inr hb) hσ
end
end Ax
end Go.Proofs.YtdfgnoflohfnmaaGreatDoor

/-! Code, bodies. -/

namespace Go.Proofs.YtdfgnoflohfnmaaGreatDoor
namespace Ax
section
variable {E : Env} {ρ ρ' : Ren} {H H' : Hp} {w w' : World}
theorem pendK_inv {pend : Option Code} {tm : Tr AV} {df : List AD} {h : Tr AO} {n : Pn} (hk : Ok (pendK pend tm df h n)) :
    (pend = none ∧ pendK pend tm df h n = .nm tm df h n) ∨ (pend = some .ret ∧ pendK pend tm df h n = .rt tm df h n) ∨ ∃ id, pend = some (.exit id) ∧ pendK pend tm df h n = .ex id tm df h n := by
  unfold pendK at hk ⊢
  split at hk
  · exact .inl ⟨rfl, rfl⟩
  · exact .inr (.inl ⟨rfl, rfl⟩)
  · exact .inr (.inr ⟨_, rfl, rfl⟩)
  · exact (ok_er hk).elim
theorem lst_busy {s : Nat} (h : s ≠ 1) : lst s ≠ .busy := by
  unfold lst
  split <;> first | (intro h'; cases h'; done) | exact absurd rfl h
theorem rf_cs (hE : EOK E) {B : Bd} (hB : BdOK E B) {nt : Nat} {x : Operand} {ps : Array Tmp} {assign body : Code} (hx : gOk1 E x = true) : CodeS E B nt none (.rangeFunc x ps assign body) (rfK E x nt ps.toList assign body) := by
  intro tm df h n hk
  unfold rfK newK at hk ⊢
  obtain ⟨fv, h1, h2⟩ := opd_inv hk
  rw [h2] at hk ⊢
  simp only [setK_eq] at hk ⊢
  unfold rfF at hk ⊢
  split at hk
  · rename_i g la lc
    obtain ⟨o, h4, h5, h6⟩ := callB_inv hE hB hk
    rw [h4] at hk ⊢
    have leaf : ∀ v h3 m, o.has v h3 m → ∃ s pend nt' tm' ps' a' b' dq', h3.get .x n.succ = .lp s pend nt' tm' ps' a' b' dq' ∧ s ≠ 1 ∧
        (h3.getK .x n.succ fun o => lpK o fun s pend nt tm0 ps a b dq => Bool.rec (pendK pend tm (.mk n :: df) (h3.put .x (.lp 3 pend nt tm0 ps a b dq) n.succ) m) (.er 264) (Nat.beq s 1)) = pendK pend tm (.mk n :: df) (h3.put .x (.lp 3 pend nt' tm' ps' a' b' dq') n.succ) m ∧
        Ok (pendK pend tm (.mk n :: df) (h3.put .x (.lp 3 pend nt' tm' ps' a' b' dq') n.succ) m) := by
      intro v h3 m hh
      have hk := Ot.ok hk hh
      rw [getK_eq] at hk ⊢
      obtain ⟨s, pend, nt', tm', ps', a', b', dq', h7, h8⟩ := lpK_inv hk
      rw [h8] at hk ⊢
      cases hs : Nat.beq s 1 with
      | true => rw [hs] at hk; exact (ok_er hk).elim
      | false =>
        rw [hs] at hk
        simp only at hk ⊢
        exact ⟨s, pend, nt', tm', ps', a', b', dq', h7, fun e => (by rw [beq_iff.2 e] at hs; cases hs), rfl, hk⟩
    have hend : ∀ v h3 m, o.has v h3 m → endN (h3.getK .x n.succ fun o => lpK o fun s pend nt tm0 ps a b dq => Bool.rec (pendK pend tm (.mk n :: df) (h3.put .x (.lp 3 pend nt tm0 ps a b dq) n.succ) m) (.er 264) (Nat.beq s 1)) = m := by
      intro v h3 m hh
      obtain ⟨s, pend, nt', tm', ps', a', b', dq', _, _, e, hk⟩ := leaf v h3 m hh
      rw [e]
      rcases pendK_inv hk with ⟨_, e⟩ | ⟨_, e⟩ | ⟨id, _, e⟩ <;> rw [e] <;> rfl
    have htop : o.top.nat ≤ (endN (o.app fun _ h m => h.getK .x n.succ fun o => lpK o fun s pend nt tm0 ps a b dq => Bool.rec (pendK pend tm (.mk n :: df) (h.put .x (.lp 3 pend nt tm0 ps a b dq) n.succ) m) (.er 264) (Nat.beq s 1))).nat := by
      obtain ⟨v, h3, hh⟩ := o.at_top
      have h7 := Ot.endN_le (k := fun _ h m => h.getK .x n.succ fun o => lpK o fun s pend nt tm0 ps a b dq => Bool.rec (pendK pend tm (.mk n :: df) (h.put .x (.lp 3 pend nt tm0 ps a b dq) n.succ) m) (.er 264) (Nat.beq s 1)) hh
      rw [hend v h3 _ hh] at h7
      exact h7
    have hnn := nat_succ n
    have hnnn := nat_succ n.succ
    refine ⟨by omega, fun ρ a w hg hf hd hR hF Q hp => wpIn_rangeFunc fun fn _ => ?_⟩
    replace hF := hF.left htop
    obtain ⟨ga, gc, q1, q2, q3⟩ := (gl_opd hg hf hx h1).func_inv
    have hf1 := hF n (Nat.le_refl _) (by omega)
    have s1 : Step ρ (hv h) w n (updR ρ n ⟨w.heap.size, 0, 0⟩) (hv (h.put .x (.dq false) n)) (w.alloc (.deferred (some []))) n.succ := by
      rw [hv_put]
      exact Step.new hR hf1.1 hf1.2 rfl rfl (rel_lt hR) rfl rfl rfl rfl
    have hF1 := hF.right s1
    have hf2 := hF1 n.succ (Nat.le_refl _) (by omega)
    generalize hρ1 : updR ρ n ⟨w.heap.size, 0, 0⟩ = ρ1 at s1 hF1 hf2
    have hρn : ρ1 n = some ⟨w.heap.size, 0, 0⟩ := by rw [← hρ1]; exact updR_same _ _
    have hsz : (w.alloc (.deferred (some []))).heap.size = w.heap.size + 1 := World.size_alloc _ _
    have s2 : Step ρ1 (hv (h.put .x (.dq false) n)) (w.alloc (.deferred (some []))) n.succ (updR ρ1 n.succ ⟨w.heap.size + 1, 0, 0⟩) (hv ((h.put .x (.dq false) n).put .x (.lp 0 none nt tm ps.toList assign body n) n.succ))
        ((w.alloc (.deferred (some []))).alloc (.loop { state := .ready, pending := none, fn, tmps := a.tmps, params := ps, assign, body, defers := w.heap.size })) n.succ.succ := by
      rw [hv_put (h.put .x (.dq false) n)]
      refine Step.new s1.rel hf2.1 hf2.2 hsz.symm ?_ (rel_lt s1.rel) rfl rfl rfl rfl
      exact ⟨fn, a.tmps, .ready, ⟨w.heap.size, 0, 0⟩, by simp, updR_le hf2.1 _ _ hρn, rfl, (hf.mono s1.ext).mono (updR_le hf2.1)⟩
    have s12 := s1.trans s2
    have hρ2 : (updR ρ1 n.succ ⟨w.heap.size + 1, 0, 0⟩) n.succ = some ⟨w.heap.size + 1, 0, 0⟩ := updR_same _ _
    have hF2 := hF1.right s2
    generalize updR ρ1 n.succ ⟨w.heap.size + 1, 0, 0⟩ = ρ2 at s2 s12 hρ2 hF2
    generalize hw2 : (w.alloc (.deferred (some []))).alloc (.loop { state := .ready, pending := none, fn, tmps := a.tmps, params := ps, assign, body, defers := w.heap.size }) = w2 at s2 s12
    have hus : VRs ρ2 (la ++ [.y n.succ] ++ lc) (ga ++ #[Value.func (.yield (w.heap.size + 1)) #[] #[]] ++ gc).toList := by
      have hy : VR ρ2 (.y n.succ) (.func (.yield (w.heap.size + 1)) #[] #[]) := VR.y (t := ⟨w.heap.size + 1, 0, 0⟩) hρ2
      simpa using ((q2.mono s12.ext).append ((VRs.nil ρ2).cons hy)).append (q3.mono s12.ext)
    obtain ⟨g1, g2⟩ := h6 ρ2 w2 _ (hg.mono s12.ext) hus s2.rel hF2
    refine ⟨w.heap.size + 1, [{ target := .collected w.heap.size, args := #[] }], w2, { target := .fn (.func g) gc, args := ga ++ #[Value.func (.yield (w.heap.size + 1)) #[] #[]] }, w2, g, ga ++ #[Value.func (.yield (w.heap.size + 1)) #[] #[]] ++ gc, w2, ?_, ?_, fun _ _ => trivial, g1, fun h => (by cases h), ?_⟩
    · rw [← hw2]; exact run_enterLoop_outer fn a.tmps ps assign body
    · have he : a.eval (.const (.func (.yield (w.heap.size + 1)) #[] #[])) = .func (.yield (w.heap.size + 1)) #[] #[] := rfl
      simp [resolve, q1, Deferred.ofValue, he]
    · refine g2.mono fun e w3 hr => ?_
      cases e with
      | panicked c => exact hr.elim
      | outgrown => exact hr.elim
      | returned v' =>
        obtain ⟨v, h3, m, hh, ρ3, s3, _⟩ := hr
        have s13 := s12.trans s3
        obtain ⟨s, pend, nt', tm', ps', a', b', dq', h7, hsn, eL, hk⟩ := leaf v h3 m hh
        replace hp := Ot.post hp hh
        rw [eL] at hp
        obtain ⟨t1, t', fn', tmps', p1, p2, p3, p4⟩ := loop_rel s3.rel h7
        have ht1 : t1 = ⟨w.heap.size + 1, 0, 0⟩ := Option.some.inj (p1.symm.trans (s3.ext _ _ hρ2))
        subst ht1
        refine ⟨pend, _, run_endLoop p4 (lst_busy hsn), ?_⟩
        have s4 := loop_step (n := m) (fn := fn') (st' := 3) (pend' := pend) (s' := .exhausted) s3.rel h7 p1 p2 p3 p4 rfl
        rw [← hv_put] at s4
        have s14 := s13.trans s4
        have hmk : DR E ρ3 (.mk n :: df) ({ target := .collected w.heap.size, args := #[] } :: a.defers) := ⟨⟨⟨w.heap.size, 0, 0⟩, s3.ext _ _ (s2.ext _ _ hρn), rfl⟩, hd.mono s13.ext⟩
        rcases pendK_inv hk with ⟨rfl, e⟩ | ⟨rfl, e⟩ | ⟨id, rfl, e⟩
        · rw [e] at hp
          exact hp ρ3 { a with defers := [{ target := .collected w.heap.size, args := #[] }] ++ a.defers } _ s14 (hf.mono s13.ext) hmk
        · rw [e] at hp
          exact wpIn_ret (hp ρ3 { a with defers := [{ target := .collected w.heap.size, args := #[] }] ++ a.defers } _ s14 (hf.mono s13.ext) hmk)
        · rw [e] at hp
          exact wpIn_exit (hp ρ3 { a with defers := [{ target := .collected w.heap.size, args := #[] }] ++ a.defers } _ s14 (hf.mono s13.ext) hmk)
  · exact (ok_er hk).elim
def noGo (Q : Exit → Act → World → Prop) : Exit → Act → World → Prop
  | .goto _, _, _ => False
  | e, a, w => Q e a w
theorem stepR_scope {P : Program} {b : Frame} {a : Act} {k : List Item} {cs : List Frame} {w : World} {c : Code} :
    step P (lone (b.atR a (.code (.scope c) :: k)) cs w) = .next (lone (b.atR a (.code c :: .inScope c :: k)) cs w) :=
  step_lone_go (by simp [stepG, stepG.exec, Frame.atR])
theorem stepR_inScope {P : Program} {b : Frame} {a : Act} {k : List Item} {cs : List Frame} {w : World} {c : Code} :
    step P (lone (b.atR a (.inScope c :: k)) cs w) = .next (lone (b.atR a k) cs w) :=
  step_lone_go (by simp [stepG, stepG.exec, Frame.atR])
theorem wpIn_scope {F : Fence} {n : Nat} {P : Program} {c : Code} {Q : Exit → Act → World → Prop} {a : Act} {w : World} (h : c.wpIn F n P (noGo Q) a w) : (Code.scope c).wpIn F n P Q a w := by
  intro b k cs hro hb hr
  have h0 : (lone (b.atR a (.code (.scope c) :: k)) cs w).fenced P F := fenced_calm hb hr rfl
  obtain ⟨e, a₁, w₁, hq, harr⟩ := h b (.inScope c :: k) cs hro hb hr
  cases e with
  | normal => exact ⟨.normal, a₁, w₁, hq, .head h0 stepR_scope (StepsIn.trans harr (.one (fenced_calm hb hr rfl) stepR_inScope))⟩
  | exit id' =>
    have hx : exitTo id' (.inScope c :: k) = exitTo id' k := by simp [exitTo]
    exact ⟨.exit id', a₁, w₁, hq, fun k' hk => .head h0 stepR_scope (harr.1 k' (by rw [hx]; exact hk)),
      fun hr' hk => let ⟨k₁, h1, h2⟩ := harr.2 hr' (by rw [hx]; exact hk); ⟨k₁, h1, .head h0 stepR_scope h2⟩⟩
  | goto l => exact hq.elim
  | ret => exact ⟨_, a₁, w₁, hq, .of_steps (.one h0 stepR_scope) harr⟩
  | panic ch => exact ⟨_, a₁, w₁, hq, .of_steps (.one h0 stepR_scope) harr⟩
  | outgrown => exact ⟨_, a₁, w₁, hq, .of_steps (.one h0 stepR_scope) harr⟩
theorem post_noGo {E : Env} {nt : Nat} {ρ : Ren} {H : Hp} {w : World} {n : Pn} {Q : Exit → Act → World → Prop} {r : R} (h : PostR E nt ρ H w n Q r) : PostR E nt ρ H w n (noGo Q) r := by
  induction r with
  | al a b ih1 ih2 => exact ⟨ih1 h.1, ih2 h.2⟩
  | _ => exact h
def Deep (T : Code → Prop) : Code → Prop
  | .seq _ b => T b ∧ Deep T b
  | .block _ b => T b ∧ Deep T b
  | _ => True
theorem code_cs2 (hE : EOK E) {ix : FuncId → Option Ix} (hI : IxOK E ix) {B : Bd} (hB : BdOK E B) {nt : Nat} {ro : Bool} {l : Option Nat} (hl : ro = false → l = none) (c : Code) : CodeS E B nt l c (run E (cdOf E ix nt ro c)) ∧ Deep (fun c => CodeS E B nt l c (run E (cdOf E ix nt ro c))) c := by
  induction c with
  | skip => exact ⟨fun tm df h n _ => ⟨Nat.le_refl _, fun ρ a w hg hf hd hR hF Q hp => wpIn_skip (hp ρ a w (Step.refl hR) hf hd)⟩, trivial⟩
  | label i => exact ⟨fun tm df h n _ => ⟨Nat.le_refl _, fun ρ a w hg hf hd hR hF Q hp => wpIn_label (hp ρ a w (Step.refl hR) hf hd)⟩, trivial⟩
  | region id ops draw =>
    refine ⟨?_, trivial⟩
    cases draw with
    | false =>
      intro tm df h n hk
      have e : run E (cdOf E ix nt ro (.region id ops false)) B tm df h n = runL (cosOf E ix nt ro ops.toList ops.toList) B tm df h n .nm := rfl
      rw [e] at hk ⊢
      obtain ⟨h2, h3⟩ := runL_inv hE hI hB hl ops.toList 0 rfl hk
      refine ⟨h2, fun ρ a w hg hf hd hR hF Q hp => wpIn_region ?_⟩
      have := h3 ρ a w hg hf hd hR hF Q hp
      rw [Array.length_toList] at this
      rwa [List.range_eq_range']
    | true =>
      intro tm df h n hk
      have e : cdOf E ix nt ro (.region id ops true) = (match drawOf (cosOf E ix nt ro ops.toList ops.toList) ops.toList with | some l => .dr l | none => (match d2Of E ix nt ro ops.toList with | some (l, m) => .d2 l m | none => .bad 251)) := rfl
      rw [e] at hk ⊢
      cases hds : drawOf (cosOf E ix nt ro ops.toList ops.toList) ops.toList with
      | none =>
        rw [hds] at hk
        simp only at hk ⊢
        cases hd2 : d2Of E ix nt ro ops.toList with
        | none => rw [hd2] at hk; exact (ok_er hk).elim
        | some q =>
          obtain ⟨l1, l2⟩ := q
          rw [hd2] at hk
          exact d2_cs hE hI hB hl hd2 tm df h n hk
      | some ds =>
        rw [hds] at hk
        have e2 : run E (.dr ds) B tm df h n = drw ds B tm df h n .nm := rfl
        simp only [e2] at hk ⊢
        obtain ⟨tm', df', h', n', h1, h2, h3⟩ := drw_inv hE hI hB hl hds hk
        rw [h1]
        refine ⟨h2, fun ρ a w hg hf hd hR hF Q hp => wpIn_region_draw fun t => ?_⟩
        have hs : Step ρ (hv h) w n ρ (hv h) { w with drawn := w.drawn + 1 } n := Step.same_heap hR rfl rfl rfl rfl
        exact h3 ρ a _ hg hf hd hs.rel hF Q (fun ρ' a' w' s f d => hp ρ' a' w' (hs.trans s) f d) _ (lin_schedule hE (drawOf_edges hds) t)
  | seq x y ihx ihy =>
    refine ⟨?_, ihy.1, ihy.2⟩
    replace ihx := ihx.1
    replace ihy := ihy.1
    intro tm df h n hk
    obtain ⟨h1, h2⟩ := seq_cs (K := fun Q a w => y.wpIn (FW l) 0 E.P Q a w) ihx ihy tm df h n hk
    exact ⟨h1, fun ρ a w hg hf hd hR hF Q hp => wpIn_seq (h2 ρ a w hg hf hd hR hF Q hp)⟩
  | cond c x y ihx ihy =>
    refine ⟨?_, trivial⟩
    replace ihx := ihx.1
    replace ihy := ihy.1
    intro tm df h n hk
    have e : cdOf E ix nt ro (.cond c x y) = (match gOk1 E c with | true => .cd c (cdOf E ix nt ro x) (cdOf E ix nt ro y) | false => .bad 266) := rfl
    rw [e] at hk ⊢
    cases hg1 : gOk1 E c with
    | false => rw [hg1] at hk; exact (ok_er hk).elim
    | true =>
      rw [hg1] at hk
      have e2 : run E (.cd c (cdOf E ix nt ro x) (cdOf E ix nt ro y)) B tm df h n = opd c tm fun v => asB v (run E (cdOf E ix nt ro x) B tm df h n) (run E (cdOf E ix nt ro y) B tm df h n) := rfl
      simp only [e2] at hk ⊢
      obtain ⟨v, h1, h2⟩ := opd_inv hk
      simp only [h2] at hk ⊢
      obtain ⟨b, rfl, h3⟩ := asB_inv hk
      rw [h3] at hk ⊢
      cases b with
      | true =>
        simp only [if_true] at hk ⊢
        obtain ⟨h4, h5⟩ := ihx tm df h n hk
        exact ⟨h4, fun ρ a w hg hf hd hR hF Q hp => wpIn_cond_true (gl_opd hg hf hg1 h1).b_inv (h5 ρ a w hg hf hd hR hF Q hp)⟩
      | false =>
        simp only [Bool.false_eq_true, if_false] at hk ⊢
        obtain ⟨h4, h5⟩ := ihy tm df h n hk
        exact ⟨h4, fun ρ a w hg hf hd hR hF Q hp => wpIn_cond_false (gl_opd hg hf hg1 h1).b_inv (h5 ρ a w hg hf hd hR hF Q hp)⟩
  | scope x ih =>
    refine ⟨?_, trivial⟩
    replace ih := ih.1
    intro tm df h n hk
    have e : run E (cdOf E ix nt ro (.scope x)) = run E (cdOf E ix nt ro x) := rfl
    rw [e] at hk ⊢
    obtain ⟨h1, h2⟩ := ih tm df h n hk
    exact ⟨h1, fun ρ a w hg hf hd hR hF Q hp => wpIn_scope (h2 ρ a w hg hf hd hR hF (noGo Q) (post_noGo hp))⟩
  | block id x ih =>
    refine ⟨?_, ih.1, ih.2⟩
    replace ih := ih.1
    intro tm df h n hk
    have e : run E (cdOf E ix nt ro (.block id x)) B tm df h n = blK id (run E (cdOf E ix nt ro x) B tm df h n) := rfl
    rw [e] at hk ⊢
    obtain ⟨h1, h2⟩ := blk_end hk
    obtain ⟨h3, h4⟩ := ih tm df h n h1
    rw [h2]
    exact ⟨h3, fun ρ a w hg hf hd hR hF Q hp => wpIn_block (h4 ρ a w hg hf hd hR hF _ (blk_post hp))⟩
  | loop x ih =>
    refine ⟨?_, trivial⟩
    have hold : CodeS E B nt l (.loop x) (run E (.lp (cdOf E ix nt ro x))) := fun tm df h n hk => by
      obtain ⟨h1, h2⟩ := loop_cs ih.1 1000000 tm df h n hk
      exact ⟨h1, fun ρ a w hg hf hd hR hF Q hp => wpIn_loopW (h2 ρ a w hg hf hd hR hF Q hp)⟩
    have e : cdOf E ix nt ro (.loop x) = lpOf (mrOf E ix nt ro x) (cdOf E ix nt ro x) := rfl
    rw [e]
    cases hm : mrOf E ix nt ro x with
    | none => exact hold
    | some q =>
      obtain ⟨p, l1, l2⟩ := q
      obtain ⟨r1, r2, opsN, opsE, rest, o1, o3, tl1, tl3, hb, _⟩ := mrOf_inv hm
      have ih2 := ih.2
      subst hb
      exact mr_cs hE hI hB hl hm hold fun r1' r2' opsN' opsE' rest' h => by
        injection h with _ h
        injection h with _ h
        injection h with _ h
        injection h with _ h
        subst h
        exact ih2.2.2.2.1
  | rangeFunc x ps assign body _ _ =>
    refine ⟨?_, trivial⟩
    intro tm df h n hk
    have e : cdOf E ix nt ro (.rangeFunc x ps assign body) = (match ro || !gOk1 E x with | true => .bad 263 | false => .rf x nt ps.toList assign body) := rfl
    rw [e] at hk ⊢
    cases hg1 : (ro || !gOk1 E x) with
    | true => rw [hg1] at hk; exact (ok_er hk).elim
    | false =>
      rw [hg1] at hk
      simp only [Bool.or_eq_false_iff, Bool.not_eq_false'] at hg1
      obtain rfl := hl hg1.1
      exact rf_cs hE hB hg1.2 tm df h n hk
  | exit id => exact ⟨fun tm df h n _ => ⟨Nat.le_refl _, fun ρ a w hg hf hd hR hF Q hp => wpIn_exit (hp ρ a w (Step.refl hR) hf hd)⟩, trivial⟩
  | ret => exact ⟨fun tm df h n _ => ⟨Nat.le_refl _, fun ρ a w hg hf hd hR hF Q hp => wpIn_ret (hp ρ a w (Step.refl hR) hf hd)⟩, trivial⟩
  | _ => exact ⟨fun tm df h n hk => (ok_er hk).elim, trivial⟩
theorem code_cs (hE : EOK E) {ix : FuncId → Option Ix} (hI : IxOK E ix) {B : Bd} (hB : BdOK E B) {nt : Nat} {ro : Bool} {l : Option Nat} (hl : ro = false → l = none) (c : Code) : CodeS E B nt l c (run E (cdOf E ix nt ro c)) := (code_cs2 hE hI hB hl c).1
/-! ### bodies -/
theorem argsT_inv (us : List AV) : ∀ {p : Pn} {t : Tr AV} {k : Tr AV → R}, ∃ t', argsT us p t k = k t' ∧ ∀ q : Pn, (t'.get (.tu []) q = (if p.nat ≤ q.nat ∧ q.nat < p.nat + us.length then us.getD (q.nat - p.nat) (.tu []) else t.get (.tu []) q)) := by
  induction us with
  | nil => intro p t k; exact ⟨t, rfl, fun q => by rw [if_neg (by simp only [List.length_nil]; omega)]⟩
  | cons u us ih =>
    intro p t k
    have e : argsT (u :: us) p t k = t.setK (.tu []) u p fun t => argsT us p.succ t k := rfl
    rw [e, setK_eq]
    obtain ⟨t', h1, h2⟩ := ih (p := p.succ) (t := t.put (.tu []) u p) (k := k)
    refine ⟨t', h1, fun q => ?_⟩
    rw [h2 q, nat_succ]
    by_cases hq : q = p
    · subst hq
      rw [if_neg (by omega), if_pos (by simp), get_put_same]
      simp
    · have hne : q.nat ≠ p.nat := fun e => hq (nat_inj _ _ e)
      rw [get_put_other _ _ _ _ (fun e => hq e.symm)]
      by_cases h3 : p.nat + 1 ≤ q.nat ∧ q.nat < p.nat + 1 + us.length
      · rw [if_pos h3, if_pos (by simp; omega)]
        rw [show q.nat - p.nat = (q.nat - (p.nat + 1)) + 1 from by omega]
        rfl
      · rw [if_neg h3, if_neg (by simp; omega)]
theorem args_fr {us : List AV} {args : Array Value} {nt : Nat} (hu : VRs ρ us args.toList) (hn : us.length ≤ nt) {t' : Tr AV}
    (ht : ∀ q : Pn, (t'.get (.tu []) q = (if Pn.one.nat ≤ q.nat ∧ q.nat < Pn.one.nat + us.length then us.getD (q.nat - Pn.one.nat) (.tu []) else (Tr.leaf : Tr AV).get (.tu []) q))) : FR ρ nt t' (args ++ Array.replicate (nt - args.size) undef) := by
  have hs : args.size = us.length := by rw [← Array.length_toList]; exact hu.1
  refine ⟨by simp; omega, fun t => ?_⟩
  rw [ht, nat_pth]
  have h1 : Pn.one.nat = 1 := rfl
  rw [h1]
  by_cases hlt : t < us.length
  · rw [if_pos (by omega), Nat.add_sub_cancel]
    have e1 : us.getD t (.tu []) = us[t] := by simp [List.getD, List.getElem?_eq_getElem hlt]
    have e2 : (args ++ Array.replicate (nt - args.size) undef).getD t undef = args[t] := by
      rw [Array.getD_eq_getD_getElem?, Array.getElem?_append_left (by omega), Array.getElem?_eq_getElem (by omega)]
      rfl
    rw [e1, e2]
    exact hu.2 t _ _ (List.getElem?_eq_getElem hlt) (by rw [Array.getElem?_toList, Array.getElem?_eq_getElem])
  · rw [if_neg (by omega), get_leaf]
    have e2 : (args ++ Array.replicate (nt - args.size) undef).getD t undef = undef := by
      rw [Array.getD_eq_getD_getElem?, Array.getElem?_append_right (by omega)]
      cases h : (Array.replicate (nt - args.size) undef)[t - args.size]? with
      | none => rfl
      | some v =>
        obtain ⟨h3, h4⟩ := Array.getElem?_eq_some_iff.1 h
        simp at h4
        rw [← h4]; rfl
    rw [e2]
    exact VR.undef ρ
def CodeT (E : Env) (ix : FuncId → Option Ix) (code : FuncId → Nat × CD) : Prop := ∀ f, code f = codeOf E ix f ∨ ∃ c, (code f).2 = .bad c
theorem bdS_ok (hE : EOK E) {ix : FuncId → Option Ix} (hI : IxOK E ix) {code : FuncId → Nat × CD} (hC : CodeT E ix code) {B : Bd} (hB : BdOK E B) : BdOK E (bdS E ix code B) where
  fn := fun f us h n hk => by
    have e : bdS E ix code B (.fn f us) h n = bodyK E (code f) B us h n := rfl
    rw [e] at hk ⊢
    unfold bodyK at hk ⊢
    obtain ⟨h1, h2⟩ := ifK_inv hk
    rw [h2] at hk ⊢
    obtain ⟨t', h3, h4⟩ := argsT_inv us (p := .one) (t := .leaf) (k := fun tm => run E (code f).2 B tm [] h n)
    rw [h3] at hk ⊢
    rcases hC f with hc | ⟨c, hc⟩
    · rw [hc] at hk h1 ⊢
      unfold codeOf at hk h1 ⊢
      cases hf : E.fn f with
      | none => rw [hf] at hk; exact (ok_er hk).elim
      | some fn =>
        rw [hf] at hk h1
        simp only at hk h1 ⊢
        cases hb : fn.body with
        | none => rw [hb] at hk; exact (ok_er hk).elim
        | some c =>
          rw [hb] at hk h1
          simp only at hk h1 ⊢
          obtain ⟨h5, h6⟩ := code_cs hE hI hB (nt := fn.ntmps) (ro := false) (l := none) (fun _ => rfl) c t' [] h n hk
          refine ⟨h5, fun fn' c' g1 g2 ρ w args hR hg hu hF Q hp => ?_⟩
          injection g1 with g1
          subst g1
          rw [hb] at g2
          injection g2 with g2
          subst g2
          exact h6 ρ { tmps := args ++ Array.replicate (fn.ntmps - args.size) undef, defers := [] } w hg (args_fr hu (ble_iff.1 h1) h4) trivial hR hF Q hp
    · rw [hc] at hk; exact (ok_er hk).elim
  rd := fun nt c tm h n hk => by
    have e : bdS E ix code B (.rd nt c tm) h n = run E (cdOf E ix nt true c) B tm [] h n := rfl
    rw [e] at hk ⊢
    refine ⟨(code_cs hE hI hB (nt := nt) (ro := true) (l := none) (fun _ => rfl) c tm [] h n hk).1, fun l ρ w tmps hR hg hf hF Q hp => ?_⟩
    exact (code_cs hE hI hB (nt := nt) (ro := true) (l := some l) (fun h => by cases h) c tm [] h n hk).2 ρ { tmps, defers := [] } w hg hf trivial hR hF Q hp
theorem bd_ok (hE : EOK E) {ix : FuncId → Option Ix} (hI : IxOK E ix) {code : FuncId → Nat × CD} (hC : CodeT E ix code) : ∀ m, BdOK E (bd E ix code m)
  | 0 => ⟨fun _ _ _ _ hk => (ok_er hk).elim, fun _ _ _ _ _ hk => (ok_er hk).elim⟩
  | m + 1 => bdS_ok hE hI hC (bd_ok hE hI hC m)
end
end Ax
end Go.Proofs.YtdfgnoflohfnmaaGreatDoor
