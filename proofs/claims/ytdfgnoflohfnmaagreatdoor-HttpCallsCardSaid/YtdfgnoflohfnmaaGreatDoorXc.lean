/- Regions that draw their order: the frame of a step; what stands ahead of what. -/
import Derived.Test.YtdfgnoflohfnmaaGreatDoorXb
import Derived.OrdersIn
/-! Regions that draw their order: the frame of a step; what stands ahead of what. -/

namespace Go.Proofs.YtdfgnoflohfnmaaGreatDoor
namespace Ax
noncomputable def ovl (X H : Hp) : Hp := fun b => open Classical in if X b = .x then H b else X b
theorem ovl_none {X H : Hp} {b : Pn} (h : X b = .x) : ovl X H b = H b := by simp [ovl, h]
theorem ovl_some {X H : Hp} {b : Pn} (h : X b ≠ .x) : ovl X H b = X b := by simp [ovl, h]
section
variable {ρ ρ' ρ0 : Ren} {H H' H0 X : Hp} {w w' w0 : World} {n n' n0 m : Pn}
theorem Step.frame (h : Rel ρ (ovl X H) w) (s : Step ρ H w n ρ' H' w' n') (hx : ∀ b, X b ≠ .x → own (X b) ∧ H b = .x ∧ H' b = .x) : Step ρ (ovl X H) w n ρ' (ovl X H') w' n' := by
  have hap : ∀ b t, X b ≠ .x → ρ b = some t → ∀ b0 t0, H b0 ≠ .x → ρ b0 = some t0 → t0.c ≠ t.c := by
    intro b t hb ht b0 t0 h0 ht0 e
    have hX0 : X b0 = .x := by
      apply Classical.byContradiction
      intro hc
      exact h0 (hx b0 hc).2.1
    have := h.inj b b0 t t0 (by rw [ovl_some hb]; exact (hx b hb).1) (by rw [ovl_none hX0]; exact h0) ht ht0 e.symm
    subst this
    exact hb hX0
  have hlt : ∀ b t, X b ≠ .x → ρ b = some t → t.c < w.heap.size := fun b t hb ht => rel_lt h b t (by rw [ovl_some hb]; exact hb) ht
  have hρ : ∀ b, X b ≠ .x → ∃ t, ρ b = some t ∧ OR ρ w.heap[t.c]? t (X b) := by
    intro b hb
    have := h.ob b (by rw [ovl_some hb]; exact hb)
    rwa [ovl_some hb] at this
  refine ⟨s.ext, s.nw, ?_, s.le, ⟨?_, ?_⟩, s.size, ?_, ?_, s.os, s.tape, s.output, ?_⟩
  · intro b hb
    by_cases hX : X b = .x
    · rw [ovl_none hX] at hb ⊢; exact s.lv b hb
    · exact .inl (by rw [ovl_some hX]; exact hX)
  · intro b hb
    by_cases hX : X b = .x
    · rw [ovl_none hX] at hb ⊢; exact s.rel.ob b hb
    · rw [ovl_some hX]
      obtain ⟨t, h1, h2⟩ := hρ b hX
      refine ⟨t, s.ext _ _ h1, ?_⟩
      rw [s.same t.c (hlt b t hX h1) (fun b0 t0 h3 h4 => hap b t hX h1 b0 t0 h3.1 h4)]
      exact h2.mono s.ext
  · intro b b' t t' h1 h2 h3 h4 h5
    by_cases hX : X b = .x
    · rw [ovl_none hX] at h1
      by_cases hX' : X b' = .x
      · rw [ovl_none hX'] at h2
        exact s.rel.inj b b' t t' h1 h2 h3 h4 h5
      · exfalso
        obtain ⟨t1, g1, _⟩ := hρ b' hX'
        obtain rfl := Option.some.inj (h4.symm.trans (s.ext _ _ g1))
        rcases s.owns b t h1 h3 with ⟨b0, t0, p1, p2, p3⟩ | p
        · exact hap b' t' hX' g1 b0 t0 p1.1 p2 (by omega)
        · have := hlt b' t' hX' g1; omega
    · obtain ⟨t1, g1, _⟩ := hρ b hX
      obtain rfl := Option.some.inj (h3.symm.trans (s.ext _ _ g1))
      by_cases hX' : X b' = .x
      · exfalso
        rw [ovl_none hX'] at h2
        cases hk : H' b' with
        | k l ty =>
          have hk0 := s.ks b' l ty hk
          have hne : H b' ≠ .x := by rw [hk0]; simp
          obtain ⟨t2, q1, _⟩ := h.ob b' (by rw [ovl_none hX']; exact hne)
          obtain rfl := Option.some.inj (h4.symm.trans (s.ext _ _ q1))
          exact hap b t hX g1 b' t' hne q1 h5.symm
        | x => exact h2 hk
        | _ =>
          have hown : own (H' b') := ⟨by rw [hk]; simp, by rw [hk]; simp⟩
          rcases s.owns b' t' hown h4 with ⟨b0, t0, p1, p2, p3⟩ | p
          · exact hap b t hX g1 b0 t0 p1.1 p2 (by omega)
          · have := hlt b t hX g1; omega
      · obtain ⟨t2, g2, _⟩ := hρ b' hX'
        obtain rfl := Option.some.inj (h4.symm.trans (s.ext _ _ g2))
        exact h.inj b b' t t' (by rw [ovl_some hX]; exact (hx b hX).1) (by rw [ovl_some hX']; exact hX') g1 g2 h5
  · intro k hk hn
    refine s.same k hk fun b t h1 h2 => hn b t ?_ h2
    have hX : X b = .x := by
      apply Classical.byContradiction
      intro hc
      exact h1.1 (hx b hc).2.1
    rw [ovl_none hX]; exact h1
  · intro b t h1 h2
    by_cases hX : X b = .x
    · rw [ovl_none hX] at h1
      rcases s.owns b t h1 h2 with ⟨b0, t0, p1, p2, p3⟩ | p
      · have hX0 : X b0 = .x := by
          apply Classical.byContradiction
          intro hc
          exact p1.1 (hx b0 hc).2.1
        exact .inl ⟨b0, t0, by rw [ovl_none hX0]; exact p1, p2, p3⟩
      · exact .inr p
    · obtain ⟨t1, g1, _⟩ := hρ b hX
      obtain rfl := Option.some.inj (h2.symm.trans (s.ext _ _ g1))
      exact .inl ⟨b, t, by rw [ovl_some hX]; exact (hx b hX).1, g1, rfl⟩
  · intro b l ty e
    by_cases hX : X b = .x
    · rw [ovl_none hX] at e ⊢; exact s.ks b l ty e
    · rw [ovl_some hX] at e
      exact absurd e ((hx b hX).1.2 l ty)
theorem Step.within (h : Step ρ0 H0 w0 n0 ρ H w m) (k : Step ρ H w n ρ' H' w' n') (h1 : n0.nat ≤ n.nat) (h2 : n'.nat ≤ m.nat) : Step ρ0 H0 w0 n0 ρ' H' w' m where
  ext := Ren.le_trans h.ext k.ext
  nw := fun b e1 e2 => by
    by_cases e : ρ b = none
    · have := k.nw b e e2; omega
    · exact h.nw b e1 e
  lv := fun b hb => by
    rcases k.lv b hb with g | g
    · exact h.lv b g
    · right; omega
  le := h.le
  rel := k.rel
  size := Nat.le_trans h.size k.size
  same := fun j hj hn => by
    rw [k.same j (Nat.lt_of_lt_of_le hj h.size) (fun b t g1 g2 e => by
      rcases h.owns b t g1 g2 with ⟨b0, t0, g3, g4, g5⟩ | g3
      · exact hn b0 t0 g3 g4 (by omega)
      · omega)]
    exact h.same j hj hn
  owns := fun b t g1 g2 => by
    rcases k.owns b t g1 g2 with ⟨b0, t0, g3, g4, g5⟩ | g3
    · rcases h.owns b0 t0 g3 g4 with ⟨b1, t1, g6, g7, g8⟩ | g6
      · exact .inl ⟨b1, t1, g6, g7, by omega⟩
      · exact .inr (by omega)
    · exact .inr (Nat.le_trans h.size g3)
  os := k.os.trans h.os
  tape := k.tape.trans h.tape
  output := k.output.trans h.output
  ks := fun b l ty e => h.ks b l ty (k.ks b l ty e)
theorem Step.start (h : Rel ρ H w) (hle : n.nat ≤ m.nat) : Step ρ H w n ρ H w m :=
  { Step.refl (n := n) h with le := hle, nw := fun _ h k => absurd h k, lv := fun _ h => .inl h }
end

/-! ### bits -/
theorem befores_len : ∀ (ops : List Oper) (acc : List Nat), (befores ops acc).length = acc.length + ops.length
  | [], acc => by simp [befores]
  | o :: r, acc => by rw [befores, befores_len r]; simp; omega
theorem befores_old : ∀ (ops : List Oper) (acc : List Nat) (j : Nat), j < acc.length → (befores ops acc).getD j 0 = acc.getD j 0
  | [], acc, j, _ => rfl
  | o :: r, acc, j, h => by
    rw [befores, befores_old r _ j (by simp; omega)]
    simp only [List.getD_eq_getElem?_getD]
    rw [List.getElem?_append_left h]
theorem fold_bits (acc : List Nat) (j : Nat) : ∀ (l : List Edge) (s : Nat), (l.foldl (fun s e => if Region.binds .any e then s ||| 2 ^ e.on ||| acc.getD e.on 0 else s) s).testBit j = true →
    s.testBit j = true ∨ ∃ e ∈ l, Region.binds .any e = true ∧ (j = e.on ∨ (acc.getD e.on 0).testBit j = true)
  | [], s, h => .inl h
  | e :: l, s, h => by
    rw [List.foldl_cons] at h
    rcases fold_bits acc j l _ h with h1 | ⟨e', h1, h2, h3⟩
    · cases hb : Region.binds .any e with
      | false => rw [hb] at h1; exact .inl h1
      | true =>
        rw [hb, if_pos rfl, Nat.testBit_or, Nat.testBit_or, Bool.or_eq_true, Bool.or_eq_true] at h1
        rcases h1 with (h1 | h1) | h1
        · exact .inl h1
        · rw [Nat.testBit_two_pow, decide_eq_true_eq] at h1
          exact .inr ⟨e, by simp, hb, .inl h1.symm⟩
        · exact .inr ⟨e, by simp, hb, .inr h1⟩
    · exact .inr ⟨e', by simp [h1], h2, h3⟩
theorem befores_bit : ∀ (ops : List Oper) (acc : List Nat) (q : Nat) (o : Oper) (j : Nat), ops[q]? = some o → ((befores ops acc).getD (acc.length + q) 0).testBit j = true →
    ∃ e ∈ o.after.toList, Region.binds .any e = true ∧ (j = e.on ∨ ((befores ops acc).getD e.on 0).testBit j = true)
  | [], acc, q, o, j, h, _ => by simp at h
  | o0 :: r, acc, 0, o, j, h, hb => by
    simp at h
    subst h
    rw [befores] at hb ⊢
    rw [befores_old r _ _ (by simp)] at hb
    simp only [Nat.add_zero, List.getD_eq_getElem?_getD] at hb
    rw [List.getElem?_append_right (Nat.le_refl _)] at hb
    simp only [Nat.sub_self, List.getElem?_cons_zero, Option.getD_some] at hb
    have e0 : (fun (s : Nat) (e : Edge) => if Region.binds .any e then s ||| 2 ^ e.on ||| acc[e.on]?.getD 0 else s) = fun s e => if Region.binds .any e then s ||| 2 ^ e.on ||| acc.getD e.on 0 else s := by
      funext s e; rw [List.getD_eq_getElem?_getD]
    rw [e0] at hb
    rcases fold_bits acc j _ 0 hb with h1 | ⟨e, h1, h2, h3⟩
    · simp at h1
    · refine ⟨e, h1, h2, ?_⟩
      rcases h3 with h3 | h3
      · exact .inl h3
      · right
        by_cases hlt : e.on < acc.length
        · rw [befores_old r _ _ (by simp; omega)]
          simp only [List.getD_eq_getElem?_getD] at h3 ⊢
          rw [List.getElem?_append_left hlt]; exact h3
        · rw [List.getD_eq_getElem?_getD, List.getElem?_eq_none (by omega)] at h3
          simp at h3
  | o0 :: r, acc, q + 1, o, j, h, hb => by
    rw [befores] at hb ⊢
    exact befores_bit r _ q o j (by simpa using h) (by rw [List.length_append]; simp only [List.length_cons, List.length_nil]; rw [show acc.length + (0 + 1) + q = acc.length + (q + 1) from by omega]; exact hb)
def Closed (bs : List Nat) (S : Nat → Prop) : Prop := ∀ i, S i → ∀ j, (bs.getD i 0).testBit j = true → S j
def Ready (ops : List Oper) (S : Nat → Prop) (i : Nat) : Prop := ∃ o, ops[i]? = some o ∧ ∀ e ∈ o.after.toList, Region.binds .any e = true → S e.on
theorem ready_bits {ops : List Oper} {S : Nat → Prop} {i : Nat} (hS : Closed (befores ops []) S) (hi : Ready ops S i) (j : Nat) (hj : ((befores ops []).getD i 0).testBit j = true) : S j := by
  obtain ⟨o, h1, h2⟩ := hi
  obtain ⟨e, h3, h4, h5⟩ := befores_bit ops [] i o j h1 (by simpa using hj)
  rcases h5 with rfl | h5
  · exact h2 e h3 h4
  · exact hS _ (h2 e h3 h4) j h5
theorem closed_add {ops : List Oper} {S : Nat → Prop} {i : Nat} (hS : Closed (befores ops []) S) (hi : Ready ops S i) : Closed (befores ops []) (fun x => x = i ∨ S x) := by
  intro x hx j hj
  rcases hx with rfl | hx
  · exact .inr (ready_bits hS hi j hj)
  · exact .inr (hS x hx j hj)
theorem edges_prefix {ops : List Oper} : ∀ (l : List Oper) (i : Nat), edgesOk l i = true → ∀ q o, l[q]? = some o → ∀ e ∈ o.after.toList, Region.binds .any e = true → e.on < i + q
  | [], i, _, q, o, h => by simp at h
  | o0 :: r, i, h, q, o, hq => by
    rw [edgesOk, Bool.and_eq_true] at h
    intro e he hb
    cases q with
    | zero =>
      simp at hq
      subst hq
      have := List.all_eq_true.1 h.1 e he
      rw [hb] at this
      simp only [Bool.not_true, Bool.false_or] at this
      have := ble_iff.1 this
      omega
    | succ q =>
      have := edges_prefix (ops := ops) r (i + 1) h.2 q o (by simpa using hq) e he hb
      omega
theorem prefix_closed {ops : List Oper} (h : edgesOk ops 0 = true) (n : Nat) : Closed (befores ops []) (fun x => x < n) := by
  intro i
  induction i using Nat.strongRecOn with
  | _ i ih =>
    intro hi j hj
    cases ho : ops[i]? with
    | none =>
      have hle : (befores ops []).length ≤ i := by rw [befores_len]; simpa using List.getElem?_eq_none_iff.1 ho
      rw [List.getD_eq_getElem?_getD, List.getElem?_eq_none hle] at hj
      simp at hj
    | some o =>
      obtain ⟨e, h3, h4, h5⟩ := befores_bit ops [] i o j ho (by simpa using hj)
      have hlt := edges_prefix (ops := ops) ops 0 h i o ho e h3 h4
      rcases h5 with rfl | h5
      · show e.on < n; omega
      · exact ih e.on (by omega) (by show e.on < n; omega) j h5
theorem prefix_ready {ops : List Oper} (h : edgesOk ops 0 = true) {i : Nat} {o : Oper} (ho : ops[i]? = some o) : Ready ops (fun x => x < i) i :=
  ⟨o, ho, fun e he hb => by have := edges_prefix (ops := ops) ops 0 h i o ho e he hb; omega⟩
theorem chain_closed {bs : List Nat} {S : Nat → Prop} (hS : Closed bs S) : ∀ {es : List Nat}, chain bs es = true → ∀ (q : Nat) (e : Nat), es[q + 1]? = some e → S e → ∃ e', es[q]? = some e' ∧ S e'
  | [], _, q, e, h, _ => by simp at h
  | [_], _, q, e, h, _ => by simp at h
  | a :: b :: r, hc, q, e, h, he => by
    rw [chain, Bool.and_eq_true] at hc
    cases q with
    | zero =>
      simp at h
      subst h
      exact ⟨a, rfl, hS _ he a hc.1⟩
    | succ q =>
      obtain ⟨e', h1, h2⟩ := chain_closed hS hc.2 q e (by simpa using h) he
      exact ⟨e', by simpa using h1, h2⟩
theorem loOf_spec (b : Nat) : ∀ (es : List Nat) (q : Nat), q < loOf b es → ∃ e, es[q]? = some e ∧ b.testBit e = true
  | [], q, h => by simp [loOf] at h
  | e :: r, q, h => by
    rw [loOf] at h
    split at h
    · rename_i hb
      cases q with
      | zero => exact ⟨e, rfl, hb⟩
      | succ q =>
        obtain ⟨e', h1, h2⟩ := loOf_spec b r q (by omega)
        exact ⟨e', by simpa using h1, h2⟩
    · omega
theorem hiOf_spec (bs : List Nat) (i : Nat) : ∀ (es : List Nat), hiOf bs i es ≤ es.length ∧ ∀ e, es[hiOf bs i es]? = some e → (bs.getD e 0).testBit i = true
  | [] => ⟨Nat.le_refl _, fun e h => by simp [hiOf] at h⟩
  | e :: r => by
    obtain ⟨h1, h2⟩ := hiOf_spec bs i r
    rw [hiOf]
    split
    · rename_i hb; exact ⟨by simp, fun e' h => by simp at h; subst h; exact hb⟩
    · exact ⟨by simp; omega, fun e' h => h2 e' (by simpa using h)⟩
end Ax
end Go.Proofs.YtdfgnoflohfnmaaGreatDoor

/-! Regions that draw their order: the executor's own run, as a row of events. -/

namespace Go.Proofs.YtdfgnoflohfnmaaGreatDoor
namespace Ax
noncomputable def PH : Pend → Hp
  | [] => fun _ => .x
  | e :: r => ovl (PH r) (upd (fun _ => .x) e.2.1 e.2.2)
structure St where
  tm : Tr AV
  df : List AD
  h : Tr AO
  n : Pn
  k : Nat
  pd : Pend
structure Ev where
  o : Oper
  lo : Nat
  hi : Nat
  b : Bool
  v : AV
  d : Option Pn
  al : Option AO
  eff : Bool
  s : St
  s' : St
  hl : Tr AO
section
variable {E : Env}
def RSem (E : Env) (o : Oper) (tm : Tr AV) (h : Tr AO) (v : AV) : Prop := ∀ (ρ : Ren) (a : Act) (w : World), VRo ρ tm a o → Rel ρ (hv h) w → ∃ v', VR ρ v v' ∧ (execOp a.eval o).run E.P w = .ok (.value v') w
def PuEv (E : Env) (ck : List Ck) (e : Ev) : Prop :=
  (∀ c, e.o.op ≠ .defer c) ∧ ((∀ h, RSem E e.o e.s.tm h e.v) ∨ (RSem E e.o e.s.tm e.s.h e.v ∧ (e.lo = e.hi ∨ ∃ c ∈ ck, c.lo = e.lo ∧ c.hi = e.hi ∧ c.v = e.v ∧ ∀ h (k : AV → R), Ok (c.f h k) → ∃ v, c.f h k = k v ∧ RSem E e.o e.s.tm h v)) ∨
    ∃ (t : Tmp) (b : Pn) (ob : AO) (hi : Nat), Operand.tmp t ∈ e.o.op.operands ∧ nameOf (e.s.tm.get (.tu []) (pth t)) = some b ∧ (hi, b, ob) ∈ e.s.pd ∧ e.hi ≤ hi ∧ RSem E e.o e.s.tm ((Tr.leaf : Tr AO).put .x ob b) e.v)
def AlEv (E : Env) (e : Ev) (ob : AO) : Prop :=
  (∀ c, e.o.op ≠ .defer c) ∧ own ob ∧ ∀ (ρ : Ren) (a : Act) (w : World), VRo ρ e.s.tm a e.o → ρ e.s.n = none → ∃ v' w' ob' t, (execOp a.eval e.o).run E.P w = .ok (.value v') w' ∧ Newer w w' ob' ∧ t.c = w.heap.size ∧ VR (updR ρ e.s.n t) e.v v' ∧ OR (updR ρ e.s.n t) (some ob') t ob
def EfEv (E : Env) (l : Option Nat) (e : Ev) : Prop :=
  ∀ (ρ : Ren) (a : Act) (w : World), GL E ρ → VRo ρ e.s.tm a e.o → DR E ρ e.s.df a.defers → Rel ρ (hv e.hl) w → Fresh ρ (hv e.hl) e.s.n e.s'.n →
    ∀ (next : Act → World → Prop) (Q : Exit → Act → World → Prop), (∀ ρ' v' w' ds', Step ρ (hv e.hl) w e.s.n ρ' (hv e.s'.h) w' e.s'.n → VR ρ' e.v v' → DR E ρ' e.s'.df ds' → next (({ a with defers := ds' } : Act).put e.o.dst v') w') → e.o.wpIn (FW l) 0 E.P a w next Q
structure EvOK (E : Env) (l : Option Nat) (ops : Array Oper) (nt : Nat) (ck : List Ck) (e : Ev) : Prop where
  gd : ∀ (ρ : Ren) (tmps : Array Value), (∀ t, GdT ops e.o t → VR ρ (e.s.tm.get (.tu []) (pth t)) (tmps.getD t undef)) → Region.wanted e.o (yielded ops tmps) = e.b
  dst : dstOf nt e.o = some e.d
  gok : gOk E e.o = true
  tm : e.s'.tm = putD e.d e.v e.s.tm
  le : e.s.n.nat ≤ e.s'.n.nat
  nb : e.b = false → e.v = .tu [] ∧ e.al = none ∧ e.s'.n = e.s.n ∧ e.s'.df = e.s.df
  ne : e.eff = false → e.s'.k = e.s.k ∧ e.s'.h = e.s.h ∧ e.s'.df = e.s.df
  na : e.eff = false → e.al = none → e.s'.n = e.s.n ∧ e.s'.pd = e.s.pd
  ef : e.eff = true → e.al = none ∧ e.s'.k = e.s.k + 1 ∧ e.s'.pd = (e.s.pd.filter fun p => !(Nat.ble p.1 e.s.k)) ∧ hv e.hl = ovl (PH (e.s.pd.filter fun p => Nat.ble p.1 e.s.k)) (hv e.s.h)
  efb : e.eff = true → e.b = false → e.s'.h = e.hl
  pu : e.b = true → e.eff = false → e.al = none → PuEv E ck e
  al : ∀ ob, e.al = some ob → e.b = true ∧ e.eff = false ∧ e.s'.n = e.s.n.succ ∧ e.s'.pd = (e.hi, e.s.n, ob) :: e.s.pd ∧ AlEv E e ob
  efs : e.b = true → e.eff = true → EfEv E l e
def Links : List Ev → St → St → Prop
  | [], s, s' => s = s'
  | e :: r, s, s' => e.s = s ∧ Links r e.s' s'
theorem PuEv.mono {ck ck' : List Ck} (h : ∀ c ∈ ck, c ∈ ck') {e : Ev} (k : PuEv E ck e) : PuEv E ck' e := by
  refine ⟨k.1, ?_⟩
  rcases k.2 with k | ⟨h1, h3⟩ | k
  · exact .inl k
  · refine .inr (.inl ⟨h1, ?_⟩)
    rcases h3 with h3 | ⟨c, g1, g2⟩
    · exact .inl h3
    · exact .inr ⟨c, h c g1, g2⟩
  · exact .inr (.inr k)
theorem EvOK.mono {l : Option Nat} {ops : Array Oper} {nt : Nat} {ck ck' : List Ck} (h : ∀ c ∈ ck, c ∈ ck') {e : Ev} (k : EvOK E l ops nt ck e) : EvOK E l ops nt ck' e :=
  { k with pu := fun h1 h2 h3 => (k.pu h1 h2 h3).mono h }
end
end Ax
end Go.Proofs.YtdfgnoflohfnmaaGreatDoor

/-! Regions that draw their order: what is read within a window; rows of events. -/

namespace Go.Proofs.YtdfgnoflohfnmaaGreatDoor
namespace Ax
section
variable {E : Env} {ρ : Ren}
theorem pu_sem {ck : List Ck} {e : Ev} (hp : (∀ h, RSem E e.o e.s.tm h e.v) ∨ (RSem E e.o e.s.tm e.s.h e.v ∧ (e.lo = e.hi ∨ ∃ c ∈ ck, c.lo = e.lo ∧ c.hi = e.hi ∧ c.v = e.v ∧ ∀ h (k : AV → R), Ok (c.f h k) → ∃ v, c.f h k = k v ∧ RSem E e.o e.s.tm h v))) {F : List (Tr AO)} (hF : F[e.s.k]? = some e.s.h) (hin : e.lo ≤ e.s.k ∧ e.s.k ≤ e.hi)
    (hck : ∀ c ∈ ck, ∀ S : Tr AO → AV → Prop, (∀ h (k : AV → R), Ok (c.f h k) → ∃ v, c.f h k = k v ∧ S h v) → ∀ q h, F[q]? = some h → c.lo ≤ q → q ≤ c.hi → S h c.v)
    {q : Nat} {h : Tr AO} (hq : F[q]? = some h) (h1 : e.lo ≤ q) (h2 : q ≤ e.hi) : RSem E e.o e.s.tm h e.v := by
  rcases hp with g | ⟨g1, g | ⟨c, g2, g3, g4, g5, g6⟩⟩
  · exact g h
  · have : q = e.s.k := by omega
    subst this
    rw [hF] at hq
    injection hq with hq
    subst hq
    exact g1
  · rw [← g5]
    exact hck c g2 _ g6 q h hq (by omega) (by omega)
end
end Ax
end Go.Proofs.YtdfgnoflohfnmaaGreatDoor

/-! Regions that draw their order: facts on a row of events. -/

namespace Go.Proofs.YtdfgnoflohfnmaaGreatDoor
namespace Ax
theorem links_get : ∀ {evs : List Ev} {s s' : St} {q : Nat} {ev : Ev}, Links evs s s' → evs[q]? = some ev → Links (evs.take q) s ev.s ∧ Links (evs.drop (q + 1)) ev.s' s'
  | [], s, s', q, ev, _, h => by simp at h
  | e :: r, s, s', 0, ev, hl, h => by
    simp at h
    subst h
    exact ⟨hl.1.symm, hl.2⟩
  | e :: r, s, s', q + 1, ev, hl, h => by
    obtain ⟨h1, h2⟩ := links_get (q := q) hl.2 (by simpa using h)
    exact ⟨⟨hl.1, h1⟩, h2⟩
def KRule (e : Ev) : Prop := e.s'.k = if e.eff then e.s.k + 1 else e.s.k
theorem links_const {E : Env} {l : Option Nat} {ops : Array Oper} {nt : Nat} {ck : List Ck} : ∀ {evs : List Ev} {s s' : St}, Links evs s s' → (∀ e ∈ evs, EvOK E l ops nt ck e) → (∀ e ∈ evs, KRule e) →
    s.k ≤ s'.k ∧ (s'.k = s.k → s'.df = s.df ∧ s'.h = s.h) ∧ ∀ e ∈ evs, s.k ≤ e.s.k ∧ (e.s.k = s.k → e.s.df = s.df ∧ e.s.h = s.h)
  | [], s, s', hl, _, _ => by
    have : s = s' := hl
    subst this
    exact ⟨Nat.le_refl _, fun _ => ⟨rfl, rfl⟩, by simp⟩
  | e :: r, s, s', hl, hok, hr => by
    obtain ⟨rfl, hl2⟩ := hl
    have hk := hr e (by simp)
    have ho := hok e (by simp)
    unfold KRule at hk
    obtain ⟨h1, h2, h3⟩ := links_const hl2 (fun e he => hok e (by simp [he])) (fun e he => hr e (by simp [he]))
    cases he : e.eff with
    | false =>
      obtain ⟨g1, g2, g3⟩ := ho.ne he
      refine ⟨by omega, fun h => ?_, fun e' he' => ?_⟩
      · obtain ⟨q1, q2⟩ := h2 (by omega); exact ⟨by rw [q1, g3], by rw [q2, g2]⟩
      · rcases List.mem_cons.1 he' with rfl | he'
        · exact ⟨Nat.le_refl _, fun _ => ⟨rfl, rfl⟩⟩
        · obtain ⟨q1, q2⟩ := h3 e' he'
          exact ⟨by omega, fun h => by obtain ⟨p1, p2⟩ := q2 (by omega); exact ⟨by rw [p1, g3], by rw [p2, g2]⟩⟩
    | true =>
      rw [he] at hk
      simp only [if_true] at hk
      refine ⟨by omega, fun h => by omega, fun e' he' => ?_⟩
      rcases List.mem_cons.1 he' with rfl | he'
      · exact ⟨Nat.le_refl _, fun _ => ⟨rfl, rfl⟩⟩
      · obtain ⟨q1, q2⟩ := h3 e' he'
        exact ⟨by omega, fun h => by omega⟩
theorem links_names {E : Env} {l : Option Nat} {ops : Array Oper} {nt : Nat} {ck : List Ck} : ∀ {evs : List Ev} {s s' : St}, Links evs s s' → (∀ e ∈ evs, EvOK E l ops nt ck e) → s.n.nat ≤ s'.n.nat ∧ ∀ e ∈ evs, s.n.nat ≤ e.s.n.nat ∧ e.s.n.nat ≤ e.s'.n.nat ∧ e.s'.n.nat ≤ s'.n.nat
  | [], s, s', hl, _ => by
    have : s = s' := hl
    subst this
    exact ⟨Nat.le_refl _, by simp⟩
  | e :: r, s, s', hl, hok => by
    obtain ⟨rfl, hl2⟩ := hl
    have ho := (hok e (by simp)).le
    obtain ⟨h1, h2⟩ := links_names hl2 (fun e he => hok e (by simp [he]))
    refine ⟨by omega, fun e' he' => ?_⟩
    rcases List.mem_cons.1 he' with rfl | he'
    · exact ⟨Nat.le_refl _, ho, h1⟩
    · obtain ⟨q1, q2, q3⟩ := h2 e' he'; exact ⟨by omega, q2, q3⟩
def Last (evs : List Ev) (tm0 : Tr AV) (S : Nat → Prop) (t : Nat) (v : AV) : Prop :=
  (v = tm0.get (.tu []) (pth t) ∧ ∀ i ev, S i → evs[i]? = some ev → ev.o.dst ≠ some t) ∨ ∃ i ev, S i ∧ evs[i]? = some ev ∧ ev.o.dst = some t ∧ v = ev.v ∧ ∀ j ev', S j → evs[j]? = some ev' → ev'.o.dst = some t → j ≤ i
theorem Last.unique {evs : List Ev} {tm0 : Tr AV} {S S' : Nat → Prop} {t : Nat} {v v' : AV} (h : Last evs tm0 S t v) (h' : Last evs tm0 S' t v') (hs : ∀ i ev, evs[i]? = some ev → ev.o.dst = some t → (S i ↔ S' i)) : v = v' := by
  rcases h with ⟨h1, h2⟩ | ⟨i, ev, h1, h2, h3, h4, h5⟩
  · rcases h' with ⟨g1, g2⟩ | ⟨j, ev', g1, g2, g3, g4, g5⟩
    · rw [h1, g1]
    · exact absurd g3 (h2 j ev' ((hs j ev' g2 g3).2 g1) g2)
  · rcases h' with ⟨g1, g2⟩ | ⟨j, ev', g1, g2, g3, g4, g5⟩
    · exact absurd h3 (g2 i ev ((hs i ev h2 h3).1 h1) h2)
    · have a1 := h5 j ev' ((hs j ev' g2 g3).2 g1) g2 g3
      have a2 := g5 i ev ((hs i ev h2 h3).1 h1) h2 h3
      have : i = j := by omega
      subst this
      rw [h2] at g2
      injection g2 with g2
      subst g2
      rw [h4, g4]
theorem dst_get {nt : Nat} {o : Oper} {d : Option Pn} (hd : dstOf nt o = some d) (v : AV) (tm : Tr AV) (t : Nat) : (putD d v tm).get (.tu []) (pth t) = if o.dst = some t then v else tm.get (.tu []) (pth t) := by
  unfold dstOf at hd
  split at hd
  · rename_i hn
    injection hd with hd
    subst hd
    rw [hn, if_neg (by simp)]; rfl
  · rename_i u hu
    split at hd
    · injection hd with hd
      subst hd
      rw [hu]
      by_cases h : u = t
      · subst h; rw [if_pos rfl]; exact get_put_same _ _ _ _
      · rw [if_neg (fun e => h (by injection e))]; exact get_put_other _ _ _ _ (fun e => h (pth_inj e)) _
    · cases hd
theorem links_snoc : ∀ {xs : List Ev} {e : Ev} {s s' : St}, Links (xs ++ [e]) s s' → Links xs s e.s ∧ s' = e.s'
  | [], e, s, s', h => ⟨h.1.symm, h.2.symm⟩
  | x :: xs, e, s, s', h => by
    obtain ⟨h1, h2⟩ := links_snoc (xs := xs) h.2
    exact ⟨⟨h.1, h1⟩, h2⟩
theorem take_snoc {evs : List Ev} {i : Nat} {ev : Ev} (h : evs[i]? = some ev) : evs.take (i + 1) = evs.take i ++ [ev] := by
  rw [List.take_add_one, h]; rfl
section
variable {E : Env} {l : Option Nat} {ops : Array Oper} {nt : Nat} {ck : List Ck} {evs : List Ev} {s0 : St}
theorem row_tmps (hok : ∀ e ∈ evs, EvOK E l ops nt ck e) (t : Nat) : ∀ (i : Nat) (st : St), i ≤ evs.length → Links (evs.take i) s0 st → Last evs s0.tm (fun x => x < i) t (st.tm.get (.tu []) (pth t))
  | 0, st, _, h => by
    have : s0 = st := h
    subst this
    exact .inl ⟨rfl, fun i ev h => absurd h (Nat.not_lt_zero i)⟩
  | i + 1, st, hi, h => by
    have hev : evs[i]? = some evs[i] := List.getElem?_eq_getElem (by omega)
    rw [take_snoc hev] at h
    obtain ⟨h1, rfl⟩ := links_snoc h
    have ih := row_tmps hok t i _ (by omega) h1
    have ho := hok _ (List.getElem_mem (by omega : i < evs.length))
    rw [ho.tm, dst_get ho.dst]
    by_cases hd : evs[i].o.dst = some t
    · rw [if_pos hd]
      exact .inr ⟨i, evs[i], Nat.lt_succ_self i, hev, hd, rfl, fun j ev' hj _ _ => Nat.le_of_lt_succ hj⟩
    · rw [if_neg hd]
      rcases ih with ⟨g1, g2⟩ | ⟨j, ev, g1, g2, g3, g4, g5⟩
      · refine .inl ⟨g1, fun j ev hj he => ?_⟩
        by_cases hji : j = i
        · subst hji; rw [hev] at he; injection he with he; subst he; exact hd
        · exact g2 j ev (by have : j < i + 1 := hj; show j < i; omega) he
      · refine .inr ⟨j, ev, Nat.lt_succ_of_lt g1, g2, g3, g4, fun q ev' hq he hde => ?_⟩
        by_cases hqi : q = i
        · subst hqi; rw [hev] at he; injection he with he; subst he; exact absurd hde hd
        · exact g5 q ev' (by have : q < i + 1 := hq; show q < i; omega) he hde
theorem row_pend (hok : ∀ e ∈ evs, EvOK E l ops nt ck e) (hkr : ∀ e ∈ evs, KRule e) (hhi : ∀ e ∈ evs, e.s.k ≤ e.hi) (h0 : s0.pd = []) : ∀ (i : Nat) (st : St), i ≤ evs.length → Links (evs.take i) s0 st →
    ∀ p, p ∈ st.pd ↔ ∃ j ev ob, j < i ∧ evs[j]? = some ev ∧ ev.al = some ob ∧ p = (ev.hi, ev.s.n, ob) ∧ st.k ≤ ev.hi
  | 0, st, _, h => by
    have : s0 = st := h
    subst this
    intro p
    rw [h0]
    simp
  | i + 1, st, hi, h => by
    have hev : evs[i]? = some evs[i] := List.getElem?_eq_getElem (by omega)
    rw [take_snoc hev] at h
    obtain ⟨h1, rfl⟩ := links_snoc h
    have ih := row_pend hok hkr hhi h0 i _ (by omega) h1
    have hmem := List.getElem_mem (by omega : i < evs.length)
    have ho := hok _ hmem
    have hk := hkr _ hmem
    have hh := hhi _ hmem
    unfold KRule at hk
    intro p
    cases he : evs[i].eff with
    | false =>
      rw [he] at hk
      simp only [Bool.false_eq_true, if_false] at hk
      cases ha : evs[i].al with
      | none =>
        rw [(ho.na he ha).2, ih p, hk]
        constructor
        · rintro ⟨j, ev, ob, g1, g2⟩; exact ⟨j, ev, ob, by omega, g2⟩
        · rintro ⟨j, ev, ob, g1, g2, g3, g4⟩
          by_cases hji : j = i
          · subst hji; rw [hev] at g2; injection g2 with g2; subst g2; rw [ha] at g3; cases g3
          · exact ⟨j, ev, ob, by omega, g2, g3, g4⟩
      | some ob0 =>
        obtain ⟨_, _, _, q, _⟩ := ho.al ob0 ha
        rw [q, List.mem_cons, ih p, hk]
        constructor
        · rintro (rfl | ⟨j, ev, ob, g1, g2⟩)
          · exact ⟨i, evs[i], ob0, by omega, hev, ha, rfl, hh⟩
          · exact ⟨j, ev, ob, by omega, g2⟩
        · rintro ⟨j, ev, ob, g1, g2, g3, g4⟩
          by_cases hji : j = i
          · subst hji; rw [hev] at g2; injection g2 with g2; subst g2; rw [ha] at g3; injection g3 with g3; subst g3; exact .inl g4.1
          · exact .inr ⟨j, ev, ob, by omega, g2, g3, g4⟩
    | true =>
      rw [he] at hk
      simp only [if_true] at hk
      obtain ⟨q1, q2, q3, _⟩ := ho.ef he
      rw [q3, List.mem_filter, ih p, hk]
      constructor
      · rintro ⟨⟨j, ev, ob, g1, g2, g3, rfl, g5⟩, g6⟩
        refine ⟨j, ev, ob, by omega, g2, g3, rfl, ?_⟩
        simp only [Bool.not_eq_true'] at g6
        apply Nat.lt_of_not_le
        intro hle
        rw [ble_iff.2 hle] at g6
        cases g6
      · rintro ⟨j, ev, ob, g1, g2, g3, rfl, g5⟩
        by_cases hji : j = i
        · subst hji; rw [hev] at g2; injection g2 with g2; subst g2; rw [q1] at g3; cases g3
        · refine ⟨⟨j, ev, ob, by omega, g2, g3, rfl, by omega⟩, ?_⟩
          cases hb : Nat.ble ev.hi evs[i].s.k with
          | false => rfl
          | true => have := ble_iff.1 hb; omega
end
end Ax
end Go.Proofs.YtdfgnoflohfnmaaGreatDoor

/-! Regions that draw their order: what holds after any closed set of operations. -/

namespace Go.Proofs.YtdfgnoflohfnmaaGreatDoor
namespace Ax
structure Row (E : Env) (l : Option Nat) (ops : Array Oper) (nt : Nat) (ck : List Ck) (F : List (Tr AO)) (es : List Nat) (evs : List Ev) (s0 sN : St) : Prop where
  links : Links evs s0 sN
  opsE : evs.map (·.o) = ops.toList
  ok : ∀ e ∈ evs, EvOK E l ops nt ck e
  win : ∀ (q : Nat) (ev : Ev), evs[q]? = some ev → ev.lo = loOf ((befores ops.toList []).getD q 0) es ∧ ev.hi = hiOf (befores ops.toList []) q es
  fs : ∀ ev ∈ evs, F[ev.s.k]? = some ev.s.h
  fN : F[sN.k]? = some sN.h
  ckE : ∀ c ∈ ck, ∀ S : Tr AO → AV → Prop, (∀ h (k : AV → R), Ok (c.f h k) → ∃ v, c.f h k = k v ∧ S h v) → ∀ q h, F[q]? = some h → c.lo ≤ q → q ≤ c.hi → S h c.v
  ef1 : ∀ (q : Nat) (ev : Ev), evs[q]? = some ev → ev.eff = true → es[ev.s.k]? = some q
  ef2 : ∀ (k p : Nat), es[k]? = some p → ∃ ev : Ev, evs[p]? = some ev ∧ ev.eff = true ∧ ev.s.k = k
  efN : es.length = sN.k
  kr : ∀ e ∈ evs, KRule e
  ch : chain (befores ops.toList []) es = true
  te : tempsOk ops.toList (befores ops.toList []) ops.toList 0 = true
  ed : edgesOk ops.toList 0 = true
  z : s0.k = 0 ∧ s0.pd = []
def KS (es : List Nat) (S : Nat → Prop) (k : Nat) : Prop := k ≤ es.length ∧ ∀ q e, es[q]? = some e → (S e ↔ q < k)
section
variable {E : Env} {l : Option Nat} {ops : Array Oper} {nt : Nat} {ck : List Ck} {F : List (Tr AO)} {es : List Nat} {evs : List Ev} {s0 sN : St}
theorem Row.in_win (hr : Row E l ops nt ck F es evs s0 sN) {S : Nat → Prop} {k i : Nat} {ev : Ev} (hS : Closed (befores ops.toList []) S) (hk : KS es S k) (hi : Ready ops.toList S i) (hn : ¬ S i) (he : evs[i]? = some ev) : ev.lo ≤ k ∧ k ≤ ev.hi := by
  obtain ⟨h1, h2⟩ := hr.win i ev he
  rw [h1, h2]
  constructor
  · apply Nat.le_of_not_lt
    intro hlt
    obtain ⟨e, g1, g2⟩ := loOf_spec _ es k hlt
    have := (hk.2 k e g1).1 (ready_bits hS hi e g2)
    omega
  · apply Nat.le_of_not_lt
    intro hlt
    obtain ⟨g1, g2⟩ := hiOf_spec (befores ops.toList []) i es
    have hlt2 : hiOf (befores ops.toList []) i es < es.length := Nat.lt_of_lt_of_le hlt hk.1
    have g3 := List.getElem?_eq_getElem hlt2
    exact hn (hS _ ((hk.2 _ _ g3).2 hlt) i (g2 _ g3))
theorem Row.op_at (hr : Row E l ops nt ck F es evs s0 sN) {i : Nat} {ev : Ev} (he : evs[i]? = some ev) : ops[i]? = some ev.o := by
  have : (evs.map (·.o))[i]? = some ev.o := by rw [List.getElem?_map, he]; rfl
  rw [hr.opsE] at this
  rw [← Array.getElem?_toList]; exact this
theorem Row.own_win (hr : Row E l ops nt ck F es evs s0 sN) {i : Nat} {ev : Ev} (he : evs[i]? = some ev) : ev.lo ≤ ev.s.k ∧ ev.s.k ≤ ev.hi := by
  have hmem := List.mem_of_getElem? he
  have hop : ops.toList[i]? = some ev.o := by rw [Array.getElem?_toList]; exact hr.op_at he
  obtain ⟨l1, l2⟩ := links_get hr.links he
  refine hr.in_win (S := fun x => x < i) (prefix_closed hr.ed i) ⟨?_, fun q e hq => ?_⟩ (prefix_ready hr.ed hop) (Nat.lt_irrefl i) he
  · rw [hr.efN]
    have h1 := (links_const l2 (fun e he => hr.ok e (List.mem_of_mem_drop he)) (fun e he => hr.kr e (List.mem_of_mem_drop he))).1
    have h2 := hr.kr ev hmem
    unfold KRule at h2
    split at h2 <;> omega
  · obtain ⟨ev', g1, g2, g3⟩ := hr.ef2 q e hq
    constructor
    · intro hlt
      have hlt : e < i := hlt
      have h5 : (evs.take i)[e]? = some ev' := by rw [List.getElem?_take, if_pos hlt]; exact g1
      obtain ⟨_, m2⟩ := links_get l1 h5
      have h6 := (links_const m2 (fun x hx => hr.ok x (List.mem_of_mem_take (List.mem_of_mem_drop hx))) (fun x hx => hr.kr x (List.mem_of_mem_take (List.mem_of_mem_drop hx)))).1
      have h7 := hr.kr ev' (List.mem_of_getElem? g1)
      unfold KRule at h7
      rw [g2, if_pos rfl] at h7
      omega
    · intro hlt
      show e < i
      apply Nat.lt_of_not_le
      intro hle
      by_cases hei : e = i
      · subst hei
        rw [he] at g1
        injection g1 with g1
        subst g1
        omega
      · have h5 : (evs.drop (i + 1))[e - (i + 1)]? = some ev' := by rw [List.getElem?_drop, show i + 1 + (e - (i + 1)) = e from by omega]; exact g1
        have h6 := ((links_const l2 (fun x hx => hr.ok x (List.mem_of_mem_drop hx)) (fun x hx => hr.kr x (List.mem_of_mem_drop hx))).2.2 ev' (List.mem_of_getElem? h5)).1
        have h7 := hr.kr ev hmem
        unfold KRule at h7
        split at h7 <;> omega
theorem Row.names (hr : Row E l ops nt ck F es evs s0 sN) {i j : Nat} {e e' : Ev} (hi : evs[i]? = some e) (hj : evs[j]? = some e') (hij : i < j) : e.s'.n.nat ≤ e'.s.n.nat := by
  obtain ⟨_, l2⟩ := links_get hr.links hi
  have h5 : (evs.drop (i + 1))[j - (i + 1)]? = some e' := by rw [List.getElem?_drop, show i + 1 + (j - (i + 1)) = j from by omega]; exact hj
  exact ((links_names l2 (fun x hx => hr.ok x (List.mem_of_mem_drop hx))).2 e' (List.mem_of_getElem? h5)).1
theorem Row.range (hr : Row E l ops nt ck F es evs s0 sN) {i : Nat} {e : Ev} (hi : evs[i]? = some e) : s0.n.nat ≤ e.s.n.nat ∧ e.s.n.nat ≤ e.s'.n.nat ∧ e.s'.n.nat ≤ sN.n.nat :=
  (links_names hr.links hr.ok).2 e (List.mem_of_getElem? hi)
noncomputable def XS (evs : List Ev) (S : Nat → Prop) (k : Nat) : Hp := fun b => open Classical in
  if h : ∃ ob i ev, S i ∧ evs[i]? = some ev ∧ ev.al = some ob ∧ k ≤ ev.hi ∧ ev.s.n = b then Classical.choose h else .x
theorem Row.al_one (hr : Row E l ops nt ck F es evs s0 sN) {i j : Nat} {e e' : Ev} {ob ob' : AO} (hi : evs[i]? = some e) (hj : evs[j]? = some e') (ha : e.al = some ob) (ha' : e'.al = some ob') (hn : e.s.n = e'.s.n) : i = j := by
  have h1 := (hr.ok e (List.mem_of_getElem? hi)).al ob ha
  have h2 := (hr.ok e' (List.mem_of_getElem? hj)).al ob' ha'
  apply Classical.byContradiction
  intro hne
  rcases Nat.lt_or_gt_of_ne hne with h | h
  · have := hr.names hi hj h
    rw [h1.2.2.1, nat_succ, hn] at this; omega
  · have := hr.names hj hi h
    rw [h2.2.2.1, nat_succ, ← hn] at this; omega
theorem Row.xs_some (hr : Row E l ops nt ck F es evs s0 sN) {S : Nat → Prop} {k i : Nat} {e : Ev} {ob : AO} (hi : evs[i]? = some e) (hS : S i) (ha : e.al = some ob) (hk : k ≤ e.hi) : XS evs S k e.s.n = ob := by
  have h : ∃ ob i ev, S i ∧ evs[i]? = some ev ∧ ev.al = some ob ∧ k ≤ ev.hi ∧ ev.s.n = e.s.n := ⟨ob, i, e, hS, hi, ha, hk, rfl⟩
  unfold XS
  rw [dif_pos h]
  obtain ⟨j, ev, _, g2, g3, _, g5⟩ := Classical.choose_spec h
  have hij := hr.al_one g2 hi g3 ha g5
  subst hij
  rw [g2] at hi
  injection hi with hi
  subst hi
  rw [g3] at ha
  injection ha
theorem xs_none {S : Nat → Prop} {k : Nat} {b : Pn} (h : ∀ ob i ev, S i → evs[i]? = some ev → ev.al = some ob → k ≤ ev.hi → ev.s.n ≠ b) : XS evs S k b = .x := by
  unfold XS
  rw [dif_neg]
  rintro ⟨ob, i, ev, h1, h2, h3, h4, h5⟩
  exact h ob i ev h1 h2 h3 h4 h5
theorem xs_inv {S : Nat → Prop} {k : Nat} {b : Pn} (h : XS evs S k b ≠ .x) : ∃ ob i ev, S i ∧ evs[i]? = some ev ∧ ev.al = some ob ∧ k ≤ ev.hi ∧ ev.s.n = b := by
  apply Classical.byContradiction
  intro hn
  exact h (xs_none fun ob i ev h1 h2 h3 h4 h5 => hn ⟨ob, i, ev, h1, h2, h3, h4, h5⟩)
end
end Ax
end Go.Proofs.YtdfgnoflohfnmaaGreatDoor

/-! Regions that draw their order: temporaries; the invariant. -/

namespace Go.Proofs.YtdfgnoflohfnmaaGreatDoor
namespace Ax
theorem tempsRow_spec {ops : List Oper} {y : Oper} {b : Nat} : ∀ (l : List Oper) (i : Nat), tempsRow ops y b l i = true → ∀ q x, l[q]? = some x → b.testBit (i + q) = true ∨ apart ops x y = true
  | [], i, _, q, x, h => by simp at h
  | x0 :: r, i, h, q, x, hq => by
    rw [tempsRow, Bool.and_eq_true, Bool.or_eq_true] at h
    cases q with
    | zero => simp at hq; subst hq; exact h.1
    | succ q =>
      have := tempsRow_spec r (i + 1) h.2 q x (by simpa using hq)
      rwa [show i + 1 + q = i + (q + 1) from by omega] at this
theorem tempsOk_spec {ops : List Oper} {bs : List Nat} : ∀ (l : List Oper) (j : Nat), tempsOk ops bs l j = true → ∀ q y, l[q]? = some y → ∀ i x, i < j + q → ops[i]? = some x → (bs.getD (j + q) 0).testBit i = true ∨ apart ops x y = true
  | [], j, _, q, y, h => by simp at h
  | y0 :: r, j, h, q, y, hq => by
    rw [tempsOk, Bool.and_eq_true] at h
    intro i x hi hx
    cases q with
    | zero =>
      simp at hq
      subst hq
      have := tempsRow_spec _ 0 h.1 i x (by rw [List.getElem?_take, if_pos (by omega)]; exact hx)
      rwa [Nat.zero_add] at this
    | succ q =>
      have := tempsOk_spec r (j + 1) h.2 q y (by simpa using hq) i x (by omega) hx
      rwa [show j + 1 + q = j + (q + 1) from by omega] at this
def Names (ops : Array Oper) (o : Oper) (t : Nat) : Prop := o.dst = some t ∨ Operand.tmp t ∈ o.op.operands ∨ GdT ops o t
theorem names_mem {ops : Array Oper} {o : Oper} {t : Nat} (h : Names ops o t) : t ∈ mentions ops.toList o := by
  unfold mentions looks
  rcases h with h | h | ⟨j, w, q, h1, h2, h3⟩
  · exact List.mem_append_left _ (by rw [h]; simp)
  · refine List.mem_append_right _ (List.mem_append_left _ ?_)
    rw [List.mem_filterMap]
    exact ⟨.tmp t, Array.mem_toList_iff.2 h, rfl⟩
  · refine List.mem_append_right _ (List.mem_append_right _ ?_)
    rw [h1]
    have : ops.toList[j]? = some q := by rw [Array.getElem?_toList]; exact h2
    simp only [this, Option.bind_some, h3]
    simp
theorem apart_no {ops : Array Oper} {x y : Oper} {t : Nat} (h : apart ops.toList x y = true) : (x.dst = some t → ¬ Names ops y t) ∧ (y.dst = some t → ¬ Names ops x t) := by
  unfold apart at h
  rw [Bool.and_eq_true] at h
  refine ⟨fun hd hn => ?_, fun hd hn => ?_⟩
  · have h1 := h.1
    rw [hd] at h1
    have := names_mem hn
    simp at h1
    exact h1 this
  · have h1 := h.2
    rw [hd] at h1
    have := names_mem hn
    simp at h1
    exact h1 this
section
variable {E : Env} {l : Option Nat} {ops : Array Oper} {nt : Nat} {ck : List Ck} {F : List (Tr AO)} {es : List Nat} {evs : List Ev} {s0 sN : St}
theorem Row.order (hr : Row E l ops nt ck F es evs s0 sN) {i j : Nat} {x y : Ev} (hi : evs[i]? = some x) (hj : evs[j]? = some y) (hij : i < j) {t : Nat} (h : (x.o.dst = some t ∧ Names ops y.o t) ∨ (y.o.dst = some t ∧ Names ops x.o t)) :
    ((befores ops.toList []).getD j 0).testBit i = true := by
  have h1 := hr.op_at hi
  have h2 := hr.op_at hj
  have := tempsOk_spec ops.toList 0 hr.te j y.o (by rw [Array.getElem?_toList]; exact h2) i x.o (by omega) (by rw [Array.getElem?_toList]; exact h1)
  rw [Nat.zero_add] at this
  rcases this with h3 | h3
  · exact h3
  · obtain ⟨a1, a2⟩ := apart_no (t := t) h3
    rcases h with ⟨g1, g2⟩ | ⟨g1, g2⟩
    · exact absurd g2 (a1 g1)
    · exact absurd g2 (a2 g1)
theorem Row.writers (hr : Row E l ops nt ck F es evs s0 sN) {S : Nat → Prop} {i : Nat} {e : Ev} (hS : Closed (befores ops.toList []) S) (hi : Ready ops.toList S i) (hn : ¬ S i) (he : evs[i]? = some e) {t : Nat} (ht : Names ops e.o t) :
    ∀ j ev, evs[j]? = some ev → ev.o.dst = some t → (S j ↔ j < i) := by
  intro j ev hj hd
  constructor
  · intro hs
    apply Nat.lt_of_not_le
    intro hle
    by_cases hij : i = j
    · subst hij; exact hn hs
    · exact hn (hS j hs i (hr.order he hj (by omega) (.inr ⟨hd, ht⟩)))
  · intro hlt
    exact ready_bits hS hi j (hr.order hj he hlt (.inl ⟨hd, ht⟩))
theorem Row.look (hr : Row E l ops nt ck F es evs s0 sN) {S : Nat → Prop} {i : Nat} {e : Ev} (hS : Closed (befores ops.toList []) S) (hi : Ready ops.toList S i) (hn : ¬ S i) (he : evs[i]? = some e) {t : Nat} (ht : Names ops e.o t) {v : AV} (hv : Last evs s0.tm S t v) :
    v = e.s.tm.get (.tu []) (pth t) := by
  have hlt : i < evs.length := (List.getElem?_eq_some_iff.1 he).1
  have h1 := row_tmps hr.ok t i e.s (by omega) (links_get hr.links he).1
  exact hv.unique h1 fun j ev hj hd => hr.writers hS hi hn he ht j ev hj hd
theorem Row.last_add (hr : Row E l ops nt ck F es evs s0 sN) {S : Nat → Prop} {i : Nat} {e : Ev} (hS : Closed (befores ops.toList []) S) (hi : Ready ops.toList S i) (hn : ¬ S i) (he : evs[i]? = some e) {t : Nat} {v : AV} (hv : Last evs s0.tm S t v) :
    Last evs s0.tm (fun x => x = i ∨ S x) t (if e.o.dst = some t then e.v else v) := by
  by_cases hd : e.o.dst = some t
  · rw [if_pos hd]
    refine .inr ⟨i, e, .inl rfl, he, hd, rfl, fun j ev' hj hje hjd => ?_⟩
    rcases hj with rfl | hj
    · exact Nat.le_refl _
    · exact Nat.le_of_lt ((hr.writers hS hi hn he (.inl hd) j ev' hje hjd).1 hj)
  · rw [if_neg hd]
    rcases hv with ⟨h1, h2⟩ | ⟨j, ev, h1, h2, h3, h4, h5⟩
    · refine .inl ⟨h1, fun j ev hj hje => ?_⟩
      rcases hj with rfl | hj
      · rw [he] at hje; injection hje with hje; subst hje; exact hd
      · exact h2 j ev hj hje
    · refine .inr ⟨j, ev, .inr h1, h2, h3, h4, fun q ev' hq hqe hqd => ?_⟩
      rcases hq with rfl | hq
      · rw [he] at hqe; injection hqe with hqe; subst hqe; exact absurd hqd hd
      · exact h5 q ev' hq hqe hqd
structure Inv (E : Env) (nt : Nat) (F : List (Tr AO)) (es : List Nat) (evs : List Ev) (s0 sN : St) (bs : List Nat) (ρ0 : Ren) (w0 : World) (S : Nat → Prop) (a : Act) (w : World) (ρ : Ren) (k : Nat) (df : List AD) : Prop where
  cl : Closed bs S
  ks : KS es S k
  st : Step ρ0 (hv s0.h) w0 s0.n ρ (ovl (XS evs S k) (hv (F.getD k .leaf))) w sN.n
  fr : ∀ i e, evs[i]? = some e → ¬ S i → ∀ b : Pn, e.s.n.nat ≤ b.nat → b.nat < e.s'.n.nat → ρ b = none ∧ ovl (XS evs S k) (hv (F.getD k .leaf)) b = .x
  ap : ∀ i e ob, S i → evs[i]? = some e → e.al = some ob → k ≤ e.hi → hv (F.getD k .leaf) e.s.n = .x
  sz : a.tmps.size = nt
  tm : ∀ t, ∃ v, Last evs s0.tm S t v ∧ VR ρ v (a.tmps.getD t undef)
  dfc : (∀ e ∈ evs, e.s.k = k → e.s.df = df) ∧ (sN.k = k → sN.df = df)
  dr : DR E ρ df a.defers
end
end Ax
end Go.Proofs.YtdfgnoflohfnmaaGreatDoor

/-! Regions that draw their order: the invariant is kept. -/

namespace Go.Proofs.YtdfgnoflohfnmaaGreatDoor
namespace Ax
theorem ovl_upd {X H : Hp} {n : Pn} {o : AO} (ho : o ≠ .x) : ovl (upd X n o) H = upd (ovl X H) n o := by
  funext b
  by_cases hb : b = n
  · subst hb; rw [ovl_some (by rw [upd_same]; exact ho), upd_same, upd_same]
  · rw [upd_other _ _ hb]
    by_cases hX : X b = .x
    · rw [ovl_none (by rw [upd_other _ _ hb]; exact hX), ovl_none hX]
    · rw [ovl_some (by rw [upd_other _ _ hb]; exact hX), ovl_some hX, upd_other _ _ hb]
section
variable {E : Env} {l : Option Nat} {ops : Array Oper} {nt : Nat} {ck : List Ck} {F : List (Tr AO)} {es : List Nat} {evs : List Ev} {s0 sN : St}
theorem Row.al_own (hr : Row E l ops nt ck F es evs s0 sN) {i : Nat} {e : Ev} {ob : AO} (he : evs[i]? = some e) (ha : e.al = some ob) : own ob := ((hr.ok e (List.mem_of_getElem? he)).al ob ha).2.2.2.2.2.1
theorem Row.xs_same (hr : Row E l ops nt ck F es evs s0 sN) {S : Nat → Prop} {i k : Nat} {e : Ev} (he : evs[i]? = some e) (ha : e.al = none) : XS evs (fun x => x = i ∨ S x) k = XS evs S k := by
  funext b
  by_cases hx : XS evs S k b = .x
  · rw [hx]
    refine xs_none fun ob j ev hj hje hal hk hn => ?_
    rcases hj with rfl | hj
    · rw [he] at hje; injection hje with hje; subst hje; rw [ha] at hal; cases hal
    · have := hr.xs_some hje hj hal hk
      rw [hn, hx] at this
      exact (hr.al_own hje hal).1 this.symm
  · obtain ⟨ob, j, ev, h1, h2, h3, h4, h5⟩ := xs_inv hx
    subst h5
    rw [hr.xs_some h2 h1 h3 h4]
    exact hr.xs_some (S := fun x => x = i ∨ S x) h2 (.inr h1) h3 h4
theorem Row.xs_add (hr : Row E l ops nt ck F es evs s0 sN) {S : Nat → Prop} {i k : Nat} {e : Ev} {ob : AO} (he : evs[i]? = some e) (ha : e.al = some ob) (hk : k ≤ e.hi) : XS evs (fun x => x = i ∨ S x) k = upd (XS evs S k) e.s.n ob := by
  funext b
  by_cases hb : b = e.s.n
  · subst hb
    rw [upd_same]
    exact hr.xs_some (S := fun x => x = i ∨ S x) he (.inl rfl) ha hk
  · rw [upd_other _ _ hb]
    by_cases hx : XS evs S k b = .x
    · rw [hx]
      refine xs_none fun ob' j ev hj hje hal hk' hn => ?_
      rcases hj with rfl | hj
      · rw [he] at hje; injection hje with hje; subst hje; exact hb hn.symm
      · have := hr.xs_some hje hj hal hk'
        rw [hn, hx] at this
        exact (hr.al_own hje hal).1 this.symm
    · obtain ⟨ob', j, ev, h1, h2, h3, h4, h5⟩ := xs_inv hx
      subst h5
      rw [hr.xs_some h2 h1 h3 h4]
      exact hr.xs_some (S := fun x => x = i ∨ S x) h2 (.inr h1) h3 h4
theorem put_tmps {a : Act} {o : Oper} {d : Option Pn} (hd : dstOf nt o = some d) (hs : a.tmps.size = nt) (v : Value) (t : Nat) : (a.put o.dst v).tmps.size = nt ∧ (a.put o.dst v).tmps.getD t undef = if o.dst = some t then v else a.tmps.getD t undef := by
  unfold dstOf at hd
  split at hd
  · rename_i hn
    rw [hn, if_neg (by simp)]
    exact ⟨hs, rfl⟩
  · rename_i u hu
    split at hd
    · rename_i hlt
      have hlt := ble_iff.1 hlt
      rw [hu]
      refine ⟨by simpa [Act.put] using hs, ?_⟩
      by_cases h : u = t
      · subst h
        rw [if_pos rfl]
        have : u < a.tmps.size := by rw [hs]; exact hlt
        simp [Act.put, Array.getD, this]
      · rw [if_neg (fun e => h (by injection e))]
        simp only [Act.put, Array.getD_eq_getD_getElem?]
        rw [Array.getElem?_setIfInBounds_ne h]
    · cases hd
theorem Row.tm_add (hr : Row E l ops nt ck F es evs s0 sN) {S : Nat → Prop} {i : Nat} {e : Ev} (hS : Closed (befores ops.toList []) S) (hi : Ready ops.toList S i) (hn : ¬ S i) (he : evs[i]? = some e) {ρ ρ' : Ren} {a : Act} {v' : Value}
    (hs : a.tmps.size = nt) (ht : ∀ t, ∃ v, Last evs s0.tm S t v ∧ VR ρ v (a.tmps.getD t undef)) (hl : ρ.le ρ') (hv : VR ρ' e.v v') :
    (a.put e.o.dst v').tmps.size = nt ∧ ∀ t, ∃ v, Last evs s0.tm (fun x => x = i ∨ S x) t v ∧ VR ρ' v ((a.put e.o.dst v').tmps.getD t undef) := by
  have hd := (hr.ok e (List.mem_of_getElem? he)).dst
  refine ⟨(put_tmps hd hs v' 0).1, fun t => ?_⟩
  obtain ⟨v, h1, h2⟩ := ht t
  refine ⟨_, hr.last_add hS hi hn he h1, ?_⟩
  rw [(put_tmps hd hs v' t).2]
  by_cases hc : e.o.dst = some t
  · rw [if_pos hc, if_pos hc]; exact hv
  · rw [if_neg hc, if_neg hc]; exact h2.mono hl
theorem Row.vro (hr : Row E l ops nt ck F es evs s0 sN) {S : Nat → Prop} {i : Nat} {e : Ev} (hS : Closed (befores ops.toList []) S) (hi : Ready ops.toList S i) (hn : ¬ S i) (he : evs[i]? = some e) {ρ : Ren} {a : Act} (hg : GL E ρ)
    (ht : ∀ t, ∃ v, Last evs s0.tm S t v ∧ VR ρ v (a.tmps.getD t undef)) : VRo ρ e.s.tm a e.o ∧ Region.wanted e.o (yielded ops a.tmps) = e.b := by
  have ho := hr.ok e (List.mem_of_getElem? he)
  have hval : ∀ t, Names ops e.o t → VR ρ (e.s.tm.get (.tu []) (pth t)) (a.tmps.getD t undef) := by
    intro t hnm
    obtain ⟨v, h1, h2⟩ := ht t
    rw [← hr.look hS hi hn he hnm h1]
    exact h2
  refine ⟨fun x hx v hv => ?_, ho.gd ρ a.tmps fun t h => hval t (.inr (.inr h))⟩
  cases x with
  | tmp t => injection hv with hv; subst hv; exact hval t (.inr (.inl hx))
  | const w => exact ofV_rel ρ hv
  | global g =>
    injection hv with hv
    subst hv
    obtain ⟨t, h1, h2, h3⟩ := hg g (ble_iff.1 (gOk_mem ho.gok _ hx))
    have : a.eval (.global g) = .pointer (some ⟨t.c, t.d + 0, none⟩) := by rw [h2, h3]; rfl
    rw [this]
    exact .p h1
  | func f => injection hv with hv; subst hv; exact .f rfl rfl (fun i x v h => by simp at h) (fun i x v h => by simp at h)
theorem Row.ks_same (hr : Row E l ops nt ck F es evs s0 sN) {S : Nat → Prop} {i k : Nat} {e : Ev} (he : evs[i]? = some e) (hef : e.eff = false) (hk : KS es S k) : KS es (fun x => x = i ∨ S x) k := by
  refine ⟨hk.1, fun q p hp => ?_⟩
  rw [← hk.2 q p hp]
  constructor
  · rintro (rfl | h)
    · obtain ⟨ev, g1, g2, _⟩ := hr.ef2 q p hp
      rw [he] at g1; injection g1 with g1; subst g1; rw [hef] at g2; cases g2
    · exact h
  · exact .inr
theorem Row.ks_next (hr : Row E l ops nt ck F es evs s0 sN) {S : Nat → Prop} {i k : Nat} {e : Ev} (hS : Closed (befores ops.toList []) S) (hi : Ready ops.toList S i) (hn : ¬ S i) (he : evs[i]? = some e) (hef : e.eff = true) (hk : KS es S k) :
    e.s.k = k ∧ KS es (fun x => x = i ∨ S x) (k + 1) := by
  have h1 := hr.ef1 i e he hef
  have hge : k ≤ e.s.k := by
    apply Nat.le_of_not_lt
    intro hlt
    exact hn ((hk.2 _ i h1).2 hlt)
  have hlt : e.s.k < es.length := (List.getElem?_eq_some_iff.1 h1).1
  have heq : e.s.k = k := by
    apply Classical.byContradiction
    intro hne
    have hk1 : e.s.k - 1 + 1 = e.s.k := by omega
    obtain ⟨e', g1, g2⟩ := chain_closed (closed_add hS hi) hr.ch (e.s.k - 1) i (by rw [hk1]; exact h1) (.inl rfl)
    rcases g2 with rfl | g2
    · obtain ⟨ev, p1, p2, p3⟩ := hr.ef2 _ _ g1
      rw [he] at p1; injection p1 with p1; subst p1; omega
    · have := (hk.2 _ e' g1).1 g2; omega
  subst heq
  refine ⟨rfl, by omega, fun q p hp => ?_⟩
  constructor
  · rintro (rfl | h)
    · obtain ⟨ev, p1, p2, p3⟩ := hr.ef2 q p hp
      rw [he] at p1; injection p1 with p1; subst p1; omega
    · have := (hk.2 q p hp).1 h; omega
  · intro hq
    by_cases hqe : q = e.s.k
    · subst hqe; rw [h1] at hp; injection hp with hp; exact .inl hp.symm
    · exact .inr ((hk.2 q p hp).2 (by omega))
end
end Ax
end Go.Proofs.YtdfgnoflohfnmaaGreatDoor

/-! Regions that draw their order: pending blocks ahead of an effect. -/

namespace Go.Proofs.YtdfgnoflohfnmaaGreatDoor
namespace Ax
theorem ph_none : ∀ {l : Pend} {b : Pn}, (∀ p ∈ l, p.2.1 ≠ b) → PH l b = .x
  | [], b, _ => rfl
  | p :: r, b, h => by
    have h1 : PH r b = .x := ph_none fun q hq => h q (by simp [hq])
    show ovl (PH r) _ b = .x
    rw [ovl_none h1, upd_other _ _ (fun e => h p (by simp) e.symm)]
theorem ph_some : ∀ {l : Pend} {b : Pn} {o : AO}, (∃ p ∈ l, p.2.1 = b) → (∀ p ∈ l, p.2.1 = b → p.2.2 = o) → o ≠ .x → PH l b = o
  | [], b, o, h, _, _ => by obtain ⟨p, hp, _⟩ := h; cases hp
  | p :: r, b, o, h, hu, ho => by
    show ovl (PH r) _ b = o
    by_cases hr : ∃ q ∈ r, q.2.1 = b
    · have h1 : PH r b = o := ph_some hr (fun q hq => hu q (by simp [hq])) ho
      rw [ovl_some (by rw [h1]; exact ho), h1]
    · have h1 : PH r b = .x := ph_none fun q hq e => hr ⟨q, hq, e⟩
      rw [ovl_none h1]
      obtain ⟨q, hq, he⟩ := h
      rcases List.mem_cons.1 hq with rfl | hq
      · rw [← he, upd_same]; exact hu q (by simp) he
      · exact absurd ⟨q, hq, he⟩ hr
section
variable {E : Env} {l : Option Nat} {ops : Array Oper} {nt : Nat} {ck : List Ck} {F : List (Tr AO)} {es : List Nat} {evs : List Ev} {s0 sN : St}
theorem Row.pend (hr : Row E l ops nt ck F es evs s0 sN) {i : Nat} {e : Ev} (he : evs[i]? = some e) : ∀ p, p ∈ e.s.pd ↔ ∃ j ev ob, j < i ∧ evs[j]? = some ev ∧ ev.al = some ob ∧ p = (ev.hi, ev.s.n, ob) ∧ e.s.k ≤ ev.hi := by
  have hlt : i < evs.length := (List.getElem?_eq_some_iff.1 he).1
  exact row_pend hr.ok hr.kr (fun e he => by obtain ⟨i, hi⟩ := List.getElem?_of_mem he; exact (hr.own_win hi).2) hr.z.2 i e.s (by omega) (links_get hr.links he).1
theorem Row.due (hr : Row E l ops nt ck F es evs s0 sN) {S : Nat → Prop} {i k : Nat} {e : Ev} (hS : Closed (befores ops.toList []) S) (hi : Ready ops.toList S i) (he : evs[i]? = some e) (hef : e.eff = true) (hk : e.s.k = k) {j : Nat} {ev : Ev} {ob : AO} (hj : evs[j]? = some ev) (_ha : ev.al = some ob) (hh : ev.hi = k) : S j ∧ j < i := by
  have h1 := hr.ef1 i e he hef
  obtain ⟨g1, g2⟩ := hiOf_spec (befores ops.toList []) j es
  have h2 := (hr.win j ev hj).2
  have hbit := g2 i (by rw [← h2, hh, ← hk]; exact h1)
  refine ⟨ready_bits hS hi j hbit, ?_⟩
  exact ready_bits (prefix_closed hr.ed i) (prefix_ready hr.ed (by rw [Array.getElem?_toList]; exact hr.op_at he)) j hbit
theorem Row.laid (hr : Row E l ops nt ck F es evs s0 sN) {S : Nat → Prop} {i k : Nat} {e : Ev} (hS : Closed (befores ops.toList []) S) (hi : Ready ops.toList S i) (he : evs[i]? = some e) (hef : e.eff = true) (hk : e.s.k = k) :
    ovl (XS evs S k) (hv e.s.h) = ovl (XS evs S (k + 1)) (hv e.hl) := by
  have ho := hr.ok e (List.mem_of_getElem? he)
  obtain ⟨_, _, _, hhl⟩ := ho.ef hef
  have hpd := hr.pend he
  rw [hhl]
  funext b
  by_cases hx1 : XS evs S (k + 1) b = .x
  · rw [ovl_none hx1]
    by_cases hx : XS evs S k b = .x
    · rw [ovl_none hx, ovl_none]
      refine ph_none fun p hp hb => ?_
      rw [List.mem_filter] at hp
      obtain ⟨j, ev, ob, g1, g2, g3, rfl, g5⟩ := (hpd p).1 hp.1
      have hle := ble_iff.1 hp.2
      have hhi : ev.hi = k := by simp only at hle; omega
      have hSj := (hr.due hS hi he hef hk g2 g3 hhi).1
      have := hr.xs_some (k := k) g2 hSj g3 (by omega)
      rw [show ev.s.n = b from hb, hx] at this
      exact (hr.al_own g2 g3).1 this.symm
    · obtain ⟨ob, j, ev, h1, h2, h3, h4, h5⟩ := xs_inv hx
      subst h5
      have hhi : ev.hi = k := by
        apply Classical.byContradiction
        intro hne
        have := hr.xs_some (k := k + 1) h2 h1 h3 (by omega)
        rw [hx1] at this
        exact (hr.al_own h2 h3).1 this.symm
      have hlt := (hr.due hS hi he hef hk h2 h3 hhi).2
      have hph : PH (e.s.pd.filter fun p => Nat.ble p.1 e.s.k) ev.s.n = ob := by
        refine ph_some ⟨(ev.hi, ev.s.n, ob), ?_, rfl⟩ (fun p hp hb => ?_) (hr.al_own h2 h3).1
        · rw [List.mem_filter]
          exact ⟨(hpd _).2 ⟨j, ev, ob, hlt, h2, h3, rfl, by omega⟩, ble_iff.2 (by simp only; omega)⟩
        · rw [List.mem_filter] at hp
          obtain ⟨j', ev', ob', g1, g2, g3, rfl, g5⟩ := (hpd p).1 hp.1
          have := hr.al_one g2 h2 g3 h3 hb
          subst this
          rw [h2] at g2; injection g2 with g2; subst g2
          rw [h3] at g3; injection g3 with g3; exact g3.symm
      rw [ovl_some hx, hr.xs_some h2 h1 h3 (by omega), ovl_some (by rw [hph]; exact (hr.al_own h2 h3).1), hph]
  · obtain ⟨ob, j, ev, h1, h2, h3, h4, h5⟩ := xs_inv hx1
    subst h5
    rw [ovl_some hx1, hr.xs_some h2 h1 h3 h4]
    have := hr.xs_some (k := k) h2 h1 h3 (by omega)
    rw [ovl_some (by rw [this]; exact (hr.al_own h2 h3).1), this]
theorem Row.apart_hl (hr : Row E l ops nt ck F es evs s0 sN) {S : Nat → Prop} {i k : Nat} {e : Ev} (he : evs[i]? = some e) (hef : e.eff = true) (hk : e.s.k = k)
    (hap : ∀ j ev ob, S j → evs[j]? = some ev → ev.al = some ob → k ≤ ev.hi → hv e.s.h ev.s.n = .x) {j : Nat} {ev : Ev} {ob : AO} (hj : S j) (hje : evs[j]? = some ev) (ha : ev.al = some ob) (hh : k + 1 ≤ ev.hi) : hv e.hl ev.s.n = .x := by
  have ho := hr.ok e (List.mem_of_getElem? he)
  obtain ⟨_, _, _, hhl⟩ := ho.ef hef
  rw [hhl, ovl_none, hap j ev ob hj hje ha (by omega)]
  refine ph_none fun p hp hb => ?_
  rw [List.mem_filter] at hp
  obtain ⟨j', ev', ob', g1, g2, g3, rfl, g5⟩ := (hr.pend he p).1 hp.1
  have hle := ble_iff.1 hp.2
  have := hr.al_one g2 hje g3 ha hb
  subst this
  rw [hje] at g2; injection g2 with g2; subst g2
  simp only at hle
  omega
end
end Ax
end Go.Proofs.YtdfgnoflohfnmaaGreatDoor

/-! Regions that draw their order: one operation more. -/

namespace Go.Proofs.YtdfgnoflohfnmaaGreatDoor
namespace Ax
section
variable {E : Env} {l : Option Nat} {ops : Array Oper} {nt : Nat} {ck : List Ck} {F : List (Tr AO)} {es : List Nat} {evs : List Ev} {s0 sN : St}
theorem Row.heap_at (hr : Row E l ops nt ck F es evs s0 sN) {e : Ev} (he : e ∈ evs) : F.getD e.s.k .leaf = e.s.h := by
  rw [List.getD_eq_getElem?_getD, hr.fs e he]; rfl
theorem Row.next_at (hr : Row E l ops nt ck F es evs s0 sN) {i : Nat} {e : Ev} (he : evs[i]? = some e) (hef : e.eff = true) : F.getD (e.s.k + 1) .leaf = e.s'.h ∧ (∀ e' ∈ evs, e'.s.k = e.s.k + 1 → e'.s.df = e.s'.df) ∧ (sN.k = e.s.k + 1 → sN.df = e.s'.df) := by
  have hk := hr.kr e (List.mem_of_getElem? he)
  unfold KRule at hk
  rw [hef, if_pos rfl] at hk
  obtain ⟨l1, l2⟩ := links_get hr.links he
  have hc := links_const l2 (fun x hx => hr.ok x (List.mem_of_mem_drop hx)) (fun x hx => hr.kr x (List.mem_of_mem_drop hx))
  refine ⟨?_, fun e' he' hke => ?_, fun h => (hc.2.1 (by omega)).1⟩
  · rw [← hk, List.getD_eq_getElem?_getD]
    cases hd : evs.drop (i + 1) with
    | nil =>
      rw [hd] at l2
      have : e.s' = sN := l2
      rw [this, hr.fN]; rfl
    | cons e2 r =>
      rw [hd] at l2
      rw [← l2.1, hr.fs e2 (List.mem_of_mem_drop (i := i + 1) (by rw [hd]; simp))]; rfl
  · obtain ⟨j, hj⟩ := List.getElem?_of_mem he'
    by_cases hij : j < i + 1
    · exfalso
      by_cases hji : j = i
      · subst hji; rw [he] at hj; injection hj with hj; subst hj; omega
      · have h5 : (evs.take i)[j]? = some e' := by rw [List.getElem?_take, if_pos (by omega)]; exact hj
        obtain ⟨_, m2⟩ := links_get l1 h5
        have h6 := (links_const m2 (fun x hx => hr.ok x (List.mem_of_mem_take (List.mem_of_mem_drop hx))) (fun x hx => hr.kr x (List.mem_of_mem_take (List.mem_of_mem_drop hx)))).1
        have h7 := hr.kr e' he'
        unfold KRule at h7
        split at h7 <;> omega
    · have h5 : (evs.drop (i + 1))[j - (i + 1)]? = some e' := by rw [List.getElem?_drop, show i + 1 + (j - (i + 1)) = j from by omega]; exact hj
      exact ((hc.2.2 e' (List.mem_of_getElem? h5)).2 (by omega)).1
theorem Row.step (hr : Row E l ops nt ck F es evs s0 sN) {ρ0 : Ren} {w0 : World} (hg0 : GL E ρ0) {S : Nat → Prop} {i : Nat} {e : Ev} {a : Act} {w : World} {ρ : Ren} {k : Nat} {df : List AD}
    (inv : Inv E nt F es evs s0 sN (befores ops.toList []) ρ0 w0 S a w ρ k df) (hi : Ready ops.toList S i) (hn : ¬ S i) (he : evs[i]? = some e) (Q : Exit → Act → World → Prop) :
    wpOpIn (FW l) 0 E.P ops Q i (fun a' w' => ∃ ρ' k' df', Inv E nt F es evs s0 sN (befores ops.toList []) ρ0 w0 (fun x => x = i ∨ S x) a' w' ρ' k' df') a w := by
  have hmem := List.mem_of_getElem? he
  have ho := hr.ok e hmem
  have hg : GL E ρ := hg0.mono inv.st.ext
  obtain ⟨hvr, hw⟩ := hr.vro inv.cl hi hn he hg inv.tm
  have hcl := closed_add inv.cl hi
  have hwin := hr.in_win inv.cl inv.ks hi hn he
  unfold wpOpIn
  simp only [hr.op_at he, hw]
  cases hb : e.b with
  | false =>
    simp only [Bool.false_eq_true, if_false]
    obtain ⟨n1, n2, n3, n4⟩ := ho.nb hb
    refine ⟨fun _ _ => trivial, ?_⟩
    obtain ⟨t1, t2⟩ := hr.tm_add inv.cl hi hn he (v' := undef) inv.sz inv.tm (Ren.le_refl ρ) (by rw [n1]; exact VR.undef ρ)
    cases hef : e.eff with
    | false =>
      refine ⟨ρ, k, df, hcl, hr.ks_same he hef inv.ks, by rw [hr.xs_same he n2]; exact inv.st, ?_, ?_, t1, t2, inv.dfc, by rw [put_defers]; exact inv.dr⟩
      · intro j e' hj hns b h1 h2
        rw [hr.xs_same he n2]
        exact inv.fr j e' hj (fun h => hns (.inr h)) b h1 h2
      · intro j e' ob hj hje ha hh
        rcases hj with rfl | hj
        · rw [he] at hje; injection hje with hje; subst hje; rw [n2] at ha; cases ha
        · exact inv.ap j e' ob hj hje ha hh
    | true =>
      obtain ⟨hk, hks⟩ := hr.ks_next inv.cl hi hn he hef inv.ks
      subst hk
      obtain ⟨f1, f2, f3⟩ := hr.next_at he hef
      have hhl := ho.efb hef hb
      have hlaid := hr.laid inv.cl hi he hef rfl
      have hst := inv.st
      have hfr := inv.fr
      have hap := inv.ap
      rw [hr.heap_at hmem] at hst
      simp only [hr.heap_at hmem] at hfr hap
      have hhp : ovl (XS evs (fun x => x = i ∨ S x) (e.s.k + 1)) (hv (F.getD (e.s.k + 1) .leaf)) = ovl (XS evs S e.s.k) (hv e.s.h) := by
        rw [hr.xs_same he n2, f1, hhl, hlaid]
      refine ⟨ρ, e.s.k + 1, df, hcl, hks, by rw [hhp]; exact hst, ?_, ?_, t1, t2, ?_, by rw [put_defers]; exact inv.dr⟩
      · intro j e' hj hns b h1 h2
        rw [hhp]
        exact hfr j e' hj (fun h => hns (.inr h)) b h1 h2
      · intro j e' ob hj hje ha hh
        rcases hj with rfl | hj
        · rw [he] at hje; injection hje with hje; subst hje; rw [n2] at ha; cases ha
        · rw [f1, hhl]
          exact hr.apart_hl he hef rfl hap hj hje ha hh
      · have hdf := inv.dfc.1 e hmem rfl
        exact ⟨fun e' he' hk' => by rw [f2 e' he' hk', n4, hdf], fun hk' => by rw [f3 hk', n4, hdf]⟩
  | true =>
    simp only [if_true]
    have hex : (∀ c, e.o.op ≠ .defer c) → e.o.semAt l a.eval = execOp a.eval e.o := fun h => Oper.semAt_eq _ _ _ h
    have hFk : F[k]? = some (F.getD k .leaf) := by
      have h1 := hr.fN
      have h2 : k < F.length := by
        have := (List.getElem?_eq_some_iff.1 h1).1
        have := inv.ks.1
        have := hr.efN
        omega
      rw [List.getD_eq_getElem?_getD, List.getElem?_eq_getElem h2]; rfl
    have hweak : Rel ρ (hv (F.getD k .leaf)) w := inv.st.rel.weak fun b hb' => by
      by_cases hx : XS evs S k b = .x
      · rw [ovl_none hx]
      · obtain ⟨ob, j, ev, h1, h2, h3, h4, h5⟩ := xs_inv hx
        subst h5
        exact absurd (inv.ap j ev ob h1 h2 h3 h4) hb'
    cases hef : e.eff with
    | false =>
      cases hal : e.al with
      | none =>
        have hpu := ho.pu hb hef hal
        have hval : ∃ v', VR ρ e.v v' ∧ (execOp a.eval e.o).run E.P w = .ok (.value v') w := by
          rcases hpu.2 with hp | hp | ⟨t, b, ob, hi2, p1, p2, p3, p4, p5⟩
          · exact pu_sem (.inl hp) (hr.fs e hmem) (hr.own_win he) hr.ckE hFk hwin.1 hwin.2 ρ a w hvr hweak
          · exact pu_sem (.inr hp) (hr.fs e hmem) (hr.own_win he) hr.ckE hFk hwin.1 hwin.2 ρ a w hvr hweak
          · -- the block is pending; whoever names it has laid it
            have hρ : ∃ t', ρ b = some t' := by
              have hv2 := hvr (.tmp t) p1 _ rfl
              generalize hg2 : e.s.tm.get (.tu []) (pth t) = av at p2 hv2
              generalize a.eval (.tmp t) = uv at hv2
              cases av with
              | sl b0 o0 n0 c0 x0 =>
                have hb0 : b0 = b := Option.some.inj p2
                subst hb0
                cases hv2 with
                | sl h0 _ _ _ _ _ => exact ⟨_, h0⟩
              | p b0 o0 =>
                have hb0 : b0 = b := Option.some.inj p2
                subst hb0
                cases hv2 with
                | p h0 => exact ⟨_, h0⟩
              | _ => cases p2
            obtain ⟨t', hρ⟩ := hρ
            have hlk := (links_get hr.links he).1
            obtain ⟨j, ev, ob', g1, g2, g3, g4, g5⟩ := (row_pend hr.ok hr.kr (fun e he => by obtain ⟨i, hi⟩ := List.getElem?_of_mem he; exact (hr.own_win hi).2) hr.z.2 i _ (Nat.le_of_lt (List.getElem?_eq_some_iff.1 he).1) hlk (hi2, b, ob)).1 p3
            injection g4 with e1 e2
            injection e2 with e2 e3
            subst e1 e2 e3
            have hSj : S j := by
              apply Classical.byContradiction
              intro hns
              have hal2 := (hr.ok ev (List.mem_of_getElem? g2)).al ob g3
              have := (inv.fr j ev g2 hns ev.s.n (Nat.le_refl _) (by rw [hal2.2.2.1, nat_succ]; omega)).1
              rw [this] at hρ
              cases hρ
            have hx := hr.xs_some (k := k) g2 hSj g3 (Nat.le_trans hwin.2 p4)
            refine p5 ρ a w hvr (inv.st.rel.weak fun c hc => ?_)
            have hown := (hr.ok ev (List.mem_of_getElem? g2)).al ob g3
            rw [hv_put] at hc ⊢
            by_cases hcb : c = ev.s.n
            · subst hcb
              rw [upd_same] at hc ⊢
              rw [ovl_some (by rw [hx]; exact hc), hx]
            · rw [upd_other _ _ hcb] at hc
              exact absurd (get_leaf _ _) hc
        obtain ⟨v', g1, g2⟩ := hval
        refine ⟨fun _ _ => trivial, ?_⟩
        show e.o.uponIn (FW l) 0 E.P a _ Q ((e.o.semAt l a.eval).run E.P w)
        rw [hex hpu.1, g2]
        obtain ⟨t1, t2⟩ := hr.tm_add inv.cl hi hn he (v' := v') inv.sz inv.tm (Ren.le_refl ρ) g1
        refine ⟨ρ, k, df, hcl, hr.ks_same he hef inv.ks, by rw [hr.xs_same he hal]; exact inv.st, ?_, ?_, t1, t2, inv.dfc, by rw [put_defers]; exact inv.dr⟩
        · intro j e' hj hns b h1 h2
          rw [hr.xs_same he hal]
          exact inv.fr j e' hj (fun h => hns (.inr h)) b h1 h2
        · intro j e' ob hj hje ha hh
          rcases hj with rfl | hj
          · rw [he] at hje; injection hje with hje; subst hje; rw [hal] at ha; cases ha
          · exact inv.ap j e' ob hj hje ha hh
      | some ob =>
        obtain ⟨_, _, hn', _, hnd, hob, hsem⟩ := ho.al ob hal
        have hfr := inv.fr i e he hn e.s.n (Nat.le_refl _) (by rw [hn', nat_succ]; omega)
        obtain ⟨v', w', ob', t, g1, g2, g3, g4, g5⟩ := hsem ρ a w hvr hfr.1
        refine ⟨fun _ _ => trivial, ?_⟩
        show e.o.uponIn (FW l) 0 E.P a _ Q ((e.o.semAt l a.eval).run E.P w)
        rw [hex hnd, g1]
        have hst := Step.new inv.st.rel hfr.1 hfr.2 g3 g5 (rel_lt inv.st.rel) g2.heap g2.os g2.tape g2.output hob.2
        rw [← ovl_upd hob.1, ← hr.xs_add he hal hwin.2] at hst
        have hrg := hr.range he
        have hst2 := inv.st.within hst (by omega) (by rw [hn'] at hrg; omega)
        obtain ⟨t1, t2⟩ := hr.tm_add inv.cl hi hn he (v' := v') inv.sz inv.tm hst.ext g4
        refine ⟨_, k, df, hcl, hr.ks_same he hef inv.ks, hst2, ?_, ?_, t1, t2, inv.dfc, by rw [put_defers]; exact inv.dr.mono hst.ext⟩
        · intro j e' hj hns b h1 h2
          have hbn : b ≠ e.s.n := by
            intro hbe
            subst hbe
            rcases Nat.lt_trichotomy i j with h | h | h
            · have := hr.names he hj h; rw [hn', nat_succ] at this; omega
            · exact hns (.inl h.symm)
            · have := hr.names hj he h; omega
          have := inv.fr j e' hj (fun h => hns (.inr h)) b h1 h2
          rw [updR_other _ hbn, hr.xs_add he hal hwin.2, ovl_upd hob.1, upd_other _ _ hbn]
          exact this
        · intro j e' ob2 hj hje ha hh
          rcases hj with rfl | hj
          · rw [he] at hje; injection hje with hje; subst hje
            have := hfr.2
            by_cases hx : XS evs S k e.s.n = .x
            · rw [ovl_none hx] at this; exact this
            · rw [ovl_some hx] at this; exact absurd this hx
          · exact inv.ap j e' ob2 hj hje ha hh
    | true =>
      obtain ⟨hk, hks⟩ := hr.ks_next inv.cl hi hn he hef inv.ks
      subst hk
      obtain ⟨f1, f2, f3⟩ := hr.next_at he hef
      obtain ⟨hal, _, _, _⟩ := ho.ef hef
      have hlaid := hr.laid inv.cl hi he hef rfl
      have hst := inv.st
      have hfr := inv.fr
      have hap := inv.ap
      have hdf := inv.dfc.1 e hmem rfl
      rw [hr.heap_at hmem, hlaid] at hst
      simp only [hr.heap_at hmem, hlaid] at hfr
      simp only [hr.heap_at hmem] at hap
      have hX : ∀ b, XS evs S (e.s.k + 1) b ≠ .x → own (XS evs S (e.s.k + 1) b) ∧ hv e.hl b = .x ∧ ∃ j ev, S j ∧ evs[j]? = some ev ∧ ev.s.n = b ∧ ev.s'.n = ev.s.n.succ := by
        intro b hb'
        obtain ⟨ob, j, ev, h1, h2, h3, h4, h5⟩ := xs_inv hb'
        subst h5
        rw [hr.xs_some h2 h1 h3 h4]
        exact ⟨hr.al_own h2 h3, hr.apart_hl he hef rfl hap h1 h2 h3 h4, j, ev, h1, h2, rfl, ((hr.ok ev (List.mem_of_getElem? h2)).al ob h3).2.2.1⟩
      have hapart : ∀ (j : Nat) (ev : Ev), evs[j]? = some ev → j ≠ i → ∀ b : Pn, ev.s.n.nat ≤ b.nat → b.nat < ev.s'.n.nat → ¬ (e.s.n.nat ≤ b.nat ∧ b.nat < e.s'.n.nat) := by
        intro j ev hj hji b h1 h2 h3
        rcases Nat.lt_or_gt_of_ne hji with h | h
        · have := hr.names hj he h; omega
        · have := hr.names he hj h; omega
      have hnil : ∀ b, ovl (XS evs S (e.s.k + 1)) (hv e.hl) b = .x → XS evs S (e.s.k + 1) b = .x ∧ hv e.hl b = .x := by
        intro b h
        by_cases hx : XS evs S (e.s.k + 1) b = .x
        · exact ⟨hx, by rwa [ovl_none hx] at h⟩
        · rw [ovl_some hx] at h; exact absurd h hx
      have hR2 : Rel ρ (hv e.hl) w := hst.rel.weak fun b hb' => by
        by_cases hx : XS evs S (e.s.k + 1) b = .x
        · rw [ovl_none hx]
        · exact absurd (hX b hx).2.1 hb'
      have hF2 : Fresh ρ (hv e.hl) e.s.n e.s'.n := fun b h1 h2 => by
        obtain ⟨q1, q2⟩ := hfr i e he hn b h1 h2
        exact ⟨q1, (hnil b q2).2⟩
      have hdr : DR E ρ e.s.df a.defers := by rw [hdf]; exact inv.dr
      refine ho.efs hb hef ρ a w hg hvr hdr hR2 hF2 _ Q fun ρ' v' w' ds' st vr dr' => ?_
      have hx3 : ∀ b, XS evs S (e.s.k + 1) b ≠ .x → own (XS evs S (e.s.k + 1) b) ∧ hv e.hl b = .x ∧ hv e.s'.h b = .x := by
        intro b hb'
        obtain ⟨g1, g2, j, ev, g3, g4, g5, g6⟩ := hX b hb'
        refine ⟨g1, g2, ?_⟩
        apply Classical.byContradiction
        intro hc
        rcases st.lv b hc with h | h
        · exact h g2
        · exact hapart j ev g4 (fun hji => hn (by rw [← hji]; exact g3)) b (by rw [g5]; exact Nat.le_refl _) (by rw [g6, nat_succ, g5]; omega) h
      have hfs := Step.frame hst.rel st hx3
      have hrg := hr.range he
      have hst2 := hst.within hfs hrg.1 hrg.2.2
      have hhp : ovl (XS evs (fun x => x = i ∨ S x) (e.s.k + 1)) (hv (F.getD (e.s.k + 1) .leaf)) = ovl (XS evs S (e.s.k + 1)) (hv e.s'.h) := by
        rw [hr.xs_same he hal, f1]
      obtain ⟨t1, t2⟩ := hr.tm_add (a := { a with defers := ds' }) inv.cl hi hn he (v' := v') inv.sz inv.tm st.ext vr
      refine ⟨ρ', e.s.k + 1, e.s'.df, hcl, hks, by rw [hhp]; exact hst2, ?_, ?_, t1, t2, ⟨f2, f3⟩, by rw [put_defers]; exact dr'⟩
      · intro j e' hj hns b h1 h2
        obtain ⟨q1, q2⟩ := hfr j e' hj (fun h => hns (.inr h)) b h1 h2
        obtain ⟨q3, q4⟩ := hnil b q2
        have hnr := hapart j e' hj (fun h => hns (.inl h)) b h1 h2
        constructor
        · apply Classical.byContradiction
          intro hc
          exact hnr (st.nw b q1 hc)
        · rw [hhp, ovl_none q3]
          apply Classical.byContradiction
          intro hc
          rcases st.lv b hc with h | h
          · exact h q4
          · exact hnr h
      · intro j e' ob hj hje ha hh
        rcases hj with rfl | hj
        · rw [he] at hje; injection hje with hje; subst hje; rw [hal] at ha; cases ha
        · rw [f1]
          have hxs := hr.xs_some (k := e.s.k + 1) hje hj ha hh
          exact (hx3 e'.s.n (by rw [hxs]; exact (hr.al_own hje ha).1)).2.2
end
end Ax
end Go.Proofs.YtdfgnoflohfnmaaGreatDoor

/-! Regions that draw their order: every order. -/

namespace Go.Proofs.YtdfgnoflohfnmaaGreatDoor
namespace Ax
def left (N : Nat) (listed : Array Bool) : Nat := ((List.range N).filter fun x => !listed.getD x false).length
section
variable {E : Env} {l : Option Nat} {ops : Array Oper} {nt : Nat} {ck : List Ck} {F : List (Tr AO)} {es : List Nat} {evs : List Ev} {s0 sN : St}
theorem Row.len (hr : Row E l ops nt ck F es evs s0 sN) : evs.length = ops.size := by
  have := congrArg List.length hr.opsE
  simpa using this
def Lin (ops : Array Oper) : List Nat → (Nat → Prop) → Prop
  | [], S => ∀ x, x < ops.size → S x
  | i :: r, S => ¬ S i ∧ Ready ops.toList S i ∧ Lin ops r fun x => x = i ∨ S x
theorem Row.any (hr : Row E l ops nt ck F es evs s0 sN) {ρ0 : Ren} {w0 : World} (hg0 : GL E ρ0) (Q : Exit → Act → World → Prop)
    (hfin : ∀ (S : Nat → Prop) a w ρ k df, (∀ x, x < ops.size → S x) → Inv E nt F es evs s0 sN (befores ops.toList []) ρ0 w0 S a w ρ k df → Q .normal a w) :
    ∀ (σ : List Nat) (S : Nat → Prop) (a : Act) (w : World), Lin ops σ S → (∃ ρ k df, Inv E nt F es evs s0 sN (befores ops.toList []) ρ0 w0 S a w ρ k df) → wpOpsIn (FW l) 0 E.P ops Q σ a w
  | [], S, a, w, hL, ⟨ρ, k, df, inv⟩ => hfin _ a w ρ k df hL inv
  | i :: σ, S, a, w, hL, ⟨ρ, k, df, inv⟩ => by
    obtain ⟨h1, h2, h3⟩ := hL
    rw [wpOpsIn_cons]
    have hlt : i < ops.size := by
      obtain ⟨o, h4, _⟩ := h2
      have := (List.getElem?_eq_some_iff.1 h4).1
      simpa using this
    have hev : evs[i]? = some (evs[i]'(by rw [hr.len]; exact hlt)) := List.getElem?_eq_getElem _
    refine wpOpIn_mono (fun a' w' h => ?_) (hr.step hg0 inv h2 h1 hev Q)
    exact hr.any hg0 Q hfin σ _ a' w' h3 h
end
end Ax
end Go.Proofs.YtdfgnoflohfnmaaGreatDoor

/-! Regions that draw their order: the theorem. -/

namespace Go.Proofs.YtdfgnoflohfnmaaGreatDoor
namespace Ax
section
variable {E : Env} {o : Oper}
end
end Ax
end Go.Proofs.YtdfgnoflohfnmaaGreatDoor

/-! Ranges over maps by sets of entries: trees, what says no more, the iterator's steps. -/

namespace Go.Proofs.YtdfgnoflohfnmaaGreatDoor
namespace Ax
/-! ### trees -/
section
variable {α : Type}
end
theorem unbL_eq (l : Ents) : unbL l = l.map fun e => (e.1, e.2.1, none) := by
  induction l with
  | nil => rfl
  | cons e r ih => show _ :: unbL r = _; rw [ih]; rfl
structure OLe (o o' : AO) : Prop where
  rel : ∀ (ρ : Ren) (ob : Option Obj) (t : Bk), OR ρ ob t o → OR ρ ob t o'
  own : own o' → own o
  x : o' ≠ .x → o ≠ .x
  k : ∀ l ty, o' = .k l ty → o = .k l ty
theorem OLe.refl (o : AO) : OLe o o := ⟨fun _ _ _ h => h, fun h => h, fun h => h, fun _ _ h => h⟩
theorem OLe.none (o : AO) : OLe o .x := ⟨fun _ _ _ _ => trivial, fun h => absurd rfl h.1, fun h => absurd rfl h, fun _ _ h => by cases h⟩
theorem OLe.mp {l l2 : Ents} {c : Nat} (h : l2.Perm (unbL l)) : OLe (.mp l c) (.mp l2 c) := by
  refine ⟨fun ρ ob t hr => ?_, fun _ => ⟨by simp, by simp⟩, fun _ => by simp, fun _ _ e => by cases e⟩
  obtain ⟨es, l', h1, h2, h3, h4⟩ := hr
  refine ⟨es, unbL l', h1, ?_, ?_, h4⟩
  · rw [unbL_eq] at h ⊢
    exact (h2.map _).trans h.symm
  · rw [unbL_eq]
    refine ⟨by rw [h3.1, List.length_map], fun i e m k1 k2 => ?_⟩
    rw [List.getElem?_map] at k1
    cases hl : l'[i]? with
    | none => rw [hl] at k1; cases k1
    | some e0 =>
      rw [hl] at k1
      injection k1 with k1
      subst k1
      have := h3.2 i e0 m hl k2
      exact ⟨this.1, this.2.1, fun s hs => by cases hs⟩
section
variable {ρ ρ' : Ren} {H H' H2 : Hp} {w w' : World} {n n' : Pn}
end
end Ax
end Go.Proofs.YtdfgnoflohfnmaaGreatDoor

/-! What is asked of a piece of code; loops; a step keeps what it does not know of. -/

namespace Go.Proofs.YtdfgnoflohfnmaaGreatDoor
namespace Ax
section
variable {ρ ρ' : Ren} {H H' X : Hp} {w w' : World} {n n' : Pn}
end
section
variable {E : Env} {ρ ρ' : Ren} {H H' : Hp} {w w' : World}
theorem PostR.step {nt : Nat} {n n' : Pn} {Q : Exit → Act → World → Prop} {r : R} (h : PostR E nt ρ H w n Q r) (s : Step ρ H w n ρ' H' w' n') : PostR E nt ρ' H' w' n' Q r := h.step0 s
theorem PostR.mono {nt : Nat} {n : Pn} {Q Q' : Exit → Act → World → Prop} {r : R} (h : PostR E nt ρ H w n Q r) (hq : ∀ e a w, Q e a w → Q' e a w) : PostR E nt ρ H w n Q' r := by
  induction r with
  | er c => trivial
  | nm tm df h2 n2 => exact fun ρ2 a2 w2 s2 f2 d2 => hq _ _ _ (h ρ2 a2 w2 s2 f2 d2)
  | ex id tm df h2 n2 => exact fun ρ2 a2 w2 s2 f2 d2 => hq _ _ _ (h ρ2 a2 w2 s2 f2 d2)
  | rt tm df h2 n2 => exact fun ρ2 a2 w2 s2 f2 d2 => hq _ _ _ (h ρ2 a2 w2 s2 f2 d2)
  | al a b ih1 ih2 => exact ⟨ih1 h.1, ih2 h.2⟩
end
end Ax
end Go.Proofs.YtdfgnoflohfnmaaGreatDoor

/-! Ranges over maps by sets of entries: a round; the levels; the loop. -/

namespace Go.Proofs.YtdfgnoflohfnmaaGreatDoor
namespace Ax
section
variable {E : Env}
/-! ### levels -/
structure MLE (s t : MS) : Prop where
  n : t.n = s.n
  tm : ∀ ρ nt tmps, FR ρ nt s.tm tmps → FR ρ nt t.tm tmps
  h : ∀ b, OLe (hv s.h b) (hv t.h b)
def Goes (G : AV × AV × Option Nat → Tr AV → Tr AO → Pn → Tr AV → Tr AO → Pn → Prop) (s : MS) (e : AV × AV × Option Nat) (u : Nat) (acc : List MS) : Prop :=
  ∃ tm h n, G e s.tm s.h s.n tm h n ∧ ∃ t ∈ acc, t.u = u ∧ MLE { u, tm, h, n } t
theorem Goes.more {G : AV × AV × Option Nat → Tr AV → Tr AO → Pn → Tr AV → Tr AO → Pn → Prop} {s : MS} {e : AV × AV × Option Nat} {u : Nat} {acc acc' : List MS} (h : Goes G s e u acc) (ha : ∀ t ∈ acc, t ∈ acc') : Goes G s e u acc' := by
  obtain ⟨tm, hh, n, h1, t, h2, h3⟩ := h
  exact ⟨tm, hh, n, h1, t, ha t h2, h3⟩
section
variable {g : Bool} {rd : Rd} {G : AV × AV × Option Nat → Tr AV → Tr AO → Pn → Tr AV → Tr AO → Pn → Prop} (hrd : ∀ e tm h n k, Ok (rd e tm h n k) → ∃ tm' h' n', rd e tm h n k = k tm' h' n' ∧ G e tm h n tm' h' n')
include hrd
end
def SeenR (es : Array MapEntry) (f : Nat → Nat) (seen : Array Nat) (u : Nat) : Prop := ∀ (j : Nat) (e : MapEntry), es[j]? = some e → (seen.contains e.born = true ↔ u.testBit (f j) = true)
theorem SeenR.push {es : Array MapEntry} {f : Nat → Nat} {seen : Array Nat} {u : Nat} (h : SeenR es f seen u) (hn : (es.toList.map (·.born)).Nodup) (hf : ∀ i j, i < es.size → j < es.size → f i = f j → i = j) {j : Nat} {e : MapEntry} (he : es[j]? = some e) :
    SeenR es f (seen.push e.born) (u ||| 2 ^ f j) := by
  intro i x hx
  rw [contains_push, Nat.testBit_or, Nat.testBit_two_pow, Bool.or_eq_true, Bool.or_eq_true]
  have hi : i < es.size := (Array.getElem?_eq_some_iff.1 hx).1
  have hj : j < es.size := (Array.getElem?_eq_some_iff.1 he).1
  have hb : (x.born == e.born) = true ↔ i = j := by
    rw [beq_iff_eq]
    constructor
    · intro hbe
      have h1 : (es.toList.map (·.born))[i]? = some x.born := by rw [List.getElem?_map, Array.getElem?_toList, hx]; rfl
      have h2 : (es.toList.map (·.born))[j]? = some e.born := by rw [List.getElem?_map, Array.getElem?_toList, he]; rfl
      rw [hbe] at h1
      exact (List.getElem?_inj (by simpa using hi) hn).1 (h1.trans h2.symm)
    · rintro rfl
      rw [he] at hx
      injection hx with hx
      rw [hx]
  rw [hb, decide_eq_true_eq]
  constructor
  · rintro (h1 | h1)
    · exact .inl ((h i x hx).1 h1)
    · exact .inr (by rw [h1])
  · rintro (h1 | h1)
    · exact .inl ((h i x hx).2 h1)
    · exact .inr (hf i j hi hj h1.symm)
end
end Ax
end Go.Proofs.YtdfgnoflohfnmaaGreatDoor

/-! Ranges over maps by sets of entries: the loop. -/

namespace Go.Proofs.YtdfgnoflohfnmaaGreatDoor
namespace Ax
section
variable {E : Env}
section
variable {g : Bool} {nt : Nat} {ρ0 : Ren} {H0 : Hp} {w0 : World} {n0 : Pn} {ib m : Pn} {tb mb : Bk} {l : Ents} {c : Nat} {es : Array MapEntry} {f : Nat → Nat}
end
end
end Ax
end Go.Proofs.YtdfgnoflohfnmaaGreatDoor

/-! Ranges over maps by sets of entries: the theorem. -/

namespace Go.Proofs.YtdfgnoflohfnmaaGreatDoor
namespace Ax
section
variable {E : Env}
end
end Ax
end Go.Proofs.YtdfgnoflohfnmaaGreatDoor

/-! Two effects that stand in no order: both orders are run. -/

namespace Go.Proofs.YtdfgnoflohfnmaaGreatDoor
namespace Ax
structure Pm (pl : List Nat) (N : Nat) : Prop where
  len : pl.length = N
  at' : ∀ i, i < N → pl[pl.idxOf i]? = some i ∧ pl.idxOf i < N
  onto : ∀ x, x < N → ∃ y, y < N ∧ pl.idxOf y = x
theorem Pm.inj {pl : List Nat} {N : Nat} (h : Pm pl N) {i j : Nat} (hi : i < N) (hj : j < N) (e : pl.idxOf i = pl.idxOf j) : i = j := by
  have h1 := (h.at' i hi).1
  have h2 := (h.at' j hj).1
  rw [e, h2] at h1
  exact (Option.some.inj h1).symm
section
variable {E : Env}
end
end Ax
end Go.Proofs.YtdfgnoflohfnmaaGreatDoor

/-! Code, bodies. -/

namespace Go.Proofs.YtdfgnoflohfnmaaGreatDoor
namespace Ax
section
variable {E : Env} {ρ ρ' : Ren} {H H' : Hp} {w w' : World}
end
end Ax
end Go.Proofs.YtdfgnoflohfnmaaGreatDoor
