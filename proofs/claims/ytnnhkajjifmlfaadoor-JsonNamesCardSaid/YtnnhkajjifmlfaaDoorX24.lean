/- Regions that draw their order: the frame of a step; what stands ahead of what. -/
import Derived.Test.YtnnhkajjifmlfaaDoorX23
import Derived.OrdersIn
namespace Go.Proofs.YtnnhkajjifmlfaaDoor
namespace Ax
/-- a heap laid over another -/
noncomputable def ovl (X H : Hp) : Hp := fun b => open Classical in if X b = .x then H b else X b
theorem ovl_none {X H : Hp} {b : Pn} (h : X b = .x) : ovl X H b = H b := by simp [ovl, h]
theorem ovl_some {X H : Hp} {b : Pn} (h : X b ≠ .x) : ovl X H b = X b := by simp [ovl, h]
section
variable {ρ ρ' ρ0 : Ren} {H H' H0 X : Hp} {w w' w0 : World} {n n' n0 m : Pn}
/-- a step keeps what it does not know of -/
theorem Step.frame (h : Rel ρ (ovl X H) w) (s : Step ρ H w n ρ' H' w' n') (hx : ∀ b, X b ≠ .x → own (X b) ∧ H b = .x ∧ H' b = .x) : Step ρ (ovl X H) w n ρ' (ovl X H') w' n' := by
  -- a framed block is none of the step's
  have hap : ∀ b t, X b ≠ .x → ρ b = some t → ∀ b0 t0, H b0 ≠ .x → ρ b0 = some t0 → t0.c ≠ t.c := by
    intro b t hb ht b0 t0 h0 ht0 e
    have hX0 : X b0 = .x := by
      apply Classical.byContradiction
      intro hc
      exact h0 (hx b0 hc).2.1
    have := h.inj b b0 t t0 (by rw [ovl_some hb]; exact (hx b hb).1) (by rw [ovl_none hX0]; exact h0) ht ht0 e.symm
    subst this
    exact hb hX0
  have hlt : ∀ b t, X b ≠ .x → ρ b = some t → t.c < w.heap.size := fun b t hb ht => rel_lt h b t (by rw [ovl_some hb]; exact hb) ht
  have hρ : ∀ b, X b ≠ .x → ∃ t, ρ b = some t ∧ OR ρ w.heap[t.c]? t (X b) := by
    intro b hb
    have := h.ob b (by rw [ovl_some hb]; exact hb)
    rwa [ovl_some hb] at this
  refine ⟨s.ext, s.nw, ?_, s.le, ⟨?_, ?_⟩, s.size, ?_, ?_, s.os, s.tape, s.output, ?_⟩
  · intro b hb
    by_cases hX : X b = .x
    · rw [ovl_none hX] at hb ⊢; exact s.lv b hb
    · exact .inl (by rw [ovl_some hX]; exact hX)
  · intro b hb
    by_cases hX : X b = .x
    · rw [ovl_none hX] at hb ⊢; exact s.rel.ob b hb
    · rw [ovl_some hX]
      obtain ⟨t, h1, h2⟩ := hρ b hX
      refine ⟨t, s.ext _ _ h1, ?_⟩
      rw [s.same t.c (hlt b t hX h1) (fun b0 t0 h3 h4 => hap b t hX h1 b0 t0 h3.1 h4)]
      exact h2.mono s.ext
  · intro b b' t t' h1 h2 h3 h4 h5
    by_cases hX : X b = .x
    · rw [ovl_none hX] at h1
      by_cases hX' : X b' = .x
      · rw [ovl_none hX'] at h2
        exact s.rel.inj b b' t t' h1 h2 h3 h4 h5
      · exfalso
        obtain ⟨t1, g1, _⟩ := hρ b' hX'
        obtain rfl := Option.some.inj (h4.symm.trans (s.ext _ _ g1))
        rcases s.owns b t h1 h3 with ⟨b0, t0, p1, p2, p3⟩ | p
        · exact hap b' t' hX' g1 b0 t0 p1.1 p2 (by omega)
        · have := hlt b' t' hX' g1; omega
    · obtain ⟨t1, g1, _⟩ := hρ b hX
      obtain rfl := Option.some.inj (h3.symm.trans (s.ext _ _ g1))
      by_cases hX' : X b' = .x
      · exfalso
        rw [ovl_none hX'] at h2
        cases hk : H' b' with
        | k l ty =>
          have hk0 := s.ks b' l ty hk
          have hne : H b' ≠ .x := by rw [hk0]; simp
          obtain ⟨t2, q1, _⟩ := h.ob b' (by rw [ovl_none hX']; exact hne)
          obtain rfl := Option.some.inj (h4.symm.trans (s.ext _ _ q1))
          exact hap b t hX g1 b' t' hne q1 h5.symm
        | x => exact h2 hk
        | _ =>
          have hown : own (H' b') := ⟨by rw [hk]; simp, by rw [hk]; simp⟩
          rcases s.owns b' t' hown h4 with ⟨b0, t0, p1, p2, p3⟩ | p
          · exact hap b t hX g1 b0 t0 p1.1 p2 (by omega)
          · have := hlt b t hX g1; omega
      · obtain ⟨t2, g2, _⟩ := hρ b' hX'
        obtain rfl := Option.some.inj (h4.symm.trans (s.ext _ _ g2))
        exact h.inj b b' t t' (by rw [ovl_some hX]; exact (hx b hX).1) (by rw [ovl_some hX']; exact hX') g1 g2 h5
  · intro k hk hn
    refine s.same k hk fun b t h1 h2 => hn b t ?_ h2
    have hX : X b = .x := by
      apply Classical.byContradiction
      intro hc
      exact h1.1 (hx b hc).2.1
    rw [ovl_none hX]; exact h1
  · intro b t h1 h2
    by_cases hX : X b = .x
    · rw [ovl_none hX] at h1
      rcases s.owns b t h1 h2 with ⟨b0, t0, p1, p2, p3⟩ | p
      · have hX0 : X b0 = .x := by
          apply Classical.byContradiction
          intro hc
          exact p1.1 (hx b0 hc).2.1
        exact .inl ⟨b0, t0, by rw [ovl_none hX0]; exact p1, p2, p3⟩
      · exact .inr p
    · obtain ⟨t1, g1, _⟩ := hρ b hX
      obtain rfl := Option.some.inj (h2.symm.trans (s.ext _ _ g1))
      exact .inl ⟨b, t, by rw [ovl_some hX]; exact (hx b hX).1, g1, rfl⟩
  · intro b l ty e
    by_cases hX : X b = .x
    · rw [ovl_none hX] at e ⊢; exact s.ks b l ty e
    · rw [ovl_some hX] at e
      exact absurd e ((hx b hX).1.2 l ty)
/-- a step behind a step, its names among the first one's -/
theorem Step.within (h : Step ρ0 H0 w0 n0 ρ H w m) (k : Step ρ H w n ρ' H' w' n') (h1 : n0.nat ≤ n.nat) (h2 : n'.nat ≤ m.nat) : Step ρ0 H0 w0 n0 ρ' H' w' m where
  ext := Ren.le_trans h.ext k.ext
  nw := fun b e1 e2 => by
    by_cases e : ρ b = none
    · have := k.nw b e e2; omega
    · exact h.nw b e1 e
  lv := fun b hb => by
    rcases k.lv b hb with g | g
    · exact h.lv b g
    · right; omega
  le := h.le
  rel := k.rel
  size := Nat.le_trans h.size k.size
  same := fun j hj hn => by
    rw [k.same j (Nat.lt_of_lt_of_le hj h.size) (fun b t g1 g2 e => by
      rcases h.owns b t g1 g2 with ⟨b0, t0, g3, g4, g5⟩ | g3
      · exact hn b0 t0 g3 g4 (by omega)
      · omega)]
    exact h.same j hj hn
  owns := fun b t g1 g2 => by
    rcases k.owns b t g1 g2 with ⟨b0, t0, g3, g4, g5⟩ | g3
    · rcases h.owns b0 t0 g3 g4 with ⟨b1, t1, g6, g7, g8⟩ | g6
      · exact .inl ⟨b1, t1, g6, g7, by omega⟩
      · exact .inr (by omega)
    · exact .inr (Nat.le_trans h.size g3)
  os := k.os.trans h.os
  tape := k.tape.trans h.tape
  output := k.output.trans h.output
  ks := fun b l ty e => h.ks b l ty (k.ks b l ty e)
theorem Step.start (h : Rel ρ H w) (hle : n.nat ≤ m.nat) : Step ρ H w n ρ H w m :=
  { Step.refl (n := n) h with le := hle, nw := fun _ h k => absurd h k, lv := fun _ h => .inl h }
end

/-! ### bits -/
theorem befores_len : ∀ (ops : List Oper) (acc : List Nat), (befores ops acc).length = acc.length + ops.length
  | [], acc => by simp [befores]
  | o :: r, acc => by rw [befores, befores_len r]; simp; omega
theorem befores_old : ∀ (ops : List Oper) (acc : List Nat) (j : Nat), j < acc.length → (befores ops acc).getD j 0 = acc.getD j 0
  | [], acc, j, _ => rfl
  | o :: r, acc, j, h => by
    rw [befores, befores_old r _ j (by simp; omega)]
    simp only [List.getD_eq_getElem?_getD]
    rw [List.getElem?_append_left h]
theorem fold_bits (acc : List Nat) (j : Nat) : ∀ (l : List Edge) (s : Nat), (l.foldl (fun s e => if Region.binds .any e then s ||| 2 ^ e.on ||| acc.getD e.on 0 else s) s).testBit j = true →
    s.testBit j = true ∨ ∃ e ∈ l, Region.binds .any e = true ∧ (j = e.on ∨ (acc.getD e.on 0).testBit j = true)
  | [], s, h => .inl h
  | e :: l, s, h => by
    rw [List.foldl_cons] at h
    rcases fold_bits acc j l _ h with h1 | ⟨e', h1, h2, h3⟩
    · cases hb : Region.binds .any e with
      | false => rw [hb] at h1; exact .inl h1
      | true =>
        rw [hb, if_pos rfl, Nat.testBit_or, Nat.testBit_or, Bool.or_eq_true, Bool.or_eq_true] at h1
        rcases h1 with (h1 | h1) | h1
        · exact .inl h1
        · rw [Nat.testBit_two_pow, decide_eq_true_eq] at h1
          exact .inr ⟨e, by simp, hb, .inl h1.symm⟩
        · exact .inr ⟨e, by simp, hb, .inr h1⟩
    · exact .inr ⟨e', by simp [h1], h2, h3⟩
theorem befores_bit : ∀ (ops : List Oper) (acc : List Nat) (q : Nat) (o : Oper) (j : Nat), ops[q]? = some o → ((befores ops acc).getD (acc.length + q) 0).testBit j = true →
    ∃ e ∈ o.after.toList, Region.binds .any e = true ∧ (j = e.on ∨ ((befores ops acc).getD e.on 0).testBit j = true)
  | [], acc, q, o, j, h, _ => by simp at h
  | o0 :: r, acc, 0, o, j, h, hb => by
    simp at h
    subst h
    rw [befores] at hb ⊢
    rw [befores_old r _ _ (by simp)] at hb
    simp only [Nat.add_zero, List.getD_eq_getElem?_getD] at hb
    rw [List.getElem?_append_right (Nat.le_refl _)] at hb
    simp only [Nat.sub_self, List.getElem?_cons_zero, Option.getD_some] at hb
    have e0 : (fun (s : Nat) (e : Edge) => if Region.binds .any e then s ||| 2 ^ e.on ||| acc[e.on]?.getD 0 else s) = fun s e => if Region.binds .any e then s ||| 2 ^ e.on ||| acc.getD e.on 0 else s := by
      funext s e; rw [List.getD_eq_getElem?_getD]
    rw [e0] at hb
    rcases fold_bits acc j _ 0 hb with h1 | ⟨e, h1, h2, h3⟩
    · simp at h1
    · refine ⟨e, h1, h2, ?_⟩
      rcases h3 with h3 | h3
      · exact .inl h3
      · right
        by_cases hlt : e.on < acc.length
        · rw [befores_old r _ _ (by simp; omega)]
          simp only [List.getD_eq_getElem?_getD] at h3 ⊢
          rw [List.getElem?_append_left hlt]; exact h3
        · rw [List.getD_eq_getElem?_getD, List.getElem?_eq_none (by omega)] at h3
          simp at h3
  | o0 :: r, acc, q + 1, o, j, h, hb => by
    rw [befores] at hb ⊢
    exact befores_bit r _ q o j (by simpa using h) (by rw [List.length_append]; simp only [List.length_cons, List.length_nil]; rw [show acc.length + (0 + 1) + q = acc.length + (q + 1) from by omega]; exact hb)
/-- a set of operations that holds what stands ahead of each -/
def Closed (bs : List Nat) (S : Nat → Prop) : Prop := ∀ i, S i → ∀ j, (bs.getD i 0).testBit j = true → S j
/-- an operation whose edges lead into a closed set -/
def Ready (ops : List Oper) (S : Nat → Prop) (i : Nat) : Prop := ∃ o, ops[i]? = some o ∧ ∀ e ∈ o.after.toList, Region.binds .any e = true → S e.on
theorem ready_bits {ops : List Oper} {S : Nat → Prop} {i : Nat} (hS : Closed (befores ops []) S) (hi : Ready ops S i) (j : Nat) (hj : ((befores ops []).getD i 0).testBit j = true) : S j := by
  obtain ⟨o, h1, h2⟩ := hi
  obtain ⟨e, h3, h4, h5⟩ := befores_bit ops [] i o j h1 (by simpa using hj)
  rcases h5 with rfl | h5
  · exact h2 e h3 h4
  · exact hS _ (h2 e h3 h4) j h5
theorem closed_add {ops : List Oper} {S : Nat → Prop} {i : Nat} (hS : Closed (befores ops []) S) (hi : Ready ops S i) : Closed (befores ops []) (fun x => x = i ∨ S x) := by
  intro x hx j hj
  rcases hx with rfl | hx
  · exact .inr (ready_bits hS hi j hj)
  · exact .inr (hS x hx j hj)
theorem edges_prefix {ops : List Oper} : ∀ (l : List Oper) (i : Nat), edgesOk l i = true → ∀ q o, l[q]? = some o → ∀ e ∈ o.after.toList, Region.binds .any e = true → e.on < i + q
  | [], i, _, q, o, h => by simp at h
  | o0 :: r, i, h, q, o, hq => by
    rw [edgesOk, Bool.and_eq_true] at h
    intro e he hb
    cases q with
    | zero =>
      simp at hq
      subst hq
      have := List.all_eq_true.1 h.1 e he
      rw [hb] at this
      simp only [Bool.not_true, Bool.false_or] at this
      have := ble_iff.1 this
      omega
    | succ q =>
      have := edges_prefix (ops := ops) r (i + 1) h.2 q o (by simpa using hq) e he hb
      omega
theorem prefix_closed {ops : List Oper} (h : edgesOk ops 0 = true) (n : Nat) : Closed (befores ops []) (fun x => x < n) := by
  intro i
  induction i using Nat.strongRecOn with
  | _ i ih =>
    intro hi j hj
    cases ho : ops[i]? with
    | none =>
      have hle : (befores ops []).length ≤ i := by rw [befores_len]; simpa using List.getElem?_eq_none_iff.1 ho
      rw [List.getD_eq_getElem?_getD, List.getElem?_eq_none hle] at hj
      simp at hj
    | some o =>
      obtain ⟨e, h3, h4, h5⟩ := befores_bit ops [] i o j ho (by simpa using hj)
      have hlt := edges_prefix (ops := ops) ops 0 h i o ho e h3 h4
      rcases h5 with rfl | h5
      · show e.on < n; omega
      · exact ih e.on (by omega) (by show e.on < n; omega) j h5
theorem prefix_ready {ops : List Oper} (h : edgesOk ops 0 = true) {i : Nat} {o : Oper} (ho : ops[i]? = some o) : Ready ops (fun x => x < i) i :=
  ⟨o, ho, fun e he hb => by have := edges_prefix (ops := ops) ops 0 h i o ho e he hb; omega⟩
/-- in a chain, whoever is in holds those ahead -/
theorem chain_closed {bs : List Nat} {S : Nat → Prop} (hS : Closed bs S) : ∀ {es : List Nat}, chain bs es = true → ∀ (q : Nat) (e : Nat), es[q + 1]? = some e → S e → ∃ e', es[q]? = some e' ∧ S e'
  | [], _, q, e, h, _ => by simp at h
  | [_], _, q, e, h, _ => by simp at h
  | a :: b :: r, hc, q, e, h, he => by
    rw [chain, Bool.and_eq_true] at hc
    cases q with
    | zero =>
      simp at h
      subst h
      exact ⟨a, rfl, hS _ he a hc.1⟩
    | succ q =>
      obtain ⟨e', h1, h2⟩ := chain_closed hS hc.2 q e (by simpa using h) he
      exact ⟨e', by simpa using h1, h2⟩
/-- so many effects of a closed set: the first ones -/
theorem chain_first {bs : List Nat} {S : Nat → Prop} (hS : Closed bs S) {es : List Nat} (hc : chain bs es = true) : ∀ (q q' e : Nat), q ≤ q' → es[q']? = some e → S e → ∃ e', es[q]? = some e' ∧ S e' := by
  intro q q' e hle
  induction q' generalizing e with
  | zero =>
    intro h he
    have h0 : q = 0 := by omega
    subst h0
    exact ⟨e, h, he⟩
  | succ q' ih =>
    intro h he
    by_cases hq : q = q' + 1
    · subst hq; exact ⟨e, h, he⟩
    · obtain ⟨e', h1, h2⟩ := chain_closed hS hc q' e h he
      exact ih e' (by omega) h1 h2
theorem loOf_spec (b : Nat) : ∀ (es : List Nat) (q : Nat), q < loOf b es → ∃ e, es[q]? = some e ∧ b.testBit e = true
  | [], q, h => by simp [loOf] at h
  | e :: r, q, h => by
    rw [loOf] at h
    split at h
    · rename_i hb
      cases q with
      | zero => exact ⟨e, rfl, hb⟩
      | succ q =>
        obtain ⟨e', h1, h2⟩ := loOf_spec b r q (by omega)
        exact ⟨e', by simpa using h1, h2⟩
    · omega
theorem loOf_le (b : Nat) : ∀ es : List Nat, loOf b es ≤ es.length
  | [] => Nat.le_refl _
  | e :: r => by
    rw [loOf]
    have := loOf_le b r
    split <;> simp <;> omega
theorem hiOf_spec (bs : List Nat) (i : Nat) : ∀ (es : List Nat), hiOf bs i es ≤ es.length ∧ ∀ e, es[hiOf bs i es]? = some e → (bs.getD e 0).testBit i = true
  | [] => ⟨Nat.le_refl _, fun e h => by simp [hiOf] at h⟩
  | e :: r => by
    obtain ⟨h1, h2⟩ := hiOf_spec bs i r
    rw [hiOf]
    split
    · rename_i hb; exact ⟨by simp, fun e' h => by simp at h; subst h; exact hb⟩
    · exact ⟨by simp; omega, fun e' h => h2 e' (by simpa using h)⟩
end Ax
end Go.Proofs.YtnnhkajjifmlfaaDoor
