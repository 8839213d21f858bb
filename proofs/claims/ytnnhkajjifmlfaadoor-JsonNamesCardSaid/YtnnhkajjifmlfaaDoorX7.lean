/- '==' of the executor. -/
import Derived.Test.YtnnhkajjifmlfaaDoorX6
import Derived.Laws.StructEq
namespace Go.Proofs.YtnnhkajjifmlfaaDoor
namespace Ax

theorem beq_eq (a b : Bool) : beq a b = (a == b) := by cases a <;> cases b <;> rfl
/-- what two plain values come to -/
inductive Pl : Nat → AV → AV → Bool → Prop
  | b (x y : Bool) : Pl 1 (.b x) (.b y) (x == y)
  | i (q : IntKind) (x y : Int) : Pl 2 (.i q x) (.i q y) (x == y)
  | s (x y : List UInt8) : Pl 3 (.s x) (.s y) (x == y)
theorem plEq_inv {kd : Nat} {x y : AV} {k : Bool → R} (h : Ok (plEq kd x y k)) : ∃ b, plEq kd x y k = k b ∧ Pl kd x y b := by
  unfold plEq at h ⊢
  split at h
  · obtain ⟨h1, h2⟩ := ifK_inv h
    obtain rfl := beq_iff.1 h1
    exact ⟨_, h2, by rw [beq_eq]; exact .b _ _⟩
  · obtain ⟨h1, h2⟩ := ifK_inv h
    rw [Bool.and_eq_true] at h1
    have := kidx_inj h1.2
    subst this
    obtain rfl := beq_iff.1 h1.1
    exact ⟨_, h2, by rw [ieq_eq]; exact .i _ _ _⟩
  · obtain ⟨h1, h2⟩ := ifK_inv h
    obtain rfl := beq_iff.1 h1
    exact ⟨_, h2, by rw [seq_eq]; exact .s _ _⟩
  · exact (ok_er h).elim
theorem pl_run {P : Program} {kd : Nat} {x y : AV} {b : Bool} (h : Pl kd x y b) {d : TypeDesc} {t : TypeId} (hd : P.underlying t = some d) (hk : (kd = 1 ∧ d = .bool) ∨ (kd = 2 ∧ ∃ q, d = .int q) ∨ (kd = 3 ∧ d = .string))
    (ρ : Ren) {v v' : Value} (h1 : VR ρ x v) (h2 : VR ρ y v') (n : Nat) (w : World) : (Op.equalIn (n + 1) t v v').run P w = .ok b w := by
  cases h with
  | b x y =>
    rw [h1.b_inv, h2.b_inv]
    have : d = .bool := by rcases hk with ⟨_, h⟩ | ⟨h, _⟩ | ⟨h, _⟩ <;> first | exact h | cases h
    subst this
    exact run_equalIn_bool w n t x y hd
  | i q x y =>
    rw [h1.i_inv, h2.i_inv]
    obtain ⟨q', rfl⟩ : ∃ q, d = .int q := by rcases hk with ⟨h, _⟩ | ⟨_, h⟩ | ⟨h, _⟩ <;> first | exact h | cases h
    exact run_equalIn_int w n t q q' x y hd
  | s x y =>
    rw [h1.s_inv, h2.s_inv]
    have : d = .string := by rcases hk with ⟨h, _⟩ | ⟨h, _⟩ | ⟨_, h⟩ <;> first | exact h | cases h
    subst this
    rw [run_equalIn_string w n t _ _ hd, s_list, s_list]

/-- what two rows of plain cells come to -/
inductive CRel : List Nat → List AV → List AV → Bool → Prop
  | nil (l m : List AV) : CRel [] l m true
  | no {kd : Nat} {a b : AV} (ks : List Nat) (l m : List AV) (h : Pl kd a b false) : CRel (kd :: ks) (a :: l) (b :: m) false
  | yes {kd : Nat} {a b : AV} {ks : List Nat} {l m : List AV} {r : Bool} (h : Pl kd a b true) (hs : CRel ks l m r) : CRel (kd :: ks) (a :: l) (b :: m) r
theorem cEq_inv (ks : List Nat) : ∀ {l m : List AV} {k : Bool → R}, Ok (cEq ks l m k) → ∃ b, cEq ks l m k = k b ∧ CRel ks l m b := by
  induction ks with
  | nil => exact fun _ => ⟨true, rfl, .nil _ _⟩
  | cons kd ks ih =>
    intro l m k h
    cases l with
    | nil => exact (ok_er h).elim
    | cons a l => cases m with
      | nil => exact (ok_er h).elim
      | cons b m =>
        have e : cEq (kd :: ks) (a :: l) (b :: m) k = plEq kd a b fun t => Bool.rec (k false) (cEq ks l m k) t := rfl
        rw [e] at h ⊢
        obtain ⟨c, h1, h2⟩ := plEq_inv h
        rw [h1] at h ⊢
        cases c with
        | false => exact ⟨false, rfl, .no ks l m h2⟩
        | true =>
          obtain ⟨r, h3, h4⟩ := ih h
          exact ⟨r, h3, .yes h2 h4⟩
theorem CRel.split {ks ms : List Nat} {l m : List AV} {b : Bool} (h : CRel (ks ++ ms) l m b) : (CRel ks l m false ∧ b = false) ∨ (CRel ks l m true ∧ CRel ms (l.drop ks.length) (m.drop ks.length) b) := by
  induction ks generalizing l m with
  | nil => exact .inr ⟨.nil _ _, h⟩
  | cons kd ks ih =>
    cases h with
    | no _ l m h => exact .inl ⟨.no ks l m h, rfl⟩
    | yes h hs =>
      rcases ih hs with ⟨h1, h2⟩ | ⟨h1, h2⟩
      · exact .inl ⟨.yes h h1, h2⟩
      · exact .inr ⟨.yes h h1, h2⟩
theorem CRel.take {ks : List Nat} {l m : List AV} {b : Bool} (h : CRel ks l m b) : CRel ks (l.take ks.length) (m.take ks.length) b := by
  induction h with
  | nil l m => exact .nil _ _
  | no ks l m h => exact .no _ _ _ h
  | yes h _ ih => exact .yes h ih
theorem CRel.ne {ks : List Nat} {l m : List AV} {b : Bool} (h : CRel ks l m b) (h1 : ks.length = 1) : l ≠ [] ∧ m ≠ [] := by
  cases h with
  | nil => cases h1
  | no => exact ⟨by simp, by simp⟩
  | yes => exact ⟨by simp, by simp⟩
section
variable {P : Program} {t : TypeId} {i : TI}
theorem run_part {w : World} (h : TOK P t i) (xs : List Value) (o : Nat) {v : Value} (hv : i.agg = false → xs[o]? = some v) (ha : i.agg = true → v = .agg ((xs.drop o).take i.size).toArray) :
    (part t xs.toArray o).run P w = .ok v w := by
  unfold part
  rw [Sem.run_bind, h.run_agg]
  cases e : i.agg with
  | true =>
    rw [ha e]
    simp only [Result.andThen_ok, if_true, Sem.run_bind, h.run_size, Sem.run_pure]
    congr 2
    apply Array.ext'
    simp [List.extract_eq_take_drop]
  | false =>
    simp [hv e]
end
/-- a value of a type, by its cells -/
def AsV (agg : Bool) (xs : List Value) (v : Value) : Prop := (agg = true → v = .agg xs.toArray) ∧ (agg = false → xs = [v])
def KindS (E : Env) (n : Nat) (t : TypeId) (ks : List Nat) : Prop :=
  ∃ i, E.ti t = some i ∧ (i.agg = true → i.size = ks.length) ∧ (i.agg = false → ks.length = 1) ∧ ∀ l m b, CRel ks l m b →
    ∀ (ρ : Ren) (xs ys : List Value) (w : World) (d : Nat) (v v' : Value), n ≤ d → VRs ρ (l.take ks.length) xs → VRs ρ (m.take ks.length) ys → AsV i.agg xs v → AsV i.agg ys v' → (Op.equalIn d t v v').run E.P w = .ok b w
theorem kinds_fs {E : Env} (hE : EOK E) {n : Nat} {st : TypeId → Option (List Nat)} (hst : ∀ t ks, st t = some ks → KindS E n t ks) : ∀ (fs : List Field) (o : Nat) (ks : List Nat), kindsFs st o fs = some ks →
    ∀ l m b, CRel ks (l.drop o) (m.drop o) b → ∀ (ρ : Ren) (xs ys : List Value) (w : World) (d : Nat), n ≤ d → VRs ρ l xs → VRs ρ m ys → (Op.eqFields d xs.toArray ys.toArray fs).run E.P w = .ok b w
  | [], o, ks, h, l, m, b, hk => by
    simp only [kindsFs] at h
    injection h with h
    subst h
    cases hk
    exact fun ρ xs ys w d _ _ _ => rfl
  | f :: r, o, ks, h, l, m, b, hk => by
    simp only [kindsFs] at h
    split at h
    · rename_i ks1 hc h1
      split at h
      · rename_i ms h2
        injection h with h
        subst h
        rw [Bool.and_eq_true, beq_iff] at hc
        obtain ⟨ho, hnm⟩ := hc
        have hname : f.name ≠ "_" := by
          intro e
          rw [e] at hnm
          simp at hnm
        obtain ⟨i, hi, hag, hsc, hs⟩ := hst _ _ h1
        have hT := tok hE hi
        -- the field's own value
        have hp : ∀ (ρ : Ren) (l : List AV) (xs : List Value) (w : World), VRs ρ l xs → (ks1.length = 1 → l.drop o ≠ []) → ∃ v, (part f.type xs.toArray f.offset).run E.P w = .ok v w ∧ AsV i.agg ((xs.drop o).take ks1.length) v := by
          intro ρ l xs w hv hne
          cases ha : i.agg with
          | true => exact ⟨_, run_part hT xs f.offset (fun e => (by rw [ha] at e; cases e)) (fun _ => rfl), fun _ => (by rw [ho, hag ha]), fun e => (by cases e)⟩
          | false =>
            have h0 := hne (hsc ha)
            have hlt : o < l.length := by
              apply Nat.lt_of_not_le
              intro hle
              exact h0 (List.drop_eq_nil_of_le hle)
            have hlt' : o < xs.length := by rw [hv.1]; exact hlt
            refine ⟨xs[o], run_part hT xs f.offset (fun _ => (by rw [ho]; exact List.getElem?_eq_getElem hlt')) (fun e => (by rw [ha] at e; cases e)), ⟨fun e => (by cases e), fun _ => ?_⟩⟩
            rw [hsc ha, List.drop_eq_getElem_cons hlt']
            rfl
        intro ρ xs ys w d hd hx hy
        rcases hk.split with ⟨g1, rfl⟩ | ⟨g1, g2⟩
        · obtain ⟨v, p1, p2⟩ := hp ρ l xs w hx (fun e => (g1.ne e).1)
          obtain ⟨v', q1, q2⟩ := hp ρ m ys w hy (fun e => (g1.ne e).2)
          have he := hs _ _ _ g1 ρ _ _ w d v v' hd ((hx.drop o).take _) ((hy.drop o).take _) p2 q2
          simp only [Op.eqFields, if_pos hname, Sem.run_bind, p1, Result.andThen_ok, q1, he]
          rfl
        · obtain ⟨v, p1, p2⟩ := hp ρ l xs w hx (fun e => (g1.ne e).1)
          obtain ⟨v', q1, q2⟩ := hp ρ m ys w hy (fun e => (g1.ne e).2)
          have he := hs _ _ _ g1 ρ _ _ w d v v' hd ((hx.drop o).take _) ((hy.drop o).take _) p2 q2
          rw [List.drop_drop, List.drop_drop] at g2
          simp only [Op.eqFields, if_pos hname, Sem.run_bind, p1, Result.andThen_ok, q1, he]
          exact kinds_fs hE hst r (o + ks1.length) ms h2 l m b g2 ρ xs ys w d hd hx hy
      · cases h
    · cases h
theorem kinds_one {E : Env} (hE : EOK E) {n : Nat} {t : TypeId} {i : TI} {kd : Nat} (hi : E.ti t = some i) (hk : (kd = 1 ∧ i.d = .bool) ∨ (kd = 2 ∧ ∃ q, i.d = .int q) ∨ (kd = 3 ∧ i.d = .string)) : KindS E (n + 1) t [kd] := by
  have hT := tok hE hi
  have ha : i.agg = false := by
    rw [hT.agg]
    rcases hk with ⟨_, h⟩ | ⟨_, q, h⟩ | ⟨_, h⟩ <;> rw [h] <;> rfl
  refine ⟨i, hi, fun e => (by rw [ha] at e; cases e), fun _ => rfl, fun l m b hc ρ xs ys w d v v' hd hx hy p q => ?_⟩
  rw [p.2 ha] at hx
  rw [q.2 ha] at hy
  obtain ⟨d, rfl⟩ : ∃ e, d = e + 1 := ⟨d - 1, by omega⟩
  cases hc with
  | no _ l m h => exact pl_run h hT.un hk ρ (hx.2 0 _ v rfl rfl) (hy.2 0 _ v' rfl rfl) d w
  | yes h hs => cases hs; exact pl_run h hT.un hk ρ (hx.2 0 _ v rfl rfl) (hy.2 0 _ v' rfl rfl) d w
theorem kinds_sound {E : Env} (hE : EOK E) : ∀ (n : Nat) (t : TypeId) (ks : List Nat), kindsT E n t = some ks → KindS E n t ks
  | 0, t, ks, h => by cases h
  | n + 1, t, ks, h => by
    simp only [kindsT] at h
    split at h
    · rename_i i hi
      have hT := tok hE hi
      split at h
      · rename_i hd; injection h with h; subst h; exact kinds_one hE hi (.inl ⟨rfl, hd⟩)
      · rename_i q hd; injection h with h; subst h; exact kinds_one hE hi (.inr (.inl ⟨rfl, q, hd⟩))
      · rename_i hd; injection h with h; subst h; exact kinds_one hE hi (.inr (.inr ⟨rfl, hd⟩))
      · rename_i fs hd
        split at h
        · rename_i ks' hst hks
          split at h
          · rename_i hlen
            injection h with h
            subst h
            have ha : i.agg = true := by rw [hT.agg, hd]; rfl
            refine ⟨i, hi, fun _ => (beq_iff.1 hlen).symm, fun e => (by rw [ha] at e; cases e), fun l m b hc ρ xs ys w d v v' hd' hx hy p q => ?_⟩
            obtain ⟨d, rfl⟩ : ∃ e, d = e + 1 := ⟨d - 1, by omega⟩
            rw [p.1 ha, q.1 ha]
            have hfs : E.P.fieldsOf t = fs := by simp [Program.fieldsOf, hT.un, hd]
            rw [run_equalIn_struct w d t _ _ (by rw [hfs, hT.un, hd]) hst, hfs]
            exact kinds_fs hE (kinds_sound hE n) fs.toList 0 ks' hks _ _ b (by simpa using hc.take) ρ xs ys w d (by omega) hx hy
          · cases h
        · cases h
      · cases h
    · cases h

/-! ### the operation -/
def isNeq (op : BinOp) : Bool := match op with
  | .neq => true
  | _ => false
def isEq2 (op : BinOp) : Prop := op = .eql ∨ op = .neq
/-- two values and what '==' of them comes to, in every world of a class -/
def EqV (P : Program) (t : TypeId) (x y : Operand) (p q : AV) (b : Bool) (ρ : Ren) (w : World) : Prop :=
  ∀ (op : BinOp) (p' q' : Value), isEq2 op → VR ρ p p' → VR ρ q q' → (do eqGuard op t x y p' q'; binOp op t p' q' : Sem Value).run P w = .ok (.bool (if isNeq op then !b else b)) w
section
variable {E : Env} {o : Oper} {t u : TypeId} {x y : Operand}
theorem pu_eql {op : BinOp} (hop : isEq2 op) (ho : o.op = .binOp op t x y u) {g : AV → AV → (Bool → R) → R}
    (h : ∀ p q k, Ok (g p q k) → ∃ b, g p q k = k b ∧ ∀ ρ w, EqV E.P t x y p q b ρ w) :
    ∃ f, pu2 x y (fun a b k => g a b fun r => k (.b r)) = .pu f ∧ PuS E.P o (if isNeq op then fun tm k => f tm fun v => notB v k else f) := by
  refine ⟨_, rfl, ?_⟩
  have key : ∀ tm (k : AV → R), Ok (opd x tm fun a => opd y tm fun b => g a b fun r => k (.b r)) → ∃ b, (opd x tm fun a => opd y tm fun b => g a b fun r => k (.b r)) = k (.b b) ∧
      ∀ (ρ : Ren) (a : Act) (w : World), VRo ρ tm a o → (execOp a.eval o).run E.P w = .ok (.value (.bool (if isNeq op then !b else b))) w := by
    intro tm k hk
    obtain ⟨p, h1, h2⟩ := opd_inv hk
    simp only [h2] at hk ⊢
    obtain ⟨q, h3, h4⟩ := opd_inv hk
    simp only [h4] at hk ⊢
    obtain ⟨b, h5, h6⟩ := h p q _ hk
    refine ⟨b, h5, fun ρ a w hr => ?_⟩
    have e : o.op.operands = #[x, y] := by rw [ho]; rfl
    have h7 := h6 ρ w op _ _ hop (hr x (mem1 e (by simp)) p h1) (hr y (mem1 e (by simp)) q h3)
    simp only [execOp, ho]
    exact run_v h7
  rcases hop with rfl | rfl
  · intro tm k hk
    obtain ⟨b, h1, h2⟩ := key tm k hk
    exact ⟨_, h1, fun ρ a w hr => ⟨_, .b b, h2 ρ a w hr⟩⟩
  · intro tm k hk
    obtain ⟨b, h1, h2⟩ := key tm (fun v => notB v k) hk
    refine ⟨.b (!b), h1.trans (by cases b <;> rfl), fun ρ a w hr => ⟨_, .b (!b), h2 ρ a w hr⟩⟩
theorem eqGuard_none {op : BinOp} {p q : Value} (h : (p ≠ .nilIface ∨ q ≠ .nilIface) ∧ ((∀ l, p ≠ .agg l) ∨ ∀ l, q ≠ .agg l)) : eqGuard op t x y p q = pure () := by
  unfold eqGuard
  cases op <;> first | rfl | skip
  all_goals
    simp only [Bool.not_true, Bool.false_eq_true, if_false]
    split
    · rename_i h1 h2; rcases h.1 with h | h <;> exact absurd rfl h
    · rename_i l m; rcases h.2 with h | h <;> exact absurd rfl (h _)
    · rfl
theorem run_equal (op : BinOp) (hop : isEq2 op) {p q : Value} {b : Bool} {w : World} (hb : (Op.equal t p q).run E.P w = .ok b w)
    (h1 : binOp .eql t p q = (do pure (.bool (← Op.equal t p q)) : Sem Value)) (h2 : binOp .neq t p q = (do pure (.bool (!(← Op.equal t p q))) : Sem Value)) :
    (binOp op t p q).run E.P w = .ok (.bool (if isNeq op then !b else b)) w := by
  rcases hop with rfl | rfl
  · rw [h1]; simp [hb, isNeq]
  · rw [h2]; simp [hb, isNeq]
theorem eqv_pl {i : TI} {kd : Nat} {p q : AV} {b : Bool} (hT : TOK E.P t i) (hk : (kd = 1 ∧ i.d = .bool) ∨ (kd = 2 ∧ ∃ q, i.d = .int q) ∨ (kd = 3 ∧ i.d = .string)) (h : Pl kd p q b) (ρ : Ren) (w : World) : EqV E.P t x y p q b ρ w := by
  intro op p' q' hop h1 h2
  cases h with
  | b c d =>
    have hb := pl_run (P := E.P) (Pl.b c d) hT.un hk ρ h1 h2 9999 w
    rw [h1.b_inv, h2.b_inv] at hb ⊢
    rw [eqGuard_none ⟨.inl (by simp), .inl (by simp)⟩]
    exact run_equal op hop hb rfl rfl
  | i r c d =>
    rw [h1.i_inv, h2.i_inv, eqGuard_none ⟨.inl (by simp), .inl (by simp)⟩]
    rcases hop with rfl | rfl
    · simp [binOp, Op.intCmp, isNeq]
    · simp [binOp, Op.intCmp, isNeq, bne]
  | s c d =>
    rw [h1.s_inv, h2.s_inv, eqGuard_none ⟨.inl (by simp), .inl (by simp)⟩]
    rcases hop with rfl | rfl
    · simp [binOp, Op.stringOp, isNeq]
    · simp [binOp, Op.stringOp, isNeq]
theorem pu_eq_pl (hE : EOK E) {i : TI} {kd : Nat} {op : BinOp} (hi : E.ti t = some i) (hk : (kd = 1 ∧ i.d = .bool) ∨ (kd = 2 ∧ ∃ q, i.d = .int q) ∨ (kd = 3 ∧ i.d = .string)) (hop : isEq2 op) (ho : o.op = .binOp op t x y u) :
    ∃ f, pu2 x y (fun a b k => plEq kd a b fun r => k (.b r)) = .pu f ∧ PuS E.P o (if isNeq op then fun tm k => f tm fun v => notB v k else f) :=
  pu_eql hop ho fun p q k hk' => by
    obtain ⟨b, h1, h2⟩ := plEq_inv hk'
    exact ⟨b, h1, fun ρ w => eqv_pl (tok hE hi) hk h2 ρ w⟩
theorem pu_eq_struct (hE : EOK E) {i : TI} {ks : List Nat} {op : BinOp} (hi : E.ti t = some i) (hd : ∃ fs, i.d = .struct fs) (hks : kinds E t = some ks) (hg : E.P.eqGuardType E.P.depth t = false) (hop : isEq2 op) (ho : o.op = .binOp op t x y u) :
    ∃ f, pu2 x y (fun a b k => asAg a fun l => asAg b fun m => cEq ks l m fun r => k (.b r)) = .pu f ∧ PuS E.P o (if isNeq op then fun tm k => f tm fun v => notB v k else f) :=
  pu_eql (g := fun a b k => asAg a fun l => asAg b fun m => cEq ks l m k) hop ho fun p q k hk' => by
    obtain ⟨l, rfl, h2⟩ := asAg_inv hk'
    rw [h2] at hk' ⊢
    obtain ⟨m, rfl, h4⟩ := asAg_inv hk'
    rw [h4] at hk' ⊢
    obtain ⟨b, h5, h6⟩ := cEq_inv ks hk'
    refine ⟨b, h5, fun ρ w op p' q' hop h7 h8 => ?_⟩
    obtain ⟨xs, rfl, h9⟩ := h7.ag_inv
    obtain ⟨ys, rfl, h10⟩ := h8.ag_inv
    obtain ⟨i', hi', hag, hsc, hs⟩ := kinds_sound hE 5 t ks hks
    obtain rfl : i = i' := Option.some.inj (hi.symm.trans hi')
    obtain ⟨fs, hfs⟩ := hd
    have ha : i.agg = true := by rw [(tok hE hi).agg, hfs]; rfl
    have hf : E.P.fieldsOf t = fs := by simp [Program.fieldsOf, (tok hE hi).un, hfs]
    -- the cells beyond are not looked at
    have he : (Op.equalIn 10000 t (.agg xs.toArray) (.agg ys.toArray)).run E.P w = .ok b w := by
      have hst : E.P.stoodInHeld t = false := by
        unfold kinds kindsT at hks
        rw [hi] at hks
        simp only [hfs] at hks
        split at hks
        · rename_i h1 _; exact h1
        · cases hks
      have hkf : ∃ n, kindsFs (kindsT E n) 0 fs.toList = some ks ∧ n ≤ 9999 := by
        unfold kinds kindsT at hks
        rw [hi] at hks
        simp only [hfs] at hks
        split at hks
        · rename_i ks' _ h1
          split at hks
          · injection hks with hks; subst hks; exact ⟨4, h1, by omega⟩
          · cases hks
        · cases hks
      obtain ⟨n, hn1, hn2⟩ := hkf
      rw [run_equalIn_struct w 9999 t _ _ (by rw [hf, (tok hE hi).un, hfs]) hst, hf]
      exact kinds_fs hE (kinds_sound hE n) fs.toList 0 ks hn1 l m b (by simpa using h6) ρ xs ys w 9999 hn2 h9 h10
    have hgd : (eqGuard op t x y (.agg xs.toArray) (.agg ys.toArray)).run E.P w = .ok () w := run_eqGuard_agg w op t x y _ _ hg
    rw [Sem.run_bind, hgd, Result.andThen_ok]
    exact run_equal op hop he rfl rfl
theorem eqIn_sl {e : TypeId} (hu : E.P.underlying t = some (.slice e)) (d : Nat) (a : Option Addr) (n c : Nat) (w : World) :
    (Op.equalIn (d + 1) t (.slice none 0 0) (.slice a n c)).run E.P w = .ok a.isNone w ∧ (a ≠ none → (Op.equalIn (d + 1) t (.slice a n c) (.slice none 0 0)).run E.P w = .ok false w) := by
  constructor
  · simp [Op.equalIn, run_underlying hu]
  · intro ha
    cases a with
    | none => exact absurd rfl ha
    | some a => simp [Op.equalIn, run_underlying hu]
theorem equal_sl {i : TI} (hT : TOK E.P t i) {e : TypeId} (hd : i.d = .slice e) (a : Option Addr) (n c : Nat) (w : World) :
    (Op.equal t (.slice none 0 0) (.slice a n c)).run E.P w = .ok a.isNone w ∧ (a ≠ none → (Op.equal t (.slice a n c) (.slice none 0 0)).run E.P w = .ok false w) :=
  eqIn_sl (by rw [hT.un, hd]) 9999 a n c w
theorem pu_eq_sl (hE : EOK E) {i : TI} {e : TypeId} {op : BinOp} (hi : E.ti t = some i) (hd : i.d = .slice e) (hop : isEq2 op) (ho : o.op = .binOp op t x y u) :
    ∃ f, pu2 x y (fun a b k => slEq a b fun r => k (.b r)) = .pu f ∧ PuS E.P o (if isNeq op then fun tm k => f tm fun v => notB v k else f) :=
  pu_eql hop ho fun p q k hk => by
    have hT := tok hE hi
    unfold slEq at hk ⊢
    rcases asSl_inv hk with ⟨rfl, h1⟩ | ⟨b, o1, n, c, ex, rfl, h1⟩
    · rw [h1] at hk ⊢
      rcases asSl_inv hk with ⟨rfl, h2⟩ | ⟨b, o1, n, c, ex, rfl, h2⟩
      · refine ⟨true, h2, fun ρ w op p' q' hop h3 h4 => ?_⟩
        rw [h3.ns_inv, h4.ns_inv, eqGuard_none ⟨.inl (by simp), .inl (by simp)⟩]
        exact run_equal op hop (equal_sl hT hd none 0 0 w).1 rfl rfl
      · refine ⟨false, h2, fun ρ w op p' q' hop h3 h4 => ?_⟩
        obtain ⟨t', off, c', _, rfl, _⟩ := h4.sl_inv
        rw [h3.ns_inv, eqGuard_none ⟨.inl (by simp), .inl (by simp)⟩]
        exact run_equal op hop (equal_sl hT hd (some _) n c' w).1 rfl rfl
    · rw [h1] at hk ⊢
      rcases asSl_inv hk with ⟨rfl, h2⟩ | ⟨b', o2, n', c2, ex', rfl, h2⟩
      · refine ⟨false, h2, fun ρ w op p' q' hop h3 h4 => ?_⟩
        obtain ⟨t', off, c', _, rfl, _⟩ := h3.sl_inv
        rw [h4.ns_inv, eqGuard_none ⟨.inl (by simp), .inl (by simp)⟩]
        exact run_equal op hop ((equal_sl hT hd (some _) n c' w).2 (by simp)) rfl rfl
      · rw [h2] at hk; exact (ok_er hk).elim
theorem eqIn_mp {kt e : TypeId} (hu : E.P.underlying t = some (.map kt e)) (d : Nat) (a : Option Nat) (w : World) :
    (Op.equalIn (d + 1) t (.map none) (.map a)).run E.P w = .ok a.isNone w ∧ (a ≠ none → (Op.equalIn (d + 1) t (.map a) (.map none)).run E.P w = .ok false w) := by
  constructor
  · simp [Op.equalIn, run_underlying hu]
  · intro ha
    cases a with
    | none => exact absurd rfl ha
    | some a => simp [Op.equalIn, run_underlying hu]
theorem equal_mp {i : TI} (hT : TOK E.P t i) {kt e : TypeId} (hd : i.d = .map kt e) (a : Option Nat) (w : World) :
    (Op.equal t (.map none) (.map a)).run E.P w = .ok a.isNone w ∧ (a ≠ none → (Op.equal t (.map a) (.map none)).run E.P w = .ok false w) :=
  eqIn_mp (by rw [hT.un, hd]) 9999 a w
theorem pu_eq_mp (hE : EOK E) {i : TI} {kt e : TypeId} {op : BinOp} (hi : E.ti t = some i) (hd : i.d = .map kt e) (hop : isEq2 op) (ho : o.op = .binOp op t x y u) :
    ∃ f, pu2 x y (fun a b k => mEq a b fun r => k (.b r)) = .pu f ∧ PuS E.P o (if isNeq op then fun tm k => f tm fun v => notB v k else f) :=
  pu_eql hop ho fun p q k hk => by
    have hT := tok hE hi
    unfold mEq at hk ⊢
    rcases asM_inv hk with ⟨rfl, h1⟩ | ⟨b, rfl, h1⟩
    · rw [h1] at hk ⊢
      rcases asM_inv hk with ⟨rfl, h2⟩ | ⟨b, rfl, h2⟩
      · refine ⟨true, h2, fun ρ w op p' q' hop h3 h4 => ?_⟩
        rw [h3.nm_inv, h4.nm_inv, eqGuard_none ⟨.inl (by simp), .inl (by simp)⟩]
        exact run_equal op hop (equal_mp hT hd none w).1 rfl rfl
      · refine ⟨false, h2, fun ρ w op p' q' hop h3 h4 => ?_⟩
        obtain ⟨t', _, rfl⟩ := h4.m_inv
        rw [h3.nm_inv, eqGuard_none ⟨.inl (by simp), .inl (by simp)⟩]
        exact run_equal op hop (equal_mp hT hd (some _) w).1 rfl rfl
    · rw [h1] at hk ⊢
      rcases asM_inv hk with ⟨rfl, h2⟩ | ⟨b', rfl, h2⟩
      · refine ⟨false, h2, fun ρ w op p' q' hop h3 h4 => ?_⟩
        obtain ⟨t', _, rfl⟩ := h3.m_inv
        rw [h4.nm_inv, eqGuard_none ⟨.inl (by simp), .inl (by simp)⟩]
        exact run_equal op hop ((equal_mp hT hd (some _) w).2 (by simp)) rfl rfl
      · rw [h2] at hk; exact (ok_er hk).elim
theorem nilF_rel {ρ : Ren} {v : AV} {b : Bool} {v' : Value} (h : nilF v = some b) (hv : VR ρ v v') : (b = true ∧ v' = .nilFunc) ∨ (b = false ∧ ∃ f a c, v' = .func f a c) := by
  cases hv <;> first | (cases h; done) | skip
  · injection h with h; exact .inr ⟨h.symm, _, _, _, rfl⟩
  · injection h with h; exact .inl ⟨h.symm, rfl⟩
  · injection h with h; exact .inr ⟨h.symm, _, _, _, rfl⟩
theorem eqIn_fn {ps rs : Array TypeId} {va : Bool} (hu : E.P.underlying t = some (.func ps rs va)) (d : Nat) (w : World) (f : Fn) (a c : Array Value) :
    (Op.equalIn (d + 1) t .nilFunc .nilFunc).run E.P w = .ok true w ∧ (Op.equalIn (d + 1) t .nilFunc (.func f a c)).run E.P w = .ok false w ∧ (Op.equalIn (d + 1) t (.func f a c) .nilFunc).run E.P w = .ok false w := by
  refine ⟨?_, ?_, ?_⟩ <;> simp [Op.equalIn, run_underlying hu]
theorem pu_eq_fn (hE : EOK E) {i : TI} {ps rs : Array TypeId} {va : Bool} {op : BinOp} (hi : E.ti t = some i) (hd : i.d = .func ps rs va) (hop : isEq2 op) (ho : o.op = .binOp op t x y u) :
    ∃ f, pu2 x y (fun a b k => fnEq a b fun r => k (.b r)) = .pu f ∧ PuS E.P o (if isNeq op then fun tm k => f tm fun v => notB v k else f) :=
  pu_eql hop ho fun p q k hk => by
    have hT := tok hE hi
    have hu : E.P.underlying t = some (.func ps rs va) := by rw [hT.un, hd]
    unfold fnEq at hk ⊢
    split at hk
    · rename_i h1 h2
      refine ⟨true, rfl, fun ρ w op p' q' hop h3 h4 => ?_⟩
      rcases nilF_rel h1 h3 with ⟨_, rfl⟩ | ⟨h, _⟩
      · rcases nilF_rel h2 h4 with ⟨_, rfl⟩ | ⟨h, _⟩
        · rw [eqGuard_none ⟨.inl (by simp), .inl (by simp)⟩]
          exact run_equal op hop (eqIn_fn hu 9999 w (.func 0) #[] #[]).1 rfl rfl
        · cases h
      · cases h
    · rename_i h1 h2
      refine ⟨false, rfl, fun ρ w op p' q' hop h3 h4 => ?_⟩
      rcases nilF_rel h1 h3 with ⟨_, rfl⟩ | ⟨h, _⟩
      · rcases nilF_rel h2 h4 with ⟨h, _⟩ | ⟨_, f, a, c, rfl⟩
        · cases h
        · rw [eqGuard_none ⟨.inl (by simp), .inl (by simp)⟩]
          exact run_equal op hop (eqIn_fn hu 9999 w f a c).2.1 rfl rfl
      · cases h
    · rename_i h1 h2
      refine ⟨false, rfl, fun ρ w op p' q' hop h3 h4 => ?_⟩
      rcases nilF_rel h1 h3 with ⟨h, _⟩ | ⟨_, f, a, c, rfl⟩
      · cases h
      · rcases nilF_rel h2 h4 with ⟨_, rfl⟩ | ⟨h, _⟩
        · rw [eqGuard_none ⟨.inl (by simp), .inl (by simp)⟩]
          exact run_equal op hop (eqIn_fn hu 9999 w f a c).2.2 rfl rfl
        · cases h
    · exact (ok_er hk).elim
end
end Ax
end Go.Proofs.YtnnhkajjifmlfaaDoor
