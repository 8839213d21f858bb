/- '==' of interface values and pointers; the operations on fields, places, slices, aggregates. -/
import Derived.Test.YtnnhkajjifmlfaaDoorX7
namespace Go.Proofs.YtnnhkajjifmlfaaDoor
namespace Ax
section
variable {E : Env} {o : Oper} {t u : TypeId} {x y : Operand}
theorem isI_inv {t : TypeId} (h : isI E t = true) : ∃ j q, E.ti t = some j ∧ j.d = .int q ∧ j.cmp = true := by
  unfold isI at h
  split at h
  · rename_i j hj
    rw [Bool.and_eq_true] at h
    obtain ⟨h1, h2⟩ := h
    split at h2
    · rename_i q hq; exact ⟨j, q, hj, hq, h1⟩
    · cases h2
  · cases h
theorem eqIn_ifc {ms : Array (String × TypeId)} (hu : E.P.underlying t = some (.interface ms)) (d : Nat) (w : World) (t1 t2 : TypeId) (v v' : Value) :
    (Op.equalIn (d + 1) t .nilIface .nilIface).run E.P w = .ok true w ∧ (Op.equalIn (d + 1) t .nilIface (.iface t1 v)).run E.P w = .ok false w ∧ (Op.equalIn (d + 1) t (.iface t1 v) .nilIface).run E.P w = .ok false w ∧
    (t1 ≠ t2 → (Op.equalIn (d + 1) t (.iface t1 v) (.iface t2 v')).run E.P w = .ok false w) := by
  refine ⟨?_, ?_, ?_, fun hne => ?_⟩
  · simp [Op.equalIn, run_underlying hu]
  · simp [Op.equalIn, run_underlying hu]
  · simp [Op.equalIn, run_underlying hu]
  · simp [Op.equalIn, run_underlying hu, hne]
theorem eqIn_ifc_int {ms : Array (String × TypeId)} (hu : E.P.underlying t = some (.interface ms)) {t1 : TypeId} {j : TI} {q : IntKind} (hT : TOK E.P t1 j) (hj : j.d = .int q) (hc : j.cmp = true) (d : Nat) (w : World) (kq : IntKind) (a b : Int) :
    (Op.equalIn (d + 2) t (.iface t1 (.int kq a)) (.iface t1 (.int kq b))).run E.P w = .ok (a == b) w := by
  obtain ⟨i, z, hi, h1, h2, h3, h4⟩ := hT.info
  have h5 := run_equalIn_int (P := E.P) w d t1 kq q a b (by rw [hT.un, hj])
  rw [Op.equalIn]
  simp only [Sem.run_bind, run_underlying hu, Result.andThen_ok, ne_eq, not_true_eq_false, if_false, typeInfo, run_program, hi, Sem.run_pure, h3, hc, Bool.not_true, Bool.false_eq_true]
  exact h5
theorem const_guard {op : BinOp} (h : (isConst x || isConst y) = true) : eqGuard op t x y .nilIface .nilIface = pure () := by
  unfold eqGuard
  cases op <;> first | rfl | skip
  all_goals
    cases x <;> cases y <;> first | rfl | (simp [isConst] at h)
theorem pu_eq_ifc (hE : EOK E) {i : TI} {ms : Array (String × TypeId)} {op : BinOp} (hi : E.ti t = some i) (hd : i.d = .interface ms) (hop : isEq2 op) (ho : o.op = .binOp op t x y u) :
    ∃ f, pu2 x y (fun a b k => fEq E (isConst x || isConst y) a b fun r => k (.b r)) = .pu f ∧ PuS E.P o (if isNeq op then fun tm k => f tm fun v => notB v k else f) :=
  pu_eql hop ho fun p q k hk => by
    have hT := tok hE hi
    have hu : E.P.underlying t = some (.interface ms) := by rw [hT.un, hd]
    have hx := fun w t1 t2 v v' => eqIn_ifc (t := t) hu 9999 w t1 t2 v v'
    unfold fEq at hk ⊢
    rcases asIfc_inv hk with ⟨rfl, h1⟩ | ⟨t1, u1, rfl, h1⟩
    · rw [h1] at hk ⊢
      rcases asIfc_inv hk with ⟨rfl, h2⟩ | ⟨t2, u2, rfl, h2⟩
      · rw [h2] at hk ⊢
        obtain ⟨h3, h4⟩ := ifK_inv hk
        refine ⟨true, h4, fun ρ w op p' q' hop h5 h6 => ?_⟩
        rw [h5.ni_inv, h6.ni_inv, const_guard h3]
        exact run_equal op hop (hx w 0 0 .nilIface .nilIface).1 rfl rfl
      · refine ⟨false, h2, fun ρ w op p' q' hop h5 h6 => ?_⟩
        obtain ⟨v, rfl, _⟩ := h6.ifc_inv
        rw [h5.ni_inv, eqGuard_none ⟨.inr (by simp), .inl (by simp)⟩]
        exact run_equal op hop (hx w t2 0 v .nilIface).2.1 rfl rfl
    · rw [h1] at hk ⊢
      rcases asIfc_inv hk with ⟨rfl, h2⟩ | ⟨t2, u2, rfl, h2⟩
      · refine ⟨false, h2, fun ρ w op p' q' hop h5 h6 => ?_⟩
        obtain ⟨v, rfl, _⟩ := h5.ifc_inv
        rw [h6.ni_inv, eqGuard_none ⟨.inl (by simp), .inl (by simp)⟩]
        exact run_equal op hop (hx w t1 0 v .nilIface).2.2.1 rfl rfl
      · rw [h2] at hk ⊢
        cases ht : Nat.beq t1 t2 with
        | false =>
          rw [ht] at hk
          refine ⟨false, rfl, fun ρ w op p' q' hop h5 h6 => ?_⟩
          obtain ⟨v, rfl, _⟩ := h5.ifc_inv
          obtain ⟨v', rfl, _⟩ := h6.ifc_inv
          rw [eqGuard_none ⟨.inl (by simp), .inl (by simp)⟩]
          have hne : t1 ≠ t2 := fun e => by rw [e, Nat.beq_refl] at ht; cases ht
          exact run_equal op hop ((hx w t1 t2 v v').2.2.2 hne) rfl rfl
        | true =>
          rw [ht] at hk
          obtain rfl := beq_iff.1 ht
          obtain ⟨h3, h4⟩ := ifK_inv hk
          rw [h4] at hk ⊢
          obtain ⟨q, a, b, rfl, rfl, h5⟩ := i2_inv hk
          rw [h5] at hk ⊢
          obtain ⟨c, h6, h7⟩ := asB_inv hk
          injection h6 with h6
          subst h6
          refine ⟨ieq a b, by rw [h7]; cases ieq a b <;> rfl, fun ρ w op p' q' hop h8 h9 => ?_⟩
          obtain ⟨v, rfl, h10⟩ := h8.ifc_inv
          obtain ⟨v', rfl, h11⟩ := h9.ifc_inv
          obtain ⟨j, kq, hj, hjd, hjc⟩ := isI_inv h3
          rw [h10.i_inv, h11.i_inv, eqGuard_none ⟨.inl (by simp), .inl (by simp)⟩, ieq_eq]
          exact run_equal op hop (eqIn_ifc_int hu (tok hE hj) hjd hjc 9998 w q a b) rfl rfl

/-! ### pointers -/
/-- what a block that can be read is -/
theorem blk_rel {ρ : Ren} {H : Hp} {w : World} (h : Rel ρ H w) {b : Pn} {l : List AV} {ty : TypeId} {fz : Bool} (hb : isBlk (H b) l ty fz) :
    ∃ (t : Bk) (arr : Array Value) (lo hi : Nat), ρ b = some t ∧ w.heap[t.c]? = some (.cells arr ty (lo, hi)) ∧ (arr.size = t.sz ∧ (fz = false → t.d = 0)) ∧ (hi = lo ∨ (fz = true ∧ arr.size ≤ lo)) ∧ t.d + l.length ≤ arr.size ∧
      VRs ρ l ((arr.toList.drop t.d).take l.length) := by
  rcases hb with hb | ⟨hb, rfl⟩
  · obtain ⟨t, h1, h2⟩ := h.ob b (by rw [hb]; simp)
    rw [hb] at h2
    obtain ⟨arr, lo, hi, h3, h4, h5, h7, h8⟩ := h2
    exact ⟨t, arr, lo, hi, h1, h3, h4, h5, h7, h8⟩
  · obtain ⟨t, h1, h2⟩ := h.ob b (by rw [hb]; simp)
    rw [hb] at h2
    obtain ⟨arr, lo, hi, h3, h4, h5, h7, h8⟩ := h2
    exact ⟨t, arr, lo, hi, h1, h3, ⟨h4.1, fun _ => h4.2⟩, .inl h5, h7, h8⟩
theorem own_c {o : AO} {l : List AV} {ty : TypeId} {fz : Bool} (h : o = .c l ty fz) : own o := by subst h; exact ⟨by simp, by simp⟩
theorem blk_ne {o : AO} {l : List AV} {ty : TypeId} {fz : Bool} (h : isBlk o l ty fz) : o ≠ .x := by rcases h with rfl | ⟨rfl, _⟩ <;> simp
theorem sameAddr_one {P : Program} {c o q : Nat} (w : World) : (sameAddr ⟨c, o, none⟩ ⟨c, q, none⟩).run P w = .ok (decide (o = q)) w := by
  simp [sameAddr]
  rw [Bool.eq_iff_iff]
  simp
theorem sameAddr_two {P : Program} {c c' o q : Nat} {arr arr' : Array Value} {ty ty' : TypeId} {lo hi lo' hi' : Nat} (hne : c ≠ c') (w : World) (h1 : w.heap[c]? = some (.cells arr ty (lo, hi))) (h2 : w.heap[c']? = some (.cells arr' ty' (lo', hi')))
    (f1 : hi = lo) (f2 : hi' = lo') : (sameAddr ⟨c, o, none⟩ ⟨c', q, none⟩).run P w = .ok false w := by
  have g1 : ∀ x, w.frozen? ⟨c, x, none⟩ = false := fun x => by simp only [World.frozen?, h1, Bool.and_eq_false_iff, decide_eq_false_iff_not]; omega
  have g2 : ∀ x, w.frozen? ⟨c', x, none⟩ = false := fun x => by simp only [World.frozen?, h2, Bool.and_eq_false_iff, decide_eq_false_iff_not]; omega
  have s1 : w.shape? c = some (ty, arr.size) := by simp [World.shape?, h1]
  have s2 : w.shape? c' = some (ty', arr'.size) := by simp [World.shape?, h2]
  simp [sameAddr, hne, g1, g2, noView, viewAt, s1, s2, mayBeOne, stringish]
theorem isNp_inv {v : AV} (h : isNp v = true) : v = .np := by cases v <;> first | rfl | cases h
theorem isP_inv {v : AV} (h : isP v = true) : ∃ b o, v = .p b o := by cases v <;> first | exact ⟨_, _, rfl⟩ | cases h
/-- '==' of two pointers, in the worlds of a heap -/
theorem pEq_inv {P : Program} {p q : AV} {h : Tr AO} {k : Bool → R} (hk : Ok (pEq p q h k)) : ∃ b, pEq p q h k = k b ∧
    ∀ (ρ : Ren) (w : World) (p' q' : Value), Rel ρ (hv h) w → VR ρ p p' → VR ρ q q' → ∃ a c, p' = .pointer a ∧ q' = .pointer c ∧
      (match a, c with
       | some a, some c => (sameAddr a c).run P w = .ok b w
       | none, c => b = c.isNone
       | some _, none => b = false) := by
  unfold pEq at hk ⊢
  cases hx : isNp p with
  | true =>
    rw [hx] at hk
    obtain rfl := isNp_inv hx
    cases hy : isNp q with
    | true =>
      obtain rfl := isNp_inv hy
      exact ⟨true, rfl, fun ρ w p' q' _ h1 h2 => ⟨none, none, h1.np_inv, h2.np_inv, rfl⟩⟩
    | false =>
      rw [hy] at hk
      obtain ⟨h1, h2⟩ := ifK_inv hk
      obtain ⟨b, o, rfl⟩ := isP_inv h1
      exact ⟨false, h2, fun ρ w p' q' _ h3 h4 => by obtain ⟨t, _, rfl⟩ := h4.p_inv; exact ⟨none, some _, h3.np_inv, rfl, rfl⟩⟩
  | false =>
    rw [hx] at hk
    obtain ⟨b, o, rfl, h1⟩ := asP_inv hk
    rw [h1] at hk ⊢
    cases hy : isNp q with
    | true =>
      obtain rfl := isNp_inv hy
      exact ⟨false, rfl, fun ρ w p' q' _ h3 h4 => by obtain ⟨t, _, rfl⟩ := h3.p_inv; exact ⟨some _, none, rfl, h4.np_inv, rfl⟩⟩
    | false =>
      rw [hy] at hk
      obtain ⟨c, r, rfl, h2⟩ := asP_inv hk
      rw [h2] at hk ⊢
      cases he : b.eq c with
      | true =>
        rw [he] at hk
        obtain rfl := (pn_eq b c).1 he
        refine ⟨Nat.beq o r, rfl, fun ρ w p' q' _ h3 h4 => ?_⟩
        obtain ⟨t, ht, rfl⟩ := h3.p_inv
        obtain ⟨t', ht', rfl⟩ := h4.p_inv
        obtain rfl := Option.some.inj (ht.symm.trans ht')
        refine ⟨some _, some _, rfl, rfl, ?_⟩
        simp only
        rw [sameAddr_one]
        congr 1
        rw [Bool.eq_iff_iff, beq_iff, decide_eq_true_eq]
        omega
      | false =>
        rw [he] at hk
        obtain ⟨l, ty, fz, h3, h4⟩ := wblkK_inv hk
        rw [h4] at hk ⊢
        obtain ⟨l', ty', fz', h5, h6⟩ := blkK_inv hk
        rw [h6] at hk ⊢
        obtain ⟨h7, h8⟩ := ifK_inv hk
        refine ⟨false, h8, fun ρ w p' q' hR h9 h10 => ?_⟩
        obtain ⟨t, ht, rfl⟩ := h9.p_inv
        obtain ⟨t', ht', rfl⟩ := h10.p_inv
        obtain ⟨t1, arr, lo, hi, e1, e2, e3, e4, _⟩ := blk_rel hR (.inl h3)
        obtain ⟨t2, arr', lo', hi', g1, g2, g3, g4, _⟩ := blk_rel hR h5
        obtain rfl := Option.some.inj (ht.symm.trans e1)
        obtain rfl := Option.some.inj (ht'.symm.trans g1)
        have hne : t.c ≠ t'.c := fun e => by
          have := hR.inj b c t t' (own_c h3) (blk_ne h5) ht ht' e
          subst this
          rw [(pn_eq b b).2 rfl] at he
          cases he
        simp only [Bool.not_eq_true', Bool.or_eq_false_iff] at h7
        obtain ⟨rfl, rfl⟩ := h7
        exact ⟨some _, some _, rfl, rfl, sameAddr_two hne w e2 g2 (by rcases e4 with e | ⟨e, _⟩; exact e; cases e) (by rcases g4 with e | ⟨e, _⟩; exact e; cases e)⟩
theorem eqIn_ptr {e : TypeId} {j : TI} (hu : E.P.underlying t = some (.pointer e)) (hT : TOK E.P e j) (hz : j.size ≠ 0) (d : Nat) (w : World) (a c : Option Addr) (b : Bool)
    (h : match a, c with
       | some a, some c => (sameAddr a c).run E.P w = .ok b w
       | none, c => b = c.isNone
       | some _, none => b = false) : (Op.equalIn (d + 1) t (.pointer a) (.pointer c)).run E.P w = .ok b w := by
  cases a with
  | none =>
    simp only at h
    subst h
    simp [Op.equalIn, run_underlying hu]
  | some a => cases c with
    | none =>
      simp only at h
      subst h
      simp [Op.equalIn, run_underlying hu]
    | some c =>
      simp only at h
      simp [Op.equalIn, run_underlying hu, hT.run_size, hz, h]
theorem rd_eq_ptr (hE : EOK E) {i j : TI} {e : TypeId} {op : BinOp} (hi : E.ti t = some i) (hd : i.d = .pointer e) (hj : E.ti e = some j) (hz : Nat.beq j.size 0 = false) (hop : isEq2 op) (ho : o.op = .binOp op t x y u) :
    RdS E.P o (if isNeq op then fun tm h k => (opd x tm fun a => opd y tm fun b => pEq a b h fun r => notB (.b r) k) else fun tm h k => opd x tm fun a => opd y tm fun b => pEq a b h fun r => k (.b r)) := by
  have hz' : j.size ≠ 0 := fun e => by rw [e] at hz; cases hz
  have hu : E.P.underlying t = some (.pointer e) := by rw [(tok hE hi).un, hd]
  have key : ∀ tm h (k : AV → R), Ok (opd x tm fun a => opd y tm fun b => pEq a b h fun r => k (.b r)) → ∃ b, (opd x tm fun a => opd y tm fun b => pEq a b h fun r => k (.b r)) = k (.b b) ∧
      ∀ (ρ : Ren) (a : Act) (w : World), VRo ρ tm a o → Rel ρ (hv h) w → (execOp a.eval o).run E.P w = .ok (.value (.bool (if isNeq op then !b else b))) w := by
    intro tm h k hk
    obtain ⟨p, h1, h2⟩ := opd_inv hk
    simp only [h2] at hk ⊢
    obtain ⟨q, h3, h4⟩ := opd_inv hk
    simp only [h4] at hk ⊢
    obtain ⟨b, h5, h6⟩ := pEq_inv (P := E.P) hk
    refine ⟨b, h5, fun ρ a w hr hR => ?_⟩
    have eo : o.op.operands = #[x, y] := by rw [ho]; rfl
    obtain ⟨pa, pc, e1, e2, e3⟩ := h6 ρ w _ _ hR (hr x (mem1 eo (by simp)) p h1) (hr y (mem1 eo (by simp)) q h3)
    have he := eqIn_ptr hu (tok hE hj) hz' 9999 w pa pc b e3
    simp only [execOp, ho]
    refine run_v ?_
    rw [e1, e2, eqGuard_none ⟨.inl (by simp), .inl (by simp)⟩]
    exact run_equal op hop he (by rcases pa with _ | pa <;> rcases pc with _ | pc <;> rfl) (by rcases pa with _ | pa <;> rcases pc with _ | pc <;> rfl)
  rcases hop with rfl | rfl
  · intro tm h k hk
    obtain ⟨b, h1, h2⟩ := key tm h k hk
    exact ⟨_, h1, fun ρ a w hr hR => ⟨_, .b b, h2 ρ a w hr hR⟩⟩
  · intro tm h k hk
    obtain ⟨b, h1, h2⟩ := key tm h (fun v => notB v k) hk
    exact ⟨.b (!b), h1.trans (by cases b <;> rfl), fun ρ a w hr hR => ⟨_, .b (!b), h2 ρ a w hr hR⟩⟩
end
end Ax
end Go.Proofs.YtnnhkajjifmlfaaDoor
