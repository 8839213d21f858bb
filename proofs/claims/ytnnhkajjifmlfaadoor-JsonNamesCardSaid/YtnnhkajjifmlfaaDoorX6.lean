/- What is asked of an operation of the executor; the operations that only reckon. -/
import Derived.Test.YtnnhkajjifmlfaaDoorX5
import Derived.IntWalk
import Derived.Laws.Strings
namespace Go.Proofs.YtnnhkajjifmlfaaDoor
namespace Ax

/-- the tables tell the truth -/
structure EOK (E : Env) : Prop where
  ti : ∀ t i, E.ti t = some i → mkTI E.P t = some i
  fn : ∀ f g, E.fn f = some g → E.P.funcs[f]? = some g ∧ (g.name == "runtime.NumGoroutine") = false
  mix : E.P.follows .mixedOrders = true
/-- what a type's row says -/
structure TOK (P : Program) (t : TypeId) (i : TI) : Prop where
  un : P.underlying t = some i.d
  info : ∃ x z, P.info? t = some x ∧ x.size = i.size ∧ x.bytes = i.bytes ∧ x.comparable = i.cmp ∧ x.zero = some z ∧ ofV z = some i.zv ∧ ofSs z.cells.toList = some i.zc
  agg : i.agg = isAggD i.d
theorem tok {E : Env} (h : EOK E) {t : TypeId} {i : TI} (e : E.ti t = some i) : TOK E.P t i := by
  have h1 := h.ti t i e
  unfold mkTI at h1
  split at h1
  · rename_i x d hx hd
    split at h1
    · rename_i z hz
      split at h1
      · rename_i zv zc h2 h3
        injection h1 with h1
        subst h1
        exact ⟨hd, ⟨x, z, hx, rfl, rfl, rfl, hz, h2, h3⟩, rfl⟩
      · cases h1
    · cases h1
  · cases h1
section
variable {P : Program} {w : World} {t : TypeId} {i : TI}
theorem TOK.run_un (h : TOK P t i) (w : World) : (underlying t).run P w = .ok i.d w := run_underlying h.un w
theorem TOK.run_size (h : TOK P t i) (w : World) : (sizeOf t).run P w = .ok i.size w := by
  obtain ⟨x, z, hx, h1, _⟩ := h.info
  simp [sizeOf, typeInfo, hx, h1]
theorem TOK.cells (h : TOK P t i) : P.cellsOf t = i.size := by
  obtain ⟨x, z, hx, h1, _⟩ := h.info
  simp [Program.cellsOf, hx, h1]
theorem TOK.run_agg (h : TOK P t i) (w : World) : (isAgg t).run P w = .ok i.agg w := by
  unfold isAgg
  rw [Sem.run_bind, h.run_un, h.agg]
  cases i.d <;> rfl
theorem TOK.run_zero (h : TOK P t i) (w : World) : ∃ z, (zeroValue t).run P w = .ok z w ∧ ofV z = some i.zv ∧ ofSs z.cells.toList = some i.zc := by
  obtain ⟨x, z, hx, h1, h2, h3, h4, h5, h6⟩ := h.info
  exact ⟨z, by simp [zeroValue, typeInfo, hx, h4], h5, h6⟩
end

/-- the operands that an operation names hold what the executor has -/
def VRo (ρ : Ren) (tm : Tr AV) (a : Act) (o : Oper) : Prop := ∀ x ∈ o.op.operands, ∀ v, eva x tm = some v → VR ρ v (a.eval x)
def PuS (P : Program) (o : Oper) (f : Tr AV → (AV → R) → R) : Prop :=
  ∀ tm k, Ok (f tm k) → ∃ v, f tm k = k v ∧ ∀ (ρ : Ren) (a : Act) (w : World), VRo ρ tm a o → ∃ v', VR ρ v v' ∧ (execOp a.eval o).run P w = .ok (.value v') w
def RdS (P : Program) (o : Oper) (f : Tr AV → Tr AO → (AV → R) → R) : Prop :=
  ∀ tm h k, Ok (f tm h k) → ∃ v, f tm h k = k v ∧ ∀ (ρ : Ren) (a : Act) (w : World), VRo ρ tm a o → Rel ρ (hv h) w → ∃ v', VR ρ v v' ∧ (execOp a.eval o).run P w = .ok (.value v') w
/-- a new block of the world -/
structure Newer (w w' : World) (ob : Obj) : Prop where
  heap : w'.heap = w.heap.push ob
  os : w'.os = w.os
  tape : w'.tape = w.tape
  output : w'.output = w.output
def AlS (P : Program) (o : Oper) (f : Tr AV → Pn → (AV → AO → R) → R) : Prop :=
  ∀ tm n k, Ok (f tm n k) → ∃ v b, f tm n k = k v b ∧ own b ∧ ∀ (ρ : Ren) (a : Act) (w : World), VRo ρ tm a o → ρ n = none →
    ∃ v' w' ob t, (execOp a.eval o).run P w = .ok (.value v') w' ∧ Newer w w' ob ∧ t.c = w.heap.size ∧ VR (updR ρ n t) v v' ∧ OR (updR ρ n t) (some ob) t b

theorem mem1 {o : Oper} {x : Operand} {l : Array Operand} (h : o.op.operands = l) (hx : x ∈ l) : x ∈ o.op.operands := by rw [h]; exact hx
theorem run_v {P : Program} {w w' : World} {s : Sem Value} {v : Value} (h : s.run P w = .ok v w') : (do pure (Next.value (← s)) : Sem Next).run P w = .ok (.value v) w' := by
  simp [h]

theorem pu_move {P : Program} {o : Oper} {x : Operand} (ho : o.op = .move x) : PuS P o (opd x) := fun tm k h => by
  obtain ⟨v, h1, h2⟩ := opd_inv h
  exact ⟨v, h2, fun ρ a w hr => ⟨a.eval x, hr x (mem1 (l := #[x]) (by rw [ho]; rfl) (by simp)) v h1, by simp [execOp, ho]⟩⟩
theorem pu_assign {P : Program} {o : Oper} {x : Operand} (ho : o.op = .assign x) : PuS P o (opd x) := fun tm k h => by
  obtain ⟨v, h1, h2⟩ := opd_inv h
  exact ⟨v, h2, fun ρ a w hr => ⟨a.eval x, hr x (mem1 (l := #[x]) (by rw [ho]; rfl) (by simp)) v h1, by simp [execOp, ho]⟩⟩
theorem VR.b_inv {ρ : Ren} {x : Bool} {v : Value} (h : VR ρ (.b x) v) : v = .bool x := by cases h; rfl
theorem VR.i_inv {ρ : Ren} {q : IntKind} {x : Int} {v : Value} (h : VR ρ (.i q x) v) : v = .int q x := by cases h; rfl
theorem VR.s_inv {ρ : Ren} {x : List UInt8} {v : Value} (h : VR ρ (.s x) v) : v = .string ⟨x.toArray⟩ := by cases h; rfl
theorem VR.p_inv {ρ : Ren} {b : Pn} {o : Nat} {v : Value} (h : VR ρ (.p b o) v) : ∃ t, ρ b = some t ∧ v = .pointer (some ⟨t.c, t.d + o, none⟩) := by cases h with | p h => exact ⟨_, h, rfl⟩
theorem VR.m_inv {ρ : Ren} {b : Pn} {v : Value} (h : VR ρ (.m b) v) : ∃ t, ρ b = some t ∧ v = .map (some t.c) := by cases h with | m h => exact ⟨_, h, rfl⟩
theorem VR.sl_inv {ρ : Ren} {b : Pn} {o n c x : Nat} {v : Value} (h : VR ρ (.sl b o n c x) v) :
    ∃ t off c', ρ b = some t ∧ v = .slice (some ⟨t.c, off, none⟩) n c' ∧ (off = t.d + o ∨ c' = 0) ∧ c ≤ c' ∧ (x = 0 → c' = c) ∧ (x ≠ 0 → off + c' * x ≤ t.sz) ∧ n ≤ c := by
  cases h with | sl h ho hn hc hx hr => exact ⟨_, _, _, h, rfl, ho, hc, hx, hr, hn⟩
theorem VR.ns_inv {ρ : Ren} {v : Value} (h : VR ρ .ns v) : v = .slice none 0 0 := by cases h; rfl
theorem VR.nm_inv {ρ : Ren} {v : Value} (h : VR ρ .nm v) : v = .map none := by cases h; rfl
theorem VR.np_inv {ρ : Ren} {v : Value} (h : VR ρ .np v) : v = .pointer none := by cases h; rfl
theorem VR.ni_inv {ρ : Ren} {v : Value} (h : VR ρ .ni v) : v = .nilIface := by cases h; rfl
theorem VR.nf_inv {ρ : Ren} {v : Value} (h : VR ρ .nf v) : v = .nilFunc := by cases h; rfl
theorem VR.ifc_inv {ρ : Ren} {t : TypeId} {x : AV} {v : Value} (h : VR ρ (.ifc t x) v) : ∃ u, v = .iface t u ∧ VR ρ x u := by cases h with | ifc h => exact ⟨_, rfl, h⟩
theorem VR.y_inv {ρ : Ren} {b : Pn} {v : Value} (h : VR ρ (.y b) v) : ∃ t, ρ b = some t ∧ v = .func (.yield t.c) #[] #[] := by cases h with | y h => exact ⟨_, h, rfl⟩

theorem pu_pick {P : Program} {o : Oper} {c x y : Operand} (ho : o.op = .pick c x y) : PuS P o (fun tm k => opd c tm fun c => asB c (opd x tm k) (opd y tm k)) := fun tm k h => by
  obtain ⟨v, h1, h2⟩ := opd_inv h
  simp only [h2] at h ⊢
  obtain ⟨b, rfl, h4⟩ := asB_inv h
  rw [h4] at h ⊢
  have e : o.op.operands = #[c, x, y] := by rw [ho]; rfl
  cases b with
  | true =>
    simp only [if_true] at h ⊢
    obtain ⟨u, h5, h6⟩ := opd_inv h
    refine ⟨u, h6, fun ρ a w hr => ⟨a.eval x, hr x (mem1 e (by simp)) u h5, ?_⟩⟩
    have := (hr c (mem1 e (by simp)) _ h1).b_inv
    simp [execOp, ho, this, asBool]
  | false =>
    simp only [Bool.false_eq_true, if_false] at h ⊢
    obtain ⟨u, h5, h6⟩ := opd_inv h
    refine ⟨u, h6, fun ρ a w hr => ⟨a.eval y, hr y (mem1 e (by simp)) u h5, ?_⟩⟩
    have := (hr c (mem1 e (by simp)) _ h1).b_inv
    simp [execOp, ho, this, asBool]
theorem pu_nilCheck {P : Program} {o : Oper} {x : Operand} (ho : o.op = .nilCheck x) : PuS P o (fun tm k => opd x tm fun v => ifK (someV v) 215 fun _ => k v) := fun tm k h => by
  obtain ⟨v, h1, h2⟩ := opd_inv h
  simp only [h2] at h ⊢
  obtain ⟨h3, h4⟩ := ifK_inv h
  refine ⟨v, h4, fun ρ a w hr => ⟨a.eval x, hr x (mem1 (l := #[x]) (by rw [ho]; rfl) (by simp)) v h1, ?_⟩⟩
  have hx := hr x (mem1 (l := #[x]) (by rw [ho]; rfl) (by simp)) v h1
  simp only [execOp, ho]
  generalize a.eval x = u at hx ⊢
  cases hx with
  | p h => rfl
  | ifc h => rfl
  | y h => rfl
  | @f fn l m a b h1 h2 h5 h6 => cases fn <;> first | rfl | (simp [someV, isFn] at h3)
  | _ => simp [someV] at h3

/-! ### numbers -/
theorem kidx_inj {q q' : IntKind} (h : Nat.beq (kidx q) (kidx q') = true) : q = q' := by
  cases q <;> cases q' <;> first | rfl | (simp [kidx] at h)
theorem ble_iff {m n : Nat} : Nat.ble m n = true ↔ m ≤ n := ⟨Nat.le_of_ble_eq_true, Nat.ble_eq_true_of_le⟩
theorem beq_iff {m n : Nat} : Nat.beq m n = true ↔ m = n := ⟨Nat.eq_of_beq_eq_true, fun h => by subst h; exact Nat.beq_refl m⟩
theorem wrap_any {k : IntKind} {z : Int} (h1 : z ≤ bnd k) (h2 : (if sgn k then -(bnd k : Int) - 1 else 0) ≤ z) : k.wrap z = z := by
  cases k <;> simp only [bnd, sgn, if_true, Bool.false_eq_true, if_false] at h1 h2
  · exact IntWalk.i8_in z (by omega)
  · exact IntWalk.i16_in z (by omega)
  · exact IntWalk.i32_in z (by omega)
  · exact IntWalk.i64_in z (by omega)
  · exact IntWalk.u8_in z (by omega)
  · exact IntWalk.u16_in z (by omega)
  · exact IntWalk.u32_in z (by omega)
  · exact IntWalk.u64_in z (by omega)
theorem wrap_fits {k : IntKind} {m : Nat} (h : m ≤ bnd k) : k.wrap (m : Int) = m := wrap_any (by omega) (by split <;> omega)
theorem wrap_neg {k : IntKind} {m : Nat} (hs : sgn k = true) (h : m ≤ bnd k) : k.wrap (Int.negSucc m) = Int.negSucc m := wrap_any (by omega) (by rw [if_pos hs]; omega)
theorem wr_eq (k : IntKind) (z : Int) : wr k z = k.wrap z := by
  unfold wr
  cases z with
  | ofNat m =>
    simp only
    split
    · rename_i h; exact (wrap_fits (ble_iff.1 h)).symm
    · rfl
  | negSucc m =>
    simp only
    split
    · rename_i hs
      split
      · rename_i h; exact (wrap_neg hs (ble_iff.1 h)).symm
      · rfl
    · rfl
theorem ieq_eq (x y : Int) : ieq x y = (x == y) := by
  unfold ieq
  cases x <;> cases y <;> simp only
  · rename_i m n; rw [Bool.eq_iff_iff, beq_iff]; simp; exact Int.ofNat_inj.symm
  · simp
  · simp
  · rename_i m n; rw [Bool.eq_iff_iff, beq_iff]; simp
theorem ile_eq (x y : Int) : ile x y = decide (x ≤ y) := by
  unfold ile
  cases x <;> cases y <;> simp only
  · rename_i m n; rw [Bool.eq_iff_iff, ble_iff]; simp
  · rename_i m n; symm; simp; omega
  · rename_i m n; symm; simp; omega
  · rename_i m n; rw [Bool.eq_iff_iff, ble_iff, decide_eq_true_eq]; omega
theorem seq_eq (x : List UInt8) : ∀ y, seq x y = (x == y) := by
  induction x with
  | nil => intro y; cases y <;> rfl
  | cons a x ih =>
    intro y
    cases y with
    | nil => rfl
    | cons b y =>
      have e : seq (a :: x) (b :: y) = Bool.rec false (seq x y) (Nat.beq a.toNat b.toNat) := rfl
      rw [e, ih y]
      cases h : Nat.beq a.toNat b.toNat with
      | true =>
        have : a = b := UInt8.toNat_inj.1 (beq_iff.1 h)
        subst this
        simp
      | false =>
        have : a ≠ b := fun e => by subst e; rw [Nat.beq_refl] at h; cases h
        simp [this]
theorem slt_eq (x : List UInt8) : ∀ y, slt x y = Op.bytesLess x y := by
  induction x with
  | nil => intro y; cases y <;> rfl
  | cons a x ih =>
    intro y
    cases y with
    | nil => rfl
    | cons b y =>
      have e : slt (a :: x) (b :: y) = Bool.rec (Nat.ble (a.toNat + 1) b.toNat) (slt x y) (Nat.beq a.toNat b.toNat) := rfl
      rw [e, ih y, Op.bytesLess]
      cases h : Nat.beq a.toNat b.toNat with
      | true =>
        have : a = b := UInt8.toNat_inj.1 (beq_iff.1 h)
        subst this
        simp
      | false =>
        have h1 : a ≠ b := fun e => by subst e; rw [Nat.beq_refl] at h; cases h
        simp only [beq_eq_false_iff_ne.2 h1, Bool.false_and, Bool.or_false]
        rw [Bool.eq_iff_iff, ble_iff, decide_eq_true_eq, UInt8.lt_iff_toNat_lt]
        omega

/-! ### what an operation of two operands comes to -/
theorem pu2_of {P : Program} {o : Oper} {op : BinOp} {t u : TypeId} {x y : Operand} (ho : o.op = .binOp op t x y u) {g : AV → AV → (AV → R) → R}
    (h : ∀ p q k, Ok (g p q k) → ∃ v, g p q k = k v ∧ ∀ (ρ : Ren) (p' q' : Value) (w : World), VR ρ p p' → VR ρ q q' →
      ∃ v', VR ρ v v' ∧ (do eqGuard op t x y p' q'; binOp op t p' q' : Sem Value).run P w = .ok v' w) : 
    ∃ f, pu2 x y g = .pu f ∧ PuS P o f := by
  refine ⟨_, rfl, fun tm k hk => ?_⟩
  obtain ⟨p, h1, h2⟩ := opd_inv hk
  simp only [h2] at hk ⊢
  obtain ⟨q, h3, h4⟩ := opd_inv hk
  simp only [h4] at hk ⊢
  obtain ⟨v, h5, h6⟩ := h p q k hk
  refine ⟨v, h5, fun ρ a w hr => ?_⟩
  have e : o.op.operands = #[x, y] := by rw [ho]; rfl
  obtain ⟨v', h7, h8⟩ := h6 ρ _ _ w (hr x (mem1 e (by simp)) p h1) (hr y (mem1 e (by simp)) q h3)
  exact ⟨v', h7, by simp only [execOp, ho]; exact run_v h8⟩
def isEql (op : BinOp) : Bool := match op with
  | .eql => true
  | .neq => true
  | _ => false
theorem noguard {P : Program} {op : BinOp} {t : TypeId} {x y : Operand} {p q : Value} (h : isEql op = false) (w : World) (s : Sem Value) :
    (do eqGuard op t x y p q; s : Sem Value).run P w = s.run P w := by
  have : eqGuard op t x y p q = pure () := by
    unfold eqGuard
    cases op <;> first | rfl | (cases h)
  rw [this]; rfl
theorem i2_inv {g : IntKind → Int → Int → AV} {x y : AV} {k : AV → R} (h : Ok (i2 g x y k)) : ∃ q a b, x = .i q a ∧ y = .i q b ∧ i2 g x y k = k (g q a b) := by
  unfold i2 at h ⊢
  obtain ⟨q, a, rfl, h2⟩ := asI_inv h
  rw [h2] at h ⊢
  obtain ⟨q', b, rfl, h4⟩ := asI_inv h
  rw [h4] at h ⊢
  obtain ⟨h5, h6⟩ := ifK_inv h
  have := kidx_inj h5
  subst this
  exact ⟨q, a, b, rfl, rfl, h6⟩
theorem isS_inv {v : AV} (h : isS v = true) : ∃ l, v = .s l := by cases v <;> first | exact ⟨_, rfl⟩ | cases h
/-- numbers -/
theorem pu2_int {P : Program} {o : Oper} {op : BinOp} {t u : TypeId} {x y : Operand} (ho : o.op = .binOp op t x y u) (hn : isEql op = false) (g : IntKind → Int → Int → AV) (g' : IntKind → Int → Int → Value)
    (hg : ∀ ρ q a b, VR ρ (g q a b) (g' q a b)) (hb : ∀ q a b, binOp op t (.int q a) (.int q b) = (pure (g' q a b) : Sem Value)) : ∃ f, pu2 x y (i2 g) = .pu f ∧ PuS P o f :=
  pu2_of ho fun p q k hk => by
    obtain ⟨kd, a, b, rfl, rfl, h3⟩ := i2_inv hk
    refine ⟨_, h3, fun ρ p' q' w h1 h2 => ?_⟩
    rw [h1.i_inv, h2.i_inv, noguard hn, hb]
    exact ⟨_, hg ρ kd a b, rfl⟩
section
variable {P : Program} {o : Oper} {t u : TypeId} {x y : Operand}
theorem s_append (l m : List UInt8) : (⟨l.toArray⟩ : ByteArray) ++ ⟨m.toArray⟩ = ⟨(l ++ m).toArray⟩ := by
  apply ByteArray.ext
  simp
theorem s_size (l : List UInt8) : (⟨l.toArray⟩ : ByteArray).size = l.length := by simp [ByteArray.size]
theorem s_toList (l : List UInt8) : (⟨l.toArray⟩ : ByteArray).data.toList = l := by simp
theorem pu_add (ho : o.op = .binOp .add t x y u) : ∃ f, pu2 x y bAdd = .pu f ∧ PuS P o f :=
  pu2_of ho fun p q k hk => by
    unfold bAdd at hk ⊢
    cases hs : isS p with
    | false =>
      simp only [hs] at hk ⊢
      obtain ⟨kd, a, b, rfl, rfl, h3⟩ := i2_inv hk
      refine ⟨_, h3, fun ρ p' q' w h1 h2 => ?_⟩
      rw [h1.i_inv, h2.i_inv, noguard rfl, wr_eq]
      refine ⟨_, .i _ _, ?_⟩
      simp [binOp, Op.intArith]
    | true =>
      simp only [hs] at hk ⊢
      obtain ⟨l, rfl, h4⟩ := asS_inv hk
      rw [h4] at hk ⊢
      obtain ⟨m, rfl, h6⟩ := asS_inv hk
      rw [h6] at hk ⊢
      obtain ⟨h7, h8⟩ := ifK_inv hk
      refine ⟨_, h8, fun ρ p' q' w h1 h2 => ?_⟩
      rw [h1.s_inv, h2.s_inv, noguard rfl]
      refine ⟨_, .s _, ?_⟩
      have hb := ble_iff.1 h7
      have h63 : ¬ (((ByteArray.size ⟨l.toArray⟩ + ByteArray.size ⟨m.toArray⟩ : Nat) : Int) > IntKind.i64.max) := by
        rw [s_size, s_size]
        show ¬ ((l.length + m.length : Nat) : Int) > 9223372036854775807
        omega
      simp only [binOp, Op.stringOp, if_neg h63, s_append]
      rfl
theorem pu_sub (ho : o.op = .binOp .sub t x y u) : ∃ f, pu2 x y (i2 fun q a b => .i q (wr q (Int.sub a b))) = .pu f ∧ PuS P o f :=
  pu2_int ho rfl _ (fun q a b => .int q (q.wrap (a - b))) (fun ρ q a b => by rw [wr_eq]; exact .i _ _) (fun q a b => by simp [binOp, Op.intArith])
theorem pu_mul (ho : o.op = .binOp .mul t x y u) : ∃ f, pu2 x y (i2 fun q a b => .i q (wr q (Int.mul a b))) = .pu f ∧ PuS P o f :=
  pu2_int ho rfl _ (fun q a b => .int q (q.wrap (a * b))) (fun ρ q a b => by rw [wr_eq]; exact .i _ _) (fun q a b => by simp [binOp, Op.intArith])
theorem nonzero_inv {y : AV} {k : Unit → R} (h : Ok (nonzero y k)) : ∃ q a, y = .i q a ∧ a ≠ 0 ∧ nonzero y k = k () := by
  unfold nonzero at h ⊢
  obtain ⟨q, a, rfl, h2⟩ := asI_inv h
  rw [h2] at h ⊢
  refine ⟨q, a, rfl, ?_, ?_⟩
  · rintro rfl; exact ok_er h
  · cases ha : isZ a with
    | false => rfl
    | true => rw [ha] at h; exact (ok_er h).elim
theorem pu2_nz {op : BinOp} (ho : o.op = .binOp op t x y u) (hn : isEql op = false) (g : IntKind → Int → Int → AV) (g' : IntKind → Int → Int → Value)
    (hg : ∀ ρ q a b, VR ρ (g q a b) (g' q a b)) (hb : ∀ q a b, b ≠ 0 → binOp op t (.int q a) (.int q b) = (pure (g' q a b) : Sem Value)) : ∃ f, pu2 x y (fun a b k => nonzero b fun _ => i2 g a b k) = .pu f ∧ PuS P o f :=
  pu2_of ho fun p q k hk => by
    obtain ⟨q0, b0, rfl, hz, hk2⟩ := nonzero_inv hk
    rw [hk2] at hk ⊢
    obtain ⟨kd, a, b, rfl, e2, h3⟩ := i2_inv hk
    injection e2 with e3 e4
    subst e3; subst e4
    refine ⟨_, h3, fun ρ p' q' w h1 h2 => ?_⟩
    rw [h1.i_inv, h2.i_inv, noguard hn, hb _ _ _ hz]
    exact ⟨_, hg ρ _ a _, rfl⟩
theorem pu_quo (ho : o.op = .binOp .quo t x y u) : ∃ f, pu2 x y (fun a b k => nonzero b fun _ => i2 (fun q a b => .i q (wr q (a.tdiv b))) a b k) = .pu f ∧ PuS P o f :=
  pu2_nz ho rfl _ (fun q a b => .int q (q.wrap (a.tdiv b))) (fun ρ q a b => by rw [wr_eq]; exact .i _ _) (fun q a b hb => by simp [binOp, Op.intDiv, hb])
theorem pu_rem (ho : o.op = .binOp .rem t x y u) : ∃ f, pu2 x y (fun a b k => nonzero b fun _ => i2 (fun q a b => .i q (a.tmod b)) a b k) = .pu f ∧ PuS P o f :=
  pu2_nz ho rfl _ (fun q a b => .int q (a.tmod b)) (fun ρ q a b => .i _ _) (fun q a b hb => by simp [binOp, Op.intDiv, hb])
theorem pu_bits {op : BinOp} (hop : op = .and ∨ op = .or ∨ op = .xor ∨ op = .andNot) (ho : o.op = .binOp op t x y u) : ∃ f, pu2 x y (bBits op) = .pu f ∧ PuS P o f := by
  have : bBits op = i2 fun q a b => .i q (bits op q a b) := rfl
  rw [this]
  refine pu2_int ho (by rcases hop with rfl | rfl | rfl | rfl <;> rfl) _ (fun q a b => .int q (bits op q a b)) (fun ρ q a b => .i _ _) (fun q a b => ?_)
  rcases hop with rfl | rfl | rfl | rfl <;> simp [binOp, Op.intBits, bits]
theorem natK_inv {a : Int} {c : Nat} {k : Nat → R} (h : Ok (natK a c k)) : ∃ n : Nat, a = n ∧ natK a c k = k n := by
  cases a with
  | ofNat n => exact ⟨n, rfl, rfl⟩
  | negSucc n => exact (ok_er h).elim
theorem pu_shl (ho : o.op = .binOp .shl t x y u) : ∃ f, pu2 x y bShl = .pu f ∧ PuS P o f :=
  pu2_of ho fun p q k hk => by
    unfold bShl at hk ⊢
    obtain ⟨kd, a, rfl, h2⟩ := asI_inv hk
    rw [h2] at hk ⊢
    obtain ⟨kd', b, rfl, h4⟩ := asI_inv hk
    rw [h4] at hk ⊢
    obtain ⟨n, rfl, h6⟩ := natK_inv hk
    refine ⟨_, h6, fun ρ p' q' w h1 h2 => ?_⟩
    rw [h1.i_inv, h2.i_inv, noguard rfl, wr_eq]
    refine ⟨_, .i _ _, ?_⟩
    have hz : ¬ (n : Int) < 0 := by omega
    simp [binOp, Op.shift, hz]
theorem pu_shr (ho : o.op = .binOp .shr t x y u) : ∃ f, pu2 x y bShr = .pu f ∧ PuS P o f :=
  pu2_of ho fun p q k hk => by
    unfold bShr at hk ⊢
    obtain ⟨kd, a, rfl, h2⟩ := asI_inv hk
    rw [h2] at hk ⊢
    obtain ⟨kd', b, rfl, h4⟩ := asI_inv hk
    rw [h4] at hk ⊢
    obtain ⟨n, rfl, h6⟩ := natK_inv hk
    refine ⟨_, h6, fun ρ p' q' w h1 h2 => ?_⟩
    rw [h1.i_inv, h2.i_inv, noguard rfl]
    refine ⟨_, .i _ _, ?_⟩
    have hz : ¬ (n : Int) < 0 := by omega
    simp [binOp, Op.shift, hz]
theorem pu_cmp {op : BinOp} (ho : o.op = .binOp op t x y u) (hn : isEql op = false) (fi : Int → Int → Bool) (fs : List UInt8 → List UInt8 → Bool)
    (hi : ∀ q a b, binOp op t (.int q a) (.int q b) = (pure (.bool (fi a b)) : Sem Value)) (hs : ∀ l m : List UInt8, binOp op t (.string ⟨l.toArray⟩) (.string ⟨m.toArray⟩) = (pure (.bool (fs l m)) : Sem Value)) :
    ∃ f, pu2 x y (bCmp fi fs) = .pu f ∧ PuS P o f :=
  pu2_of ho fun p q k hk => by
    unfold bCmp at hk ⊢
    cases hc : isS p with
    | false =>
      simp only [hc] at hk ⊢
      obtain ⟨kd, a, b, rfl, rfl, h3⟩ := i2_inv hk
      refine ⟨_, h3, fun ρ p' q' w h1 h2 => ?_⟩
      rw [h1.i_inv, h2.i_inv, noguard hn, hi]
      exact ⟨_, .b _, rfl⟩
    | true =>
      simp only [hc] at hk ⊢
      obtain ⟨l, rfl, h4⟩ := asS_inv hk
      rw [h4] at hk ⊢
      obtain ⟨m, rfl, h6⟩ := asS_inv hk
      refine ⟨_, h6, fun ρ p' q' w h1 h2 => ?_⟩
      rw [h1.s_inv, h2.s_inv, noguard hn, hs]
      exact ⟨_, .b _, rfl⟩
theorem s_list (l : List UInt8) : (⟨l.toArray⟩ : ByteArray).toList = l := by
  rw [ByteArray.toList_eq]
theorem pu_lss (ho : o.op = .binOp .lss t x y u) : ∃ f, pu2 x y (bCmp (fun a b => !ile b a) slt) = .pu f ∧ PuS P o f :=
  pu_cmp ho rfl _ _ (fun q a b => by simp [binOp, Op.intCmp, ile_eq, ← Int.not_le]) (fun l m => by simp [binOp, Op.stringOp, slt_eq])
theorem pu_leq (ho : o.op = .binOp .leq t x y u) : ∃ f, pu2 x y (bCmp ile (fun a b => slt a b || seq a b)) = .pu f ∧ PuS P o f :=
  pu_cmp ho rfl _ _ (fun q a b => by simp [binOp, Op.intCmp, ile_eq]) (fun l m => by simp [binOp, Op.stringOp, slt_eq, seq_eq])
theorem pu_gtr (ho : o.op = .binOp .gtr t x y u) : ∃ f, pu2 x y (bCmp (fun a b => !ile a b) (fun a b => !(slt a b || seq a b))) = .pu f ∧ PuS P o f :=
  pu_cmp ho rfl _ _ (fun q a b => by simp [binOp, Op.intCmp, ile_eq, ← Int.not_le]) (fun l m => by simp [binOp, Op.stringOp, slt_eq, seq_eq])
theorem pu_geq (ho : o.op = .binOp .geq t x y u) : ∃ f, pu2 x y (bCmp (fun a b => ile b a) (fun a b => !slt a b)) = .pu f ∧ PuS P o f :=
  pu_cmp ho rfl _ _ (fun q a b => by simp [binOp, Op.intCmp, ile_eq]) (fun l m => by simp [binOp, Op.stringOp, slt_eq])
end
end Ax
end Go.Proofs.YtnnhkajjifmlfaaDoor
