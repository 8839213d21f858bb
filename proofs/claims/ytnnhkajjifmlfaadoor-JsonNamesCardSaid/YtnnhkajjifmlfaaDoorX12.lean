/- Lengths, least and greatest, conversions that only reckon. -/
import Derived.Test.YtnnhkajjifmlfaaDoorX11
import Derived.Lib.UnsafeStr
namespace Go.Proofs.YtnnhkajjifmlfaaDoor
namespace Ax
section
variable {E : Env} {o : Oper} {t u : TypeId} {x y : Operand}

/-- a call of a built-in function that yields a value -/
theorem run_builtin {P : Program} {c : Call} {b : Builtin} (ho : o.op = .call c) (hb : c.callee = .builtin b) (ρ : Operand → Value) (w : World) :
    (execOp ρ o).run P w = (builtin b c.argTypes o.type (c.args.map fun | .const _ => true | _ => false) (c.args.map ρ)).run P w := by
  simp only [execOp, ho, resolve, hb]
  rfl
theorem bi_mem {c : Call} (ho : o.op = .call c) (hx : x ∈ c.args.toList) : x ∈ o.op.operands := by
  rw [ho]
  show x ∈ Call.operands c
  unfold Call.operands
  exact Array.mem_append_right _ (Array.mem_toList_iff.1 hx)
theorem args_of {c : Call} {xs : List Operand} (h : c.args.toList = xs) : c.args = xs.toArray := by rw [← h]
theorem types_of {c : Call} {ts : List TypeId} (h : c.argTypes.toList = ts) : c.argTypes = ts.toArray := by rw [← h]
section lens
variable {c : Call} {ts : List TypeId} {i : TI} (hE : EOK E) (hi : E.ti t = some i) (ho : o.op = .call c) (hb : c.callee = .builtin .len) (ht : c.argTypes.toList = t :: ts) (hx : c.args.toList = [x])
include ho hb ht hx
theorem len_run {A : Act} {w : World} {n : Nat} (h : (Builtin.len_ (t :: ts).toArray o.type #[A.eval x]).run E.P w = .ok (goInt n) w) : (execOp A.eval o).run E.P w = .ok (.value (.int .i64 n)) w := by
  rw [run_builtin ho hb, args_of hx, types_of ht]
  have : goInt n = .int .i64 n := rfl
  rw [← this]
  exact run_v (by simpa using h)
include hE hi
theorem pu_len_string (hd : i.d = .string) : PuS E.P o (fun tm k => opd x tm fun v => asS v fun l => k (.i .i64 (.ofNat l.length))) := fun tm k hk => by
  obtain ⟨v, h1, h2⟩ := opd_inv hk
  simp only [h2] at hk ⊢
  obtain ⟨l, rfl, h3⟩ := asS_inv hk
  refine ⟨_, h3, fun ρ A w hr => ⟨_, .i _ _, len_run ho hb ht hx ?_⟩⟩
  rw [(hr x (bi_mem ho (by rw [hx]; simp)) _ h1).s_inv]
  simp [Builtin.len_, run_underlying (show E.P.underlying t = some .string by rw [(tok hE hi).un, hd]), s_size]
theorem pu_len_array {n : Nat} {e : TypeId} (hd : i.d = .array n e) : PuS E.P o (fun _ k => k (.i .i64 (.ofNat n))) := fun tm k hk => by
  refine ⟨_, rfl, fun ρ A w hr => ⟨_, .i _ _, len_run ho hb ht hx ?_⟩⟩
  simp [Builtin.len_, run_underlying (show E.P.underlying t = some (.array n e) by rw [(tok hE hi).un, hd])]
theorem pu_len_slice {e : TypeId} (hd : i.d = .slice e) : PuS E.P o (fun tm k => opd x tm fun v => asSl v (k (.i .i64 (.ofNat 0))) fun _ _ n _ _ => k (.i .i64 (.ofNat n))) := fun tm k hk => by
  obtain ⟨v, h1, h2⟩ := opd_inv hk
  simp only [h2] at hk ⊢
  have hu : E.P.underlying t = some (.slice e) := by rw [(tok hE hi).un, hd]
  rcases asSl_inv hk with ⟨rfl, h3⟩ | ⟨b, o1, n, c, ex, rfl, h3⟩
  · refine ⟨_, h3, fun ρ A w hr => ⟨_, .i _ _, len_run ho hb ht hx ?_⟩⟩
    rw [(hr x (bi_mem ho (by rw [hx]; simp)) _ h1).ns_inv]
    simp [Builtin.len_, run_underlying hu]
  · refine ⟨_, h3, fun ρ A w hr => ⟨_, .i _ _, len_run ho hb ht hx ?_⟩⟩
    obtain ⟨tb, off, c', g1, g2, g3⟩ := (hr x (bi_mem ho (by rw [hx]; simp)) _ h1).sl_inv
    rw [g2]
    simp [Builtin.len_, run_underlying hu]
theorem rd_len_map {kt e : TypeId} (hd : i.d = .map kt e) : RdS E.P o (fun tm h k => opd x tm fun v => asM v (k (.i .i64 (.ofNat 0))) fun b => mapK h b fun l _ => k (.i .i64 (.ofNat l.length))) := fun tm h k hk => by
  obtain ⟨v, h1, h2⟩ := opd_inv hk
  simp only [h2] at hk ⊢
  have hu : E.P.underlying t = some (.map kt e) := by rw [(tok hE hi).un, hd]
  rcases asM_inv hk with ⟨rfl, h3⟩ | ⟨b, rfl, h3⟩
  · refine ⟨_, h3, fun ρ A w hr _ => ⟨_, .i _ _, len_run ho hb ht hx ?_⟩⟩
    rw [(hr x (bi_mem ho (by rw [hx]; simp)) _ h1).nm_inv]
    simp [Builtin.len_, run_underlying hu]
  · rw [h3] at hk ⊢
    obtain ⟨l, c0, h4, h5⟩ := mapK_inv hk
    refine ⟨_, h5, fun ρ A w hr hR => ⟨_, .i _ _, len_run ho hb ht hx ?_⟩⟩
    obtain ⟨tb, g1, g2⟩ := (hr x (bi_mem ho (by rw [hx]; simp)) _ h1).m_inv
    obtain ⟨tb', g3, es, l', g4, g5, g6⟩ := by
      have := hR.ob b (by show h.get .x b ≠ .x; rw [h4]; simp)
      rw [show hv h b = .mp l c0 from h4] at this
      exact this
    rw [g1] at g3
    injection g3 with g3
    subst g3
    rw [g2]
    have : es.size = l.length := by rw [← g5.length_eq, ← g6.1, Array.length_toList]
    simp [Builtin.len_, run_underlying hu, getObj, Sem.run, g4, this]
end lens
theorem pu_cap_slice {c : Call} {ts : List TypeId} {i : TI} {e : TypeId} (hE : EOK E) (hi : E.ti t = some i) (ho : o.op = .call c) (hb : c.callee = .builtin .cap) (ht : c.argTypes.toList = t :: ts) (hx : c.args.toList = [x]) (hd : i.d = .slice e) :
    PuS E.P o (fun tm k => opd x tm fun v => asSl v (k (.i .i64 (.ofNat 0))) fun _ _ _ c ex => ifK (Nat.beq ex 0) 190 fun _ => k (.i .i64 (.ofNat c))) := fun tm k hk => by
  obtain ⟨v, h1, h2⟩ := opd_inv hk
  simp only [h2] at hk ⊢
  have hu : E.P.underlying t = some (.slice e) := by rw [(tok hE hi).un, hd]
  rcases asSl_inv hk with ⟨rfl, h3⟩ | ⟨b, o1, n, c0, ex, rfl, h3⟩
  · refine ⟨_, h3, fun ρ A w hr => ⟨_, .i _ _, ?_⟩⟩
    rw [run_builtin ho hb, args_of hx, types_of ht]
    refine run_v ?_
    simp only [List.map_toArray, List.map_cons, List.map_nil, (hr x (bi_mem ho (by rw [hx]; simp)) _ h1).ns_inv]
    simp [Builtin.cap_, run_underlying hu]
    rfl
  · rw [h3] at hk ⊢
    obtain ⟨h4, h5⟩ := ifK_inv hk
    refine ⟨_, h5, fun ρ A w hr => ⟨_, .i _ _, ?_⟩⟩
    obtain ⟨tb, off, c', g1, g2, g3, g4, g5, _⟩ := (hr x (bi_mem ho (by rw [hx]; simp)) _ h1).sl_inv
    rw [run_builtin ho hb, args_of hx, types_of ht]
    refine run_v ?_
    simp only [List.map_toArray, List.map_cons, List.map_nil, g2, g5 (beq_iff.1 h4)]
    simp [Builtin.cap_, run_underlying hu]
    rfl
theorem i2_min {p q : AV} {k : AV → R} (h : Ok (minK p q k)) : ∃ kd a b, p = .i kd a ∧ q = .i kd b ∧ minK p q k = k (.i kd (if b < a then b else a)) := by
  unfold minK at h ⊢
  obtain ⟨kd, a, b, rfl, rfl, h3⟩ := i2_inv h
  refine ⟨kd, a, b, rfl, rfl, h3.trans ?_⟩
  rw [ile_eq]
  by_cases hab : a ≤ b
  · rw [decide_eq_true hab, if_neg (by omega)]
  · rw [decide_eq_false hab, if_pos (by omega)]
theorem i2_max {p q : AV} {k : AV → R} (h : Ok (maxK p q k)) : ∃ kd a b, p = .i kd a ∧ q = .i kd b ∧ maxK p q k = k (.i kd (if b > a then b else a)) := by
  unfold maxK at h ⊢
  obtain ⟨kd, a, b, rfl, rfl, h3⟩ := i2_inv h
  refine ⟨kd, a, b, rfl, rfl, h3.trans ?_⟩
  rw [ile_eq]
  by_cases hab : b ≤ a
  · rw [decide_eq_true hab, if_neg (by omega)]
  · rw [decide_eq_false hab, if_pos (by omega)]
theorem pu_min {c : Call} (ho : o.op = .call c) (hb : c.callee = .builtin .min) (hx : c.args.toList = [x, y]) : ∃ f, pu2 x y minK = .pu f ∧ PuS E.P o f := by
  refine ⟨_, rfl, fun tm k hk => ?_⟩
  obtain ⟨p, h1, h2⟩ := opd_inv hk
  simp only [h2] at hk ⊢
  obtain ⟨q, h3, h4⟩ := opd_inv hk
  simp only [h4] at hk ⊢
  obtain ⟨kd, a, b, rfl, rfl, h5⟩ := i2_min hk
  refine ⟨_, h5, fun ρ A w hr => ⟨_, .i _ _, ?_⟩⟩
  rw [run_builtin ho hb, args_of hx]
  refine run_v ?_
  simp only [List.map_toArray, List.map_cons, List.map_nil, (hr x (bi_mem ho (by rw [hx]; simp)) _ h1).i_inv, (hr y (bi_mem ho (by rw [hx]; simp)) _ h3).i_inv]
  exact run_min_int2 w _ _ _ _ _ _
theorem pu_max {c : Call} (ho : o.op = .call c) (hb : c.callee = .builtin .max) (hx : c.args.toList = [x, y]) : ∃ f, pu2 x y maxK = .pu f ∧ PuS E.P o f := by
  refine ⟨_, rfl, fun tm k hk => ?_⟩
  obtain ⟨p, h1, h2⟩ := opd_inv hk
  simp only [h2] at hk ⊢
  obtain ⟨q, h3, h4⟩ := opd_inv hk
  simp only [h4] at hk ⊢
  obtain ⟨kd, a, b, rfl, rfl, h5⟩ := i2_max hk
  refine ⟨_, h5, fun ρ A w hr => ⟨_, .i _ _, ?_⟩⟩
  rw [run_builtin ho hb, args_of hx]
  refine run_v ?_
  simp only [List.map_toArray, List.map_cons, List.map_nil, (hr x (bi_mem ho (by rw [hx]; simp)) _ h1).i_inv, (hr y (bi_mem ho (by rw [hx]; simp)) _ h3).i_inv]
  exact run_max_int2 w _ _ _ _ _ _
theorem pu_min3 {c : Call} {z : Operand} (ho : o.op = .call c) (hb : c.callee = .builtin .min) (hx : c.args.toList = [x, y, z]) :
    PuS E.P o (fun tm k => opd x tm fun a => opd y tm fun b => opd z tm fun c => minK a b fun d => minK d c k) := fun tm k hk => by
  obtain ⟨p, h1, h2⟩ := opd_inv hk
  simp only [h2] at hk ⊢
  obtain ⟨q, h3, h4⟩ := opd_inv hk
  simp only [h4] at hk ⊢
  obtain ⟨r, h5, h6⟩ := opd_inv hk
  simp only [h6] at hk ⊢
  obtain ⟨kd, a, b, rfl, rfl, h7⟩ := i2_min hk
  rw [h7] at hk ⊢
  obtain ⟨kd', a', b', e1, rfl, h8⟩ := i2_min hk
  injection e1 with e1 e2
  subst e1; subst e2
  refine ⟨_, h8, fun ρ A w hr => ⟨_, .i _ _, ?_⟩⟩
  rw [run_builtin ho hb, args_of hx]
  refine run_v ?_
  simp only [List.map_toArray, List.map_cons, List.map_nil, (hr x (bi_mem ho (by rw [hx]; simp)) _ h1).i_inv, (hr y (bi_mem ho (by rw [hx]; simp)) _ h3).i_inv, (hr z (bi_mem ho (by rw [hx]; simp)) _ h5).i_inv]
  exact run_min_int3 w _ _ _ _ _ _ _ _
theorem pu_sliceData {c : Call} (ho : o.op = .call c) (hb : c.callee = .builtin .unsafeSliceData) (hx : c.args.toList = [x]) :
    PuS E.P o (fun tm k => opd x tm fun v => asSl v (k .np) fun b o _ c _ => ifK (Nat.ble 1 c) 200 fun _ => k (.p b o)) := fun tm k hk => by
  obtain ⟨v, h1, h2⟩ := opd_inv hk
  simp only [h2] at hk ⊢
  rcases asSl_inv hk with ⟨rfl, h3⟩ | ⟨b, o1, n, c0, ex, rfl, h3⟩
  · refine ⟨_, h3, fun ρ A w hr => ⟨_, .np, ?_⟩⟩
    rw [run_builtin ho hb, args_of hx]
    refine run_v ?_
    simp only [List.map_toArray, List.map_cons, List.map_nil, (hr x (bi_mem ho (by rw [hx]; simp)) _ h1).ns_inv]
    exact Lib.run_unsafeSliceData_nil w _ _ _ _
  · rw [h3] at hk ⊢
    obtain ⟨h4, h5⟩ := ifK_inv hk
    refine ⟨_, h5, fun ρ A w hr => ?_⟩
    obtain ⟨tb, off, c', g1, g2, g3, g4, _⟩ := (hr x (bi_mem ho (by rw [hx]; simp)) _ h1).sl_inv
    have hc := ble_iff.1 h4
    have hoff : off = tb.d + o1 := by rcases g3 with g | g; exact g; omega
    subst hoff
    refine ⟨_, .p g1, ?_⟩
    rw [run_builtin ho hb, args_of hx]
    refine run_v ?_
    simp only [List.map_toArray, List.map_cons, List.map_nil, g2]
    exact Lib.run_unsafeSliceData_row w _ _ _ _ _ (by omega)
theorem pu_s2ap {i : TI} {n : Nat} {e : TypeId} (hE : EOK E) (hi : E.ti t = some i) (hd : i.d = .array n e) (ho : o.op = .sliceToArrayPointer t x) :
    PuS E.P o (fun tm k => opd x tm fun v => asSl v (ifK (Nat.beq n 0) 218 fun _ => k .np) fun b o m _ _ => ifK (Nat.ble n m && Nat.ble 1 n) 219 fun _ => k (.p b o)) := fun tm k hk => by
  obtain ⟨v, h1, h2⟩ := opd_inv hk
  simp only [h2] at hk ⊢
  have hu : E.P.underlying t = some (.array n e) := by rw [(tok hE hi).un, hd]
  have hm := fun (ρ : Ren) (A : Act) (hr : VRo ρ tm A o) => hr x (mem1 (l := #[x]) (by rw [ho]; rfl) (by simp)) _ h1
  rcases asSl_inv hk with ⟨rfl, h3⟩ | ⟨b, o1, m, c0, ex, rfl, h3⟩
  · rw [h3] at hk ⊢
    obtain ⟨h4, h5⟩ := ifK_inv hk
    obtain rfl := beq_iff.1 h4
    refine ⟨_, h5, fun ρ A w hr => ⟨_, .np, ?_⟩⟩
    simp only [execOp, ho]
    refine run_v ?_
    rw [(hm ρ A hr).ns_inv]
    simp [Instr.arrayAt, run_underlying hu]
  · rw [h3] at hk ⊢
    obtain ⟨h4, h5⟩ := ifK_inv hk
    refine ⟨_, h5, fun ρ A w hr => ?_⟩
    obtain ⟨tb, off, c', g1, g2, g3, g4, _, _, g7⟩ := (hm ρ A hr).sl_inv
    rw [Bool.and_eq_true, ble_iff, ble_iff] at h4
    have hoff : off = tb.d + o1 := by rcases g3 with g | g; exact g; omega
    subst hoff
    refine ⟨_, .p g1, ?_⟩
    simp only [execOp, ho]
    refine run_v ?_
    rw [g2]
    simp [Instr.arrayAt, run_underlying hu, Nat.not_lt.2 h4.1]

/-! ### conversions -/
theorem kd_inv {d : TypeDesc} : (kd d = 1 → ∃ q, d = .int q) ∧ (kd d = 2 → d = .string) ∧ (kd d = 3 → ∃ e, d = .slice e) ∧ (kd d = 4 → ∃ e, d = .pointer e) ∧ (kd d = 5 → d = .unsafePointer) := by
  cases d <;> simp [kd]
theorem isByte_inv (hE : EOK E) {e : TypeId} (h : isByte E e = true) : ∃ j, E.ti e = some j ∧ j.d = .int .u8 ∧ j.size = 1 ∧ E.P.underlying e = some (.int .u8) := by
  unfold isByte at h
  split at h
  · rename_i j hj
    split at h
    · rename_i hd; exact ⟨j, hj, hd, beq_iff.1 h, by rw [(tok hE hj).un, hd]⟩
    · cases h
  · cases h
section conv
variable {i j : TI} (hE : EOK E) (hi : E.ti t = some i) (hj : E.ti u = some j) (ho : o.op = .convert t u x)
include hE hi hj ho
theorem pu_conv_ii (h1 : kd i.d = 1) (h2 : kd j.d = 1) : PuS E.P o (fun tm k => opd x tm fun v => asI v fun _ a => k (.i (kindOf j.d) (wr (kindOf j.d) a))) := fun tm k hk => by
  obtain ⟨q1, e1⟩ := kd_inv.1 h1
  obtain ⟨q2, e2⟩ := kd_inv.1 h2
  obtain ⟨v, g1, g2⟩ := opd_inv hk
  simp only [g2] at hk ⊢
  obtain ⟨q, a, rfl, g3⟩ := asI_inv hk
  refine ⟨_, g3, fun ρ A w hr => ?_⟩
  rw [wr_eq, e2]
  refine ⟨_, .i _ _, ?_⟩
  simp only [execOp, ho]
  refine run_v ?_
  rw [(hr x (mem1 (l := #[x]) (by rw [ho]; rfl) (by simp)) _ g1).i_inv]
  simp [convert, (tok hE hi).run_un, (tok hE hj).run_un, e1, e2, kindOf, Conv.intToInt]
theorem pu_conv_is (h1 : kd i.d = 1) (h2 : kd j.d = 2) : PuS E.P o (fun tm k => opd x tm fun v => asI v fun _ a => k (.s (Utf8.encode a).data.toList)) := fun tm k hk => by
  obtain ⟨q1, e1⟩ := kd_inv.1 h1
  have e2 := kd_inv.2.1 h2
  obtain ⟨v, g1, g2⟩ := opd_inv hk
  simp only [g2] at hk ⊢
  obtain ⟨q, a, rfl, g3⟩ := asI_inv hk
  refine ⟨_, g3, fun ρ A w hr => ⟨_, .s _, ?_⟩⟩
  simp only [execOp, ho]
  refine run_v ?_
  rw [(hr x (mem1 (l := #[x]) (by rw [ho]; rfl) (by simp)) _ g1).i_inv]
  simp [convert, (tok hE hi).run_un, (tok hE hj).run_un, e1, e2, Conv.intToString]
theorem pu_conv_ss (h1 : kd i.d = 2) (h2 : kd j.d = 2) : PuS E.P o (fun tm k => opd x tm fun v => asS v fun l => k (.s l)) := fun tm k hk => by
  have e1 := kd_inv.2.1 h1
  have e2 := kd_inv.2.1 h2
  obtain ⟨v, g1, g2⟩ := opd_inv hk
  simp only [g2] at hk ⊢
  obtain ⟨l, rfl, g3⟩ := asS_inv hk
  refine ⟨_, g3, fun ρ A w hr => ⟨_, .s _, ?_⟩⟩
  simp only [execOp, ho]
  refine run_v ?_
  rw [(hr x (mem1 (l := #[x]) (by rw [ho]; rfl) (by simp)) _ g1).s_inv]
  simp [convert, (tok hE hi).run_un, (tok hE hj).run_un, e1, e2]
end conv
end
end Ax
end Go.Proofs.YtnnhkajjifmlfaaDoor
