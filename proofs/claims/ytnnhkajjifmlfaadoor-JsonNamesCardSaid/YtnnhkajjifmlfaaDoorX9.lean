/- The operations on fields, places, slices, aggregates. -/
import Derived.Test.YtnnhkajjifmlfaaDoorX8
namespace Go.Proofs.YtnnhkajjifmlfaaDoor
namespace Ax
section
variable {E : Env} {o : Oper} {t u : TypeId} {x y : Operand}

theorem natV_inv {v : AV} {k : Nat → R} (h : Ok (natV v k)) : ∃ (q : IntKind) (n : Nat), v = .i q n ∧ natV v k = k n := by
  unfold natV at h ⊢
  obtain ⟨q, a, rfl, h2⟩ := asI_inv h
  rw [h2] at h ⊢
  obtain ⟨n, rfl, h4⟩ := natK_inv h
  exact ⟨q, n, rfl, h4⟩
/-- what a bound that may be left out comes to -/
def BoundV (x : Option Operand) (d : Nat) (tm : Tr AV) (n : Nat) : Prop := match x with
  | none => n = d
  | some x => ∃ q : IntKind, eva x tm = some (.i q n)
theorem optK_inv {x : Option Operand} {d : Nat} {tm : Tr AV} {k : Nat → R} (h : Ok (optK x d tm k)) : ∃ n, BoundV x d tm n ∧ optK x d tm k = k n := by
  cases x with
  | none => exact ⟨d, rfl, rfl⟩
  | some x =>
    have e : optK (some x) d tm k = opd x tm fun v => natV v k := rfl
    rw [e] at h ⊢
    obtain ⟨v, h1, h2⟩ := opd_inv h
    rw [h2] at h ⊢
    obtain ⟨q, n, rfl, h4⟩ := natV_inv h
    exact ⟨n, ⟨q, h1⟩, h4⟩
theorem boundsK_inv {lo hi mx : Option Operand} {len cap : Nat} {tm : Tr AV} {k : Nat → Nat → Nat → R} (h : Ok (boundsK lo hi mx len cap tm k)) :
    ∃ a b m, BoundV mx cap tm m ∧ BoundV hi len tm b ∧ BoundV lo 0 tm a ∧ m ≤ cap ∧ b ≤ m ∧ a ≤ b ∧ boundsK lo hi mx len cap tm k = k a b m := by
  unfold boundsK at h ⊢
  obtain ⟨m, h1, h2⟩ := optK_inv h
  rw [h2] at h ⊢
  obtain ⟨h3, h4⟩ := ifK_inv h
  rw [h4] at h ⊢
  obtain ⟨b, h5, h6⟩ := optK_inv h
  rw [h6] at h ⊢
  obtain ⟨h7, h8⟩ := ifK_inv h
  rw [h8] at h ⊢
  obtain ⟨a, h9, h10⟩ := optK_inv h
  rw [h10] at h ⊢
  obtain ⟨h11, h12⟩ := ifK_inv h
  exact ⟨a, b, m, h1, h5, h9, ble_iff.1 h3, ble_iff.1 h7, ble_iff.1 h11, h12⟩
/-- the model's bound -/
def BoundR (x : Option Value) (d n : Nat) : Prop := match x with
  | none => n = d
  | some v => ∃ q : IntKind, v = .int q n
theorem bound_rel {ρ : Ren} {tm : Tr AV} {a : Act} {x : Option Operand} {d n : Nat} (h : BoundV x d tm n) (hr : ∀ y, x = some y → ∀ v, eva y tm = some v → VR ρ v (a.eval y)) : BoundR (x.map a.eval) d n := by
  cases x with
  | none => exact h
  | some x =>
    obtain ⟨q, hq⟩ := h
    exact ⟨q, (hr x rfl _ hq).i_inv⟩
theorem run_sliceBound {P : Program} (q : IntKind) {n y : Nat} (c : BoundsCode) (h : n ≤ y) (w : World) : (Instr.sliceBound (.int q n) y c).run P w = .ok n w := by
  have h1 : (0 : Int) ≤ (n : Int) ∧ (n : Int) ≤ (y : Int) := by omega
  simp [Instr.sliceBound, asIntOf, h1]
theorem run_sliceBounds {P : Program} (isSlice : Bool) {len cap a b m : Nat} {lo hi mx : Option Value} (hm : BoundR mx cap m) (hb : BoundR hi len b) (ha : BoundR lo 0 a) (h1 : m ≤ cap) (h2 : b ≤ m) (h3 : a ≤ b) (hmx : mx.isSome = true → hi.isSome = true) (w : World) :
    (Instr.sliceBounds isSlice len cap lo hi mx).run P w = .ok (a, b, m) w := by
  unfold Instr.sliceBounds
  cases mx with
  | none =>
    obtain rfl : m = cap := hm
    cases hi with
    | none =>
      obtain rfl : b = len := hb
      cases lo with
      | none => obtain rfl : a = 0 := ha; simp
      | some l => obtain ⟨q, rfl⟩ := ha; simp [run_sliceBound q _ h3]
    | some h =>
      obtain ⟨q, rfl⟩ := hb
      cases lo with
      | none => obtain rfl : a = 0 := ha; simp [run_sliceBound q _ h2]
      | some l => obtain ⟨q', rfl⟩ := ha; simp [run_sliceBound q _ h2, run_sliceBound q' _ h3]
  | some mv =>
    obtain ⟨q0, rfl⟩ := hm
    cases hi with
    | none => exact absurd (hmx rfl) (by simp)
    | some h =>
      obtain ⟨q, rfl⟩ := hb
      cases lo with
      | none => obtain rfl : a = 0 := ha; simp [run_sliceBound q0 _ h1, run_sliceBound q _ h2]
      | some l => obtain ⟨q', rfl⟩ := ha; simp [run_sliceBound q0 _ h1, run_sliceBound q _ h2, run_sliceBound q' _ h3]
theorem sl_ops {lo hi mx : Option Operand} (ho : o.op = .slice t x lo hi mx) : o.op.operands = #[x] ++ lo.toArray ++ hi.toArray ++ mx.toArray := by rw [ho]; rfl
theorem sl_mem {lo hi mx : Option Operand} (ho : o.op = .slice t x lo hi mx) : x ∈ o.op.operands ∧ (∀ y, lo = some y → y ∈ o.op.operands) ∧ (∀ y, hi = some y → y ∈ o.op.operands) ∧ (∀ y, mx = some y → y ∈ o.op.operands) := by
  rw [sl_ops ho]
  refine ⟨by simp, ?_, ?_, ?_⟩ <;> (rintro y rfl; simp)
theorem addr_add (c d n : Nat) : (⟨c, d, none⟩ : Addr).add n = ⟨c, d + n, none⟩ := by unfold Addr.add; split <;> simp_all
theorem ext_list (l : List UInt8) (a b : Nat) : (⟨l.toArray⟩ : ByteArray).extract a b = ⟨((l.drop a).take (b - a)).toArray⟩ := by
  apply ByteArray.ext
  rw [ByteArray.data_extract]
  apply Array.ext'
  simp [List.extract_eq_take_drop]
theorem pu_slS {i : TI} {lo hi : Option Operand} (hE : EOK E) (hi' : E.ti t = some i) (hd : i.d = .string) (ho : o.op = .slice t x lo hi none) : PuS E.P o (fun tm k => opd x tm fun v => slS lo hi v tm k) := fun tm k hk => by
  obtain ⟨v, h1, h2⟩ := opd_inv hk
  simp only [h2] at hk ⊢
  unfold slS at hk ⊢
  obtain ⟨l, rfl, h4⟩ := asS_inv hk
  rw [h4] at hk ⊢
  obtain ⟨a, b, m, b1, b2, b3, b4, b5, b6, h5⟩ := boundsK_inv hk
  rw [h5] at hk ⊢
  obtain ⟨h6, h7⟩ := cutK_inv hk
  refine ⟨_, h7, fun ρ A w hr => ?_⟩
  obtain ⟨m1, m2, m3, m4⟩ := sl_mem ho
  have hu : E.P.underlying t = some .string := by rw [(tok hE hi').un, hd]
  have e := (hr x m1 _ h1).s_inv
  have hb := run_sliceBounds (P := E.P) false (bound_rel (ρ := ρ) (a := A) b1 (fun y e => by cases e)) (bound_rel b2 (fun y e v hv => hr y (m3 y e) v hv)) (bound_rel b3 (fun y e v hv => hr y (m2 y e) v hv)) b4 b5 b6 (by simp) w
  refine ⟨_, .s _, ?_⟩
  simp only [execOp, ho]
  refine run_v ?_
  rw [e]
  simp only [Instr.sliceAt, Sem.run_bind, run_underlying hu, Result.andThen_ok, Instr.slice, Option.map_none, Option.isSome_none, Bool.false_eq_true, if_false]
  simp only [Option.map_none] at hb
  have e2 : ByteArray.size ⟨l.toArray⟩ = l.length := s_size l
  rw [e2]
  simp [hb, ext_list]
theorem pu_slL {i j : TI} {e : TypeId} {lo hi mx : Option Operand} (hE : EOK E) (hi' : E.ti t = some i) (hd : i.d = .slice e) (hj : E.ti e = some j) (hmx : (mx.isSome && hi.isNone) = false) (ho : o.op = .slice t x lo hi mx) :
    PuS E.P o (fun tm k => opd x tm fun v => slL j.size lo hi mx v tm k) := fun tm k hk => by
  obtain ⟨v, h1, h2⟩ := opd_inv hk
  simp only [h2] at hk ⊢
  unfold slL at hk ⊢
  obtain ⟨m1, m2, m3, m4⟩ := sl_mem ho
  have hu : E.P.underlying t = some (.slice e) := by rw [(tok hE hi').un, hd]
  have hms : ∀ A : Act, (mx.map A.eval).isSome = true → (hi.map A.eval).isSome = true := by
    intro A
    cases mx <;> cases hi <;> simp_all
  rcases asSl_inv hk with ⟨rfl, h3⟩ | ⟨b, o1, n, c, ex, rfl, h3⟩
  · rw [h3] at hk ⊢
    obtain ⟨a, z, m, b1, b2, b3, b4, b5, b6, h5⟩ := boundsK_inv hk
    rw [h5]
    refine ⟨_, rfl, fun ρ A w hr => ⟨_, .ns, ?_⟩⟩
    have hb := run_sliceBounds (P := E.P) true (bound_rel b1 (fun y e v hv => hr y (m4 y e) v hv)) (bound_rel b2 (fun y e v hv => hr y (m3 y e) v hv)) (bound_rel b3 (fun y e v hv => hr y (m2 y e) v hv)) b4 b5 b6 (hms A) w
    simp only [execOp, ho]
    refine run_v ?_
    rw [(hr x m1 _ h1).ns_inv]
    have z0 : z = 0 := by omega
    have m0 : m = 0 := by omega
    have a0 : a = 0 := by omega
    subst z0; subst m0; subst a0
    simp [Instr.sliceAt, run_underlying hu, Instr.slice, hb, (tok hE hj).run_size]
  · rw [h3] at hk ⊢
    obtain ⟨h6, h7⟩ := ifK_inv hk
    rw [h7] at hk ⊢
    obtain ⟨a, z, m, b1, b2, b3, b4, b5, b6, h5⟩ := boundsK_inv hk
    rw [h5]
    refine ⟨_, rfl, fun ρ A w hr => ?_⟩
    obtain ⟨tb, off, c', g1, g2, g3, g4, g5, g6, _⟩ := (hr x m1 _ h1).sl_inv
    -- the model's own bound behind the capacity
    have hcap : ∃ m', BoundR (mx.map A.eval) c' m' ∧ m' ≤ c' ∧ m ≤ m' ∧ (mx.isSome = true → m' = m) ∧ (mx.isSome = false → m' = c' ∧ m = c) := by
      cases mx with
      | none => exact ⟨c', rfl, Nat.le_refl _, by have : m = c := b1; omega, by simp, fun _ => ⟨rfl, b1⟩⟩
      | some y => exact ⟨m, bound_rel b1 (fun y e v hv => hr y (m4 y e) v hv), by omega, Nat.le_refl _, fun _ => rfl, by simp⟩
    obtain ⟨m', c1, c2, c3, c4, c5⟩ := hcap
    have hb := run_sliceBounds (P := E.P) true c1 (bound_rel b2 (fun y e v hv => hr y (m3 y e) v hv)) (bound_rel b3 (fun y e v hv => hr y (m2 y e) v hv)) c2 (by omega) b6 (hms A) w
    refine ⟨.slice (some (if m' = a then ⟨tb.c, off, none⟩ else ⟨tb.c, off + a * j.size, none⟩)) (z - a) (m' - a), ?_, ?_⟩
    · have e0 : (if m' = a then (⟨tb.c, off, none⟩ : Addr) else ⟨tb.c, off + a * j.size, none⟩) = ⟨tb.c, if m' = a then off else off + a * j.size, none⟩ := by split <;> rfl
      rw [e0]
      refine .sl g1 ?_ (by omega) (by omega) ?_ ?_
      · by_cases hma : m' = a
        · exact .inr (by omega)
        · rw [if_neg hma]
          rcases g3 with g3 | g3
          · left; omega
          · exact absurd (by omega : m' = a) hma
      · intro hx
        cases hmi : mx.isSome with
        | true => rw [c4 hmi]
        | false => rw [hmi] at hx; obtain ⟨q1, q2⟩ := c5 hmi; rw [q1, q2, g5 hx]
      · intro hx
        cases hmi : mx.isSome with
        | true => rw [hmi] at hx; exact absurd rfl hx
        | false =>
          rw [hmi] at hx
          obtain ⟨q1, q2⟩ := c5 hmi
          have hes : ex = j.size := by
            rw [Bool.or_eq_true, beq_iff, beq_iff] at h6
            rcases h6 with h | h
            · exact absurd h hx
            · exact h
          have g7 := g6 hx
          show (if m' = a then off else off + a * j.size) + (m' - a) * ex ≤ tb.sz
          rw [← hes, q1]
          split
          · rename_i e; rw [e, Nat.sub_self, Nat.zero_mul]; have := Nat.zero_le (c' * ex); omega
          · have : (c' - a) * ex = c' * ex - a * ex := Nat.sub_mul _ _ _
            have h8 : a * ex ≤ c' * ex := Nat.mul_le_mul_right _ (by omega)
            omega
    · simp only [execOp, ho]
      refine run_v ?_
      rw [g2]
      simp only [Instr.sliceAt, Sem.run_bind, run_underlying hu, Result.andThen_ok, Instr.slice, hb, (tok hE hj).run_size, Sem.run_pure, Option.map_some, addr_add]
      congr 2
      split <;> rfl
end
end Ax
end Go.Proofs.YtnnhkajjifmlfaaDoor
