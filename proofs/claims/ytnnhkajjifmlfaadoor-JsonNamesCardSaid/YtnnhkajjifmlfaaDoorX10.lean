/- The operations on places, fields, elements, aggregates; one operand. -/
import Derived.Test.YtnnhkajjifmlfaaDoorX9
namespace Go.Proofs.YtnnhkajjifmlfaaDoor
namespace Ax
section
variable {E : Env} {o : Oper} {t u : TypeId} {x y : Operand}
theorem pu_slA {i j : TI} {n : Nat} {e : TypeId} {lo hi mx : Option Operand} (hE : EOK E) (hi' : E.ti t = some i) (hd : i.d = .array n e) (hj : E.ti e = some j) (hmx : (mx.isSome && hi.isNone) = false) (ho : o.op = .slice t x lo hi mx) :
    PuS E.P o (fun tm k => opd x tm fun v => slA n j.size lo hi mx v tm k) := fun tm k hk => by
  obtain ⟨v, h1, h2⟩ := opd_inv hk
  simp only [h2] at hk ⊢
  unfold slA at hk ⊢
  obtain ⟨m1, m2, m3, m4⟩ := sl_mem ho
  have hu : E.P.underlying t = some (.array n e) := by rw [(tok hE hi').un, hd]
  have hms : ∀ A : Act, (mx.map A.eval).isSome = true → (hi.map A.eval).isSome = true := by
    intro A
    cases mx <;> cases hi <;> simp_all
  obtain ⟨b, o1, rfl, h3⟩ := asP_inv hk
  rw [h3] at hk ⊢
  obtain ⟨a, z, m, b1, b2, b3, b4, b5, b6, h5⟩ := boundsK_inv hk
  rw [h5]
  refine ⟨_, rfl, fun ρ A w hr => ?_⟩
  obtain ⟨tb, g1, g2⟩ := (hr x m1 _ h1).p_inv
  have hb := run_sliceBounds (P := E.P) false (bound_rel b1 (fun y e v hv => hr y (m4 y e) v hv)) (bound_rel b2 (fun y e v hv => hr y (m3 y e) v hv)) (bound_rel b3 (fun y e v hv => hr y (m2 y e) v hv)) b4 b5 b6 (hms A) w
  refine ⟨.slice (some (if m = a then ⟨tb.c, tb.d + o1, none⟩ else ⟨tb.c, tb.d + o1 + a * j.size, none⟩)) (z - a) (m - a), ?_, ?_⟩
  · have e0 : (if m = a then (⟨tb.c, tb.d + o1, none⟩ : Addr) else ⟨tb.c, tb.d + o1 + a * j.size, none⟩) = ⟨tb.c, if m = a then tb.d + o1 else tb.d + o1 + a * j.size, none⟩ := by split <;> rfl
    rw [e0]
    refine .sl g1 ?_ (by omega) (Nat.le_refl _) (fun _ => rfl) (fun h => absurd rfl h)
    by_cases hma : m = a
    · exact .inr (by omega)
    · rw [if_neg hma]; left; omega
  · simp only [execOp, ho]
    refine run_v ?_
    rw [g2]
    simp only [Instr.sliceAt, Sem.run_bind, run_underlying hu, Result.andThen_ok, Instr.sureAddr, Sem.run_pure, hb, (tok hE hj).run_size, addr_add]
theorem pu_fieldAddr {i j : TI} {fs : Array Field} {fd : Field} {f : Nat} (hE : EOK E) (hi : E.ti t = some i) (hd : i.d = .struct fs) (hf : fs[f]? = some fd) (hj : E.ti fd.type = some j) (hz : Nat.beq j.size 0 = false)
    (ho : o.op = .fieldAddr t x f) : PuS E.P o (fun tm k => opd x tm fun v => asP v fun b o => k (.p b (o + fd.offset))) := fun tm k hk => by
  obtain ⟨v, h1, h2⟩ := opd_inv hk
  simp only [h2] at hk ⊢
  obtain ⟨b, o1, rfl, h3⟩ := asP_inv hk
  refine ⟨_, h3, fun ρ A w hr => ?_⟩
  obtain ⟨tb, g1, g2⟩ := (hr x (mem1 (l := #[x]) (by rw [ho]; rfl) (by simp)) _ h1).p_inv
  have hu : E.P.underlying t = some (.struct fs) := by rw [(tok hE hi).un, hd]
  have hz' : j.size ≠ 0 := fun e => by rw [e] at hz; cases hz
  refine ⟨.pointer (some ⟨tb.c, tb.d + (o1 + fd.offset), none⟩), .p g1, ?_⟩
  simp only [execOp, ho]
  refine run_v ?_
  rw [g2]
  simp [Instr.fieldAt, run_underlying hu, hf, Instr.sureAddr, fieldPlace, (tok hE hj).run_size, hz', addr_add, Nat.add_assoc]
theorem partK_inv {P : Program} {t : TypeId} {j : TI} (hT : TOK P t j) {l : List AV} {o : Nat} {k : AV → R} (hk : Ok (partK j l o k)) : ∃ v, partK j l o k = k v ∧ ∀ (ρ : Ren) (xs : List Value) (w : World), VRs ρ l xs → ∃ v', VR ρ v v' ∧ (part t xs.toArray o).run P w = .ok v' w := by
  unfold partK at hk ⊢
  cases ha : j.agg with
  | false =>
    rw [ha] at hk
    obtain ⟨a, h1, h2⟩ := nthK_inv l hk
    refine ⟨a, h2, fun ρ xs w h => ?_⟩
    have hlt : o < xs.length := by rw [h.1]; exact (List.getElem?_eq_some_iff.1 h1).1
    exact ⟨xs[o], h.2 o a _ h1 (List.getElem?_eq_getElem hlt), run_part hT xs o (fun _ => List.getElem?_eq_getElem hlt) (fun e => by rw [ha] at e; cases e)⟩
  | true =>
    rw [ha] at hk
    obtain ⟨h1, h2⟩ := cutK_inv hk
    refine ⟨_, h2, fun ρ xs w h => ⟨_, VR.ag' ((h.drop o).take j.size), run_part hT xs o (fun e => by rw [ha] at e; cases e) (fun _ => rfl)⟩⟩
theorem pu_field {i j : TI} {fs : Array Field} {fd : Field} {f : Nat} (hE : EOK E) (hi : E.ti t = some i) (hd : i.d = .struct fs) (hf : fs[f]? = some fd) (hj : E.ti fd.type = some j)
    (ho : o.op = .field t x f) : PuS E.P o (fun tm k => opd x tm fun v => asAg v fun l => partK j l fd.offset k) := fun tm k hk => by
  obtain ⟨v, h1, h2⟩ := opd_inv hk
  simp only [h2] at hk ⊢
  obtain ⟨l, rfl, h3⟩ := asAg_inv hk
  rw [h3] at hk ⊢
  obtain ⟨v, h4, h5⟩ := partK_inv (tok hE hj) hk
  refine ⟨v, h4, fun ρ A w hr => ?_⟩
  obtain ⟨xs, g1, g2⟩ := (hr x (mem1 (l := #[x]) (by rw [ho]; rfl) (by simp)) _ h1).ag_inv
  obtain ⟨v', g3, g4⟩ := h5 ρ xs w g2
  have hu : E.P.underlying t = some (.struct fs) := by rw [(tok hE hi).un, hd]
  refine ⟨v', g3, ?_⟩
  simp only [execOp, ho]
  refine run_v ?_
  rw [g1]
  simp [Instr.field, run_underlying hu, hf, asAgg, g4]
theorem ix_ops {ix : Operand} (ho : o.op = .indexAddr t x ix ∨ o.op = .index t x ix) : x ∈ o.op.operands ∧ ix ∈ o.op.operands := by
  have e : o.op.operands = #[x, ix] := by rcases ho with ho | ho <;> rw [ho] <;> rfl
  rw [e]; simp
theorem pu_indexAddrA {i j : TI} {n : Nat} {e : TypeId} {ix : Operand} (hE : EOK E) (hi : E.ti t = some i) (hd : i.d = .array n e) (hj : E.ti e = some j) (ho : o.op = .indexAddr t x ix) :
    PuS E.P o (fun tm k => opd x tm fun v => asP v fun b o => opd ix tm fun w => natV w fun q => ifK (Nat.ble (q + 1) n) 80 fun _ => k (.p b (o + q * j.size))) := fun tm k hk => by
  obtain ⟨v, h1, h2⟩ := opd_inv hk
  simp only [h2] at hk ⊢
  obtain ⟨b, o1, rfl, h3⟩ := asP_inv hk
  rw [h3] at hk ⊢
  obtain ⟨v2, h4, h5⟩ := opd_inv hk
  simp only [h5] at hk ⊢
  obtain ⟨kq, q, rfl, h6⟩ := natV_inv hk
  rw [h6] at hk ⊢
  obtain ⟨h7, h8⟩ := ifK_inv hk
  refine ⟨_, h8, fun ρ A w hr => ?_⟩
  obtain ⟨m1, m2⟩ := ix_ops (.inl ho)
  obtain ⟨tb, g1, g2⟩ := (hr x m1 _ h1).p_inv
  have g3 := (hr ix m2 _ h4).i_inv
  have hu : E.P.underlying t = some (.array n e) := by rw [(tok hE hi).un, hd]
  have hq := ble_iff.1 h7
  have hlt : q < n := by omega
  refine ⟨.pointer (some ⟨tb.c, tb.d + (o1 + q * j.size), none⟩), .p g1, ?_⟩
  simp only [execOp, ho]
  refine run_v ?_
  rw [g2, g3]
  simp [Instr.indexAt, run_underlying hu, Instr.sureAddr, asIntOf, hlt, (tok hE hj).run_size, addr_add, Nat.add_assoc]
theorem pu_indexAddrS {i j : TI} {e : TypeId} {ix : Operand} (hE : EOK E) (hi : E.ti t = some i) (hd : i.d = .slice e) (hj : E.ti e = some j) (ho : o.op = .indexAddr t x ix) :
    PuS E.P o (fun tm k => opd x tm fun v => asSl v (.er 84) fun b o n _ _ => opd ix tm fun w => natV w fun q => ifK (Nat.ble (q + 1) n) 83 fun _ => k (.p b (o + q * j.size))) := fun tm k hk => by
  obtain ⟨v, h1, h2⟩ := opd_inv hk
  simp only [h2] at hk ⊢
  rcases asSl_inv hk with ⟨rfl, h3⟩ | ⟨b, o1, n, c, ex, rfl, h3⟩
  · rw [h3] at hk; exact (ok_er hk).elim
  rw [h3] at hk ⊢
  obtain ⟨v2, h4, h5⟩ := opd_inv hk
  simp only [h5] at hk ⊢
  obtain ⟨kq, q, rfl, h6⟩ := natV_inv hk
  rw [h6] at hk ⊢
  obtain ⟨h7, h8⟩ := ifK_inv hk
  refine ⟨_, h8, fun ρ A w hr => ?_⟩
  obtain ⟨m1, m2⟩ := ix_ops (.inl ho)
  obtain ⟨tb, off, c', g1, g2, g3, g4, g5, g6, g7⟩ := (hr x m1 _ h1).sl_inv
  have g8 := (hr ix m2 _ h4).i_inv
  have hu : E.P.underlying t = some (.slice e) := by rw [(tok hE hi).un, hd]
  have hq := ble_iff.1 h7
  have hlt : q < n := by omega
  have hoff : off = tb.d + o1 := by rcases g3 with g | g; exact g; omega
  subst hoff
  refine ⟨.pointer (some ⟨tb.c, tb.d + (o1 + q * j.size), none⟩), .p g1, ?_⟩
  simp only [execOp, ho]
  refine run_v ?_
  rw [g2, g8]
  simp [Instr.indexAt, run_underlying hu, asIntOf, hlt, (tok hE hj).run_size, addr_add, Nat.add_assoc]
theorem pu_indexS {i : TI} {ix : Operand} (hE : EOK E) (hi : E.ti t = some i) (hd : i.d = .string) (ho : o.op = .index t x ix) :
    PuS E.P o (fun tm k => opd x tm fun v => asS v fun l => opd ix tm fun w => natV w fun q => nthK l q fun c => k (.i .u8 (.ofNat c.toNat))) := fun tm k hk => by
  obtain ⟨v, h1, h2⟩ := opd_inv hk
  simp only [h2] at hk ⊢
  obtain ⟨l, rfl, h3⟩ := asS_inv hk
  rw [h3] at hk ⊢
  obtain ⟨v2, h4, h5⟩ := opd_inv hk
  simp only [h5] at hk ⊢
  obtain ⟨kq, q, rfl, h6⟩ := natV_inv hk
  rw [h6] at hk ⊢
  obtain ⟨c, h7, h8⟩ := nthK_inv l hk
  refine ⟨_, h8, fun ρ A w hr => ?_⟩
  obtain ⟨m1, m2⟩ := ix_ops (.inr ho)
  have g1 := (hr x m1 _ h1).s_inv
  have g2 := (hr ix m2 _ h4).i_inv
  have hu : E.P.underlying t = some .string := by rw [(tok hE hi).un, hd]
  obtain ⟨hlt, hc⟩ := List.getElem?_eq_some_iff.1 h7
  refine ⟨.int .u8 c.toNat, .i _ _, ?_⟩
  simp only [execOp, ho]
  refine run_v ?_
  rw [g1, g2]
  have e1 : (⟨l.toArray⟩ : ByteArray)[q]? = some c := by
    have hs : q < ByteArray.size ⟨l.toArray⟩ := by rw [s_size]; exact hlt
    rw [getElem?_pos _ q hs]
    congr 1
  simp [Instr.index, run_underlying hu, asIntOf, e1]
theorem pu_indexA {i j : TI} {n : Nat} {e : TypeId} {ix : Operand} (hE : EOK E) (hi : E.ti t = some i) (hd : i.d = .array n e) (hj : E.ti e = some j) (ho : o.op = .index t x ix) :
    PuS E.P o (fun tm k => opd x tm fun v => asAg v fun l => opd ix tm fun w => natV w fun q => ifK (Nat.ble (q + 1) n) 89 fun _ => partK j l (q * j.size) k) := fun tm k hk => by
  obtain ⟨v, h1, h2⟩ := opd_inv hk
  simp only [h2] at hk ⊢
  obtain ⟨l, rfl, h3⟩ := asAg_inv hk
  rw [h3] at hk ⊢
  obtain ⟨v2, h4, h5⟩ := opd_inv hk
  simp only [h5] at hk ⊢
  obtain ⟨kq, q, rfl, h6⟩ := natV_inv hk
  rw [h6] at hk ⊢
  obtain ⟨h7, h8⟩ := ifK_inv hk
  rw [h8] at hk ⊢
  obtain ⟨v, h9, h10⟩ := partK_inv (tok hE hj) hk
  refine ⟨v, h9, fun ρ A w hr => ?_⟩
  obtain ⟨m1, m2⟩ := ix_ops (.inr ho)
  obtain ⟨xs, g1, g2⟩ := (hr x m1 _ h1).ag_inv
  have g3 := (hr ix m2 _ h4).i_inv
  obtain ⟨v', g4, g5⟩ := h10 ρ xs w g2
  have hu : E.P.underlying t = some (.array n e) := by rw [(tok hE hi).un, hd]
  have hlt : q < n := by have := ble_iff.1 h7; omega
  refine ⟨v', g4, ?_⟩
  simp only [execOp, ho]
  refine run_v ?_
  rw [g1, g3]
  simp [Instr.index, run_underlying hu, asIntOf, hlt, (tok hE hj).run_size, g5]

/-! ### one operand -/
theorem pu_neg (ho : o.op = .unOp .neg t x) : PuS E.P o (fun tm k => opd x tm fun v => asI v fun q a => k (.i q (wr q (Int.sub 0 a)))) := fun tm k hk => by
  obtain ⟨v, h1, h2⟩ := opd_inv hk
  simp only [h2] at hk ⊢
  obtain ⟨q, a, rfl, h3⟩ := asI_inv hk
  refine ⟨_, h3, fun ρ A w hr => ?_⟩
  have g := (hr x (mem1 (l := #[x]) (by rw [ho]; rfl) (by simp)) _ h1).i_inv
  rw [wr_eq]
  refine ⟨_, .i _ _, ?_⟩
  simp only [execOp, ho]
  refine run_v ?_
  rw [g]
  rfl
theorem pu_xor (ho : o.op = .unOp .xor t x) : PuS E.P o (fun tm k => opd x tm fun v => asI v fun q a => k (.i q (bits .xor q (if q.signed then -1 else q.max) a))) := fun tm k hk => by
  obtain ⟨v, h1, h2⟩ := opd_inv hk
  simp only [h2] at hk ⊢
  obtain ⟨q, a, rfl, h3⟩ := asI_inv hk
  refine ⟨_, h3, fun ρ A w hr => ?_⟩
  have g := (hr x (mem1 (l := #[x]) (by rw [ho]; rfl) (by simp)) _ h1).i_inv
  refine ⟨_, .i _ _, ?_⟩
  simp only [execOp, ho]
  refine run_v ?_
  rw [g]
  rfl
theorem pu_not (ho : o.op = .unOp .not t x) : PuS E.P o (fun tm k => opd x tm fun v => notB v k) := fun tm k hk => by
  obtain ⟨v, h1, h2⟩ := opd_inv hk
  simp only [h2] at hk ⊢
  unfold notB at hk ⊢
  obtain ⟨b, rfl, h3⟩ := asB_inv hk
  have g := fun (ρ : Ren) (A : Act) (hr : VRo ρ tm A o) => (hr x (mem1 (l := #[x]) (by rw [ho]; rfl) (by simp)) _ h1).b_inv
  refine ⟨.b (!b), by rw [h3]; cases b <;> rfl, fun ρ A w hr => ⟨_, .b _, ?_⟩⟩
  simp only [execOp, ho]
  refine run_v ?_
  rw [g ρ A hr]
  rfl
theorem pu_makeInterface {i : TI} (hE : EOK E) (hi : E.ti t = some i) (hd : ∀ ms, i.d ≠ .interface ms) (ho : o.op = .makeInterface t x) : PuS E.P o (fun tm k => opd x tm fun v => k (.ifc t v)) := fun tm k hk => by
  obtain ⟨v, h1, h2⟩ := opd_inv hk
  simp only [h2] at hk ⊢
  refine ⟨_, rfl, fun ρ A w hr => ⟨_, .ifc (hr x (mem1 (l := #[x]) (by rw [ho]; rfl) (by simp)) _ h1), ?_⟩⟩
  simp only [execOp, ho]
  refine run_v ?_
  have hu := (tok hE hi).run_un w
  unfold Instr.makeInterface
  rw [Sem.run_bind, hu, Result.andThen_ok]
  cases hc : i.d <;> first | rfl | (exact absurd hc (hd _))
theorem evas_rel {ρ : Ren} {tm : Tr AV} {A : Act} : ∀ {l : List Operand} {vs : List AV}, evas tm l vs → (∀ x ∈ l, ∀ v, eva x tm = some v → VR ρ v (A.eval x)) → VRs ρ vs (l.map A.eval)
  | [], vs, h, _ => by cases h; exact VRs.nil ρ
  | x :: r, vs, h, hr => by
    obtain ⟨v, m, h1, h2, rfl⟩ := h
    exact (evas_rel h2 (fun y hy => hr y (by simp [hy]))).cons (hr x (by simp) v h1)
theorem pu_makeFunc {fn : Fn} {a c : Array Operand} (ho : o.op = .makeFunc fn a c) : PuS E.P o (fun tm k => opds a.toList tm fun a => opds c.toList tm fun c => k (.f fn a c)) := fun tm k hk => by
  obtain ⟨vs, h1, h2⟩ := opds_inv _ hk
  simp only [h2] at hk ⊢
  obtain ⟨us, h3, h4⟩ := opds_inv _ hk
  simp only [h4] at hk ⊢
  refine ⟨_, rfl, fun ρ A w hr => ?_⟩
  have e : o.op.operands = a ++ c := by rw [ho]; rfl
  have g1 := evas_rel h1 (fun x hx => hr x (by rw [e]; simp [Array.mem_toList_iff.1 hx]))
  have g2 := evas_rel h3 (fun x hx => hr x (by rw [e]; simp [Array.mem_toList_iff.1 hx]))
  refine ⟨.func fn (a.map A.eval) (c.map A.eval), .f (by simpa using g1.1) (by simpa using g2.1) (fun i x v p q => g1.2 i x v p (by simpa using q)) (fun i x v p q => g2.2 i x v p (by simpa using q)), ?_⟩
  simp only [execOp, ho]
  refine run_v ?_
  rfl
theorem pu_extract {ix : Nat} (ho : o.op = .extract x ix) : PuS E.P o (fun tm k => opd x tm fun v => asTu v fun l => nthK l ix k) := fun tm k hk => by
  obtain ⟨v, h1, h2⟩ := opd_inv hk
  simp only [h2] at hk ⊢
  obtain ⟨l, rfl, h3⟩ := asTu_inv hk
  rw [h3] at hk ⊢
  obtain ⟨v, h4, h5⟩ := nthK_inv l hk
  refine ⟨v, h5, fun ρ A w hr => ?_⟩
  obtain ⟨xs, g1, g2⟩ := (hr x (mem1 (l := #[x]) (by rw [ho]; rfl) (by simp)) _ h1).tu_inv
  have hlt : ix < xs.length := by rw [g2.1]; exact (List.getElem?_eq_some_iff.1 h4).1
  refine ⟨xs[ix], g2.2 ix v _ h4 (List.getElem?_eq_getElem hlt), ?_⟩
  simp only [execOp, ho]
  refine run_v ?_
  rw [g1]
  simp [Instr.extract, hlt]
theorem pu_typeAssert {i : TI} {xt : TypeId} {ok : Bool} (hE : EOK E) (hi : E.ti t = some i) (hd : ∀ ms, i.d ≠ .interface ms) (ho : o.op = .typeAssert x xt t ok) :
    PuS E.P o (fun tm k => opd x tm fun v => asIfc v (Bool.rec (.er 161) (k (.tu [i.zv, .b false])) ok)
        fun t' y => Bool.rec (Bool.rec (.er 162) (k (.tu [i.zv, .b false])) ok) (k (Bool.rec y (.tu [y, .b true]) ok)) (Nat.beq t' t)) := fun tm k hk => by
  obtain ⟨v, h1, h2⟩ := opd_inv hk
  simp only [h2] at hk ⊢
  have hT := tok hE hi
  have hm := fun (ρ : Ren) (A : Act) (hr : VRo ρ tm A o) => hr x (mem1 (l := #[x]) (by rw [ho]; rfl) (by simp)) _ h1
  have hdd : ∀ w, (underlying t).run E.P w = .ok i.d w := hT.run_un
  rcases asIfc_inv hk with ⟨rfl, h3⟩ | ⟨t', y, rfl, h3⟩
  · rw [h3] at hk ⊢
    cases ok with
    | false => exact (ok_er hk).elim
    | true =>
      refine ⟨_, rfl, fun ρ A w hr => ?_⟩
      obtain ⟨z, z1, z2, z3⟩ := hT.run_zero w
      refine ⟨_, VR.tu' (((VRs.nil ρ).cons (.b false)).cons (ofV_rel ρ z2)), ?_⟩
      simp only [execOp, ho]
      refine run_v ?_
      rw [(hm ρ A hr).ni_inv]
      simp only [Instr.typeAssert, Sem.run_bind, hdd, Result.andThen_ok]
      cases hc : i.d <;> first | (exact absurd hc (hd _)) | simp [z1]
  · rw [h3] at hk ⊢
    cases ht : Nat.beq t' t with
    | true =>
      obtain rfl := beq_iff.1 ht
      refine ⟨_, rfl, fun ρ A w hr => ?_⟩
      obtain ⟨v', g1, g2⟩ := (hm ρ A hr).ifc_inv
      refine ⟨if ok then .tuple #[v', .bool true] else v', ?_, ?_⟩
      · cases ok with
        | true => exact VR.tu' (((VRs.nil ρ).cons (.b true)).cons g2)
        | false => exact g2
      · simp only [execOp, ho]
        refine run_v ?_
        rw [g1]
        simp only [Instr.typeAssert, Sem.run_bind, hdd, Result.andThen_ok]
        cases hc : i.d <;> first | (exact absurd hc (hd _)) | (cases ok <;> simp)
    | false =>
      rw [ht] at hk
      have hne : t' ≠ t := fun e => by rw [e, Nat.beq_refl] at ht; cases ht
      cases ok with
      | false => exact (ok_er hk).elim
      | true =>
        refine ⟨_, rfl, fun ρ A w hr => ?_⟩
        obtain ⟨v', g1, g2⟩ := (hm ρ A hr).ifc_inv
        obtain ⟨z, z1, z2, z3⟩ := hT.run_zero w
        refine ⟨_, VR.tu' (((VRs.nil ρ).cons (.b false)).cons (ofV_rel ρ z2)), ?_⟩
        simp only [execOp, ho]
        refine run_v ?_
        rw [g1]
        simp only [Instr.typeAssert, Sem.run_bind, hdd, Result.andThen_ok]
        cases hc : i.d <;> first | (exact absurd hc (hd _)) | simp [z1, hne]
end
end Ax
end Go.Proofs.YtnnhkajjifmlfaaDoor
