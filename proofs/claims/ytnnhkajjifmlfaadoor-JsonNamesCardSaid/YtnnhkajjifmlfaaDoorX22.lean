/- Every operation of the executor does what the model's does. -/
import Derived.Test.YtnnhkajjifmlfaaDoorX21
namespace Go.Proofs.YtnnhkajjifmlfaaDoor
namespace Ax
def EfS (E : Env) (o : Oper) (f : Bd → Tr AV → Tr AO → Pn → (AV → Tr AO → Pn → R) → R) : Prop :=
  (∀ c, o.op ≠ .defer c) ∧ ∀ B, BdOK E B → ∀ tm h n k, Ok (f B tm h n k) → ∃ v h' n', f B tm h n k = k v h' n' ∧ n.nat ≤ n'.nat ∧
    ∀ (ρ : Ren) (a : Act) (w : World), GL E ρ → VRo ρ tm a o → Rel ρ (hv h) w → Fresh ρ (hv h) n n' →
      ∀ (ro : Option Nat) (next : Act → World → Prop) (Q : Exit → Act → World → Prop), (∀ ρ' v' w', Step ρ (hv h) w n ρ' (hv h') w' n' → VR ρ' v v' → next (a.put o.dst v') w') →
        o.uponIn (FW ro) 0 E.P a next Q ((execOp a.eval o).run E.P w)
def DeS (E : Env) (o : Oper) (f : Tr AV → (AD → R) → R) : Prop :=
  (∃ c, o.op = .defer c) ∧ ∀ tm k, Ok (f tm k) → ∃ ad, f tm k = k ad ∧ ∀ (ρ : Ren) (a : Act) (w : World), VRo ρ tm a o → ∃ d, (execOp a.eval o).run E.P w = .ok (.defer d) w ∧ DR E ρ [ad] [d]
/-- what is asked of an operation -/
def CS (E : Env) (o : Oper) : COp → Prop
  | .pu f => (∀ c, o.op ≠ .defer c) ∧ PuS E.P o f
  | .rd f => (∀ c, o.op ≠ .defer c) ∧ RdS E.P o f
  | .al f => (∀ c, o.op ≠ .defer c) ∧ AlS E.P o f
  | .ef f => EfS E o f
  | .de f => DeS E o f
  | .no _ => True
section
variable {E : Env} {o : Oper} {t u : TypeId} {x y : Operand}
theorem cs_ve {f : Tr AV → Tr AO → Pn → (AV → Tr AO → Pn → R) → R} (hnd : ∀ c, o.op ≠ .defer c) (h : VeS E.P o f) : CS E o (.ef fun _ => f) := by
  refine ⟨hnd, fun B _ tm hp n k hk => ?_⟩
  obtain ⟨v, h', n', h1, h2, h3⟩ := h tm hp n k hk
  refine ⟨v, h', n', h1, h2, fun ρ a w _ hr hR hF ro next Q hn => ?_⟩
  obtain ⟨ρ', w', v', nx, g1, g2, g3, g4⟩ := h3 ρ a w hr hR hF
  rw [g1]
  rcases g2 with rfl | ⟨rfl, rfl⟩
  · exact hn ρ' v' w' g3 g4
  · exact hn ρ' undef w' g3 g4
theorem cs_pu {f : Tr AV → (AV → R) → R} (hnd : ∀ c, o.op ≠ .defer c) (h : PuS E.P o f) : CS E o (.pu f) := ⟨hnd, h⟩
theorem cs_rd {f : Tr AV → Tr AO → (AV → R) → R} (hnd : ∀ c, o.op ≠ .defer c) (h : RdS E.P o f) : CS E o (.rd f) := ⟨hnd, h⟩
theorem cs_al {f : Tr AV → Pn → (AV → AO → R) → R} (hnd : ∀ c, o.op ≠ .defer c) (h : AlS E.P o f) : CS E o (.al f) := ⟨hnd, h⟩
theorem cs_ex {c : COp} (hnd : ∀ c, o.op ≠ .defer c) (h : ∃ f, c = .pu f ∧ PuS E.P o f) : CS E o c := by
  obtain ⟨f, rfl, h⟩ := h
  exact ⟨hnd, h⟩
theorem eq_cs (hE : EOK E) (ho : o.op = .binOp .eql t x y u) : CS E o (eqK E t x y) := by
  have hnd : ∀ c, o.op ≠ .defer c := fun c => by rw [ho]; simp
  have hop : isEq2 .eql := .inl rfl
  have hex : ∀ {c : COp}, (∃ f, c = .pu f ∧ PuS E.P o (if isNeq .eql then fun tm k => f tm fun v => notB v k else f)) → CS E o c := fun h => cs_ex hnd h
  unfold eqK
  split
  · trivial
  · rename_i i hi
    split
    · rename_i e hd
      split
      · rename_i j hj
        split
        · rename_i hz; exact cs_rd hnd (rd_eq_ptr hE hi hd hj hz hop ho)
        · trivial
      · trivial
    · rename_i fs hd
      split
      · rename_i ks hks hg; exact hex (pu_eq_struct hE hi ⟨_, hd⟩ hks hg hop ho)
      · trivial
    · rename_i ms hd; exact hex (pu_eq_ifc hE hi hd hop ho)
    · rename_i hd; exact hex (pu_eq_pl hE hi (.inl ⟨rfl, hd⟩) hop ho)
    · rename_i q hd; exact hex (pu_eq_pl hE hi (.inr (.inl ⟨rfl, q, hd⟩)) hop ho)
    · rename_i hd; exact hex (pu_eq_pl hE hi (.inr (.inr ⟨rfl, hd⟩)) hop ho)
    · rename_i e hd; exact hex (pu_eq_sl hE hi hd hop ho)
    · rename_i kt e hd; exact hex (pu_eq_mp hE hi hd hop ho)
    · rename_i ps rs va hd; exact hex (pu_eq_fn hE hi hd hop ho)
    · trivial
theorem neq_cs (hE : EOK E) (ho : o.op = .binOp .neq t x y u) : CS E o (negC (eqK E t x y)) := by
  have hnd : ∀ c, o.op ≠ .defer c := fun c => by rw [ho]; simp
  have hop : isEq2 .neq := .inr rfl
  have hex : ∀ {c : COp}, (∃ f, c = .pu f ∧ PuS E.P o (if isNeq .neq then fun tm k => f tm fun v => notB v k else f)) → CS E o (negC c) := fun h => by
    obtain ⟨f, rfl, h⟩ := h
    exact ⟨hnd, h⟩
  unfold eqK
  split
  · trivial
  · rename_i i hi
    split
    · rename_i e hd
      split
      · rename_i j hj
        split
        · rename_i hz; exact cs_rd hnd (rd_eq_ptr hE hi hd hj hz hop ho)
        · trivial
      · trivial
    · rename_i fs hd
      split
      · rename_i ks hks hg; exact hex (pu_eq_struct hE hi ⟨_, hd⟩ hks hg hop ho)
      · trivial
    · rename_i ms hd; exact hex (pu_eq_ifc hE hi hd hop ho)
    · rename_i hd; exact hex (pu_eq_pl hE hi (.inl ⟨rfl, hd⟩) hop ho)
    · rename_i q hd; exact hex (pu_eq_pl hE hi (.inr (.inl ⟨rfl, q, hd⟩)) hop ho)
    · rename_i hd; exact hex (pu_eq_pl hE hi (.inr (.inr ⟨rfl, hd⟩)) hop ho)
    · rename_i e hd; exact hex (pu_eq_sl hE hi hd hop ho)
    · rename_i kt e hd; exact hex (pu_eq_mp hE hi hd hop ho)
    · rename_i ps rs va hd; exact hex (pu_eq_fn hE hi hd hop ho)
    · trivial
theorem bin_cs (hE : EOK E) {op : BinOp} (ho : o.op = .binOp op t x y u) : CS E o (binC E op t x y) := by
  have hnd : ∀ c, o.op ≠ .defer c := fun c => by rw [ho]; simp
  cases op with
  | add => exact cs_ex hnd (pu_add ho)
  | sub => exact cs_ex hnd (pu_sub ho)
  | mul => exact cs_ex hnd (pu_mul ho)
  | quo => exact cs_ex hnd (pu_quo ho)
  | rem => exact cs_ex hnd (pu_rem ho)
  | and => exact cs_ex hnd (pu_bits (.inl rfl) ho)
  | or => exact cs_ex hnd (pu_bits (.inr (.inl rfl)) ho)
  | xor => exact cs_ex hnd (pu_bits (.inr (.inr (.inl rfl))) ho)
  | andNot => exact cs_ex hnd (pu_bits (.inr (.inr (.inr rfl))) ho)
  | shl => exact cs_ex hnd (pu_shl ho)
  | shr => exact cs_ex hnd (pu_shr ho)
  | eql => exact eq_cs hE ho
  | neq => exact neq_cs hE ho
  | lss => exact cs_ex hnd (pu_lss ho)
  | leq => exact cs_ex hnd (pu_leq ho)
  | gtr => exact cs_ex hnd (pu_gtr ho)
  | geq => exact cs_ex hnd (pu_geq ho)
theorem conv_cs (hE : EOK E) (ho : o.op = .convert t u x) : CS E o (convC E t u x) := by
  have hnd : ∀ c, o.op ≠ .defer c := fun c => by rw [ho]; simp
  unfold convC
  split
  · rename_i i j hi hj
    split
    · rename_i h1 h2; exact cs_pu hnd (pu_conv_ii hE hi hj ho h1 h2)
    · rename_i h1 h2; exact cs_pu hnd (pu_conv_is hE hi hj ho h1 h2)
    · rename_i h1 h2; exact cs_pu hnd (pu_conv_ss hE hi hj ho h1 h2)
    · rename_i h1 h2
      split
      · rename_i hb; exact cs_al hnd (al_conv_sb hE hi hj ho h1 h2 hb)
      · trivial
    · rename_i h1 h2
      split
      · rename_i hb; exact cs_rd hnd (rd_conv_bs hE hi hj ho h1 h2 hb)
      · trivial
    · rename_i h1 h2
      split
      · rename_i hb
        rw [Bool.and_eq_true, beq_iff] at hb
        obtain ⟨rfl, hb⟩ := hb
        exact cs_ve hnd (ve_conv_bb hE hi h1 hb ho)
      · trivial
    · rename_i h1 h2
      split
      · rename_i e he
        split
        · trivial
        · rename_i hz; exact cs_rd hnd (rd_conv_pu hE hi hj ho h1 h2 he hz)
      · trivial
    · rename_i h1 h2
      split
      · rename_i e he
        split
        · trivial
        · rename_i hz; exact cs_rd hnd (rd_conv_up hE hi hj ho h1 h2 he hz)
      · trivial
    · trivial
  · trivial
theorem builtin_cs (hE : EOK E) {c : Call} {b : Builtin} (ho : o.op = .call c) (hb : c.callee = .builtin b) : CS E o (builtinC E b c.argTypes.toList c.args.toList) := by
  have hnd : ∀ c, o.op ≠ .defer c := fun c => by rw [ho]; simp
  generalize ht : c.argTypes.toList = ts
  generalize hx : c.args.toList = xs
  unfold builtinC
  split
  · rename_i t us s x
    split
    · trivial
    · rename_i hnum
      unfold elemC
      split
      · rename_i i hi
        split
        · rename_i e hd
          split
          · rename_i j hj
            split
            · trivial
            · rename_i hg; exact cs_ve hnd (ve_append hE hi hd hj hg hnum ho hb ht hx)
          · trivial
        · trivial
      · trivial
  · unfold elemC
    split
    · rename_i i hi
      split
      · rename_i e hd
        split
        · rename_i j hj
          split
          · trivial
          · exact cs_ve hnd (ve_copy hE hi hd hj ho hb ht hx)
        · trivial
      · trivial
    · trivial
  · unfold lenC
    split
    · rename_i i hi
      split
      · rename_i hd; exact cs_pu hnd (pu_len_string hE hi ho hb ht hx hd)
      · rename_i n e hd; exact cs_pu hnd (pu_len_array hE hi ho hb ht hx hd)
      · rename_i e hd; exact cs_pu hnd (pu_len_slice hE hi ho hb ht hx hd)
      · rename_i kt e hd; exact cs_rd hnd (rd_len_map hE hi ho hb ht hx hd)
      · trivial
    · trivial
  · unfold capC
    split
    · rename_i i hi
      split
      · rename_i e hd; exact cs_pu hnd (pu_cap_slice hE hi ho hb ht hx hd)
      · trivial
    · trivial
  · exact cs_ex hnd (pu_min ho hb hx)
  · exact cs_ex hnd (pu_max ho hb hx)
  · exact cs_pu hnd (pu_min3 ho hb hx)
  · unfold clearC
    split
    · rename_i i hi
      split
      · rename_i e hd
        split
        · rename_i j hj
          split
          · trivial
          · rename_i hg; exact cs_ve hnd (ve_clear_slice hE hi hd hj hg ho hb ht hx)
        · trivial
      · rename_i kt e hd; exact cs_ve hnd (ve_clear_map hE hi hd ho hb ht hx)
      · trivial
    · trivial
  · split
    · rename_i i hi
      split
      · rename_i kt e hd
        split
        · rename_i kd hk; exact cs_ve hnd (ve_delete hE hi hd hk ho hb ht hx)
        · trivial
      · trivial
    · trivial
  · exact cs_pu hnd (pu_sliceData ho hb hx)
  · split
    · rename_i i hi; exact cs_ve hnd (ve_unsafeString hE hi ho hb ht hx)
    · trivial
  · trivial
theorem call_mem {c : Call} (ho : o.op = .call c ∨ o.op = .defer c) : (∀ x ∈ c.args.toList, x ∈ o.op.operands) ∧ (∀ g, c.callee = .value g → g ∈ o.op.operands) ∧ (∀ r name, c.callee = .invoke r name → r ∈ o.op.operands) := by
  have e : o.op.operands = c.operands := by rcases ho with ho | ho <;> rw [ho] <;> rfl
  rw [e]
  unfold Call.operands
  refine ⟨fun x hx => Array.mem_append_right _ (Array.mem_toList_iff.1 hx), fun g hg => ?_, fun r name hr => ?_⟩
  · rw [hg]; simp
  · rw [hr]; simp
theorem args_rel {c : Call} {ρ : Ren} {tm : Tr AV} {a : Act} {us : List AV} (ho : o.op = .call c ∨ o.op = .defer c) (hr : VRo ρ tm a o) (hu : evas tm c.args.toList us) : VRs ρ us (c.args.map a.eval).toList := by
  rw [Array.toList_map]
  exact evas_rel hu fun x hx => hr x ((call_mem ho).1 x hx)
theorem call_cs (hE : EOK E) {ix : FuncId → Option Ix} (hI : IxOK E ix) {c : Call} (ho : o.op = .call c) : CS E o (callC E ix c) := by
  have hnd : ∀ c, o.op ≠ .defer c := fun c => by rw [ho]; simp
  unfold callC
  split
  · rename_i b hb; exact builtin_cs hE ho hb
  · rename_i f hf
    refine ⟨hnd, fun B hB tm h n k hk => ?_⟩
    obtain ⟨us, h1, h2⟩ := opds_inv _ hk
    simp only [h2] at hk ⊢
    obtain ⟨v, h', n', h3, h4, h5⟩ := callK_inv hE hI hB hk
    refine ⟨v, h', n', h3, h4, fun ρ a w hg hr hR hF ro next Q hn => ?_⟩
    have hc := h5 ρ w (c.args.map a.eval) hg (args_rel (.inl ho) hr h1) hR hF
    have hs : (execOp a.eval o).run E.P w = (callFunc f (c.args.map a.eval)).run E.P w := by
      simp only [execOp, ho, resolve, hf]
      have e : a.eval (.func f) = .func (.func f) #[] #[] := rfl
      rw [e]
      simp [Deferred.ofValue, invoke]
    exact (NxR.of_run hs hc).upon ro o a fun v' w' ⟨ρ', s, r⟩ => hn ρ' v' w' s r
  · rename_i g hgv hgc
    refine ⟨hnd, fun B hB tm h n k hk => ?_⟩
    obtain ⟨fv, h1, h2⟩ := opd_inv hk
    simp only [h2] at hk ⊢
    obtain ⟨us, h3, h4⟩ := opds_inv _ hk
    simp only [h4] at hk ⊢
    obtain ⟨v, h', n', h5, h6, h7⟩ := applyK_inv hE hI hB hk
    refine ⟨v, h', n', h5, h6, fun ρ a w hg hr hR hF ro next Q hn => ?_⟩
    have hc := h7 ρ w (a.eval g) (c.args.map a.eval) hg (hr g ((call_mem (.inl ho)).2.1 g (by assumption)) _ h1) (args_rel (.inl ho) hr h3) hR hF
    have hs : (execOp a.eval o).run E.P w = (do let d ← Deferred.ofValue (a.eval g) (c.args.map a.eval); invoke d.target d.args : Sem Next).run E.P w := by
      simp only [execOp, ho, resolve]
      split
      · rename_i q hq; rw [hq] at hgc; cases hgc
      · rename_i q nm hq; rw [hq] at hgc; cases hgc
      · rename_i q hq
        rw [hq] at hgc
        injection hgc with hgc
        subst hgc
        rfl
    exact (NxR.of_run hs hc).upon ro o a fun v' w' ⟨ρ', s, r⟩ => hn ρ' v' w' s r
  · rename_i r name hc'
    refine ⟨hnd, fun B hB tm h n k hk => ?_⟩
    obtain ⟨rv, h1, h2⟩ := opd_inv hk
    simp only [h2] at hk ⊢
    obtain ⟨us, h3, h4⟩ := opds_inv _ hk
    simp only [h4] at hk ⊢
    obtain ⟨v, h', n', h5, h6, h7⟩ := invokeK_inv hE hI hB hk
    refine ⟨v, h', n', h5, h6, fun ρ a w hg hr hR hF ro next Q hn => ?_⟩
    have hc := h7 ρ w (a.eval r) (c.args.map a.eval) hg (hr r ((call_mem (.inl ho)).2.2 r name hc') _ h1) (args_rel (.inl ho) hr h3) hR hF
    have hs : (execOp a.eval o).run E.P w = (callMethod (a.eval r) name (c.args.map a.eval)).run E.P w := by
      simp only [execOp, ho, resolve, hc']
      have e : (#[a.eval r] ++ c.args.map a.eval).extract 1 (#[a.eval r] ++ c.args.map a.eval).size = c.args.map a.eval := by
        apply Array.ext'
        simp
        exact List.take_of_length_le (by simp)
      have h0 : (#[a.eval r] ++ c.args.map a.eval)[0]? = some (a.eval r) := by
        rw [Array.getElem?_append_left (by simp)]; rfl
      simp only [Sem.run_bind, Sem.run_pure, Result.andThen_ok, invoke, h0, e]
    exact (NxR.of_run hs hc).upon ro o a fun v' w' ⟨ρ', s, r⟩ => hn ρ' v' w' s r
theorem defer_cs {c : Call} (ho : o.op = .defer c) : CS E o (deferC E c) := by
  unfold deferC
  split
  · rename_i g hg
    refine ⟨⟨c, ho⟩, fun tm k hk => ?_⟩
    obtain ⟨fv, h1, h2⟩ := opd_inv hk
    simp only [h2] at hk ⊢
    obtain ⟨us, h3, h4⟩ := opds_inv _ hk
    simp only [h4] at hk ⊢
    unfold dfK at hk ⊢
    split at hk
    · rename_i f l m
      obtain ⟨h5, h6⟩ := ifK_inv hk
      refine ⟨_, h6, fun ρ a w hr => ?_⟩
      obtain ⟨a', c', q1, q2, q3⟩ := (hr g ((call_mem (.inr ho)).2.1 g hg) _ h1).func_inv
      refine ⟨{ target := .fn (.func f) c', args := a' ++ c.args.map a.eval }, ?_, ⟨h5, c', rfl, ?_⟩, trivial⟩
      · simp only [execOp, ho, resolve, hg, q1]
        simp [Deferred.ofValue]
      · simpa using (q2.append (args_rel (.inr ho) hr h3)).append q3
    · exact (ok_er hk).elim
  · trivial
theorem cop_cs (hE : EOK E) {ix : FuncId → Option Ix} (hI : IxOK E ix) : CS E o (cop E ix o) := by
  unfold cop
  split
  · rename_i x ho; exact cs_pu (fun c => by rw [ho]; simp) (pu_move ho)
  · rename_i x ho; exact cs_pu (fun c => by rw [ho]; simp) (pu_assign ho)
  · rename_i c a b ho; exact cs_pu (fun c => by rw [ho]; simp) (pu_pick ho)
  · rename_i t ho
    split
    · rename_i i hi; exact cs_al (fun c => by rw [ho]; simp) (al_alloc hE hi ho)
    · trivial
  · rename_i t x ho; exact cs_al (fun c => by rw [ho]; simp) (al_box ho)
  · rename_i t ps ho
    unfold buildC
    split
    · rename_i i hi
      split
      · rename_i fs hd
        split
        · rename_i l ha hl; exact cs_pu (fun c => by rw [ho]; simp) (pu_build_struct hE hi hd ha hl ho)
        · trivial
      · rename_i n e hd
        split
        · rename_i j hj; exact cs_pu (fun c => by rw [ho]; simp) (pu_build_array hE hi hd hj ho)
        · trivial
      · trivial
    · trivial
  · rename_i t len ps ho
    unfold buildSliceC
    split
    · rename_i i hi
      split
      · rename_i e hd
        split
        · rename_i j hj
          split
          · trivial
          · rename_i hg; exact cs_al (fun c => by rw [ho]; simp) (al_buildSlice hE hi hd hj hg ho)
        · trivial
      · trivial
    · trivial
  · rename_i t m key x ho
    unfold updC
    split
    · rename_i i hi
      split
      · rename_i kt e hd
        split
        · rename_i kd hk; exact cs_ve (fun c => by rw [ho]; simp) (ve_upd hE hi hd hk (.inr ho))
        · trivial
      · trivial
    · trivial
  · rename_i t a ho
    split
    · rename_i i hi; exact cs_rd (fun c => by rw [ho]; simp) (rd_load hE hi ho)
    · trivial
  · rename_i t a x ho
    split
    · rename_i i hi; exact cs_ve (fun c => by rw [ho]; simp) (ve_store hE hi ho)
    · trivial
  · rename_i x ho; exact cs_pu (fun c => by rw [ho]; simp) (pu_nilCheck ho)
  · rename_i op t x y u ho; exact bin_cs hE ho
  · rename_i op t x ho
    unfold unC
    split
    · exact cs_pu (fun c => by rw [ho]; simp) (pu_neg ho)
    · exact cs_pu (fun c => by rw [ho]; simp) (pu_not ho)
    · exact cs_pu (fun c => by rw [ho]; simp) (pu_xor ho)
    · trivial
  · rename_i s d x ho; exact conv_cs hE ho
  · rename_i t x ho
    unfold s2apC
    split
    · rename_i i hi
      split
      · rename_i n e hd; exact cs_pu (fun c => by rw [ho]; simp) (pu_s2ap hE hi hd ho)
      · trivial
    · trivial
  · rename_i t x ho
    split
    · rename_i i hi
      split
      · trivial
      · rename_i hd; exact cs_pu (fun c => by rw [ho]; simp) (pu_makeInterface hE hi (fun ms h => hd ms h) ho)
    · trivial
  · rename_i fn a c ho; exact cs_pu (fun c => by rw [ho]; simp) (pu_makeFunc ho)
  · rename_i t r ho
    unfold makeMapC
    split
    · rename_i i hi
      split
      · rename_i kt e hd
        split
        · exact cs_al (fun c => by rw [ho]; simp) (al_makeMap0 ho)
        · exact cs_al (fun c => by rw [ho]; simp) (al_makeMap1 hE hi hd ho)
      · trivial
    · trivial
  · rename_i t l c ho
    unfold makeSliceC elemC
    split
    · rename_i i hi
      split
      · rename_i e hd
        split
        · rename_i j hj
          split
          · trivial
          · rename_i hg
            obtain ⟨h0, hl⟩ := elem_inv hg
            dsimp only
            split
            · trivial
            · rename_i hb; exact cs_al (fun c => by rw [ho]; simp) (al_makeSlice hE hi hd hj (by cases hz : Nat.beq j.size 0 with | false => rfl | true => exact absurd (beq_iff.1 hz) h0) hb ho)
        · trivial
      · trivial
    · trivial
  · rename_i t x lo hi mx ho
    unfold sliceC
    split
    · trivial
    · rename_i i hi'
      split
      · rename_i hd
        split
        · trivial
        · exact cs_pu (fun c => by rw [ho]; simp) (pu_slS hE hi' hd ho)
      · rename_i e hd
        split
        · trivial
        · rename_i j hj
          split
          · trivial
          · rename_i hm; exact cs_pu (fun c => by rw [ho]; simp) (pu_slL hE hi' hd hj hm ho)
      · rename_i n e hd
        split
        · rename_i j hj
          split
          · trivial
          · rename_i hm; exact cs_pu (fun c => by rw [ho]; simp) (pu_slA hE hi' hd hj hm ho)
        · trivial
      · trivial
  · rename_i s x f ho
    unfold fieldAddrC
    split
    · rename_i i hi
      split
      · rename_i fs hd
        split
        · rename_i fd hf
          split
          · rename_i j hj
            split
            · trivial
            · rename_i hz; exact cs_pu (fun c => by rw [ho]; simp) (pu_fieldAddr hE hi hd hf hj hz ho)
          · trivial
        · trivial
      · trivial
    · trivial
  · rename_i s x f ho
    unfold fieldC
    split
    · rename_i i hi
      split
      · rename_i fs hd
        split
        · rename_i fd hf
          split
          · rename_i j hj; exact cs_pu (fun c => by rw [ho]; simp) (pu_field hE hi hd hf hj ho)
          · trivial
        · trivial
      · trivial
    · trivial
  · rename_i t x ix ho
    unfold indexAddrC
    split
    · rename_i i hi
      split
      · rename_i n e hd
        split
        · rename_i j hj; exact cs_pu (fun c => by rw [ho]; simp) (pu_indexAddrA hE hi hd hj ho)
        · trivial
      · rename_i e hd
        split
        · rename_i j hj; exact cs_pu (fun c => by rw [ho]; simp) (pu_indexAddrS hE hi hd hj ho)
        · trivial
      · trivial
    · trivial
  · rename_i t x ix ho
    unfold indexC
    split
    · rename_i i hi
      split
      · rename_i hd; exact cs_pu (fun c => by rw [ho]; simp) (pu_indexS hE hi hd ho)
      · rename_i n e hd
        split
        · rename_i j hj; exact cs_pu (fun c => by rw [ho]; simp) (pu_indexA hE hi hd hj ho)
        · trivial
      · trivial
    · trivial
  · rename_i t x ix ok ho
    unfold lookupC
    split
    · rename_i i hi
      split
      · rename_i kt e hd
        split
        · rename_i kd j hk hj; exact cs_rd (fun c => by rw [ho]; simp) (rd_lookup hE hi hd hk hj ho)
        · trivial
      · trivial
    · trivial
  · rename_i t m key x ho
    unfold updC
    split
    · rename_i i hi
      split
      · rename_i kt e hd
        split
        · rename_i kd hk; exact cs_ve (fun c => by rw [ho]; simp) (ve_upd hE hi hd hk (.inl ho))
        · trivial
      · trivial
    · trivial
  · rename_i t x ho
    unfold rangeC
    split
    · rename_i i hi
      split
      · rename_i kt e hd; exact cs_ve (fun c => by rw [ho]; simp) (ve_range hE hi hd ho)
      · trivial
    · trivial
  · rename_i it s ho
    unfold nextC
    split
    · trivial
    · exact cs_ve (fun c => by rw [ho]; simp) (ve_next ho)
  · rename_i it ho; exact cs_rd (fun c => by rw [ho]; simp) (rd_entry ho)
  · rename_i x xt t ok ho
    unfold typeAssertC
    split
    · rename_i i hi
      split
      · trivial
      · rename_i hd; exact cs_pu (fun c => by rw [ho]; simp) (pu_typeAssert hE hi (fun ms h => hd ms h) ho)
    · trivial
  · rename_i t ix ho; exact cs_pu (fun c => by rw [ho]; simp) (pu_extract ho)
  · rename_i c ho; exact call_cs hE hI ho
  · rename_i c ho; exact defer_cs ho
  · trivial
end
end Ax
end Go.Proofs.YtnnhkajjifmlfaaDoor
