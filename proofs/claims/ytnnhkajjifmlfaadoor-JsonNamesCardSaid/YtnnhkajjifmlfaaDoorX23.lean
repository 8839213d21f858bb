/- Regions in their given order. -/
import Derived.Test.YtnnhkajjifmlfaaDoorX22
namespace Go.Proofs.YtnnhkajjifmlfaaDoor
namespace Ax
section
variable {E : Env} {o : Oper}
theorem getD_some {tmps : Array Value} {t : Nat} {v : Value} (h : tmps[t]? = some v) : tmps.getD t undef = v := by
  simp [Array.getD_eq_getD_getElem?, h]
theorem getD_none {tmps : Array Value} {t : Nat} (h : tmps[t]? = none) : tmps.getD t undef = undef := by
  simp [Array.getD_eq_getD_getElem?, h]
/-- the temporary that a guard looks at -/
def GdT (ops : Array Oper) (o : Oper) (t : Nat) : Prop := ∃ j w q, o.guard = some (j, w) ∧ ops[j]? = some q ∧ q.dst = some t
/-- a guard, on both sides -/
theorem gd_inv {ops : Array Oper} {g : Option (Pn × Bool)} (hg : guardOf ops.toList o = some g) {tm : Tr AV} {yes no : R} (hk : Ok (gd g tm yes no)) :
    ∃ b : Bool, gd g tm yes no = (if b then yes else no) ∧ ∀ (ρ : Ren) (tmps : Array Value), (∀ t, GdT ops o t → VR ρ (tm.get (.tu []) (pth t)) (tmps.getD t undef)) → Region.wanted o (yielded ops tmps) = b := by
  unfold guardOf at hg
  split at hg
  · rename_i hn
    injection hg with hg
    subst hg
    exact ⟨true, rfl, fun ρ tmps _ => by simp [Region.wanted, hn]⟩
  · rename_i j want hn
    split at hg
    · rename_i q hq
      split at hg
      · rename_i t ht
        injection hg with hg
        subst hg
        have e : gd (some (pth t, want)) tm yes no = gdV (tm.get (.tu []) (pth t)) want yes no := getK_eq _ _ _ _
        rw [e] at hk ⊢
        have hq' : ops[j]? = some q := by rw [← Array.getElem?_toList]; exact hq
        have hgt : GdT ops o t := ⟨j, want, q, hn, hq', ht⟩
        have hy : ∀ tmps : Array Value, yielded ops tmps j = (match tmps[t]? with | some (.bool b) => some b | _ => none) := by
          intro tmps
          unfold yielded
          rw [hq']
          simp only [Option.bind_some, ht]
          cases tmps[t]? with
          | none => rfl
          | some v => cases v <;> rfl
        have hw : ∀ tmps : Array Value, Region.wanted o (yielded ops tmps) = (yielded ops tmps j == some want) := fun tmps => by simp [Region.wanted, hn]
        generalize hv : tm.get (.tu []) (pth t) = v at hk ⊢
        have hno : gdV v want yes no = no → (∀ x, v ≠ .b x) → v ≠ .z → ∃ b : Bool, gdV v want yes no = (if b then yes else no) ∧ ∀ (ρ : Ren) (tmps : Array Value), (∀ t, GdT ops o t → VR ρ (tm.get (.tu []) (pth t)) (tmps.getD t undef)) → Region.wanted o (yielded ops tmps) = b := by
          intro h1 h2 h3
          refine ⟨false, h1, fun ρ tmps hf => ?_⟩
          have hr := hf t hgt
          rw [hv] at hr
          rw [hw, hy]
          cases hc : tmps[t]? with
          | none => rfl
          | some u =>
            rw [getD_some hc] at hr
            cases u with
            | bool x => cases hr with
              | z => exact absurd rfl h3
              | b => exact absurd rfl (h2 _)
            | _ => rfl
        cases v with
        | b x =>
          refine ⟨beq x want, ?_, fun ρ tmps hf => ?_⟩
          · have e3 : gdV (.b x) want yes no = Bool.rec no yes (beq x want) := rfl
            rw [e3]
            cases beq x want <;> rfl
          · have hr := hf t hgt
            rw [hv] at hr
            have hr := hr.b_inv
            rw [hw, hy]
            cases hc : tmps[t]? with
            | none => rw [getD_none hc] at hr; cases hr
            | some u =>
              rw [getD_some hc] at hr
              subst hr
              rw [beq_eq]
              cases x <;> cases want <;> rfl
        | z => exact (ok_er hk).elim
        | i _ _ => exact hno rfl (by simp) (by simp)
        | s _ => exact hno rfl (by simp) (by simp)
        | p _ _ => exact hno rfl (by simp) (by simp)
        | np => exact hno rfl (by simp) (by simp)
        | sl _ _ _ _ _ => exact hno rfl (by simp) (by simp)
        | ns => exact hno rfl (by simp) (by simp)
        | m _ => exact hno rfl (by simp) (by simp)
        | nm => exact hno rfl (by simp) (by simp)
        | f _ _ _ => exact hno rfl (by simp) (by simp)
        | nf => exact hno rfl (by simp) (by simp)
        | ifc _ _ => exact hno rfl (by simp) (by simp)
        | ni => exact hno rfl (by simp) (by simp)
        | ag _ => exact hno rfl (by simp) (by simp)
        | tu _ => exact hno rfl (by simp) (by simp)
        | y _ => exact hno rfl (by simp) (by simp)
      · cases hg
    · cases hg
noncomputable def putD (d : Option Pn) (v : AV) (tm : Tr AV) : Tr AV := match d with
  | none => tm
  | some p => tm.put (.tu []) v p
theorem put_eq (d : Option Pn) (v : AV) (tm : Tr AV) (k : Tr AV → R) : put d v tm k = k (putD d v tm) := by
  cases d with
  | none => rfl
  | some p => exact setK_eq _ _ _ _ _
theorem putD_rel {nt : Nat} {d : Option Pn} (hd : dstOf nt o = some d) {ρ : Ren} {tm : Tr AV} {a : Act} {v : AV} {v' : Value} (hf : FR ρ nt tm a.tmps) (hv : VR ρ v v') : FR ρ nt (putD d v tm) (a.put o.dst v').tmps := by
  unfold dstOf at hd
  split at hd
  · rename_i hn
    injection hd with hd
    subst hd
    rw [hn]
    exact hf
  · rename_i t ht
    split at hd
    · rename_i hlt
      injection hd with hd
      subst hd
      rw [ht]
      exact hf.put (ble_iff.1 hlt) hv
    · cases hd
theorem put_defers (a : Act) (d : Option Tmp) (v : Value) : (a.put d v).defers = a.defers := by cases d <;> rfl
/-- one operation of a region, where it is wanted -/
theorem runC_inv {c : COp} (hc : CS E o c) {l : Option Nat} (hl : (∃ f, c = .de f) → l = none) {B : Bd} (hB : BdOK E B) {d : Option Pn} {tm : Tr AV} {df : List AD} {h : Tr AO} {n : Pn} {k : K3} (hk : Ok (runC c d B tm df h n k)) :
    ∃ v df2 h2 n2, runC c d B tm df h n k = k (putD d v tm) df2 h2 n2 ∧ n.nat ≤ n2.nat ∧ ∀ (ρ : Ren) (a : Act) (w : World), GL E ρ → VRo ρ tm a o → DR E ρ df a.defers → Rel ρ (hv h) w → Fresh ρ (hv h) n n2 →
      ∀ (next : Act → World → Prop) (Q : Exit → Act → World → Prop), (∀ ρ' v' w' ds', Step ρ (hv h) w n ρ' (hv h2) w' n2 → VR ρ' v v' → DR E ρ' df2 ds' → next (({ a with defers := ds' } : Act).put o.dst v') w') → o.wpIn (FW l) 0 E.P a w next Q := by
  have hex : ∀ {ro : Option Nat} {ρ : Operand → Value}, (∀ c, o.op ≠ .defer c) → o.semAt ro ρ = execOp ρ o := fun h => Oper.semAt_eq _ _ _ h
  cases c with
  | pu f =>
    obtain ⟨hnd, hs⟩ := hc
    have e : runC (.pu f) d B tm df h n k = f tm fun v => put d v tm fun tm => k tm df h n := rfl
    rw [e] at hk ⊢
    obtain ⟨v, h1, h2⟩ := hs tm _ hk
    rw [h1, put_eq]
    refine ⟨v, df, h, n, rfl, Nat.le_refl _, fun ρ a w hg hr hd hR hF next Q hn => ⟨fun _ _ => trivial, ?_⟩⟩
    rw [hex hnd]
    obtain ⟨v', g1, g2⟩ := h2 ρ a w hr
    rw [g2]
    exact hn ρ v' w a.defers (Step.refl hR) g1 hd
  | rd f =>
    obtain ⟨hnd, hs⟩ := hc
    have e : runC (.rd f) d B tm df h n k = f tm h fun v => put d v tm fun tm => k tm df h n := rfl
    rw [e] at hk ⊢
    obtain ⟨v, h1, h2⟩ := hs tm h _ hk
    rw [h1, put_eq]
    refine ⟨v, df, h, n, rfl, Nat.le_refl _, fun ρ a w hg hr hd hR hF next Q hn => ⟨fun _ _ => trivial, ?_⟩⟩
    rw [hex hnd]
    obtain ⟨v', g1, g2⟩ := h2 ρ a w hr hR
    rw [g2]
    exact hn ρ v' w a.defers (Step.refl hR) g1 hd
  | al f =>
    obtain ⟨hnd, hs⟩ := hc
    have e : runC (.al f) d B tm df h n k = f tm n fun v o => put d v tm fun tm => newK h n o fun h n => k tm df h n := rfl
    rw [e] at hk ⊢
    obtain ⟨v, b, h1, hown, h2⟩ := hs tm n _ hk
    rw [h1, put_eq]
    unfold newK
    rw [setK_eq]
    refine ⟨v, df, _, _, rfl, by rw [nat_succ]; omega, fun ρ a w hg hr hd hR hF next Q hn => ⟨fun _ _ => trivial, ?_⟩⟩
    rw [hex hnd]
    have hf := hF n (Nat.le_refl _) (by rw [nat_succ]; omega)
    obtain ⟨v', w', ob, t, g1, g2, g3, g4, g5⟩ := h2 ρ a w hr hf.1
    rw [g1]
    have hst := Step.new hR hf.1 hf.2 g3 g5 (rel_lt hR) g2.heap g2.os g2.tape g2.output hown.2
    rw [← hv_put] at hst
    exact hn _ v' w' a.defers hst g4 (hd.mono hst.ext)
  | ef f =>
    obtain ⟨hnd, hs⟩ := hc
    have e : runC (.ef f) d B tm df h n k = f B tm h n fun v h n => put d v tm fun tm => k tm df h n := rfl
    rw [e] at hk ⊢
    obtain ⟨v, h', n', h1, hle, h2⟩ := hs B hB tm h n _ hk
    rw [h1, put_eq]
    refine ⟨v, df, h', n', rfl, hle, fun ρ a w hg hr hd hR hF next Q hn => ⟨fun _ _ => trivial, ?_⟩⟩
    rw [hex hnd]
    exact h2 ρ a w hg hr hR hF l next Q fun ρ' v' w' s r => hn ρ' v' w' a.defers s r (hd.mono s.ext)
  | de f =>
    obtain ⟨hdf, hs⟩ := hc
    have e : runC (.de f) d B tm df h n k = f tm fun a => put d (.tu []) tm fun tm => k tm (a :: df) h n := rfl
    rw [e] at hk ⊢
    obtain ⟨ad, h1, h2⟩ := hs tm _ hk
    rw [h1, put_eq]
    obtain rfl := hl ⟨f, rfl⟩
    refine ⟨.tu [], ad :: df, h, n, rfl, Nat.le_refl _, fun ρ a w hg hr hd hR hF next Q hn => ⟨fun _ _ => trivial, ?_⟩⟩
    obtain ⟨dd, g1, g2⟩ := h2 ρ a w hr
    show o.uponIn (FW none) 0 E.P a next Q ((execOp a.eval o).run E.P w)
    rw [g1]
    refine hn ρ undef w (dd :: a.defers) (Step.refl hR) (VR.undef ρ) ?_
    cases ad with
    | fn g us => exact ⟨g2.1, hd⟩
    | mk b => exact ⟨g2.1, hd⟩
  | no c => exact (ok_er hk).elim
theorem gOk_mem (h : gOk E o = true) : ∀ x ∈ o.op.operands, gOk1 E x = true := fun x hx => List.all_eq_true.1 h x (Array.mem_toList_iff.2 hx)
theorem vro_of {ρ : Ren} {nt : Nat} {tm : Tr AV} {a : Act} (hg : GL E ρ) (hf : FR ρ nt tm a.tmps) (h : gOk E o = true) : VRo ρ tm a o := fun x hx _ hv => gl_opd hg hf (gOk_mem h x hx) hv
theorem coOf_inv {ix : FuncId → Option Ix} {nt : Nat} {ro : Bool} {ops : List Oper} {o : Oper} :
    (∃ c, coOf E ix nt ro ops o = { g := none, d := none, c := .no c }) ∨ ∃ g d, guardOf ops o = some g ∧ dstOf nt o = some d ∧ gOk E o = true ∧ coOf E ix nt ro ops o = { g, d, c := noDef ro (cop E ix o) } := by
  unfold coOf
  split
  · rename_i g d h1 h2 h3; exact .inr ⟨g, d, h1, h2, h3, rfl⟩
  · exact .inl ⟨_, rfl⟩
theorem noDef_cs {ro : Bool} {c : COp} (h : CS E o c) : CS E o (noDef ro c) := by
  unfold noDef
  split
  · split
    · trivial
    · exact h
  · exact h
theorem noDef_de {c : COp} {l : Option Nat} {ro : Bool} (hl : ro = false → l = none) : (∃ f, noDef ro c = .de f) → l = none := by
  rintro ⟨f, hf⟩
  cases ro with
  | false => exact hl rfl
  | true =>
    cases c <;> (simp [noDef] at hf)
theorem runL_inv (hE : EOK E) {ix : FuncId → Option Ix} (hI : IxOK E ix) {B : Bd} (hB : BdOK E B) {nt : Nat} {ro : Bool} {l : Option Nat} (hl : ro = false → l = none) {ops : Array Oper} :
    ∀ (rest : List Oper) (i : Nat), ops.toList.drop i = rest → ∀ {tm : Tr AV} {df : List AD} {h : Tr AO} {n : Pn}, Ok (runL (cosOf E ix nt ro ops.toList rest) B tm df h n .nm) →
    ∃ tm' df' h' n', runL (cosOf E ix nt ro ops.toList rest) B tm df h n .nm = .nm tm' df' h' n' ∧ n.nat ≤ n'.nat ∧ ∀ (ρ : Ren) (a : Act) (w : World), GL E ρ → FR ρ nt tm a.tmps → DR E ρ df a.defers → Rel ρ (hv h) w → Fresh ρ (hv h) n n' →
      ∀ Q : Exit → Act → World → Prop, (∀ ρ' a' w', Step ρ (hv h) w n ρ' (hv h') w' n' → FR ρ' nt tm' a'.tmps → DR E ρ' df' a'.defers → Q .normal a' w') → wpOpsIn (FW l) 0 E.P ops Q (List.range' i rest.length) a w := by
  intro rest
  induction rest with
  | nil =>
    intro i _ tm df h n _
    exact ⟨tm, df, h, n, rfl, Nat.le_refl _, fun ρ a w hg hf hd hR hF Q hq => hq ρ a w (Step.refl hR) hf hd⟩
  | cons o rest ih =>
    intro i hi tm df h n hk
    have hio : ops[i]? = some o := by
      have : (ops.toList.drop i)[0]? = some o := by rw [hi]; rfl
      rw [List.getElem?_drop] at this
      rw [← Array.getElem?_toList]
      simpa using this
    have hi' : ops.toList.drop (i + 1) = rest := by
      have : ops.toList.drop (i + 1) = (ops.toList.drop i).drop 1 := by rw [List.drop_drop]
      rw [this, hi]; rfl
    have e : runL (cosOf E ix nt ro ops.toList (o :: rest)) B tm df h n .nm =
        gd (coOf E ix nt ro ops.toList o).g tm (runC (coOf E ix nt ro ops.toList o).c (coOf E ix nt ro ops.toList o).d B tm df h n fun tm df h n => runL (cosOf E ix nt ro ops.toList rest) B tm df h n .nm)
          (put (coOf E ix nt ro ops.toList o).d (.tu []) tm fun tm => runL (cosOf E ix nt ro ops.toList rest) B tm df h n .nm) := rfl
    rw [e] at hk ⊢
    rcases coOf_inv (E := E) (ix := ix) (nt := nt) (ro := ro) (ops := ops.toList) (o := o) with ⟨c, hc⟩ | ⟨g, d, hgu, hds, hgo, hc⟩
    · rw [hc] at hk; exact (ok_er hk).elim
    · rw [hc] at hk ⊢
      obtain ⟨b, h1, h2⟩ := gd_inv hgu hk
      rw [h1] at hk ⊢
      cases b with
      | true =>
        simp only [if_true] at hk ⊢
        obtain ⟨v, df2, h3, n3, h4, h5, h6⟩ := runC_inv (noDef_cs (cop_cs hE hI)) (noDef_de hl) hB hk
        rw [h4] at hk ⊢
        obtain ⟨tm', df', h', n', h7, h8, h9⟩ := ih (i + 1) hi' hk
        refine ⟨tm', df', h', n', h7, by omega, fun ρ a w hg hf hd hR hF Q hq => ?_⟩
        rw [show (o :: rest).length = rest.length + 1 from rfl, List.range'_succ]
        unfold wpOpsIn
        simp only [hio, h2 ρ a.tmps (fun t _ => hf.2 t), if_true]
        refine h6 ρ a w hg (vro_of hg hf hgo) hd hR (hF.left h8) _ Q fun ρ' v' w' ds' s r dr => ?_
        have hf' := putD_rel (a := { a with defers := ds' }) hds (hf.mono s.ext) r
        exact h9 ρ' _ w' (hg.mono s.ext) hf' (by rw [put_defers]; exact dr) s.rel (hF.right s) Q fun ρ2 a2 w2 s2 f2 d2 => hq ρ2 a2 w2 (s.trans s2) f2 d2
      | false =>
        simp only [Bool.false_eq_true, if_false] at hk ⊢
        rw [put_eq] at hk ⊢
        obtain ⟨tm', df', h', n', h7, h8, h9⟩ := ih (i + 1) hi' hk
        refine ⟨tm', df', h', n', h7, h8, fun ρ a w hg hf hd hR hF Q hq => ?_⟩
        rw [show (o :: rest).length = rest.length + 1 from rfl, List.range'_succ]
        unfold wpOpsIn
        simp only [hio, h2 ρ a.tmps (fun t _ => hf.2 t), Bool.false_eq_true, if_false]
        refine ⟨fun _ _ => trivial, ?_⟩
        exact h9 ρ _ w hg (putD_rel hds hf (VR.undef ρ)) (by rw [put_defers]; exact hd) hR hF Q hq
end
end Ax
end Go.Proofs.YtnnhkajjifmlfaaDoor
