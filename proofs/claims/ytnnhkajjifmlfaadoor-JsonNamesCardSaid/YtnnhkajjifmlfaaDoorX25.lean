/- Code, bodies. -/
import Derived.Test.YtnnhkajjifmlfaaDoorX24j
namespace Go.Proofs.YtnnhkajjifmlfaaDoor
namespace Ax
section
variable {E : Env} {ρ ρ' : Ren} {H H' : Hp} {w w' : World}
theorem PostR.step {nt : Nat} {n n' : Pn} {Q : Exit → Act → World → Prop} {r : R} (h : PostR E nt ρ H w n Q r) (s : Step ρ H w n ρ' H' w' n') : PostR E nt ρ' H' w' n' Q r := by
  cases r with
  | er c => trivial
  | nm tm df h2 n2 => exact fun ρ2 a2 w2 s2 f2 d2 => h ρ2 a2 w2 (s.trans s2) f2 d2
  | ex id tm df h2 n2 => exact fun ρ2 a2 w2 s2 f2 d2 => h ρ2 a2 w2 (s.trans s2) f2 d2
  | rt tm df h2 n2 => exact fun ρ2 a2 w2 s2 f2 d2 => h ρ2 a2 w2 (s.trans s2) f2 d2
theorem PostR.mono {nt : Nat} {n : Pn} {Q Q' : Exit → Act → World → Prop} {r : R} (h : PostR E nt ρ H w n Q r) (hq : ∀ e a w, Q e a w → Q' e a w) : PostR E nt ρ H w n Q' r := by
  cases r with
  | er c => trivial
  | nm tm df h2 n2 => exact fun ρ2 a2 w2 s2 f2 d2 => hq _ _ _ (h ρ2 a2 w2 s2 f2 d2)
  | ex id tm df h2 n2 => exact fun ρ2 a2 w2 s2 f2 d2 => hq _ _ _ (h ρ2 a2 w2 s2 f2 d2)
  | rt tm df h2 n2 => exact fun ρ2 a2 w2 s2 f2 d2 => hq _ _ _ (h ρ2 a2 w2 s2 f2 d2)
/-- what is asked of a piece of code -/
def CodeS (E : Env) (B : Bd) (nt : Nat) (l : Option Nat) (c : Code) (f : CR) : Prop :=
  ∀ tm df h n, Ok (f B tm df h n) → n.nat ≤ (endN (f B tm df h n)).nat ∧ ∀ (ρ : Ren) (a : Act) (w : World), GL E ρ → FR ρ nt tm a.tmps → DR E ρ df a.defers → Rel ρ (hv h) w → Fresh ρ (hv h) n (endN (f B tm df h n)) →
    ∀ Q, PostR E nt ρ (hv h) w n Q (f B tm df h n) → c.wpIn (FW l) 0 E.P Q a w
/-- a loop ahead of its next round -/
def LoopW (F : Fence) (n : Nat) (P : Program) (c : Code) (Q : Exit → Act → World → Prop) (a : Act) (w : World) : Prop :=
  ∀ (b : Frame) (k : List Item) (cs : List Frame), b.roundOf = F.round → F.fn b.fn → F.room (cs.length + 1 + n) →
    ∃ e a' w', Q e a' w' ∧ ArrivesIn (Machine.fenced P F) P (lone (b.atR a (.code c :: .inLoop c :: k)) cs w) b k cs e a' w'
theorem loopW_step {F : Fence} {n : Nat} {P : Program} {c : Code} {Q : Exit → Act → World → Prop} {a : Act} (h : c.wpIn F n P (Exit.then (LoopW F n P c Q) Q) a w) : LoopW F n P c Q a w := by
  intro b k cs hro hb hr
  obtain ⟨e, a₁, w₁, hq, harr⟩ := h b (.inLoop c :: k) cs hro hb hr
  cases e with
  | normal =>
    obtain ⟨e₂, a₂, w₂, hq₂, harr₂⟩ := hq b k cs hro hb hr
    exact ⟨e₂, a₂, w₂, hq₂, .of_steps (StepsIn.trans harr (.one (fenced_calm hb hr rfl) stepR_inLoop)) harr₂⟩
  | exit id => exact ⟨_, a₁, w₁, hq, .pass (x := .inLoop c) rfl (fun _ _ => .inl (by simp)) harr⟩
  | goto l => exact ⟨_, a₁, w₁, hq, .pass (x := .inLoop c) rfl (fun _ _ => .inl (by simp)) harr⟩
  | ret => exact ⟨_, a₁, w₁, hq, .pass (x := .inLoop c) rfl (fun _ _ => .inl (by simp)) harr⟩
  | panic ch => exact ⟨_, a₁, w₁, hq, .pass (x := .inLoop c) rfl (fun _ _ => .inl (by simp)) harr⟩
  | outgrown => exact ⟨_, a₁, w₁, hq, .pass (x := .inLoop c) rfl (fun _ _ => .inl (by simp)) harr⟩
theorem wpIn_loopW {F : Fence} {n : Nat} {P : Program} {c : Code} {Q : Exit → Act → World → Prop} {a : Act} (h : LoopW F n P c Q a w) : (Code.loop c).wpIn F n P Q a w := by
  intro b k cs hro hb hr
  obtain ⟨e, a', w', hq, harr⟩ := h b k cs hro hb hr
  exact ⟨e, a', w', hq, .of_steps (.one (fenced_calm hb hr rfl) stepR_loop) harr⟩
theorem seq_cs {B : Bd} {nt : Nat} {l : Option Nat} {K : (Exit → Act → World → Prop) → Act → World → Prop} {x : Code} {f g : CR} (hx : CodeS E B nt l x f)
    (hy : ∀ tm df h n, Ok (g B tm df h n) → n.nat ≤ (endN (g B tm df h n)).nat ∧ ∀ (ρ : Ren) (a : Act) (w : World), GL E ρ → FR ρ nt tm a.tmps → DR E ρ df a.defers → Rel ρ (hv h) w → Fresh ρ (hv h) n (endN (g B tm df h n)) →
      ∀ Q, PostR E nt ρ (hv h) w n Q (g B tm df h n) → K Q a w) :
    ∀ tm df h n, Ok (sqK (f B tm df h n) fun tm df h n => g B tm df h n) → n.nat ≤ (endN (sqK (f B tm df h n) fun tm df h n => g B tm df h n)).nat ∧ ∀ (ρ : Ren) (a : Act) (w : World), GL E ρ → FR ρ nt tm a.tmps → DR E ρ df a.defers → Rel ρ (hv h) w →
      Fresh ρ (hv h) n (endN (sqK (f B tm df h n) fun tm df h n => g B tm df h n)) → ∀ Q, PostR E nt ρ (hv h) w n Q (sqK (f B tm df h n) fun tm df h n => g B tm df h n) → x.wpIn (FW l) 0 E.P (Exit.then (K Q) Q) a w := by
  intro tm df h n hk
  have hx := hx tm df h n
  generalize f B tm df h n = r at hk hx ⊢
  cases r with
  | er c => exact (ok_er hk).elim
  | nm tm1 df1 h1 n1 =>
    obtain ⟨hle, hsem⟩ := hx (fun c h => by cases h)
    have e : sqK (.nm tm1 df1 h1 n1) (fun tm df h n => g B tm df h n) = g B tm1 df1 h1 n1 := rfl
    rw [e] at hk ⊢
    obtain ⟨hle2, hsem2⟩ := hy tm1 df1 h1 n1 hk
    simp only [endN] at hle hsem
    refine ⟨by omega, fun ρ a w hg hf hd hR hF Q hp => ?_⟩
    refine hsem ρ a w hg hf hd hR (hF.left hle2) _ ?_
    intro ρ1 a1 w1 s1 f1 d1
    exact hsem2 ρ1 a1 w1 (hg.mono s1.ext) f1 d1 s1.rel (hF.right s1) Q (hp.step s1)
  | ex id tm1 df1 h1 n1 =>
    obtain ⟨hle, hsem⟩ := hx (fun c h => by cases h)
    exact ⟨hle, fun ρ a w hg hf hd hR hF Q hp => hsem ρ a w hg hf hd hR hF _ hp⟩
  | rt tm1 df1 h1 n1 =>
    obtain ⟨hle, hsem⟩ := hx (fun c h => by cases h)
    exact ⟨hle, fun ρ a w hg hf hd hR hF Q hp => hsem ρ a w hg hf hd hR hF _ hp⟩
theorem loop_cs {B : Bd} {nt : Nat} {l : Option Nat} {c : Code} {f : CR} (hc : CodeS E B nt l c f) : ∀ (m : Nat) tm df h n, Ok (loopN f m B tm df h n) → n.nat ≤ (endN (loopN f m B tm df h n)).nat ∧ ∀ (ρ : Ren) (a : Act) (w : World), GL E ρ → FR ρ nt tm a.tmps → DR E ρ df a.defers → Rel ρ (hv h) w → Fresh ρ (hv h) n (endN (loopN f m B tm df h n)) →
      ∀ Q, PostR E nt ρ (hv h) w n Q (loopN f m B tm df h n) → LoopW (FW l) 0 E.P c Q a w
  | 0, tm, df, h, n, hk => (ok_er hk).elim
  | m + 1, tm, df, h, n, hk => by
    obtain ⟨h1, h2⟩ := seq_cs (K := fun Q a w => LoopW (FW l) 0 E.P c Q a w) hc (g := loopN f m) (loop_cs hc m) tm df h n hk
    exact ⟨h1, fun ρ a w hg hf hd hR hF Q hp => loopW_step (h2 ρ a w hg hf hd hR hF Q hp)⟩
theorem blk_post {nt id : Nat} {n : Pn} {Q : Exit → Act → World → Prop} {r : R} (h : PostR E nt ρ H w n Q (blK id r)) : PostR E nt ρ H w n (Exit.inBlock id Q) r := by
  cases r with
  | er c => trivial
  | nm tm df h2 n2 => exact h
  | rt tm df h2 n2 => exact h
  | ex j tm df h2 n2 =>
    have e : blK id (.ex j tm df h2 n2) = Bool.rec (.ex j tm df h2 n2) (.nm tm df h2 n2) (Nat.beq j id) := rfl
    rw [e] at h
    intro ρ2 a2 w2 s2 f2 d2
    show if j = id then _ else _
    cases hj : Nat.beq j id with
    | true =>
      rw [hj] at h
      rw [if_pos (beq_iff.1 hj)]
      exact h ρ2 a2 w2 s2 f2 d2
    | false =>
      rw [hj] at h
      rw [if_neg (fun e => by rw [beq_iff.2 e] at hj; cases hj)]
      exact h ρ2 a2 w2 s2 f2 d2
theorem blk_end {id : Nat} {r : R} (h : Ok (blK id r)) : Ok r ∧ endN (blK id r) = endN r := by
  cases r with
  | er c => exact (ok_er h).elim
  | nm tm df h2 n2 => exact ⟨fun c h => (by cases h), rfl⟩
  | rt tm df h2 n2 => exact ⟨fun c h => (by cases h), rfl⟩
  | ex j tm df h2 n2 =>
    refine ⟨fun c h => (by cases h), ?_⟩
    have e : blK id (.ex j tm df h2 n2) = Bool.rec (.ex j tm df h2 n2) (.nm tm df h2 n2) (Nat.beq j id) := rfl
    rw [e]
    cases Nat.beq j id <;> rfl
theorem pendK_inv {pend : Option Code} {tm : Tr AV} {df : List AD} {h : Tr AO} {n : Pn} (hk : Ok (pendK pend tm df h n)) :
    (pend = none ∧ pendK pend tm df h n = .nm tm df h n) ∨ (pend = some .ret ∧ pendK pend tm df h n = .rt tm df h n) ∨ ∃ id, pend = some (.exit id) ∧ pendK pend tm df h n = .ex id tm df h n := by
  unfold pendK at hk ⊢
  split at hk
  · exact .inl ⟨rfl, rfl⟩
  · exact .inr (.inl ⟨rfl, rfl⟩)
  · exact .inr (.inr ⟨_, rfl, rfl⟩)
  · exact (ok_er hk).elim
theorem lst_busy {s : Nat} (h : s ≠ 1) : lst s ≠ .busy := by
  unfold lst
  split <;> first | (intro h'; cases h'; done) | exact absurd rfl h
theorem rf_cs (hE : EOK E) {B : Bd} (hB : BdOK E B) {nt : Nat} {x : Operand} {ps : Array Tmp} {assign body : Code} (hx : gOk1 E x = true) : CodeS E B nt none (.rangeFunc x ps assign body) (rfK E x nt ps.toList assign body) := by
  intro tm df h n hk
  unfold rfK newK at hk ⊢
  obtain ⟨fv, h1, h2⟩ := opd_inv hk
  rw [h2] at hk ⊢
  simp only [setK_eq] at hk ⊢
  unfold rfF at hk ⊢
  split at hk
  · rename_i g la lc
    obtain ⟨v, h3, m, h4, h5, h6⟩ := callB_inv hE hB hk
    simp only [h4] at hk ⊢
    rw [getK_eq] at hk ⊢
    obtain ⟨s, pend, nt', tm', ps', a', b', dq', h7, h8⟩ := lpK_inv hk
    rw [h8] at hk ⊢
    cases hs : Nat.beq s 1 with
    | true => rw [hs] at hk; exact (ok_er hk).elim
    | false =>
      rw [hs] at hk
      simp only at hk ⊢
      have hsn : s ≠ 1 := fun e => by rw [beq_iff.2 e] at hs; cases hs
      have hend : endN (pendK pend tm (.mk n :: df) (h3.put .x (.lp 3 pend nt' tm' ps' a' b' dq') n.succ) m) = m := by
        rcases pendK_inv hk with ⟨_, e⟩ | ⟨_, e⟩ | ⟨id, _, e⟩ <;> rw [e] <;> rfl
      rw [hend]
      have hnn := nat_succ n
      have hnnn := nat_succ n.succ
      refine ⟨by omega, fun ρ a w hg hf hd hR hF Q hp => wpIn_rangeFunc fun fn _ => ?_⟩
      obtain ⟨ga, gc, q1, q2, q3⟩ := (gl_opd hg hf hx h1).func_inv
      -- the block and the record are laid
      have hf1 := hF n (Nat.le_refl _) (by omega)
      have s1 : Step ρ (hv h) w n (updR ρ n ⟨w.heap.size, 0, 0⟩) (hv (h.put .x (.dq false) n)) (w.alloc (.deferred (some []))) n.succ := by
        rw [hv_put]
        exact Step.new hR hf1.1 hf1.2 rfl rfl (rel_lt hR) rfl rfl rfl rfl
      have hF1 := hF.right s1
      have hf2 := hF1 n.succ (Nat.le_refl _) (by omega)
      generalize hρ1 : updR ρ n ⟨w.heap.size, 0, 0⟩ = ρ1 at s1 hF1 hf2
      have hρn : ρ1 n = some ⟨w.heap.size, 0, 0⟩ := by rw [← hρ1]; exact updR_same _ _
      have hsz : (w.alloc (.deferred (some []))).heap.size = w.heap.size + 1 := World.size_alloc _ _
      have s2 : Step ρ1 (hv (h.put .x (.dq false) n)) (w.alloc (.deferred (some []))) n.succ (updR ρ1 n.succ ⟨w.heap.size + 1, 0, 0⟩) (hv ((h.put .x (.dq false) n).put .x (.lp 0 none nt tm ps.toList assign body n) n.succ))
          ((w.alloc (.deferred (some []))).alloc (.loop { state := .ready, pending := none, fn, tmps := a.tmps, params := ps, assign, body, defers := w.heap.size })) n.succ.succ := by
        rw [hv_put (h.put .x (.dq false) n)]
        refine Step.new s1.rel hf2.1 hf2.2 hsz.symm ?_ (rel_lt s1.rel) rfl rfl rfl rfl
        exact ⟨fn, a.tmps, .ready, ⟨w.heap.size, 0, 0⟩, by simp, updR_le hf2.1 _ _ hρn, rfl, (hf.mono s1.ext).mono (updR_le hf2.1)⟩
      have s12 := s1.trans s2
      have hρ2 : (updR ρ1 n.succ ⟨w.heap.size + 1, 0, 0⟩) n.succ = some ⟨w.heap.size + 1, 0, 0⟩ := updR_same _ _
      have hF2 := hF1.right s2
      generalize updR ρ1 n.succ ⟨w.heap.size + 1, 0, 0⟩ = ρ2 at s2 s12 hρ2 hF2
      generalize hw2 : (w.alloc (.deferred (some []))).alloc (.loop { state := .ready, pending := none, fn, tmps := a.tmps, params := ps, assign, body, defers := w.heap.size }) = w2 at s2 s12
      have hus : VRs ρ2 (la ++ [.y n.succ] ++ lc) (ga ++ #[Value.func (.yield (w.heap.size + 1)) #[] #[]] ++ gc).toList := by
        have hy : VR ρ2 (.y n.succ) (.func (.yield (w.heap.size + 1)) #[] #[]) := VR.y (t := ⟨w.heap.size + 1, 0, 0⟩) hρ2
        simpa using ((q2.mono s12.ext).append ((VRs.nil ρ2).cons hy)).append (q3.mono s12.ext)
      obtain ⟨g1, g2⟩ := h6 ρ2 w2 _ (hg.mono s12.ext) hus s2.rel hF2
      refine ⟨w.heap.size + 1, [{ target := .collected w.heap.size, args := #[] }], w2, { target := .fn (.func g) gc, args := ga ++ #[Value.func (.yield (w.heap.size + 1)) #[] #[]] }, w2, g, ga ++ #[Value.func (.yield (w.heap.size + 1)) #[] #[]] ++ gc, w2, ?_, ?_, fun _ _ => trivial, g1, fun h => (by cases h), ?_⟩
      · rw [← hw2]; exact run_enterLoop_outer fn a.tmps ps assign body
      · have he : a.eval (.const (.func (.yield (w.heap.size + 1)) #[] #[])) = .func (.yield (w.heap.size + 1)) #[] #[] := rfl
        simp [resolve, q1, Deferred.ofValue, he]
      · refine g2.mono fun e w3 hr => ?_
        cases e with
        | panicked c => exact hr.elim
        | outgrown => exact hr.elim
        | returned v' =>
          obtain ⟨ρ3, s3, _⟩ := hr
          have s13 := s12.trans s3
          obtain ⟨t1, t', fn', tmps', p1, p2, p3, p4⟩ := loop_rel s3.rel h7
          have ht1 : t1 = ⟨w.heap.size + 1, 0, 0⟩ := Option.some.inj (p1.symm.trans (s3.ext _ _ hρ2))
          subst ht1
          refine ⟨pend, _, run_endLoop p4 (lst_busy hsn), ?_⟩
          have s4 := loop_step (n := m) (fn := fn') (st' := 3) (pend' := pend) (s' := .exhausted) s3.rel h7 p1 p2 p3 p4 rfl
          rw [← hv_put] at s4
          have s14 := s13.trans s4
          have hmk : DR E ρ3 (.mk n :: df) ({ target := .collected w.heap.size, args := #[] } :: a.defers) := ⟨⟨⟨w.heap.size, 0, 0⟩, s3.ext _ _ (s2.ext _ _ hρn), rfl⟩, hd.mono s13.ext⟩
          rcases pendK_inv hk with ⟨rfl, e⟩ | ⟨rfl, e⟩ | ⟨id, rfl, e⟩
          · rw [e] at hp
            exact hp ρ3 { a with defers := [{ target := .collected w.heap.size, args := #[] }] ++ a.defers } _ s14 (hf.mono s13.ext) hmk
          · rw [e] at hp
            exact wpIn_ret (hp ρ3 { a with defers := [{ target := .collected w.heap.size, args := #[] }] ++ a.defers } _ s14 (hf.mono s13.ext) hmk)
          · rw [e] at hp
            exact wpIn_exit (hp ρ3 { a with defers := [{ target := .collected w.heap.size, args := #[] }] ++ a.defers } _ s14 (hf.mono s13.ext) hmk)
  · exact (ok_er hk).elim
theorem code_cs (hE : EOK E) {ix : FuncId → Option Ix} (hI : IxOK E ix) {B : Bd} (hB : BdOK E B) {nt : Nat} {ro : Bool} {l : Option Nat} (hl : ro = false → l = none) (c : Code) : CodeS E B nt l c (run E (cdOf E ix nt ro c)) := by
  induction c with
  | skip => exact fun tm df h n _ => ⟨Nat.le_refl _, fun ρ a w hg hf hd hR hF Q hp => wpIn_skip (hp ρ a w (Step.refl hR) hf hd)⟩
  | label i => exact fun tm df h n _ => ⟨Nat.le_refl _, fun ρ a w hg hf hd hR hF Q hp => wpIn_label (hp ρ a w (Step.refl hR) hf hd)⟩
  | region id ops draw =>
    cases draw with
    | false =>
      intro tm df h n hk
      have e : run E (cdOf E ix nt ro (.region id ops false)) B tm df h n = runL (cosOf E ix nt ro ops.toList ops.toList) B tm df h n .nm := rfl
      rw [e] at hk ⊢
      obtain ⟨tm', df', h', n', h1, h2, h3⟩ := runL_inv hE hI hB hl ops.toList 0 rfl hk
      rw [h1]
      refine ⟨h2, fun ρ a w hg hf hd hR hF Q hp => wpIn_region ?_⟩
      have := h3 ρ a w hg hf hd hR hF Q hp
      rw [Array.length_toList] at this
      rwa [List.range_eq_range']
    | true =>
      intro tm df h n hk
      have e : cdOf E ix nt ro (.region id ops true) = (match drawOf (cosOf E ix nt ro ops.toList ops.toList) ops.toList with | some l => .dr l | none => .bad 251) := rfl
      rw [e] at hk ⊢
      cases hds : drawOf (cosOf E ix nt ro ops.toList ops.toList) ops.toList with
      | none => rw [hds] at hk; exact (ok_er hk).elim
      | some ds =>
        rw [hds] at hk
        have e2 : run E (.dr ds) B tm df h n = drw ds B tm df h n .nm := rfl
        simp only [e2] at hk ⊢
        obtain ⟨tm', df', h', n', h1, h2, h3⟩ := drw_inv hE hI hB hl hds hk
        rw [h1]
        refine ⟨h2, fun ρ a w hg hf hd hR hF Q hp => wpIn_region_draw fun t => ?_⟩
        have hs : Step ρ (hv h) w n ρ (hv h) { w with drawn := w.drawn + 1 } n := Step.same_heap hR rfl rfl rfl rfl
        exact h3 ρ a _ hg hf hd hs.rel hF Q (fun ρ' a' w' s f d => hp ρ' a' w' (hs.trans s) f d) t
  | seq x y ihx ihy =>
    intro tm df h n hk
    obtain ⟨h1, h2⟩ := seq_cs (K := fun Q a w => y.wpIn (FW l) 0 E.P Q a w) ihx ihy tm df h n hk
    exact ⟨h1, fun ρ a w hg hf hd hR hF Q hp => wpIn_seq (h2 ρ a w hg hf hd hR hF Q hp)⟩
  | cond c x y ihx ihy =>
    intro tm df h n hk
    have e : cdOf E ix nt ro (.cond c x y) = (match gOk1 E c with | true => .cd c (cdOf E ix nt ro x) (cdOf E ix nt ro y) | false => .bad 266) := rfl
    rw [e] at hk ⊢
    cases hg1 : gOk1 E c with
    | false => rw [hg1] at hk; exact (ok_er hk).elim
    | true =>
      rw [hg1] at hk
      have e2 : run E (.cd c (cdOf E ix nt ro x) (cdOf E ix nt ro y)) B tm df h n = opd c tm fun v => asB v (run E (cdOf E ix nt ro x) B tm df h n) (run E (cdOf E ix nt ro y) B tm df h n) := rfl
      simp only [e2] at hk ⊢
      obtain ⟨v, h1, h2⟩ := opd_inv hk
      simp only [h2] at hk ⊢
      obtain ⟨b, rfl, h3⟩ := asB_inv hk
      rw [h3] at hk ⊢
      cases b with
      | true =>
        simp only [if_true] at hk ⊢
        obtain ⟨h4, h5⟩ := ihx tm df h n hk
        exact ⟨h4, fun ρ a w hg hf hd hR hF Q hp => wpIn_cond_true (gl_opd hg hf hg1 h1).b_inv (h5 ρ a w hg hf hd hR hF Q hp)⟩
      | false =>
        simp only [Bool.false_eq_true, if_false] at hk ⊢
        obtain ⟨h4, h5⟩ := ihy tm df h n hk
        exact ⟨h4, fun ρ a w hg hf hd hR hF Q hp => wpIn_cond_false (gl_opd hg hf hg1 h1).b_inv (h5 ρ a w hg hf hd hR hF Q hp)⟩
  | block id x ih =>
    intro tm df h n hk
    have e : run E (cdOf E ix nt ro (.block id x)) B tm df h n = blK id (run E (cdOf E ix nt ro x) B tm df h n) := rfl
    rw [e] at hk ⊢
    obtain ⟨h1, h2⟩ := blk_end hk
    obtain ⟨h3, h4⟩ := ih tm df h n h1
    rw [h2]
    exact ⟨h3, fun ρ a w hg hf hd hR hF Q hp => wpIn_block (h4 ρ a w hg hf hd hR hF _ (blk_post hp))⟩
  | loop x ih =>
    intro tm df h n hk
    obtain ⟨h1, h2⟩ := loop_cs ih 1000000 tm df h n hk
    exact ⟨h1, fun ρ a w hg hf hd hR hF Q hp => wpIn_loopW (h2 ρ a w hg hf hd hR hF Q hp)⟩
  | rangeFunc x ps assign body _ _ =>
    intro tm df h n hk
    have e : cdOf E ix nt ro (.rangeFunc x ps assign body) = (match ro || !gOk1 E x with | true => .bad 263 | false => .rf x nt ps.toList assign body) := rfl
    rw [e] at hk ⊢
    cases hg1 : (ro || !gOk1 E x) with
    | true => rw [hg1] at hk; exact (ok_er hk).elim
    | false =>
      rw [hg1] at hk
      simp only [Bool.or_eq_false_iff, Bool.not_eq_false'] at hg1
      obtain rfl := hl hg1.1
      exact rf_cs hE hB hg1.2 tm df h n hk
  | exit id => exact fun tm df h n _ => ⟨Nat.le_refl _, fun ρ a w hg hf hd hR hF Q hp => wpIn_exit (hp ρ a w (Step.refl hR) hf hd)⟩
  | ret => exact fun tm df h n _ => ⟨Nat.le_refl _, fun ρ a w hg hf hd hR hF Q hp => wpIn_ret (hp ρ a w (Step.refl hR) hf hd)⟩
  | _ => exact fun tm df h n hk => (ok_er hk).elim
/-! ### bodies -/
theorem argsT_inv (us : List AV) : ∀ {p : Pn} {t : Tr AV} {k : Tr AV → R}, ∃ t', argsT us p t k = k t' ∧ ∀ q : Pn, (t'.get (.tu []) q = (if p.nat ≤ q.nat ∧ q.nat < p.nat + us.length then us.getD (q.nat - p.nat) (.tu []) else t.get (.tu []) q)) := by
  induction us with
  | nil => intro p t k; exact ⟨t, rfl, fun q => by rw [if_neg (by simp only [List.length_nil]; omega)]⟩
  | cons u us ih =>
    intro p t k
    have e : argsT (u :: us) p t k = t.setK (.tu []) u p fun t => argsT us p.succ t k := rfl
    rw [e, setK_eq]
    obtain ⟨t', h1, h2⟩ := ih (p := p.succ) (t := t.put (.tu []) u p) (k := k)
    refine ⟨t', h1, fun q => ?_⟩
    rw [h2 q, nat_succ]
    by_cases hq : q = p
    · subst hq
      rw [if_neg (by omega), if_pos (by simp), get_put_same]
      simp
    · have hne : q.nat ≠ p.nat := fun e => hq (nat_inj _ _ e)
      rw [get_put_other _ _ _ _ (fun e => hq e.symm)]
      by_cases h3 : p.nat + 1 ≤ q.nat ∧ q.nat < p.nat + 1 + us.length
      · rw [if_pos h3, if_pos (by simp; omega)]
        rw [show q.nat - p.nat = (q.nat - (p.nat + 1)) + 1 from by omega]
        rfl
      · rw [if_neg h3, if_neg (by simp; omega)]
theorem args_fr {us : List AV} {args : Array Value} {nt : Nat} (hu : VRs ρ us args.toList) (hn : us.length ≤ nt) {t' : Tr AV}
    (ht : ∀ q : Pn, (t'.get (.tu []) q = (if Pn.one.nat ≤ q.nat ∧ q.nat < Pn.one.nat + us.length then us.getD (q.nat - Pn.one.nat) (.tu []) else (Tr.leaf : Tr AV).get (.tu []) q))) : FR ρ nt t' (args ++ Array.replicate (nt - args.size) undef) := by
  have hs : args.size = us.length := by rw [← Array.length_toList]; exact hu.1
  refine ⟨by simp; omega, fun t => ?_⟩
  rw [ht, nat_pth]
  have h1 : Pn.one.nat = 1 := rfl
  rw [h1]
  by_cases hlt : t < us.length
  · rw [if_pos (by omega), Nat.add_sub_cancel]
    have e1 : us.getD t (.tu []) = us[t] := by simp [List.getD, List.getElem?_eq_getElem hlt]
    have e2 : (args ++ Array.replicate (nt - args.size) undef).getD t undef = args[t] := by
      rw [Array.getD_eq_getD_getElem?, Array.getElem?_append_left (by omega), Array.getElem?_eq_getElem (by omega)]
      rfl
    rw [e1, e2]
    exact hu.2 t _ _ (List.getElem?_eq_getElem hlt) (by rw [Array.getElem?_toList, Array.getElem?_eq_getElem])
  · rw [if_neg (by omega), get_leaf]
    have e2 : (args ++ Array.replicate (nt - args.size) undef).getD t undef = undef := by
      rw [Array.getD_eq_getD_getElem?, Array.getElem?_append_right (by omega)]
      cases h : (Array.replicate (nt - args.size) undef)[t - args.size]? with
      | none => rfl
      | some v =>
        obtain ⟨h3, h4⟩ := Array.getElem?_eq_some_iff.1 h
        simp at h4
        rw [← h4]; rfl
    rw [e2]
    exact VR.undef ρ
/-- the compiled code is the functions' -/
def CodeT (E : Env) (ix : FuncId → Option Ix) (code : FuncId → Nat × CD) : Prop := ∀ f, code f = codeOf E ix f ∨ ∃ c, (code f).2 = .bad c
theorem bdS_ok (hE : EOK E) {ix : FuncId → Option Ix} (hI : IxOK E ix) {code : FuncId → Nat × CD} (hC : CodeT E ix code) {B : Bd} (hB : BdOK E B) : BdOK E (bdS E ix code B) where
  fn := fun f us h n hk => by
    have e : bdS E ix code B (.fn f us) h n = bodyK E (code f) B us h n := rfl
    rw [e] at hk ⊢
    unfold bodyK at hk ⊢
    obtain ⟨h1, h2⟩ := ifK_inv hk
    rw [h2] at hk ⊢
    obtain ⟨t', h3, h4⟩ := argsT_inv us (p := .one) (t := .leaf) (k := fun tm => run E (code f).2 B tm [] h n)
    rw [h3] at hk ⊢
    rcases hC f with hc | ⟨c, hc⟩
    · rw [hc] at hk h1 ⊢
      unfold codeOf at hk h1 ⊢
      cases hf : E.fn f with
      | none => rw [hf] at hk; exact (ok_er hk).elim
      | some fn =>
        rw [hf] at hk h1
        simp only at hk h1 ⊢
        cases hb : fn.body with
        | none => rw [hb] at hk; exact (ok_er hk).elim
        | some c =>
          rw [hb] at hk h1
          simp only at hk h1 ⊢
          obtain ⟨h5, h6⟩ := code_cs hE hI hB (nt := fn.ntmps) (ro := false) (l := none) (fun _ => rfl) c t' [] h n hk
          refine ⟨h5, fun fn' c' g1 g2 ρ w args hR hg hu hF Q hp => ?_⟩
          injection g1 with g1
          subst g1
          rw [hb] at g2
          injection g2 with g2
          subst g2
          exact h6 ρ { tmps := args ++ Array.replicate (fn.ntmps - args.size) undef, defers := [] } w hg (args_fr hu (ble_iff.1 h1) h4) trivial hR hF Q hp
    · rw [hc] at hk; exact (ok_er hk).elim
  rd := fun nt c tm h n hk => by
    have e : bdS E ix code B (.rd nt c tm) h n = run E (cdOf E ix nt true c) B tm [] h n := rfl
    rw [e] at hk ⊢
    refine ⟨(code_cs hE hI hB (nt := nt) (ro := true) (l := none) (fun _ => rfl) c tm [] h n hk).1, fun l ρ w tmps hR hg hf hF Q hp => ?_⟩
    exact (code_cs hE hI hB (nt := nt) (ro := true) (l := some l) (fun h => by cases h) c tm [] h n hk).2 ρ { tmps, defers := [] } w hg hf trivial hR hF Q hp
theorem bd_ok (hE : EOK E) {ix : FuncId → Option Ix} (hI : IxOK E ix) {code : FuncId → Nat × CD} (hC : CodeT E ix code) : ∀ m, BdOK E (bd E ix code m)
  | 0 => ⟨fun _ _ _ _ hk => (ok_er hk).elim, fun _ _ _ _ _ hk => (ok_er hk).elim⟩
  | m + 1 => bdS_ok hE hI hC (bd_ok hE hI hC m)
/-- **THE EXECUTOR IS SOUND**: where it ends well, the law's function answers true. -/
theorem true_ok (hE : EOK E) {ix : FuncId → Option Ix} (hI : IxOK E ix) {code : FuncId → Nat × CD} (hC : CodeT E ix code) {m : Nat} {f : FuncId} {h : Tr AO} {n : Pn} (hk : okR (trueK E ix (bd E ix code m) f h n) = true) :
    ∃ h' n', n.nat ≤ n'.nat ∧ ∀ (ρ : Ren) (w : World), GL E ρ → Rel ρ (hv h) w → Fresh ρ (hv h) n n' →
      NxR E.P (callFunc f #[]) w fun v' w' => v' = .bool true ∧ ∃ ρ', Step ρ (hv h) w n ρ' (hv h') w' n' := by
  have hk := ok_of hk
  unfold trueK at hk
  obtain ⟨v, h', n', h1, h2, h3⟩ := callK_inv hE hI (bd_ok hE hI hC m) hk
  rw [h1] at hk
  obtain ⟨x, rfl, h4⟩ := asB_inv hk
  cases x with
  | false => rw [h4] at hk; exact (ok_er hk).elim
  | true =>
    refine ⟨h', n', h2, fun ρ w hg hR hF => ?_⟩
    have hc := h3 ρ w #[] hg (VRs.nil ρ) hR hF
    obtain ⟨nx, w1, g1, g2⟩ := hc
    refine ⟨nx, w1, g1, ?_⟩
    cases nx <;> first | exact g2.elim | skip
    · obtain ⟨ρ', s, r⟩ := g2
      exact ⟨r.b_inv, ρ', s⟩
    · refine CallsIn.mono g2 fun e w' hr => ?_
      cases e with
      | returned v' => obtain ⟨ρ', s, r⟩ := hr; exact ⟨r.b_inv, ρ', s⟩
      | panicked c => exact hr.elim
      | outgrown => exact hr.elim
    · refine RoundIn.mono g2 fun e w' hr => ?_
      cases e with
      | returned v' => obtain ⟨ρ', s, r⟩ := hr; exact ⟨r.b_inv, ρ', s⟩
      | panicked c => exact hr.elim
      | outgrown => exact hr.elim
end
end Ax
end Go.Proofs.YtnnhkajjifmlfaaDoor
