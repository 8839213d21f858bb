/- What is asked of a body; calls of functions with bodies, their deferred calls, their results. -/
import Derived.Test.YtnnhkajjifmlfaaDoorX19
import Derived.RangeFuncLeaves
namespace Go.Proofs.YtnnhkajjifmlfaaDoor
namespace Ax
/-- the fence that lets all in, in a round or not -/
def FW (ro : Option Nat) : Fence := { fn := fun _ => True, depth := none, alive := false, round := ro }
theorem fw_room (ro : Option Nat) (n : Nat) : (FW ro).room n := fun _ h => by cases h
/-- globals lie where they are named -/
def GL (E : Env) (ρ : Ren) : Prop := ∀ g, g < E.ng → ∃ t, ρ (pth g) = some t ∧ t.c = g ∧ t.d = 0
theorem GL.mono {E : Env} {ρ ρ' : Ren} (h : GL E ρ) (hl : ρ.le ρ') : GL E ρ' := fun g hg => by
  obtain ⟨t, h1, h2⟩ := h g hg
  exact ⟨t, hl _ _ h1, h2⟩
theorem gl_opd {E : Env} {ρ : Ren} {nt : Nat} {tm : Tr AV} {a : Act} {x : Operand} {v : AV} (hg : GL E ρ) (hf : FR ρ nt tm a.tmps) (hx : gOk1 E x = true) (hv : eva x tm = some v) : VR ρ v (a.eval x) := by
  cases x with
  | tmp t => injection hv with hv; subst hv; exact hf.2 t
  | const w => exact ofV_rel ρ hv
  | global g =>
    injection hv with hv
    subst hv
    obtain ⟨t, h1, h2, h3⟩ := hg g (ble_iff.1 hx)
    have : a.eval (.global g) = .pointer (some ⟨t.c, t.d + 0, none⟩) := by rw [h2, h3]; rfl
    rw [this]
    exact .p h1
  | func f => injection hv with hv; subst hv; exact .f rfl rfl (fun i x v h => by simp at h) (fun i x v h => by simp at h)
/-- deferred calls -/
def DR (E : Env) (ρ : Ren) : List AD → List Deferred → Prop
  | [], [] => True
  | .fn f us :: l, d :: ds => (hasBody E f = true ∧ ∃ cap, d.target = .fn (.func f) cap ∧ VRs ρ us (d.args ++ cap).toList) ∧ DR E ρ l ds
  | .mk b :: l, d :: ds => (∃ t, ρ b = some t ∧ d = { target := .collected t.c, args := #[] }) ∧ DR E ρ l ds
  | _, _ => False
theorem DR.mono {E : Env} {ρ ρ' : Ren} (hl : ρ.le ρ') : ∀ {l : List AD} {ds : List Deferred}, DR E ρ l ds → DR E ρ' l ds
  | [], [], _ => trivial
  | .fn f us :: l, d :: ds, h => by
    obtain ⟨⟨h1, cap, h2, h3⟩, h4⟩ := h
    exact ⟨⟨h1, cap, h2, h3.mono hl⟩, h4.mono hl⟩
  | .mk b :: l, d :: ds, h => by
    obtain ⟨⟨t, h1, h2⟩, h3⟩ := h
    exact ⟨⟨t, hl _ _ h1, h2⟩, h3.mono hl⟩
  | [], _ :: _, h => h.elim
  | .fn _ _ :: _, [], h => h.elim
  | .mk _ :: _, [], h => h.elim
/-- what is known where a piece of code is left -/
def PostR (E : Env) (nt : Nat) (ρ : Ren) (H : Hp) (w : World) (n : Pn) (Q : Exit → Act → World → Prop) : R → Prop
  | .er _ => True
  | .nm tm df h n' => ∀ ρ' a' w', Step ρ H w n ρ' (hv h) w' n' → FR ρ' nt tm a'.tmps → DR E ρ' df a'.defers → Q .normal a' w'
  | .ex id tm df h n' => ∀ ρ' a' w', Step ρ H w n ρ' (hv h) w' n' → FR ρ' nt tm a'.tmps → DR E ρ' df a'.defers → Q (.exit id) a' w'
  | .rt tm df h n' => ∀ ρ' a' w', Step ρ H w n ρ' (hv h) w' n' → FR ρ' nt tm a'.tmps → DR E ρ' df a'.defers → Q .ret a' w'
def endN : R → Pn
  | .er _ => .one
  | .nm _ _ _ n => n
  | .ex _ _ _ _ n => n
  | .rt _ _ _ n => n
/-- bodies do what the model's do -/
structure BdOK (E : Env) (B : Bd) : Prop where
  fn : ∀ f us h n, Ok (B (.fn f us) h n) → n.nat ≤ (endN (B (.fn f us) h n)).nat ∧
    ∀ (fn : Func) (c : Code), E.fn f = some fn → fn.body = some c → ∀ (ρ : Ren) (w : World) (args : Array Value), Rel ρ (hv h) w → GL E ρ → VRs ρ us args.toList → Fresh ρ (hv h) n (endN (B (.fn f us) h n)) →
      ∀ Q, PostR E fn.ntmps ρ (hv h) w n Q (B (.fn f us) h n) → c.wpIn (FW none) 0 E.P Q { tmps := args ++ Array.replicate (fn.ntmps - args.size) undef, defers := [] } w
  rd : ∀ nt c tm h n, Ok (B (.rd nt c tm) h n) → n.nat ≤ (endN (B (.rd nt c tm) h n)).nat ∧
    ∀ (l : Nat) (ρ : Ren) (w : World) (tmps : Array Value), Rel ρ (hv h) w → GL E ρ → FR ρ nt tm tmps → Fresh ρ (hv h) n (endN (B (.rd nt c tm) h n)) →
      ∀ Q, PostR E nt ρ (hv h) w n Q (B (.rd nt c tm) h n) → c.wpIn (FW (some l)) 0 E.P Q { tmps, defers := [] } w
/-- a value is handed back -/
def RetT (T : Value → World → Prop) : Ending → World → Prop
  | .returned v, w => T v w
  | _, _ => False
/-- what a call comes to -/
def NxR (P : Program) (s : Sem Next) (w : World) (T : Value → World → Prop) : Prop :=
  ∃ nx w1, s.run P w = .ok nx w1 ∧ match nx with
    | .value v => T v w1
    | .enter f args => CallsIn (FW none) 0 P f args w1 (RetT T)
    | .round l f tmps assign body => RoundIn (FW none) 0 P l f tmps assign body w1 (RetT T)
    | _ => False
theorem NxR.upon {P : Program} {s : Sem Next} {w : World} {T : Value → World → Prop} (h : NxR P s w T) (ro : Option Nat) (o : Oper) (a : Act) {next : Act → World → Prop} {Q : Exit → Act → World → Prop} (hn : ∀ v w', T v w' → next (a.put o.dst v) w') :
    o.uponIn (FW ro) 0 P a next Q (s.run P w) := by
  obtain ⟨nx, w1, h1, h2⟩ := h
  rw [h1]
  cases nx <;> first | exact h2.elim | skip
  · exact hn _ _ h2
  · refine ⟨fun h => (by cases h), ?_⟩
    have : CallsIn (FW ro) 0 P _ _ w1 (RetT T) := h2
    refine this.mono fun e w' hr => ?_
    cases e with
    | returned v => exact hn _ _ hr
    | panicked c => exact hr.elim
    | outgrown => exact hr.elim
  · refine ⟨fun h => (by cases h), ?_⟩
    have : RoundIn (FW ro) 0 P _ _ _ _ _ w1 (RetT T) := h2
    refine this.mono fun e w' hr => ?_
    cases e with
    | returned v => exact hn _ _ hr
    | panicked c => exact hr.elim
    | outgrown => exact hr.elim
section
variable {E : Env} {ρ : Ren} {H : Hp} {w w' : World}

/-- a result's value -/
def resM (tmps : Array Value) : ResultVar → Sem Value
  | .tmp t => pure (tmps.getD t undef)
  | .cell a t => do loadVar t (← asAddr (tmps.getD a undef))
theorem resK_inv (hE : EOK E) (l : List ResultVar) : ∀ {tm : Tr AV} {h : Tr AO} {k : List AV → R}, Ok (resK E l tm h k) → ∃ vs, resK E l tm h k = k vs ∧ ∀ (ρ : Ren) (nt : Nat) (w : World) (tmps : Array Value), FR ρ nt tm tmps → Rel ρ (hv h) w →
    ∃ us, VRs ρ vs us ∧ (l.mapM (resM tmps)).run E.P w = .ok us w := by
  induction l with
  | nil => exact fun _ => ⟨[], rfl, fun ρ nt w tmps _ _ => ⟨[], VRs.nil ρ, rfl⟩⟩
  | cons r l ih =>
    intro tm h k hk
    cases r with
    | tmp t =>
      have e : resK E (.tmp t :: l) tm h k = opT t tm fun v => resK E l tm h fun l => k (v :: l) := rfl
      have e2 : ∀ k : AV → R, opT t tm k = k (tm.get (.tu []) (pth t)) := fun k => getK_eq _ _ _ _
      rw [e, e2] at hk ⊢
      obtain ⟨vs, h1, h2⟩ := ih hk
      refine ⟨_, h1, fun ρ nt w tmps hf hR => ?_⟩
      obtain ⟨us, h3, h4⟩ := h2 ρ nt w tmps hf hR
      refine ⟨_, h3.cons (hf.2 t), ?_⟩
      rw [List.mapM_cons]
      simp only [resM, Sem.run_bind, Sem.run_pure, Result.andThen_ok, h4]
    | cell a t =>
      have e : resK E (.cell a t :: l) tm h k = Option.rec (.er 170) (fun i => opT a tm fun v => ld i h v fun x => resK E l tm h fun l => k (x :: l)) (E.ti t) := rfl
      have e2 : ∀ k : AV → R, opT a tm k = k (tm.get (.tu []) (pth a)) := fun k => getK_eq _ _ _ _
      rw [e] at hk ⊢
      cases ht : E.ti t with
      | none => rw [ht] at hk; exact (ok_er hk).elim
      | some i =>
        rw [ht] at hk
        simp only [e2] at hk ⊢
        obtain ⟨r, h1, h2⟩ := ld_inv (tok hE ht) hk
        rw [h1] at hk ⊢
        obtain ⟨vs, h3, h4⟩ := ih hk
        refine ⟨_, h3, fun ρ nt w tmps hf hR => ?_⟩
        obtain ⟨us, h5, h6⟩ := h4 ρ nt w tmps hf hR
        obtain ⟨r', h7, h8⟩ := h2 ρ w _ (hf.2 a) hR
        have h9 : (resM tmps (.cell a t)).run E.P w = .ok r' w := by
          show (do loadVar t (← asAddr (tmps.getD a undef)) : Sem Value).run E.P w = .ok r' w
          unfold Instr.loadAt at h8
          generalize tmps.getD a undef = u at h8 ⊢
          unfold Instr.sureAddr at h8
          unfold asAddr
          cases u with
          | pointer p => cases p with
            | none => simp at h8
            | some q => exact h8
          | _ => simp at h8
        refine ⟨_, h5.cons h7, ?_⟩
        rw [List.mapM_cons, Sem.run_bind, h9]
        simp only [Sem.run_bind, Sem.run_pure, Result.andThen_ok, h6]
theorem oneV_rel {vs : List AV} {us : List Value} (h : VRs ρ vs us) : VR ρ (oneV vs) (if h : us.toArray.size = 1 then us.toArray[0] else .tuple us.toArray) := by
  by_cases h1 : us.length = 1
  · obtain ⟨u, rfl⟩ := List.length_eq_one_iff.1 h1
    obtain ⟨v, rfl⟩ := List.length_eq_one_iff.1 (h.1.symm.trans h1)
    exact h.2 0 v u rfl rfl
  · have h2 : vs.length ≠ 1 := fun e => h1 (h.1.trans e)
    have e : oneV vs = .tu vs := by
      unfold oneV
      split
      · exact absurd rfl h2
      · rfl
    rw [e, dif_neg (by simpa using h1)]
    exact VR.tu' h
theorem run_results {P : Program} {fn : Func} {tmps : Array Value} {us : List Value} (h : (fn.results.toList.mapM (resM tmps)).run P w = .ok us w) :
    (results fn tmps).run P w = .ok (if h : us.toArray.size = 1 then us.toArray[0] else .tuple us.toArray) w := by
  have e : results fn tmps = (do let vs ← fn.results.mapM (resM tmps); pure (if h : vs.size = 1 then vs[0] else .tuple vs)) := rfl
  rw [e, Sem.run_bind, Array.mapM_eq_mapM_toList, Sem.run_map, h]
  rfl
theorem leftK_inv {r : R} {k : Tr AV → List AD → Tr AO → Pn → R} (h : Ok (leftK r k)) : ∃ tm df h' n, (r = .nm tm df h' n ∨ r = .rt tm df h' n) ∧ leftK r k = k tm df h' n := by
  cases r with
  | er c => exact (ok_er h).elim
  | nm tm df h' n => exact ⟨tm, df, h', n, .inl rfl, rfl⟩
  | ex id tm df h' n => exact (ok_er h).elim
  | rt tm df h' n => exact ⟨tm, df, h', n, .inr rfl, rfl⟩
theorem bareK_inv {r : R} {k : Tr AO → Pn → R} (h : Ok (bareK r k)) : ∃ tm h' n, (r = .nm tm [] h' n ∨ r = .rt tm [] h' n) ∧ bareK r k = k h' n := by
  cases r with
  | er c => exact (ok_er h).elim
  | nm tm df h' n => cases df with
    | nil => exact ⟨tm, h', n, .inl rfl, rfl⟩
    | cons a l => exact (ok_er h).elim
  | ex id tm df h' n => exact (ok_er h).elim
  | rt tm df h' n => cases df with
    | nil => exact ⟨tm, h', n, .inr rfl, rfl⟩
    | cons a l => exact (ok_er h).elim
theorem ok_nm {r : R} {tm : Tr AV} {df : List AD} {h : Tr AO} {n : Pn} (e : r = .nm tm df h n ∨ r = .rt tm df h n) : Ok r ∧ endN r = n := by
  rcases e with rfl | rfl <;> exact ⟨fun c h => (by cases h), rfl⟩
theorem post_nm {nt : Nat} {n : Pn} {r : R} {tm : Tr AV} {df : List AD} {h : Tr AO} {n' : Pn} {Q : Exit → Act → World → Prop} (e : r = .nm tm df h n' ∨ r = .rt tm df h n')
    (hq : ∀ ρ' a' w', Step ρ H w n ρ' (hv h) w' n' → FR ρ' nt tm a'.tmps → DR E ρ' df a'.defers → Q .normal a' w' ∧ Q .ret a' w') : PostR E nt ρ H w n Q r := by
  rcases e with rfl | rfl
  · exact fun ρ' a' w' h1 h2 h3 => (hq ρ' a' w' h1 h2 h3).1
  · exact fun ρ' a' w' h1 h2 h3 => (hq ρ' a' w' h1 h2 h3).2
theorem DR.nil {ds : List Deferred} (h : DR E ρ [] ds) : ds = [] := by cases ds with
  | nil => rfl
  | cons d ds => exact h.elim
theorem body_of {f : FuncId} (h : hasBody E f = true) : ∃ fn c, E.fn f = some fn ∧ fn.body = some c ∧ fn.results = #[] := by
  unfold hasBody at h
  split at h
  · rename_i fn hf
    rw [Bool.and_eq_true] at h
    obtain ⟨c, hc⟩ := Option.isSome_iff_exists.1 h.1
    refine ⟨fn, c, hf, hc, ?_⟩
    have := List.isEmpty_iff.1 h.2
    simpa using this
  · cases h
theorem run_callFunc (hE : EOK E) {f : FuncId} {fn : Func} {c : Code} (hf : E.fn f = some fn) (hc : fn.body = some c) (args : Array Value) (w : World) : (callFunc f args).run E.P w = .ok (.enter f args) w := by
  obtain ⟨h1, h2⟩ := hE.fn f fn hf
  have h3 : fn.name ≠ "runtime.NumGoroutine" := by simpa using h2
  simp [callFunc, h1, h3, hc]
/-- deferred calls and marks, run at the door -/
theorem runD_inv (hE : EOK E) {B : Bd} (hB : BdOK E B) (df : List AD) : ∀ {h : Tr AO} {n : Pn} {k : Tr AO → Pn → R}, Ok (runD B df h n k) → ∃ h2 n2, runD B df h n k = k h2 n2 ∧ n.nat ≤ n2.nat ∧
    ∀ (ρ : Ren) (w : World) (ds : List Deferred) (fn : Func) (tmps : Array Value) (T : Ending → World → Prop), GL E ρ → DR E ρ df ds → Rel ρ (hv h) w → Fresh ρ (hv h) n n2 →
      (∀ ρ' w', Step ρ (hv h) w n ρ' (hv h2) w' n2 → ∃ v, (results fn tmps).run E.P w' = .ok v w' ∧ T (.returned v) w') → LeavesInM (FW none) 0 E.P fn tmps T ds .returning w := by
  induction df with
  | nil =>
    intro h n k hk
    refine ⟨h, n, rfl, Nat.le_refl _, fun ρ w ds fn tmps T hg hd hR hF ht => ?_⟩
    rw [hd.nil]
    obtain ⟨v, h1, h2⟩ := ht ρ w (Step.refl hR)
    exact ⟨v, h1, h2⟩
  | cons d df ih =>
    intro h n k hk
    cases d with
    | fn g us =>
      have e : runD B (.fn g us :: df) h n k = bareK (B (.fn g us) h n) fun h n => runD B df h n k := rfl
      rw [e] at hk ⊢
      obtain ⟨tm, h1, n1, h2, h3⟩ := bareK_inv hk
      rw [h3] at hk ⊢
      obtain ⟨hok, hen⟩ := ok_nm h2
      obtain ⟨h4, n4, h5, h6, h7⟩ := ih hk
      obtain ⟨hle, hsem⟩ := hB.fn g us h n hok
      rw [hen] at hle hsem
      refine ⟨h4, n4, h5, by omega, fun ρ w ds fn tmps T hg hd hR hF ht => ?_⟩
      cases ds with
      | nil => exact hd.elim
      | cons d ds =>
        obtain ⟨⟨hb, cap, q1, q2⟩, q3⟩ := hd
        obtain ⟨fg, c, g1, g2, g3⟩ := body_of hb
        refine ⟨by simp, .inr ⟨fun h => (by cases h), .func g, cap, g, d.args ++ cap, q1, ?_, fun _ _ => trivial, ?_⟩⟩
        · rw [q1]; exact run_callFunc hE g1 g2 _ w
        · have hwp := hsem fg c g1 g2 ρ w (d.args ++ cap) hR hg q2 (hF.left h6)
            (bodyPost E.P fg (fun e w' => match e with | .returned _ => ∃ ρ', Step ρ (hv h) w n ρ' (hv h1) w' n1 | _ => False)) (post_nm h2 fun ρ' a' w' s1 s2 s3 => by
              have hnil := s3.nil
              have hr0 : (results fg a'.tmps).run E.P w' = .ok (.tuple #[]) w' := by
                unfold results
                rw [g3]
                simp
              exact ⟨⟨hnil, _, hr0, ρ', s1⟩, ⟨hnil, _, hr0, ρ', s1⟩⟩)
          have hcd := callsDIn_of_wp (u := .returning) (hE.fn g fg g1).1 g2 trivial hwp
          refine hcd.mono fun e u' w' hr => ?_
          obtain ⟨rfl, hr⟩ := hr
          cases e with
          | panicked c => exact hr.elim
          | outgrown => exact hr.elim
          | returned v =>
            obtain ⟨ρ', hst⟩ := hr
            exact h7 ρ' w' ds fn tmps T (hg.mono hst.ext) (q3.mono hst.ext) hst.rel (hF.right hst) (fun ρ2 w2 s2 => ht ρ2 w2 (hst.trans s2))
    | mk b =>
      have e : runD B (.mk b :: df) h n k = h.getK .x b fun o => dqK o fun _ => h.setK .x (.dq true) b fun h => runD B df h n k := rfl
      rw [e] at hk ⊢
      rw [getK_eq] at hk ⊢
      have hdq : h.get .x b = .dq false ∧ dqK (h.get .x b) (fun _ => h.setK .x (.dq true) b fun h => runD B df h n k) = h.setK .x (.dq true) b fun h => runD B df h n k := by
        cases ho : h.get .x b with
        | dq t => cases t with
          | false => exact ⟨rfl, rfl⟩
          | true => rw [ho] at hk; exact (ok_er hk).elim
        | _ => rw [ho] at hk; exact (ok_er hk).elim
      rw [hdq.2, setK_eq] at hk ⊢
      obtain ⟨h4, n4, h5, h6, h7⟩ := ih hk
      refine ⟨h4, n4, h5, h6, fun ρ w ds fn tmps T hg hd hR hF ht => ?_⟩
      cases ds with
      | nil => exact hd.elim
      | cons d ds =>
        obtain ⟨⟨t, q1, rfl⟩, q3⟩ := hd
        have hob := hR.ob b (by show h.get .x b ≠ .x; rw [hdq.1]; simp)
        rw [show hv h b = .dq false from hdq.1] at hob
        obtain ⟨t', p1, p2⟩ := hob
        obtain rfl := Option.some.inj (q1.symm.trans p1)
        have p2 : w.heap[t.c]? = some (.deferred (some [])) := p2
        refine ⟨by simp, .inl ⟨t.c, w.putObj t.c (.deferred none), rfl, run_takeDeferred p2, ?_⟩⟩
        have hst : Step ρ (hv h) w n ρ (hv (h.put .x (.dq true) b)) (w.putObj t.c (.deferred none)) n := by
          rw [hv_put]
          exact Step.obj hR (by show own (h.get .x b); rw [hdq.1]; exact ⟨by simp, by simp⟩) q1 ⟨by simp, by simp⟩ rfl p2
        exact h7 ρ _ ds fn tmps T hg q3 hst.rel (hF.right hst) (fun ρ2 w2 s2 => ht ρ2 w2 (hst.trans s2))
/-- what a call of such a function comes to -/
def CallS (E : Env) (f : FuncId) (us : List AV) (h : Tr AO) (n : Pn) (v : AV) (h' : Tr AO) (n' : Pn) : Prop :=
  n.nat ≤ n'.nat ∧ ∀ (ρ : Ren) (w : World) (args : Array Value), GL E ρ → VRs ρ us args.toList → Rel ρ (hv h) w → Fresh ρ (hv h) n n' →
    NxR E.P (callFunc f args) w fun v' w' => ∃ ρ', Step ρ (hv h) w n ρ' (hv h') w' n' ∧ VR ρ' v v'
theorem callB_inv (hE : EOK E) {B : Bd} (hB : BdOK E B) {f : FuncId} {us : List AV} {h : Tr AO} {n : Pn} {k : AV → Tr AO → Pn → R} (hk : Ok (callB E f us B h n k)) :
    ∃ v h' n', callB E f us B h n k = k v h' n' ∧ n.nat ≤ n'.nat ∧ ∀ (ρ : Ren) (w : World) (args : Array Value), GL E ρ → VRs ρ us args.toList → Rel ρ (hv h) w → Fresh ρ (hv h) n n' →
      (callFunc f args).run E.P w = .ok (.enter f args) w ∧ CallsIn (FW none) 0 E.P f args w (RetT fun v' w' => ∃ ρ', Step ρ (hv h) w n ρ' (hv h') w' n' ∧ VR ρ' v v') := by
  unfold callB at hk ⊢
  cases hf : E.fn f with
  | none => rw [hf] at hk; exact (ok_er hk).elim
  | some fn =>
    rw [hf] at hk
    simp only at hk ⊢
    cases hc : fn.body with
    | none => rw [hc] at hk; exact (ok_er hk).elim
    | some c =>
      rw [hc] at hk
      simp only at hk ⊢
      obtain ⟨tm, df, h1, n1, h2, h3⟩ := leftK_inv hk
      rw [h3] at hk ⊢
      unfold endK at hk ⊢
      obtain ⟨hok, hen⟩ := ok_nm h2
      obtain ⟨h4, n4, h5, h6, h7⟩ := runD_inv hE hB df hk
      rw [h5] at hk ⊢
      obtain ⟨vs, h8, h9⟩ := resK_inv hE _ hk
      obtain ⟨hle, hsem⟩ := hB.fn f us h n hok
      rw [hen] at hle hsem
      refine ⟨_, _, _, h8, by omega, fun ρ w args hg ha hR hF => ⟨run_callFunc hE hf hc args w, ?_⟩⟩
      have hleave : ∀ ρ' (a' : Act) w', Step ρ (hv h) w n ρ' (hv h1) w' n1 → FR ρ' fn.ntmps tm a'.tmps → DR E ρ' df a'.defers →
          LeavesInM (FW none) 0 E.P fn a'.tmps (RetT fun v' w' => ∃ ρ', Step ρ (hv h) w n ρ' (hv h4) w' n4 ∧ VR ρ' (oneV vs) v') a'.defers .returning w' := by
        intro ρ' a' w' s1 s2 s3
        refine h7 ρ' w' a'.defers fn a'.tmps _ (hg.mono s1.ext) s3 s1.rel (hF.right s1) fun ρ2 w2 s4 => ?_
        obtain ⟨us', q1, q2⟩ := h9 ρ2 fn.ntmps w2 a'.tmps (s2.mono s4.ext) s4.rel
        exact ⟨_, run_results q2, ρ2, s1.trans s4, oneV_rel q1⟩
      exact callsIn_of_wp_marks (hE.fn f fn hf).1 hc trivial (hsem fn c hf hc ρ w args hR hg ha (hF.left (by omega)) _ (post_nm h2 fun ρ' a' w' s1 s2 s3 => ⟨hleave ρ' a' w' s1 s2 s3, hleave ρ' a' w' s1 s2 s3⟩))
/-- what stands in a function's place -/
def IxOK (E : Env) (ix : FuncId → Option Ix) : Prop := ∀ f g, ix f = some g → ∀ us h n k, Ok (g us h n k) → ∃ v h' n', g us h n k = k v h' n' ∧ CallS E f us h n v h' n'
theorem callK_inv (hE : EOK E) {ix : FuncId → Option Ix} (hI : IxOK E ix) {B : Bd} (hB : BdOK E B) {f : FuncId} {us : List AV} {h : Tr AO} {n : Pn} {k : AV → Tr AO → Pn → R} (hk : Ok (callK E ix f us B h n k)) :
    ∃ v h' n', callK E ix f us B h n k = k v h' n' ∧ CallS E f us h n v h' n' := by
  unfold callK at hk ⊢
  cases hi : ix f with
  | some g =>
    rw [hi] at hk
    exact hI f g hi us h n k hk
  | none =>
    rw [hi] at hk
    simp only at hk ⊢
    obtain ⟨v, h', n', h1, h2, h3⟩ := callB_inv hE hB hk
    refine ⟨v, h', n', h1, h2, fun ρ w args hg ha hR hF => ?_⟩
    obtain ⟨h4, h5⟩ := h3 ρ w args hg ha hR hF
    exact ⟨_, _, h4, h5⟩
end
end Ax
end Go.Proofs.YtnnhkajjifmlfaaDoor
