/- Calls of function values, of yields, of methods. -/
import Derived.Test.YtnnhkajjifmlfaaDoorX20
namespace Go.Proofs.YtnnhkajjifmlfaaDoor
namespace Ax
section
variable {E : Env} {ρ : Ren} {H : Hp} {w w' : World}
theorem FR.put {nt : Nat} {tm : Tr AV} {tmps : Array Value} (h : FR ρ nt tm tmps) {p : Nat} (hp : p < nt) {v : AV} {v' : Value} (hv : VR ρ v v') : FR ρ nt (tm.put (.tu []) v (pth p)) (tmps.setIfInBounds p v') := by
  refine ⟨by simpa using h.1, fun t => ?_⟩
  by_cases e : t = p
  · subst e
    rw [get_put_same]
    have hlt : t < tmps.size := by rw [h.1]; exact hp
    have : (tmps.setIfInBounds t v').getD t undef = v' := by simp [Array.getD, hlt]
    rw [this]
    exact hv
  · rw [get_put_other _ _ _ _ (fun x => e (pth_inj x).symm)]
    have : (tmps.setIfInBounds p v').getD t undef = tmps.getD t undef := by
      simp only [Array.getD_eq_getD_getElem?]
      rw [Array.getElem?_setIfInBounds_ne (fun x => e x.symm)]
    rw [this]
    exact h.2 t
theorem parsK_inv {nt : Nat} (ps : List Nat) : ∀ {us : List AV} {tm : Tr AV} {k : Tr AV → R}, Ok (parsK nt ps us tm k) → us.length = ps.length ∧ ∃ tm', parsK nt ps us tm k = k tm' ∧
    ∀ (ρ : Ren) (args : List Value) (tmps : Array Value), VRs ρ us args → FR ρ nt tm tmps → FR ρ nt tm' ((ps.zip args).foldl (fun tmps (t, a) => tmps.setIfInBounds t a) tmps) := by
  induction ps with
  | nil =>
    intro us tm k h
    cases us with
    | nil => exact ⟨rfl, tm, rfl, fun ρ args tmps _ h => h⟩
    | cons u us => exact (ok_er h).elim
  | cons p ps ih =>
    intro us tm k h
    cases us with
    | nil => exact (ok_er h).elim
    | cons u us =>
      have e : parsK nt (p :: ps) (u :: us) tm k = ifK (Nat.ble (p + 1) nt) 179 fun _ => tm.setK (.tu []) u (pth p) fun t => parsK nt ps us t k := rfl
      rw [e] at h ⊢
      obtain ⟨h1, h2⟩ := ifK_inv h
      rw [h2] at h ⊢
      rw [setK_eq] at h ⊢
      obtain ⟨h3, tm', h4, h5⟩ := ih h
      refine ⟨by simp [h3], tm', h4, fun ρ args tmps ha hf => ?_⟩
      obtain ⟨a, r, rfl, g1, g2⟩ := ha.cons_inv
      exact h5 ρ r _ g2 (hf.put (ble_iff.1 h1) g1)
theorem lpK_inv {o : AO} {k : Nat → Option Code → Nat → Tr AV → List Nat → Code → Code → Pn → R} (h : Ok (lpK o k)) : ∃ st pend nt tm ps a b dq, o = .lp st pend nt tm ps a b dq ∧ lpK o k = k st pend nt tm ps a b dq := by
  cases o with
  | lp st pend nt tm ps a b dq => exact ⟨st, pend, nt, tm, ps, a, b, dq, rfl, rfl⟩
  | _ => exact (ok_er h).elim
theorem loop_rel (h : Rel ρ H w) {b : Pn} {st nt : Nat} {pend : Option Code} {tm : Tr AV} {ps : List Nat} {x y : Code} {dq : Pn} (hb : H b = .lp st pend nt tm ps x y dq) :
    ∃ (t t' : Bk) (fn : FuncId) (tmps : Array Value), ρ b = some t ∧ ρ dq = some t' ∧ FR ρ nt tm tmps ∧ w.heap[t.c]? = some (.loop { state := lst st, pending := pend, fn, tmps, params := ps.toArray, assign := x, body := y, defers := t'.c }) := by
  obtain ⟨t, h1, h2⟩ := h.ob b (by rw [hb]; simp)
  rw [hb] at h2
  obtain ⟨fn, tmps, s, t', h3, h4, h5, h6⟩ := h2
  subst h5
  exact ⟨t, t', fn, tmps, h1, h4, h6, h3⟩
theorem own_lp {o : AO} {st nt : Nat} {pend : Option Code} {tm : Tr AV} {ps : List Nat} {x y : Code} {dq : Pn} (h : o = .lp st pend nt tm ps x y dq) : own o := by subst h; exact ⟨by simp, by simp⟩
/-- the record's state is turned -/
theorem loop_step {n : Pn} (h : Rel ρ H w) {b : Pn} {st nt st' : Nat} {pend pend' : Option Code} {tm : Tr AV} {ps : List Nat} {x y : Code} {dq : Pn} (hb : H b = .lp st pend nt tm ps x y dq) {t t' : Bk} {fn : FuncId} {tmps : Array Value} {s' : LoopState}
    (h1 : ρ b = some t) (h2 : ρ dq = some t') (h3 : FR ρ nt tm tmps) {ob : Obj} (hg : w.heap[t.c]? = some ob) (hs : s' = lst st') :
    Step ρ H w n ρ (upd H b (.lp st' pend' nt tm ps x y dq)) (w.putObj t.c (.loop { state := s', pending := pend', fn, tmps, params := ps.toArray, assign := x, body := y, defers := t'.c })) n :=
  Step.obj h (own_lp hb) h1 ⟨by simp, by simp⟩ ⟨fn, tmps, s', t', rfl, h2, hs, h3⟩ hg
theorem asgK_inv {r : R} {k : Tr AV → Tr AO → Pn → R} (h : Ok (asgK r k)) : ∃ tm h' n, r = .nm tm [] h' n ∧ asgK r k = k tm h' n := by
  cases r with
  | nm tm df h' n => cases df with
    | nil => exact ⟨tm, h', n, rfl, rfl⟩
    | cons a l => exact (ok_er h).elim
  | _ => exact (ok_er h).elim
theorem setLp_inv {b : Pn} {st : Nat} {pend : Option Code} {h : Tr AO} {k : Tr AO → R} (hk : Ok (setLp b st pend h k)) : ∃ st0 pend0 nt tm ps x y dq, h.get .x b = .lp st0 pend0 nt tm ps x y dq ∧ setLp b st pend h k = k (h.put .x (.lp st pend nt tm ps x y dq) b) := by
  unfold setLp at hk ⊢
  rw [getK_eq] at hk ⊢
  obtain ⟨st0, pend0, nt, tm, ps, x, y, dq, h1, h2⟩ := lpK_inv hk
  rw [h2] at hk ⊢
  exact ⟨st0, pend0, nt, tm, ps, x, y, dq, h1, by rw [setK_eq]⟩
/-- how a round ends, on both sides -/
theorem roundK_inv {P : Program} {b : Pn} {r : R} {k : AV → Tr AO → Pn → R} (hk : Ok (roundK b r k)) : ∃ x h' n', roundK b r k = k (.b x) h' n' ∧ Ok r ∧ endN r = n' ∧
    ∀ (E : Env) (nt : Nat) (ρ : Ren) (H : Hp) (w : World) (n : Pn) (t : Bk) (T : Ending → World → Prop), ρ b = some t → (∀ ρ' w', Step ρ H w n ρ' (hv h') w' n' → T (.returned (.bool x)) w') → PostR E nt ρ H w n (roundPost P t.c T) r := by
  -- the record, turned at a round's end
  have key : ∀ (st : Nat) (jump : Option Code) (h3 : Tr AO) (n3 : Pn), lst st = (if jump.isNone then .ready else .done) → ∀ k : Tr AO → R, Ok (setLp b st jump h3 k) → ∃ h', setLp b st jump h3 k = k h' ∧
      ∀ (ρ : Ren) (H : Hp) (w : World) (n : Pn) (t : Bk) (ρ' : Ren) (w' : World), ρ b = some t → Step ρ H w n ρ' (hv h3) w' n3 → ∃ w'', (Instr.endRound t.c jump).run P w' = .ok (.bool jump.isNone) w'' ∧ Step ρ H w n ρ' (hv h') w'' n3 := by
    intro st jump h3 n3 hl k hk
    obtain ⟨st0, pend0, nt0, tm0, ps, x, y, dq, h4, h5⟩ := setLp_inv hk
    refine ⟨_, h5, fun ρ H w n t ρ' w' ht hs => ?_⟩
    obtain ⟨t1, t', fn, tmps, g1, g2, g3, g4⟩ := loop_rel hs.rel h4
    obtain rfl := Option.some.inj ((hs.ext _ _ ht).symm.trans g1)
    refine ⟨_, run_endRound jump g4, ?_⟩
    rw [hv_put]
    exact hs.trans (loop_step hs.rel h4 g1 g2 g3 g4 hl.symm)
  cases r with
  | er c => exact (ok_er hk).elim
  | nm tm df h3 n3 => cases df with
    | cons a l => exact (ok_er hk).elim
    | nil =>
      have e : roundK b (.nm tm [] h3 n3) k = setLp b 0 none h3 fun h => k (.b true) h n3 := rfl
      rw [e] at hk ⊢
      obtain ⟨h', g1, g2⟩ := key 0 none h3 n3 rfl _ hk
      refine ⟨true, h', n3, g1, fun c h => (by cases h), rfl, fun E nt ρ H w n t T ht hT => ?_⟩
      intro ρ' a' w' s1 _ _
      obtain ⟨w'', g3, g4⟩ := g2 ρ H w n t ρ' w' ht s1
      exact ⟨_, w'', g3, hT ρ' w'' g4⟩
  | ex id tm df h3 n3 => cases df with
    | cons a l => exact (ok_er hk).elim
    | nil =>
      have e : roundK b (.ex id tm [] h3 n3) k = setLp b 2 (some (.exit id)) h3 fun h => k (.b false) h n3 := rfl
      rw [e] at hk ⊢
      obtain ⟨h', g1, g2⟩ := key 2 (some (.exit id)) h3 n3 rfl _ hk
      refine ⟨false, h', n3, g1, fun c h => (by cases h), rfl, fun E nt ρ H w n t T ht hT => ?_⟩
      intro ρ' a' w' s1 _ _
      obtain ⟨w'', g3, g4⟩ := g2 ρ H w n t ρ' w' ht s1
      exact ⟨_, w'', g3, hT ρ' w'' g4⟩
  | rt tm df h3 n3 => cases df with
    | cons a l => exact (ok_er hk).elim
    | nil =>
      have e : roundK b (.rt tm [] h3 n3) k = setLp b 2 (some .ret) h3 fun h => k (.b false) h n3 := rfl
      rw [e] at hk ⊢
      obtain ⟨h', g1, g2⟩ := key 2 (some .ret) h3 n3 rfl _ hk
      refine ⟨false, h', n3, g1, fun c h => (by cases h), rfl, fun E nt ρ H w n t T ht hT => ?_⟩
      intro ρ' a' w' s1 _ _
      obtain ⟨w'', g3, g4⟩ := g2 ρ H w n t ρ' w' ht s1
      exact ⟨_, w'', g3, hT ρ' w'' g4⟩
theorem yieldK_inv {B : Bd} (hB : BdOK E B) {b : Pn} {us : List AV} {h : Tr AO} {n : Pn} {k : AV → Tr AO → Pn → R} (hk : Ok (yieldK b us B h n k)) :
    ∃ v h' n', yieldK b us B h n k = k v h' n' ∧ n.nat ≤ n'.nat ∧ ∀ (ρ : Ren) (w : World) (t : Bk) (args : Array Value), GL E ρ → ρ b = some t → VRs ρ us args.toList → Rel ρ (hv h) w → Fresh ρ (hv h) n n' →
      NxR E.P (Instr.yield t.c args) w fun v' w' => ∃ ρ', Step ρ (hv h) w n ρ' (hv h') w' n' ∧ VR ρ' v v' := by
  unfold yieldK at hk ⊢
  rw [getK_eq] at hk ⊢
  obtain ⟨st, pend, nt, tm, ps, x, y, dq, h1, h2⟩ := lpK_inv hk
  rw [h2] at hk ⊢
  obtain ⟨hlen, tm1, h3, h4⟩ := parsK_inv ps hk
  rw [h3] at hk ⊢
  obtain ⟨tm2, ha, n1, h5, h6⟩ := asgK_inv hk
  rw [h6] at hk ⊢
  rw [getK_eq] at hk ⊢
  obtain ⟨st', pend', nt', tm', ps', x', y', dq', h7, h8⟩ := lpK_inv hk
  rw [h8] at hk ⊢
  obtain ⟨h9, h10⟩ := ifK_inv hk
  rw [h10] at hk ⊢
  obtain rfl := beq_iff.1 h9
  rw [setK_eq] at hk ⊢
  obtain ⟨v, h', n', h11, h12, h13, h14⟩ := roundK_inv (P := E.P) hk
  obtain ⟨hle1, hsem1⟩ := hB.rd nt x tm1 h n (by rw [h5]; exact fun c h => (by cases h))
  obtain ⟨hle2, hsem2⟩ := hB.rd nt y tm2 (ha.put .x (.lp 1 pend' nt' tm' ps' x' y' dq') b) n1 h12
  rw [h5] at hle1 hsem1
  rw [h13] at hle2 hsem2
  simp only [endN] at hle1 hsem1
  refine ⟨_, _, _, h11, by omega, fun ρ w t args hg ht hu hR hF => ?_⟩
  obtain ⟨t1, tq, fn, tmps, g1, g2, g3, g4⟩ := loop_rel hR h1
  obtain rfl := Option.some.inj (ht.symm.trans g1)
  have hsz : args.size = ps.toArray.size := by rw [← Array.length_toList, hu.1, hlen]; simp
  refine ⟨_, w, run_yield g4 hsz, ?_⟩
  refine roundIn_of_wpIn trivial ?_
  have hfold : (ps.toArray.zip args).foldl (fun tmps (t, a) => tmps.setIfInBounds t a) tmps = (ps.zip args.toList).foldl (fun tmps (t, a) => tmps.setIfInBounds t a) tmps := by
    rw [← Array.foldl_toList, Array.toList_zip]
  simp only [hfold]
  have hf1 := h4 ρ args.toList tmps hu g3
  refine hsem1 t.c ρ w _ hR hg hf1 (hF.left hle2) _ ?_
  intro ρ' a' w' s1 s2 s3
  show ∃ w₂, _ ∧ _
  obtain ⟨t2, tq', fn', tmps', q1, q2, q3, q4⟩ := loop_rel s1.rel h7
  obtain rfl := Option.some.inj ((s1.ext _ _ ht).symm.trans q1)
  have s4 := loop_step (n := n1) (fn := fn') (st' := 1) (pend' := pend') (s' := .busy) s1.rel h7 q1 q2 q3 q4 rfl
  rw [← hv_put] at s4
  refine ⟨_, run_beginRound q4 rfl, ?_⟩
  have ha' : a' = { tmps := a'.tmps, defers := [] } := by
    have := s3.nil
    cases a'
    simp at this
    subst this
    rfl
  rw [ha']
  refine hsem2 t.c ρ' _ a'.tmps s4.rel (hg.mono s1.ext) s2 ((hF.right s1).right s4) _ (h14 E nt ρ' _ _ n1 t _ q1 fun ρ2 w2 s5 => ?_)
  exact ⟨ρ2, (s1.trans s4).trans s5, .b v⟩
theorem VR.func_inv {fn : Fn} {l m : List AV} {v : Value} (h : VR ρ (.f fn l m) v) : ∃ a b : Array Value, v = .func fn a b ∧ VRs ρ l a.toList ∧ VRs ρ m b.toList := by
  cases h with
  | f h1 h2 h3 h4 => exact ⟨_, _, rfl, ⟨by simpa using h1, fun i x v p q => h3 i x v p (by simpa using q)⟩, ⟨by simpa using h2, fun i x v p q => h4 i x v p (by simpa using q)⟩⟩
theorem applyK_inv (hE : EOK E) {ix : FuncId → Option Ix} (hI : IxOK E ix) {B : Bd} (hB : BdOK E B) {fv : AV} {us : List AV} {h : Tr AO} {n : Pn} {k : AV → Tr AO → Pn → R} (hk : Ok (applyK E ix fv us B h n k)) :
    ∃ v h' n', applyK E ix fv us B h n k = k v h' n' ∧ n.nat ≤ n'.nat ∧ ∀ (ρ : Ren) (w : World) (fv' : Value) (args : Array Value), GL E ρ → VR ρ fv fv' → VRs ρ us args.toList → Rel ρ (hv h) w → Fresh ρ (hv h) n n' →
      NxR E.P (do let d ← Deferred.ofValue fv' args; invoke d.target d.args) w fun v' w' => ∃ ρ', Step ρ (hv h) w n ρ' (hv h') w' n' ∧ VR ρ' v v' := by
  unfold applyK at hk ⊢
  split at hk
  · rename_i g a c
    obtain ⟨v, h', n', h1, h2, h3⟩ := callK_inv hE hI hB hk
    refine ⟨v, h', n', h1, h2, fun ρ w fv' args hg hf hu hR hF => ?_⟩
    obtain ⟨a', c', rfl, g1, g2⟩ := hf.func_inv
    have := h3 ρ w (a' ++ args ++ c') hg (by simpa using (g1.append hu).append g2) hR hF
    exact this
  · rename_i b
    obtain ⟨v, h', n', h1, h2, h3⟩ := yieldK_inv hB hk
    refine ⟨v, h', n', h1, h2, fun ρ w fv' args hg hf hu hR hF => ?_⟩
    obtain ⟨t, g1, rfl⟩ := hf.y_inv
    have := h3 ρ w t args hg g1 hu hR hF
    have e : (do let d ← Deferred.ofValue (.func (.yield t.c) #[] #[]) args; invoke d.target d.args : Sem Next) = Instr.yield t.c (#[] ++ args) := rfl
    rw [e, Array.empty_append]
    exact this
  · exact (ok_er hk).elim
theorem mth_inv (hE : EOK E) {t : TypeId} {name : String} {f : FuncId} {j : Option TI} (hm : mth E t name = some (f, j)) : 
    (j = none → ∀ (v : Value) (w : World), (method (E.P.types.size + Made.depth) t v name).run E.P w = .ok (f, v) w) ∧
    (∀ i, j = some i → ∃ e, TOK E.P e i ∧ ∀ (a : Addr) (w : World) (v : Value), (Instr.loadAt e (.pointer (some a))).run E.P w = .ok v w → (method (E.P.types.size + Made.depth) t (.pointer (some a)) name).run E.P w = .ok (f, v) w) := by
  obtain ⟨d, hd⟩ : ∃ d, E.P.types.size + Made.depth = d + 1 := ⟨E.P.types.size + 99, rfl⟩
  rw [hd]
  unfold mth at hm
  split at hm
  · rename_i i hi
    split at hm
    · rename_i m hfind
      split at hm
      · rename_i g pr hpath hfunc
        have hfind' : Array.find? (fun x => x.name == name) i.methods = some m := hfind
        split at hm
        · rename_i e hu
          injection hm with hm
          obtain ⟨rfl, rfl⟩ := Prod.mk.inj hm
          refine ⟨fun _ v w => ?_, fun i h => by cases h⟩
          simp [method, typeInfo, hi, hfind', hpath, follow, hfunc, receiverAt, run_underlying hu, Place.get]
        · rename_i e hu
          split at hm
          · rename_i j' hj
            injection hm with hm
            obtain ⟨rfl, rfl⟩ := Prod.mk.inj hm
            refine ⟨fun h => (by cases h), fun i' h => ?_⟩
            injection h with h
            subst h
            refine ⟨e, tok hE hj, fun a w v hl => ?_⟩
            have hl' : (loadVar e a).run E.P w = .ok v w := hl
            have hwrap : ∀ s : String, Builtin.ssaWrapNilChk_ #[t] t #[.pointer (some a), strVal "", strVal s] = pure (.pointer (some a)) := fun s => rfl
            simp [method, typeInfo, hi, hfind', hpath, follow, hfunc, receiverAt, run_underlying hu, Place.get, hwrap, asAddr]
            split <;> simp [hl']
          · cases hm
        · rename_i d' hne hu
          injection hm with hm
          obtain ⟨rfl, rfl⟩ := Prod.mk.inj hm
          refine ⟨fun _ v w => ?_, fun i h => by cases h⟩
          have hnp : ∀ e, d' ≠ .pointer e := fun e he => hne e (by rw [he])
          cases d' <;> first | exact absurd rfl (hnp _) | simp [method, typeInfo, hi, hfind', hpath, follow, hfunc, receiverAt, run_underlying hu, Place.get]
        · cases hm
      · cases hm
    · cases hm
  · cases hm
theorem NxR.of_run {P : Program} {s s' : Sem Next} {T : Value → World → Prop} (h : s.run P w = s'.run P w) (k : NxR P s' w T) : NxR P s w T := by
  obtain ⟨nx, w1, h1, h2⟩ := k
  exact ⟨nx, w1, h.trans h1, h2⟩
theorem invokeK_inv (hE : EOK E) {ix : FuncId → Option Ix} (hI : IxOK E ix) {B : Bd} (hB : BdOK E B) {name : String} {v : AV} {us : List AV} {h : Tr AO} {n : Pn} {k : AV → Tr AO → Pn → R} (hk : Ok (invokeK E ix name v us B h n k)) :
    ∃ r h' n', invokeK E ix name v us B h n k = k r h' n' ∧ n.nat ≤ n'.nat ∧ ∀ (ρ : Ren) (w : World) (v' : Value) (args : Array Value), GL E ρ → VR ρ v v' → VRs ρ us args.toList → Rel ρ (hv h) w → Fresh ρ (hv h) n n' →
      NxR E.P (callMethod v' name args) w fun r' w' => ∃ ρ', Step ρ (hv h) w n ρ' (hv h') w' n' ∧ VR ρ' r r' := by
  unfold invokeK at hk ⊢
  rcases asIfc_inv hk with ⟨rfl, h1⟩ | ⟨t, y, rfl, h1⟩
  · rw [h1] at hk; exact (ok_er hk).elim
  rw [h1] at hk ⊢
  cases hm : mth E t name with
  | none => rw [hm] at hk; exact (ok_er hk).elim
  | some p =>
    obtain ⟨f, j⟩ := p
    rw [hm] at hk
    obtain ⟨m1, m2⟩ := mth_inv hE hm
    cases j with
    | none =>
      simp only at hk ⊢
      obtain ⟨r, h', n', h2, h3, h4⟩ := callK_inv hE hI hB hk
      refine ⟨r, h', n', h2, h3, fun ρ w v' args hg hv hu hR hF => ?_⟩
      obtain ⟨y', rfl, g1⟩ := hv.ifc_inv
      have hc := h4 ρ w (#[y'] ++ args) hg (by simpa using hu.cons g1) hR hF
      refine NxR.of_run ?_ hc
      have hmr := m1 rfl y' w
      simp only [callMethod, Sem.run_bind, run_program, hmr, Result.andThen_ok]
    | some i =>
      simp only at hk ⊢
      obtain ⟨e, hT, hmr⟩ := m2 i rfl
      have hyp : ∃ b o, y = .p b o := by
        have hk2 := hk
        unfold ld at hk2
        cases ha : i.agg with
        | false => rw [ha] at hk2; obtain ⟨b, o, e, _⟩ := asP_inv hk2; exact ⟨b, o, e⟩
        | true => rw [ha] at hk2; obtain ⟨b, o, e, _⟩ := asP_inv hk2; exact ⟨b, o, e⟩
      obtain ⟨b, p, rfl⟩ := hyp
      obtain ⟨x, h5, h6⟩ := ld_inv hT hk
      rw [h5] at hk ⊢
      obtain ⟨r, h', n', h2, h3, h4⟩ := callK_inv hE hI hB hk
      refine ⟨r, h', n', h2, h3, fun ρ w v' args hg hv hu hR hF => ?_⟩
      obtain ⟨y', rfl, g1⟩ := hv.ifc_inv
      obtain ⟨x', q1, q2⟩ := h6 ρ w y' g1 hR
      obtain ⟨t', _, rfl⟩ := g1.p_inv
      have hc := h4 ρ w (#[x'] ++ args) hg (by simpa using hu.cons q1) hR hF
      refine NxR.of_run ?_ hc
      have hmr := hmr _ w x' q2
      simp only [callMethod, Sem.run_bind, run_program, hmr, Result.andThen_ok]
end
end Ax
end Go.Proofs.YtnnhkajjifmlfaaDoor
