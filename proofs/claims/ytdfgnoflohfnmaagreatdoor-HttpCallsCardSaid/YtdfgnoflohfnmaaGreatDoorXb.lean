/- Maps, read. -/
import Derived.Test.YtdfgnoflohfnmaaGreatDoorXa
import Derived.Laws.MakeOwn
import Derived.Laws.IdiomCopy
import Derived.RangeFuncRecord
import Derived.RangeFuncLeaves
/-! Maps, read. -/

namespace Go.Proofs.YtdfgnoflohfnmaaGreatDoor
namespace Ax
section
variable {E : Env} {o : Oper} {t u : TypeId} {x y : Operand}

def plB (x y : AV) : Bool := match x, y with
  | .b a, .b b => a == b
  | .i _ a, .i _ b => a == b
  | .s l, .s m => l == m
  | _, _ => false
theorem Pl.eq {kd : Nat} {x y : AV} {b : Bool} (h : Pl kd x y b) : b = plB x y := by cases h <;> rfl
def cB : List Nat → List AV → List AV → Bool
  | [], _, _ => true
  | _ :: ks, a :: l, b :: m => plB a b && cB ks l m
  | _ :: _, _, _ => false
theorem CRel.eq {ks : List Nat} {l m : List AV} {r : Bool} (h : CRel ks l m r) : r = cB ks l m := by
  induction h with
  | nil l m => rfl
  | no ks l m h => rw [cB, ← h.eq, Bool.false_and]
  | yes h _ ih => rw [cB, ← h.eq, Bool.true_and, ← ih]
noncomputable def kB (ke : KE) (a b : AV) : Bool := match ke with
  | .pl _ => plB a b
  | .ag ks => (match a, b with
    | .ag l, .ag m => cB ks l m
    | _, _ => false)
  | .pt => ptB a b
def PtS (P : Program) (h : Tr AO) (p q : AV) (b : Bool) : Prop := b = ptB p q ∧
    ∀ (ρ : Ren) (w : World) (p' q' : Value), Rel ρ (hv h) w → VR ρ p p' → VR ρ q q' → ∃ a c, p' = .pointer a ∧ q' = .pointer c ∧
      (match a, c with
       | some a, some c => (sameAddr a c).run P w = .ok b w
       | none, c => b = c.isNone
       | some _, none => b = false)
inductive KR (P : Program) (h : Tr AO) : KE → AV → AV → Bool → Prop
  | pl {kd : Nat} {a b : AV} {r : Bool} (p : Pl kd a b r) : KR P h (.pl kd) a b r
  | ag {ks : List Nat} {l m : List AV} {r : Bool} (p : CRel ks l m r) (hl : l.length = ks.length) (hm : m.length = ks.length) : KR P h (.ag ks) (.ag l) (.ag m) r
  | pt {a b : AV} {r : Bool} (p : PtS P h a b r) : KR P h .pt a b r
theorem KR.eq {P : Program} {h : Tr AO} {ke : KE} {a b : AV} {r : Bool} (hk : KR P h ke a b r) : r = kB ke a b := by
  cases hk with
  | pl p => exact p.eq
  | ag p _ _ => exact p.eq
  | pt p => exact p.1
def KOk (ke : KE) (key : AV) : Prop := match ke with
  | .ag ks => ∃ l, key = .ag l ∧ l.length = ks.length
  | _ => True
def fstE (f : AV → Bool) : Ents → Nat → Option (Nat × (AV × AV × Option Nat))
  | [], _ => none
  | e :: r, i => if f e.1 then some (i, e) else fstE f r (i + 1)
abbrev PlD (kd : Nat) (d : TypeDesc) : Prop := (kd = 1 ∧ d = .bool) ∨ (kd = 2 ∧ ∃ q, d = .int q) ∨ (kd = 3 ∧ d = .string)
def KeyD (E : Env) (kt : TypeId) (i : TI) (ke : KE) : Prop := match ke with
  | .pl kd => PlD kd i.d
  | .ag ks => kinds E kt = some ks ∧ ∃ fs, i.d = .struct fs
  | .pt => ∃ e j, i.d = .pointer e ∧ E.ti e = some j ∧ j.size ≠ 0
theorem key_inv {kt : TypeId} {ke : KE} (h : keyEq E kt = some ke) : ∃ i, E.ti kt = some i ∧ KeyD E kt i ke := by
  unfold keyEq at h
  split at h
  · cases h
  · rename_i i hi
    refine ⟨i, hi, ?_⟩
    split at h
    · rename_i q hq; injection h with h; subst h; exact .inr (.inl ⟨rfl, q, hq⟩)
    · rename_i hq; injection h with h; subst h; exact .inr (.inr ⟨rfl, hq⟩)
    · rename_i hq; injection h with h; subst h; exact .inl ⟨rfl, hq⟩
    · rename_i fs hq
      split at h
      · rename_i ks hks; injection h with h; subst h; exact ⟨hks, fs, hq⟩
      · cases h
    · rename_i e hq
      split at h
      · rename_i j hj
        split at h
        · rename_i hz
          injection h with h
          subst h
          exact ⟨e, j, hq, hj, fun e0 => by rw [e0] at hz; cases hz⟩
        · cases h
      · cases h
    · cases h
theorem check_kinds (hE : EOK E) (em : Bool) : ∀ (n : Nat) (t : TypeId) (ks : List Nat), kindsT E n t = some ks → ∃ i, E.ti t = some i ∧ (i.agg = true → i.size = ks.length) ∧ (i.agg = false → ks.length = 1) ∧
    ∀ (w : World) (d : Nat) (xs : List Value) (v : Value), n ≤ d → xs.length = ks.length → AsV i.agg xs v → (Instr.checkKey em d t v).run E.P w = .ok () w
  | 0, t, ks, h => by cases h
  | n + 1, t, ks, h => by
    obtain ⟨i0, hi0, ha0, hs0, hk0⟩ := kinds_sound hE (n + 1) t ks h
    clear hk0
    refine ⟨i0, hi0, ha0, hs0, ?_⟩
    have IH := check_kinds hE em n
    intro w d xs v hd hlen hv
    obtain ⟨d, rfl⟩ : ∃ e, d = e + 1 := ⟨d - 1, by omega⟩
    have hT := tok hE hi0
    have hu := hT.un
    simp only [kindsT] at h
    rw [hi0] at h
    simp only at h
    rw [Instr.checkKey]
    rw [Sem.run_bind, run_underlying hu, Result.andThen_ok]
    split at h
    · rename_i hq; rw [hq]; rfl
    · rename_i q hq; rw [hq]; rfl
    · rename_i hq; rw [hq]; rfl
    · rename_i fs hq
      split at h
      · rename_i ks' hst hks
        split at h
        · rename_i hl
          injection h with h
          subst h
          have ha : i0.agg = true := by rw [hT.agg, hq]; rfl
          rw [hq, hv.1 ha]
          simp only
          rw [← Array.forIn_toList]
          have hle : 0 + ks'.length ≤ xs.length := by omega
          have hd' : n ≤ d := by omega
          clear hlen hv hl hs0 ha0 hd
          generalize 0 = o at hks hle
          generalize fs.toList = L at hks ⊢
          induction L generalizing o ks' with
          | nil => simp
          | cons f L ih =>
            simp only [kindsFs] at hks
            split at hks
            · rename_i ks1 hc h1
              split at hks
              · rename_i ms h2
                injection hks with hks
                subst hks
                rw [Bool.and_eq_true, beq_iff] at hc
                obtain ⟨ho, hnm⟩ := hc
                have hname : f.name ≠ "_" := by
                  intro e
                  rw [e] at hnm
                  simp at hnm
                obtain ⟨i, hi, hag, hsc, hs⟩ := IH _ _ h1
                rw [List.length_append] at hle
                have hp : ∃ v, (part f.type xs.toArray f.offset).run E.P w = .ok v w ∧ AsV i.agg ((xs.drop o).take ks1.length) v := by
                  cases hb : i.agg with
                  | true => exact ⟨_, run_part (tok hE hi) xs f.offset (fun e => (by rw [hb] at e; cases e)) (fun _ => rfl), fun _ => (by rw [ho, hag hb]), fun e => (by cases e)⟩
                  | false =>
                    have h1' := hsc hb
                    have hlt' : o < xs.length := by omega
                    refine ⟨xs[o], run_part (tok hE hi) xs f.offset (fun _ => (by rw [ho]; exact List.getElem?_eq_getElem hlt')) (fun e => (by rw [hb] at e; cases e)), ⟨fun e => (by cases e), fun _ => ?_⟩⟩
                    rw [h1', List.drop_eq_getElem_cons hlt']
                    rfl
                obtain ⟨v1, p1, p2⟩ := hp
                have p3 := hs w d ((xs.drop o).take ks1.length) v1 hd' (by rw [List.length_take, List.length_drop]; omega) p2
                simp only [List.forIn_cons, Sem.run_bind, hname, ne_eq, not_false_eq_true, if_true, Result.andThen_ok, p1, p3, Sem.run_pure]
                have h9 := ih ms (o + ks1.length) (by omega) h2
                simp only [Sem.run_bind, ne_eq, Sem.run_pure] at h9
                exact h9
              · cases hks
            · cases hks
        · cases h
      · cases h
    · cases h
theorem run_checkKey (hE : EOK E) {kt : TypeId} {ke : KE} (h : keyEq E kt = some ke) {key : AV} (hko : KOk ke key) {ρ : Ren} {v : Value} (hv : VR ρ key v) (b : Bool) (w : World) : (Instr.checkKey b 10000 kt v).run E.P w = .ok () w := by
  obtain ⟨i, hi, hk⟩ := key_inv h
  have hu := (tok hE hi).un
  cases ke with
  | pl kd =>
    rw [Instr.checkKey]
    rw [Sem.run_bind, run_underlying hu, Result.andThen_ok]
    have hk : PlD kd i.d := hk
    rcases hk with ⟨_, h⟩ | ⟨_, q, h⟩ | ⟨_, h⟩ <;> (rw [h]; rfl)
  | pt =>
    obtain ⟨e, j, hd, _⟩ := hk
    rw [Instr.checkKey]
    rw [Sem.run_bind, run_underlying hu, Result.andThen_ok, hd]
    rfl
  | ag ks =>
    obtain ⟨hks, fs, hd⟩ := hk
    obtain ⟨l, rfl, hl⟩ := hko
    obtain ⟨xs, rfl, hxs⟩ := hv.ag_inv
    obtain ⟨i', hi', _, _, hc⟩ := check_kinds hE b 5 kt ks hks
    obtain rfl := Option.some.inj (hi.symm.trans hi')
    have ha : i.agg = true := by rw [(tok hE hi).agg, hd]; rfl
    exact hc w 10000 xs _ (by omega) (by rw [hxs.1, hl]) ⟨fun _ => rfl, fun e => (by rw [ha] at e; cases e)⟩
def Fnd (f : AV → Bool) (l : Ents) (es : List MapEntry) (i : Nat) (r : Option (Nat × Value)) : Prop := match fstE f l i with
  | none => r = none
  | some (j, e) => i ≤ j ∧ l[j - i]? = some e ∧ ∃ m, r = some (j, m.val) ∧ es[j - i]? = some m
theorem Fnd.nil (f : AV → Bool) (es : List MapEntry) (i : Nat) : Fnd f [] es i none := rfl
theorem Fnd.here {f : AV → Bool} {e : AV × AV × Option Nat} (h : f e.1 = true) (l : Ents) (m : MapEntry) (es : List MapEntry) (i : Nat) : Fnd f (e :: l) (m :: es) i (some (i, m.val)) := by
  unfold Fnd
  rw [fstE, if_pos h]
  exact ⟨Nat.le_refl _, by simp, m, rfl, by simp⟩
theorem Fnd.there {f : AV → Bool} {e : AV × AV × Option Nat} (h : f e.1 = false) {l : Ents} (m : MapEntry) {es : List MapEntry} {i : Nat} {r : Option (Nat × Value)} (h2 : Fnd f l es (i + 1) r) : Fnd f (e :: l) (m :: es) i r := by
  unfold Fnd at h2 ⊢
  rw [fstE, h]
  simp only [Bool.false_eq_true, if_false]
  cases hf : fstE f l (i + 1) with
  | none => rw [hf] at h2; exact h2
  | some p =>
    obtain ⟨j, e'⟩ := p
    rw [hf] at h2
    obtain ⟨g1, g2, m', g3, g4⟩ := h2
    refine ⟨by omega, ?_, m', g3, ?_⟩
    · rw [show j - i = (j - (i + 1)) + 1 from by omega, List.getElem?_cons_succ]; exact g2
    · rw [show j - i = (j - (i + 1)) + 1 from by omega, List.getElem?_cons_succ]; exact g4
end
end Ax
end Go.Proofs.YtdfgnoflohfnmaaGreatDoor

/-! Blocks laid; a range's entry read again. -/

namespace Go.Proofs.YtdfgnoflohfnmaaGreatDoor
namespace Ax
section
variable {E : Env} {o : Oper} {t u : TypeId} {x y : Operand}

theorem byteCells_length (l : List UInt8) : (byteCells l).length = l.length := by
  induction l with
  | nil => rfl
  | cons a l ih => exact congrArg (· + 1) ih
end
end Ax
end Go.Proofs.YtdfgnoflohfnmaaGreatDoor

/-! What an effect is; cells stored; copies. -/

namespace Go.Proofs.YtdfgnoflohfnmaaGreatDoor
namespace Ax
theorem VR.undef (ρ : Ren) : VR ρ (.tu []) Go.undef := .tu rfl (fun i x v h => by simp at h)
section
variable {E : Env} {o : Oper} {t u : TypeId} {x y : Operand} {ρ : Ren} {H : Hp} {w : World}
theorem rel_lt (h : Rel ρ H w) : ∀ b u, H b ≠ .x → ρ b = some u → u.c < w.heap.size := by
  intro b u hb hu
  obtain ⟨t, h1, h2⟩ := h.ob b hb
  obtain rfl := Option.some.inj (hu.symm.trans h1)
  apply Nat.lt_of_not_le
  intro hle
  rw [Array.getElem?_eq_none hle] at h2
  cases hH : H b <;> rw [hH] at h2 hb
  · exact hb rfl
  · obtain ⟨_, _, _, h, _⟩ := h2; cases h
  · obtain ⟨_, _, _, h, _⟩ := h2; cases h
  · obtain ⟨_, _, h, _⟩ := h2; cases h
  · exact h2
  · obtain ⟨_, h, _⟩ := h2; cases h
  · obtain ⟨_, _, _, _, h, _⟩ := h2; cases h
  · cases h2
end
end Ax
end Go.Proofs.YtdfgnoflohfnmaaGreatDoor

/-! Append. -/

namespace Go.Proofs.YtdfgnoflohfnmaaGreatDoor
namespace Ax
section
variable {E : Env} {o : Oper} {t u : TypeId} {x y : Operand} {ρ : Ren} {H : Hp} {w w' : World}
end
end Ax
end Go.Proofs.YtdfgnoflohfnmaaGreatDoor

/-! Effects on maps; cells cleared; blocks frozen. -/

namespace Go.Proofs.YtdfgnoflohfnmaaGreatDoor
namespace Ax
section
variable {E : Env} {o : Oper} {t u : TypeId} {x y z : Operand} {ρ : Ren} {H : Hp} {w w' : World}
theorem ERs.push {l : Ents} {es : List MapEntry} (h : ERs ρ l es) {e : AV × AV × Option Nat} {m : MapEntry} (he : ER ρ e m) : ERs ρ (l ++ [e]) (es ++ [m]) := by
  refine ⟨by simp [h.1], fun i e' m' h1 h2 => ?_⟩
  rw [List.getElem?_append] at h1 h2
  rw [h.1] at h2
  split at h1
  · rename_i hi; rw [if_pos hi] at h2; exact h.2 i e' m' h1 h2
  · rename_i hi
    rw [if_neg hi] at h2
    cases hk : i - l.length with
    | zero => rw [hk] at h1 h2; simp at h1 h2; subst h1; subst h2; exact he
    | succ k => rw [hk] at h1; simp at h1
end
end Ax
end Go.Proofs.YtdfgnoflohfnmaaGreatDoor

/-! Ranges over maps; blocks frozen. -/

namespace Go.Proofs.YtdfgnoflohfnmaaGreatDoor
namespace Ax
section
variable {E : Env} {o : Oper} {t u : TypeId} {x y z : Operand} {ρ : Ren} {H : Hp} {w w' : World}
end
end Ax
end Go.Proofs.YtdfgnoflohfnmaaGreatDoor

/-! What is asked of a body; calls of functions with bodies, their deferred calls, their results. -/

namespace Go.Proofs.YtdfgnoflohfnmaaGreatDoor
namespace Ax
def FW (ro : Option Nat) : Fence := { fn := fun _ => True, depth := none, alive := false, round := ro }
def GL (E : Env) (ρ : Ren) : Prop := ∀ g, g < E.ng → ∃ t, ρ (pth g) = some t ∧ t.c = g ∧ t.d = 0
theorem GL.mono {E : Env} {ρ ρ' : Ren} (h : GL E ρ) (hl : ρ.le ρ') : GL E ρ' := fun g hg => by
  obtain ⟨t, h1, h2⟩ := h g hg
  exact ⟨t, hl _ _ h1, h2⟩
def DR (E : Env) (ρ : Ren) : List AD → List Deferred → Prop
  | [], [] => True
  | .fn f us :: l, d :: ds => (hasBody E f = true ∧ ∃ cap, d.target = .fn (.func f) cap ∧ VRs ρ us (d.args ++ cap).toList) ∧ DR E ρ l ds
  | .mk b :: l, d :: ds => (∃ t, ρ b = some t ∧ d = { target := .collected t.c, args := #[] }) ∧ DR E ρ l ds
  | _, _ => False
theorem DR.mono {E : Env} {ρ ρ' : Ren} (hl : ρ.le ρ') : ∀ {l : List AD} {ds : List Deferred}, DR E ρ l ds → DR E ρ' l ds
  | [], [], _ => trivial
  | .fn f us :: l, d :: ds, h => by
    obtain ⟨⟨h1, cap, h2, h3⟩, h4⟩ := h
    exact ⟨⟨h1, cap, h2, h3.mono hl⟩, h4.mono hl⟩
  | .mk b :: l, d :: ds, h => by
    obtain ⟨⟨t, h1, h2⟩, h3⟩ := h
    exact ⟨⟨t, hl _ _ h1, h2⟩, h3.mono hl⟩
  | [], _ :: _, h => h.elim
  | .fn _ _ :: _, [], h => h.elim
  | .mk _ :: _, [], h => h.elim
def PostR (E : Env) (nt : Nat) (ρ : Ren) (H : Hp) (w : World) (n : Pn) (Q : Exit → Act → World → Prop) : R → Prop
  | .er _ => True
  | .nm tm df h n' => ∀ ρ' a' w', Step ρ H w n ρ' (hv h) w' n' → FR ρ' nt tm a'.tmps → DR E ρ' df a'.defers → Q .normal a' w'
  | .ex id tm df h n' => ∀ ρ' a' w', Step ρ H w n ρ' (hv h) w' n' → FR ρ' nt tm a'.tmps → DR E ρ' df a'.defers → Q (.exit id) a' w'
  | .rt tm df h n' => ∀ ρ' a' w', Step ρ H w n ρ' (hv h) w' n' → FR ρ' nt tm a'.tmps → DR E ρ' df a'.defers → Q .ret a' w'
  | .al a b => PostR E nt ρ H w n Q a ∧ PostR E nt ρ H w n Q b
noncomputable def endN : R → Pn
  | .er _ => .one
  | .nm _ _ _ n => n
  | .ex _ _ _ _ n => n
  | .rt _ _ _ n => n
  | .al a b => mx (endN a) (endN b)
theorem Ot.post {E : Env} {nt : Nat} {ρ : Ren} {H : Hp} {w : World} {n : Pn} {Q : Exit → Act → World → Prop} {k : AV → Tr AO → Pn → R} : ∀ {o : Ot}, PostR E nt ρ H w n Q (o.app k) → ∀ {v h n'}, o.has v h n' → PostR E nt ρ H w n Q (k v h n')
  | .one _ _ _, hk, _, _, _, ⟨rfl, rfl, rfl⟩ => hk
  | .al a b, hk, _, _, _, hh => by
    rcases hh with hh | hh
    · exact Ot.post (o := a) hk.1 hh
    · exact Ot.post (o := b) hk.2 hh
structure BdOK (E : Env) (B : Bd) : Prop where
  fn : ∀ f us h n, Ok (B (.fn f us) h n) → n.nat ≤ (endN (B (.fn f us) h n)).nat ∧
    ∀ (fn : Func) (c : Code), E.fn f = some fn → fn.body = some c → ∀ (ρ : Ren) (w : World) (args : Array Value), Rel ρ (hv h) w → GL E ρ → VRs ρ us args.toList → Fresh ρ (hv h) n (endN (B (.fn f us) h n)) →
      ∀ Q, PostR E fn.ntmps ρ (hv h) w n Q (B (.fn f us) h n) → c.wpIn (FW none) 0 E.P Q { tmps := args ++ Array.replicate (fn.ntmps - args.size) undef, defers := [] } w
  rd : ∀ nt c tm h n, Ok (B (.rd nt c tm) h n) → n.nat ≤ (endN (B (.rd nt c tm) h n)).nat ∧
    ∀ (l : Nat) (ρ : Ren) (w : World) (tmps : Array Value), Rel ρ (hv h) w → GL E ρ → FR ρ nt tm tmps → Fresh ρ (hv h) n (endN (B (.rd nt c tm) h n)) →
      ∀ Q, PostR E nt ρ (hv h) w n Q (B (.rd nt c tm) h n) → c.wpIn (FW (some l)) 0 E.P Q { tmps, defers := [] } w
def RetT (T : Value → World → Prop) : Ending → World → Prop
  | .returned v, w => T v w
  | _, _ => False
def NxR (P : Program) (s : Sem Next) (w : World) (T : Value → World → Prop) : Prop :=
  ∃ nx w1, s.run P w = .ok nx w1 ∧ match nx with
    | .value v => T v w1
    | .enter f args => CallsIn (FW none) 0 P f args w1 (RetT T)
    | .round l f tmps assign body => RoundIn (FW none) 0 P l f tmps assign body w1 (RetT T)
    | _ => False
section
variable {E : Env} {ρ : Ren} {H : Hp} {w w' : World}

theorem DR.nil {ds : List Deferred} (h : DR E ρ [] ds) : ds = [] := by cases ds with
  | nil => rfl
  | cons d ds => exact h.elim
def CallS (E : Env) (f : FuncId) (us : List AV) (h : Tr AO) (n : Pn) (v : AV) (h' : Tr AO) (n' : Pn) : Prop :=
  n.nat ≤ n'.nat ∧ ∀ (ρ : Ren) (w : World) (args : Array Value), GL E ρ → VRs ρ us args.toList → Rel ρ (hv h) w → Fresh ρ (hv h) n n' →
    NxR E.P (callFunc f args) w fun v' w' => ∃ ρ', Step ρ (hv h) w n ρ' (hv h') w' n' ∧ VR ρ' v v'
def CallA (E : Env) (f : FuncId) (us : List AV) (h : Tr AO) (n : Pn) (o : Ot) : Prop :=
  n.nat ≤ o.top.nat ∧ ∀ (ρ : Ren) (w : World) (args : Array Value), GL E ρ → VRs ρ us args.toList → Rel ρ (hv h) w → Fresh ρ (hv h) n o.top →
    NxR E.P (callFunc f args) w fun v' w' => ∃ v h' n', o.has v h' n' ∧ ∃ ρ', Step ρ (hv h) w n ρ' (hv h') w' n' ∧ VR ρ' v v'
theorem NxR.imp {P : Program} {s : Sem Next} {w : World} {T T' : Value → World → Prop} (h : NxR P s w T) (hT : ∀ v w', T v w' → T' v w') : NxR P s w T' := by
  obtain ⟨nx, w1, h1, h2⟩ := h
  refine ⟨nx, w1, h1, ?_⟩
  have hR : ∀ e w', RetT T e w' → RetT T' e w' := fun e w' hr => by
    cases e with
    | returned v => exact hT _ _ hr
    | panicked c => exact hr
    | outgrown => exact hr
  cases nx <;> first | exact h2.elim | exact hT _ _ h2 | exact CallsIn.mono h2 hR | exact RoundIn.mono h2 hR
theorem CallS.all {f : FuncId} {us : List AV} {h : Tr AO} {n : Pn} {v : AV} {h' : Tr AO} {n' : Pn} (hc : CallS E f us h n v h' n') : CallA E f us h n (.one v h' n') :=
  ⟨hc.1, fun ρ w args hg ha hR hF => (hc.2 ρ w args hg ha hR hF).imp fun _ _ ⟨ρ', s, r⟩ => ⟨v, h', n', ⟨rfl, rfl, rfl⟩, ρ', s, r⟩⟩
def IxOK (E : Env) (ix : FuncId → Option Ix) : Prop := ∀ f g, ix f = some g → ∀ B, BdOK E B → ∀ us h n k, Ok (g B us h n k) → ∃ o : Ot, g B us h n k = o.app k ∧ CallA E f us h n o
def IxOK1 (E : Env) (ix : FuncId → Option Ix) : Prop := ∀ f g, ix f = some g → ∀ B, BdOK E B → ∀ us h n k, Ok (g B us h n k) → ∃ v h' n', g B us h n k = k v h' n' ∧ CallS E f us h n v h' n'
theorem IxOK1.all {ix : FuncId → Option Ix} (h : IxOK1 E ix) : IxOK E ix := fun f g hg B hB us hh n k hk => by
  obtain ⟨v, h', n', h1, h2⟩ := h f g hg B hB us hh n k hk
  exact ⟨.one v h' n', h1, h2.all⟩
end
end Ax
end Go.Proofs.YtdfgnoflohfnmaaGreatDoor

/-! Calls of function values, of yields, of methods. -/

namespace Go.Proofs.YtdfgnoflohfnmaaGreatDoor
namespace Ax
section
variable {E : Env} {ρ : Ren} {H : Hp} {w w' : World}
theorem FR.put {nt : Nat} {tm : Tr AV} {tmps : Array Value} (h : FR ρ nt tm tmps) {p : Nat} (hp : p < nt) {v : AV} {v' : Value} (hv : VR ρ v v') : FR ρ nt (tm.put (.tu []) v (pth p)) (tmps.setIfInBounds p v') := by
  refine ⟨by simpa using h.1, fun t => ?_⟩
  by_cases e : t = p
  · subst e
    rw [get_put_same]
    have hlt : t < tmps.size := by rw [h.1]; exact hp
    have : (tmps.setIfInBounds t v').getD t undef = v' := by simp [Array.getD, hlt]
    rw [this]
    exact hv
  · rw [get_put_other _ _ _ _ (fun x => e (pth_inj x).symm)]
    have : (tmps.setIfInBounds p v').getD t undef = tmps.getD t undef := by
      simp only [Array.getD_eq_getD_getElem?]
      rw [Array.getElem?_setIfInBounds_ne (fun x => e x.symm)]
    rw [this]
    exact h.2 t
theorem NxR.of_run {P : Program} {s s' : Sem Next} {T : Value → World → Prop} (h : s.run P w = s'.run P w) (k : NxR P s' w T) : NxR P s w T := by
  obtain ⟨nx, w1, h1, h2⟩ := k
  exact ⟨nx, w1, h.trans h1, h2⟩
end
end Ax
end Go.Proofs.YtdfgnoflohfnmaaGreatDoor

/-! Every operation of the executor does what the model's does. -/

namespace Go.Proofs.YtdfgnoflohfnmaaGreatDoor
namespace Ax
section
variable {E : Env} {o : Oper} {t u : TypeId} {x y : Operand}
end
end Ax
end Go.Proofs.YtdfgnoflohfnmaaGreatDoor

/-! Regions in their given order. -/

namespace Go.Proofs.YtdfgnoflohfnmaaGreatDoor
namespace Ax
section
variable {E : Env} {o : Oper}
theorem getD_some {tmps : Array Value} {t : Nat} {v : Value} (h : tmps[t]? = some v) : tmps.getD t undef = v := by
  simp [Array.getD_eq_getD_getElem?, h]
def GdT (ops : Array Oper) (o : Oper) (t : Nat) : Prop := ∃ j w q, o.guard = some (j, w) ∧ ops[j]? = some q ∧ q.dst = some t
noncomputable def putD (d : Option Pn) (v : AV) (tm : Tr AV) : Tr AV := match d with
  | none => tm
  | some p => tm.put (.tu []) v p
theorem put_defers (a : Act) (d : Option Tmp) (v : Value) : (a.put d v).defers = a.defers := by cases d <;> rfl
theorem gOk_mem (h : gOk E o = true) : ∀ x ∈ o.op.operands, gOk1 E x = true := fun x hx => List.all_eq_true.1 h x (Array.mem_toList_iff.2 hx)
theorem PostR.step0 {nt : Nat} {ρ ρ' : Ren} {H H' : Hp} {w w' : World} {n n' : Pn} {Q : Exit → Act → World → Prop} {r : R} (h : PostR E nt ρ H w n Q r) (s : Step ρ H w n ρ' H' w' n') : PostR E nt ρ' H' w' n' Q r := by
  induction r with
  | er c => trivial
  | nm tm df h2 n2 => exact fun ρ2 a2 w2 s2 f2 d2 => h ρ2 a2 w2 (s.trans s2) f2 d2
  | ex id tm df h2 n2 => exact fun ρ2 a2 w2 s2 f2 d2 => h ρ2 a2 w2 (s.trans s2) f2 d2
  | rt tm df h2 n2 => exact fun ρ2 a2 w2 s2 f2 d2 => h ρ2 a2 w2 (s.trans s2) f2 d2
  | al a b ih1 ih2 => exact ⟨ih1 h.1, ih2 h.2⟩
end
end Ax
end Go.Proofs.YtdfgnoflohfnmaaGreatDoor

/-! Plain laws for the rule on ranges over maps: places under a permutation; two trees that agree. -/

namespace Go.Proofs.YtdfgnoflohfnmaaGreatDoor
namespace Ax
end Ax
end Go.Proofs.YtdfgnoflohfnmaaGreatDoor
