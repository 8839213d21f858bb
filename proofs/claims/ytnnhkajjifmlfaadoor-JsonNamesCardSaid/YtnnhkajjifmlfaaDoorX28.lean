/- From the executor's word to a call of the kit's, and to what a row says behind it. -/
import Derived.Test.YtnnhkajjifmlfaaDoorX27
import Derived.ChangeSame
namespace Go.Proofs.YtnnhkajjifmlfaaDoor
namespace Ax
/-- all that was there stays -/
abbrev Kept (W W' : World) : Prop := W.grownBy W' none
theorem Kept.same {W W' : World} (h : Kept W W') (k : Nat) (hk : k < W.heap.size) : W'.heap[k]? = W.heap[k]? := h.block k hk (by simp)
theorem Kept.keptBut {W W' : World} (h : Kept W W') (may : MemPlace → Prop) : W.keptBut W' may := by
  refine ⟨h.os, h.output, fun i hi => ?_⟩
  rw [Kept.same h i hi]
  cases W.heap[i]? with
  | none => rfl
  | some o =>
    cases o <;> first | exact ⟨rfl, rfl, rfl, fun _ _ => rfl⟩ | exact .inr ⟨rfl, rfl⟩ | rfl
theorem Kept.frozen {W W' : World} (h : Kept W W') (a : Addr) (ha : a.block < W.heap.size) : W'.frozen? a = W.frozen? a := by
  unfold World.frozen?
  rw [Kept.same h _ ha]
/-- a law's answer is true, of any arguments -/
noncomputable def trueU (E : Env) (ix : FuncId → Option Ix) (B : Bd) (f : FuncId) (us : List AV) (h : Tr AO) (n : Pn) : R :=
  callK E ix f us B h n fun v h n => asB v (.nm .leaf [] h n) (.er 280)
theorem call_true {E : Env} (hE : EOK E) {ix : FuncId → Option Ix} (hI : IxOK E ix) {code : FuncId → Nat × CD} (hC : CodeT E ix code) {m : Nat} {f : FuncId} {us : List AV} {h : Tr AO} {n : Pn} (hix : ix f = none)
    (hk : okR (trueU E ix (bd E ix code m) f us h n) = true) {ρ : Ren} {w : World} {args : Array Value} (hg : GL E ρ) (hR : Rel ρ (hv h) w) (ha : VRs ρ us args.toList)
    (hfr : ∀ b : Pn, n.nat ≤ b.nat → ρ b = none ∧ hv h b = .x) (hown : ∀ b, ¬ own (hv h b)) :
    Calls E.P f args w fun e w' => e = .returned (.bool true) ∧ Kept w w' := by
  have hk := ok_of hk
  unfold trueU callK at hk
  rw [hix] at hk
  simp only at hk
  obtain ⟨v, h', n', h1, h2, h3⟩ := callB_inv hE (bd_ok hE hI hC m) hk
  rw [h1] at hk
  obtain ⟨x, rfl, h4⟩ := asB_inv hk
  cases x with
  | false => rw [h4] at hk; exact (ok_er hk).elim
  | true =>
    obtain ⟨_, hc⟩ := h3 ρ w args hg ha hR (fun b hb _ => hfr b hb)
    refine callsIn_wide.1 (CallsIn.mono hc fun e w' hr => ?_)
    cases e with
    | returned v' =>
      obtain ⟨ρ', s, r⟩ := hr
      exact ⟨by rw [r.b_inv], s.os, s.tape, s.output, s.size, fun k hk _ => s.same k hk fun b t ho => absurd ho (hown b)⟩
    | panicked c => exact hr.elim
    | outgrown => exact hr.elim
section
open Go.ChangeShapes Go.WideShapes
variable {H : Type} {enc : TypeId × Value → H} {P : Program}
/-- what a row says behind a call that lays new blocks alone -/
theorem post_of_kept {f : Func} {s : ChangeSpec} {apart fresh handsOn again : Bool} {W W' : World} {args : Array Value} {v : Value} {ds gs : List (DataW H)} {before pa pv : List MemPlace}
    (hW : DataW.Whole enc P f.params.toList s.vars apart W args.toList ds gs before)
    (hres : ∀ (b : Nat) (sp : Nat → Bool) (hd : Bool), DataW.TrodAll enc P W' b sp hd f.resultTypes.toList (v.resultList f.resultTypes.size) (s.fn H (ds ++ gs)).results [])
    (hargs : ∀ sp : Nat → Bool, (∀ p ∈ before, sp p.block = true) → DataW.TrodAll enc P W' 0 sp true f.params.toList args.toList (s.fn H (ds ++ gs)).args pa)
    (hvars : ∀ sp : Nat → Bool, (∀ p ∈ before, sp p.block = true) → DataW.TrodVars enc P W' sp s.vars (s.fn H (ds ++ gs)).vars pv)
    (hps : before = pa ++ pv) (hk : Kept W W')
    (hok : ∀ (j : Nat) (t : TypeId) (r : Value), f.resultTypes[j]? = some t → (v.resultList f.resultTypes.size)[j]? = some r → Value.okWide P W' .any 0 t r) :
    s.post enc P f apart fresh handsOn again W args v W' := by
  have hold : ∀ p ∈ before, (fun b => decide (b < W.heap.size)) p.block = true := fun p hp => by simpa using hW.lt p hp
  have hlt : ∀ p ∈ before, p.block < W.heap.size := fun p hp => hW.lt p hp
  refine ⟨ds, gs, before, [], pa, pv, hW, hres _ _ _, hargs _ hold, hvars _ hold, World.keptBut_mono (fun p hp => ⟨hp, ?_⟩) (Kept.keptBut hk (· ∈ before)), fun _ => ?_⟩
  · rw [hps, List.mem_append] at hp
    exact Or.inr hp
  · obtain ⟨_, _, _, _, _, hz, hn⟩ := hW
    refine ⟨hok, _, _, ([] ++ pa) ++ pv, ⟨[] ++ pa, pv, trodAll_append (hargs _ (fun _ _ => rfl)) (hres _ _ _), hvars _ (fun _ _ => rfl), rfl, ?_, ?_⟩, ?_⟩
    · intro b off hp
      have hp' : MemPlace.cell b off ∈ before := by rw [hps]; simpa using hp
      rw [Kept.frozen hk ⟨b, off, none⟩ (hlt _ hp')]
      exact hz b off hp'
    · intro ha
      have := hn ha
      rw [hps] at this
      simpa using this
    · intro p hp _
      rw [hps]
      simpa using hp
end
end Ax
end Go.Proofs.YtnnhkajjifmlfaaDoor
