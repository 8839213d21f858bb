/- Intrinsics: what stands in the place of functions without a body. -/
import Derived.Test.YtdfgnoflohfnmaaGreatDoorXc
import Derived.Laws.Externs
import Derived.ChangeSame
import Derived.ChangeArms
import Derived.LaidLaws
import Derived.Lib.LaidTab
import Derived.Lib.Bytealg
import Derived.Lib.BytesEntry
import Derived.Lib.IndexEntry
import Derived.Lib.MakeNoZero
/-! Intrinsics: what stands in the place of functions without a body. -/

namespace Go.Proofs.YtdfgnoflohfnmaaGreatDoor
namespace Ax
noncomputable def idxB (l : List UInt8) (c : Nat) : Nat → (Int → R) → R :=
  List.rec (motive := fun _ => Nat → (Int → R) → R) (fun _ k => k (.negSucc 0)) (fun a _ ih i k => Bool.rec (ih (i + 1) k) (k (.ofNat i)) (Nat.beq a.toNat c)) l
def isU8 (q : IntKind) : Bool := Nat.beq (kidx q) 4
noncomputable def ixIB : Ix := fun _ vs h n k => match vs with
  | [.s l, .i q (.ofNat c)] => ifK (isU8 q && Nat.ble c 255) 301 fun _ => idxB l c 0 fun z => k (.i .i64 z) h n
  | _ => .er 301
theorem byte_beq (a : UInt8) {c : Nat} (hc : c ≤ 255) : (a == (c : Int).toNat.toUInt8) = Nat.beq a.toNat c := by
  rw [Bool.eq_iff_iff, beq_iff_eq, beq_iff, ← UInt8.toNat_inj]
  have : ((c : Int).toNat.toUInt8).toNat = c := by
    simp [Nat.toUInt8]
    omega
  rw [this]
theorem idxB_eq (l : List UInt8) (c : Nat) (hc : c ≤ 255) : ∀ (i : Nat) (k : Int → R), idxB l c i k = k (match (List.range l.length).find? (fun j => l[j]! == (c : Int).toNat.toUInt8) with | some j => ((i + j : Nat) : Int) | none => -1) := by
  induction l with
  | nil => intro i k; rfl
  | cons a l ih =>
    intro i k
    have e : idxB (a :: l) c i k = Bool.rec (idxB l c (i + 1) k) (k (.ofNat i)) (Nat.beq a.toNat c) := rfl
    rw [e, List.length_cons, List.range_succ_eq_map, List.find?_cons]
    have h0 : ((a :: l)[0]! == (c : Int).toNat.toUInt8) = Nat.beq a.toNat c := by
      rw [← byte_beq a hc]; rfl
    rw [h0]
    cases hb : Nat.beq a.toNat c with
    | true => rfl
    | false =>
      rw [List.find?_map]
      show idxB l c (i + 1) k = _
      rw [ih (i + 1) k]
      congr 1
      have : ((fun j => (a :: l)[j]! == (c : Int).toNat.toUInt8) ∘ Nat.succ) = fun j => l[j]! == (c : Int).toNat.toUInt8 := by
        funext j; simp
      rw [this]
      cases (List.range l.length).find? (fun j => l[j]! == (c : Int).toNat.toUInt8) with
      | none => rfl
      | some j => simp; omega
theorem ix_ib {E : Env} {f : FuncId} {fn : Func} (hf : E.P.funcs[f]? = some fn) (hname : (fn.name == "runtime.NumGoroutine") = false) (hb : fn.body.isNone = true) (hn : Extern.findNext fn = none) (he : Extern.find fn = some Extern.BytealgIndexByte.indexByte) :
    ∀ B, BdOK E B → ∀ us h n k, Ok (ixIB B us h n k) → ∃ v h' n', ixIB B us h n k = k v h' n' ∧ CallS E f us h n v h' n' := by
  intro B _ us h n k hk
  unfold ixIB at hk ⊢
  split at hk
  · rename_i l q c
    obtain ⟨h1, h2⟩ := ifK_inv hk
    rw [h2]
    rw [Bool.and_eq_true, ble_iff] at h1
    have hq : q = .u8 := by
      have := h1.1
      unfold isU8 at this
      cases q <;> first | rfl | (simp [kidx] at this)
    subst hq
    rw [idxB_eq l c h1.2]
    refine ⟨_, _, _, rfl, Nat.le_refl _, fun ρ w args hg hu hR hF => ?_⟩
    obtain ⟨a0, r0, e0, g1, g2⟩ := hu.cons_inv
    obtain ⟨a1, r1, e1, g3, g4⟩ := g2.cons_inv
    have e2 := g4.nil_inv
    subst e2
    subst e1
    have hargs : args = #[.string ⟨l.toArray⟩, .int .u8 c] := by
      apply Array.ext'
      rw [e0, g1.s_inv, g3.i_inv]
      rfl
    have hfi : firstIdx ⟨l.toArray⟩ (c : Int).toNat.toUInt8 = (match (List.range l.length).find? (fun j => l[j]! == (c : Int).toNat.toUInt8) with | some j => ((0 + j : Nat) : Int) | none => -1) := by
      unfold firstIdx
      rw [s_size]
      have hg : (fun i : Nat => (⟨l.toArray⟩ : ByteArray)[i]! == (c : Int).toNat.toUInt8) = fun j : Nat => l[j]! == (c : Int).toNat.toUInt8 := by
        funext j
        congr 1
        by_cases hj : j < l.length
        · rw [getElem!_pos l j hj, getElem!_pos (⟨l.toArray⟩ : ByteArray) j (by rw [s_size]; exact hj)]; rfl
        · rw [getElem!_neg l j hj, getElem!_neg (⟨l.toArray⟩ : ByteArray) j (by rw [s_size]; exact hj)]
      rw [hg]
      cases (List.range l.length).find? (fun j => l[j]! == (c : Int).toNat.toUInt8) with
      | none => rfl
      | some j => simp
    refine ⟨.value (.int .i64 (firstIdx ⟨l.toArray⟩ (c : Int).toNat.toUInt8)), w, by rw [run_callFunc_extern hf hname hb hn he, hargs, run_indexByte_string]; rfl, ?_⟩
    refine ⟨ρ, Step.refl hR, ?_⟩
    rw [hfi]
    exact .i _ _
  · exact (ok_er hk).elim
noncomputable def ixNE : Ix := fun _ vs h n k => match vs with
  | [v] => k v h n
  | _ => .er 303
theorem ix_ne {E : Env} {f : FuncId} {fn : Func} (hf : E.P.funcs[f]? = some fn) (hname : (fn.name == "runtime.NumGoroutine") = false) (hb : fn.body.isNone = true) (hn : Extern.findNext fn = none) (he : Extern.find fn = some Extern.AbiNoEscape.same) :
    ∀ B, BdOK E B → ∀ us h n k, Ok (ixNE B us h n k) → ∃ v h' n', ixNE B us h n k = k v h' n' ∧ CallS E f us h n v h' n' := by
  intro B _ us h n k hk
  unfold ixNE at hk ⊢
  split at hk
  · rename_i v
    refine ⟨_, _, _, rfl, Nat.le_refl _, fun ρ w args hg hu hR hF => ?_⟩
    obtain ⟨a0, r0, e0, g1, g2⟩ := hu.cons_inv
    have e2 := g2.nil_inv
    subst e2
    have hargs : args = #[a0] := by
      apply Array.ext'
      rw [e0]
    refine ⟨.value a0, w, by rw [run_callFunc_extern hf hname hb hn he, hargs]; rfl, ?_⟩
    exact ⟨ρ, Step.refl hR, g1⟩
  · exact (ok_er hk).elim
end Ax
end Go.Proofs.YtdfgnoflohfnmaaGreatDoor

/-! Tables laid as trees tell the truth. -/

namespace Go.Proofs.YtdfgnoflohfnmaaGreatDoor
namespace Ax
theorem build_get {α : Type} (d : α) : ∀ (n : Nat) (g : Pn → α) (p : Pn), (Tr.build n g).get d p = d ∨ (Tr.build n g).get d p = g p
  | 0, _, p => .inl (get_leaf d p)
  | _ + 1, _, .one => .inr rfl
  | n + 1, g, .o p => build_get d n (fun p => g (.o p)) p
  | n + 1, g, .i p => build_get d n (fun p => g (.i p)) p
end Ax
end Go.Proofs.YtdfgnoflohfnmaaGreatDoor

/-! From the executor's word to a call of the kit's, and to what a row says behind it. -/

namespace Go.Proofs.YtdfgnoflohfnmaaGreatDoor
namespace Ax
abbrev Kept (W W' : World) : Prop := W.grownBy W' none
theorem Kept.same {W W' : World} (h : Kept W W') (k : Nat) (hk : k < W.heap.size) : W'.heap[k]? = W.heap[k]? := h.block k hk (by simp)
theorem Kept.keptBut {W W' : World} (h : Kept W W') (may : MemPlace → Prop) : W.keptBut W' may := by
  refine ⟨h.os, h.output, fun i hi => ?_⟩
  rw [Kept.same h i hi]
  cases W.heap[i]? with
  | none => rfl
  | some o =>
    cases o <;> first | exact ⟨rfl, rfl, rfl, fun _ _ => rfl⟩ | exact .inr ⟨rfl, rfl⟩ | rfl
theorem Kept.frozen {W W' : World} (h : Kept W W') (a : Addr) (ha : a.block < W.heap.size) : W'.frozen? a = W.frozen? a := by
  unfold World.frozen?
  rw [Kept.same h _ ha]
noncomputable def trueU (E : Env) (ix : FuncId → Option Ix) (B : Bd) (f : FuncId) (us : List AV) (h : Tr AO) (n : Pn) : R :=
  callK E ix f us B h n fun v h n => asB v (.nm .leaf [] h n) (.er 280)
theorem call_true {E : Env} (hE : EOK E) {ix : FuncId → Option Ix} (hI : IxOK E ix) {code : FuncId → Nat × CD} (hC : CodeT E ix code) {m : Nat} {f : FuncId} {us : List AV} {h : Tr AO} {n : Pn} (hix : ix f = none)
    (hk : okR (trueU E ix (bd E ix code m) f us h n) = true) {ρ : Ren} {w : World} {args : Array Value} (hg : GL E ρ) (hR : Rel ρ (hv h) w) (ha : VRs ρ us args.toList)
    (hfr : ∀ b : Pn, n.nat ≤ b.nat → ρ b = none ∧ hv h b = .x) (hown : ∀ b, ¬ own (hv h b)) :
    Calls E.P f args w fun e w' => e = .returned (.bool true) ∧ Kept w w' := by
  have hk := ok_of hk
  unfold trueU callK at hk
  rw [hix] at hk
  simp only at hk
  obtain ⟨o, h1, h2, h3⟩ := callB_inv hE (bd_ok hE hI hC m) hk
  rw [h1] at hk
  obtain ⟨_, hc⟩ := h3 ρ w args hg ha hR (fun b hb _ => hfr b hb)
  refine callsIn_wide.1 (CallsIn.mono hc fun e w' hr => ?_)
  cases e with
  | returned v' =>
    obtain ⟨v, h', n', hh, ρ', s, r⟩ := hr
    have hk := Ot.ok hk hh
    obtain ⟨x, rfl, h4⟩ := asB_inv hk
    cases x with
    | false => rw [h4] at hk; exact (ok_er hk).elim
    | true => exact ⟨by rw [r.b_inv], s.os, s.tape, s.output, s.size, fun k hk _ => s.same k hk fun b t ho => absurd ho (hown b)⟩
  | panicked c => exact hr.elim
  | outgrown => exact hr.elim
section
open Go.ChangeShapes Go.WideShapes
variable {H : Type} {enc : TypeId × Value → H} {P : Program}
theorem post_of_kept {f : Func} {s : ChangeSpec} {apart fresh handsOn again : Bool} {W W' : World} {args : Array Value} {v : Value} {ds gs : List (DataW H)} {before pa pv : List MemPlace}
    (hW : DataW.Whole enc P f.params.toList s.vars apart W args.toList ds gs before)
    (hres : ∀ (b : Nat) (sp : Nat → Bool) (hd : Bool), DataW.TrodAll enc P W' b sp hd f.resultTypes.toList (v.resultList f.resultTypes.size) (s.fn H (ds ++ gs)).results [])
    (hargs : ∀ sp : Nat → Bool, (∀ p ∈ before, sp p.block = true) → DataW.TrodAll enc P W' 0 sp true f.params.toList args.toList (s.fn H (ds ++ gs)).args pa)
    (hvars : ∀ sp : Nat → Bool, (∀ p ∈ before, sp p.block = true) → DataW.TrodVars enc P W' sp s.vars (s.fn H (ds ++ gs)).vars pv)
    (hps : before = pa ++ pv) (hk : Kept W W')
    (hok : ∀ (j : Nat) (t : TypeId) (r : Value), f.resultTypes[j]? = some t → (v.resultList f.resultTypes.size)[j]? = some r → Value.okWide P W' .any 0 t r) :
    s.post enc P f apart fresh handsOn again W args v W' := by
  have hold : ∀ p ∈ before, (fun b => decide (b < W.heap.size)) p.block = true := fun p hp => by simpa using hW.lt p hp
  have hlt : ∀ p ∈ before, p.block < W.heap.size := fun p hp => hW.lt p hp
  refine ⟨ds, gs, before, [], pa, pv, hW, hres _ _ _, hargs _ hold, hvars _ hold, World.keptBut_mono (fun p hp => ⟨hp, ?_⟩) (Kept.keptBut hk (· ∈ before)), fun _ => ?_⟩
  · rw [hps, List.mem_append] at hp
    exact Or.inr hp
  · obtain ⟨_, _, _, _, _, hz, hn⟩ := hW
    refine ⟨hok, _, _, ([] ++ pa) ++ pv, ⟨[] ++ pa, pv, trodAll_append (hargs _ (fun _ _ => rfl)) (hres _ _ _), hvars _ (fun _ _ => rfl), rfl, ?_, ?_⟩, ?_⟩
    · intro b off hp
      have hp' : MemPlace.cell b off ∈ before := by rw [hps]; simpa using hp
      rw [Kept.frozen hk ⟨b, off, none⟩ (hlt _ hp')]
      exact hz b off hp'
    · intro ha
      have := hn ha
      rw [hps] at this
      simpa using this
    · intro p hp _
      rw [hps]
      simpa using hp
end
end Ax
end Go.Proofs.YtdfgnoflohfnmaaGreatDoor

/-! What the listed variables hold, as the executor has it; the world in which a law begins. -/

namespace Go.Proofs.YtdfgnoflohfnmaaGreatDoor
namespace Ax
def rdS (P : Program) (ns : List (String × TypeId)) (t : TypeId) (d : DataW Unit) : Option AV :=
  match P.underlying t with
  | some .bool => match d with
    | .lit (.bool b) => some (.b b)
    | _ => none
  | some (.int k) => match d with
    | .lit (.int _ n) => some (.i k n)
    | _ => none
  | some .string => match d with
    | .lit (.string l) => some (.s l)
    | _ => none
  | some (.pointer _) => match d with
    | .nil => some .np
    | _ => some .z
  | some (.slice _) => match d with
    | .nil => some .ns
    | _ => some .z
  | some (.interface _) => match d with
    | .nil => some .ni
    | .iface name _ => (ns.find? fun x => x.1 == name).map fun x => .ifc x.2 .z
    | _ => none
  | _ => none
def Ns (P : Program) (ns : List (String × TypeId)) : Prop := ∀ n u, (n, u) ∈ ns → ∀ u', P.typeName? 3 u' = some n → u' = u
section
variable {P : Program} {w : World} {sp : Nat → Bool} {fuel : Nat} {t : TypeId} {cs : List Value} {d : DataW Unit} {p : List MemPlace}
theorem rdS_ok {ns : List (String × TypeId)} (hns : Ns P ns) (ρ : Ren) (h : DataW.trod (fun _ => ()) P w 0 sp false fuel t cs = some (d, p)) {x : AV} (hr : rdS P ns t d = some x) : ∃ v, cs = [v] ∧ VR ρ x v := by
  unfold rdS at hr
  split at hr
  · rename_i ht
    obtain ⟨b, rfl, hx⟩ := DataW.trod_bool ht h
    injection hx with hd hp
    subst hd
    injection hr with hr
    subst hr
    exact ⟨_, rfl, .b b⟩
  · rename_i k ht
    obtain ⟨n, rfl, hx, _⟩ := DataW.trod_int ht h
    injection hx with hd hp
    subst hd
    injection hr with hr
    subst hr
    exact ⟨_, rfl, .i k n⟩
  · rename_i ht
    obtain ⟨s, rfl, hx, _⟩ := DataW.trod_string ht h
    injection hx with hd hp
    subst hd
    injection hr with hr
    subst hr
    exact ⟨_, rfl, .s s.data.toList⟩
  · rename_i e ht
    rcases DataW.trod_pointer ht h with ⟨rfl, hx⟩ | ⟨a, cs', y, n, _, rfl, hx, _⟩
    · injection hx with hd hp
      subst hd
      injection hr with hr
      subst hr
      exact ⟨_, rfl, .np⟩
    · injection hx with hd hp
      subst hd
      injection hr with hr
      subst hr
      exact ⟨_, rfl, .z _⟩
  · rename_i e ht
    rcases DataW.trod_slice ht h with ⟨rfl, hx⟩ | ⟨a, len, cap, elems, rest, n, _, rfl, hx, _⟩
    · injection hx with hd hp
      subst hd
      injection hr with hr
      subst hr
      exact ⟨_, rfl, .ns⟩
    · injection hx with hd hp
      subst hd
      injection hr with hr
      subst hr
      exact ⟨_, rfl, .z _⟩
  · rename_i m ht
    cases fuel with
    | zero => simp [DataW.trod] at h
    | succ n =>
      unfold DataW.trod at h
      simp only [ht] at h
      split at h <;> first | (rename_i hq; cases hq; done) | skip
      · injection h with h
        injection h with hd hp
        subst hd
        injection hr with hr
        subst hr
        exact ⟨_, rfl, .ni⟩
      · rename_i u v hq
        split at h
        · rename_i hf
          cases hf
        · rename_i name hn
          obtain ⟨y, hy, hyd⟩ := Option.map_eq_some_iff.1 h
          injection hyd with hd hp
          subst hd
          simp only at hr
          obtain ⟨z, hz, rfl⟩ := Option.map_eq_some_iff.1 hr
          have hmem := List.mem_of_find?_eq_some hz
          have hname := List.find?_some hz
          have hu := hns z.1 z.2 hmem u (by rw [hn]; rw [beq_iff_eq] at hname; rw [hname])
          subst hu
          exact ⟨_, rfl, .ifc (.z _)⟩
        · cases h
      · cases h
  · cases hr
def rdL (P : Program) (ns : List (String × TypeId)) (e : TypeId) : List (DataW Unit) → Option (List AV)
  | [] => some []
  | d :: r => match rdS P ns e d, rdL P ns e r with
    | some x, some l => some (x :: l)
    | _, _ => none
theorem rdL_ok {P : Program} {ns : List (String × TypeId)} {e : TypeId} : ∀ {ds : List (DataW Unit)} {l : List AV}, rdL P ns e ds = some l → l.length = ds.length ∧ ∀ (i : Nat) (d : DataW Unit), ds[i]? = some d → ∃ x, l[i]? = some x ∧ rdS P ns e d = some x
  | [], l, h => by injection h with h; subst h; exact ⟨rfl, fun i d h => by simp at h⟩
  | d :: r, l, h => by
    unfold rdL at h
    split at h
    · rename_i x m h1 h2
      injection h with h
      subst h
      obtain ⟨h3, h4⟩ := rdL_ok h2
      refine ⟨by simp [h3], fun i d' hd => ?_⟩
      cases i with
      | zero => simp at hd; subst hd; exact ⟨x, rfl, h1⟩
      | succ i => simp at hd; simpa using h4 i d' hd
    · cases h
def rdV (P : Program) (ns : List (String × TypeId)) (t : TypeId) (d : DataW Unit) : Option (List AV) :=
  match P.underlying t with
  | some (.array n e) => match d with
    | .agg ds => match Nat.beq (P.cellsOf e) 1 && Nat.beq (P.cellsOf t) n with
      | true => rdL P ns e ds
      | false => none
    | _ => none
  | _ => (rdS P ns t d).map fun x => [x]
theorem rdV_ok {ns : List (String × TypeId)} (hns : Ns P ns) (ρ : Ren) (h : DataW.trod (fun _ => ()) P w 0 sp false fuel t cs = some (d, p)) {l : List AV} (hr : rdV P ns t d = some l) : VRs ρ l cs := by
  unfold rdV at hr
  split at hr
  · rename_i n e ht
    split at hr
    · rename_i ds
      split at hr
      · rename_i hc
        rw [Bool.and_eq_true] at hc
        have hce : P.cellsOf e = 1 := Nat.eq_of_beq_eq_true hc.1
        have hct : P.cellsOf t = n := Nat.eq_of_beq_eq_true hc.2
        cases fuel with
        | zero => simp [DataW.trod] at h
        | succ fuel =>
          simp only [DataW.trod, ht, hce, hct, Nat.mul_one] at h
          split at h
          · rename_i hl
            obtain ⟨xs, hm, hx⟩ := Option.map_eq_some_iff.1 h
            have hds : ds = xs.map (·.1) := by
              have := congrArg Prod.fst hx
              simp only at this
              injection this with this
              exact this.symm
            have hxl : xs.length = n := by simpa using Lib.mapM_length hm
            obtain ⟨r1, r2⟩ := rdL_ok hr
            have hll : l.length = n := by rw [r1, hds, List.length_map, hxl]
            refine ⟨by rw [hl, hll], fun i x v h1 h2 => ?_⟩
            have hi : i < n := by rw [← hll]; exact (List.getElem?_eq_some_iff.1 h1).1
            obtain ⟨b, hb, hf⟩ := Lib.mapM_at hm i i (by simp [hi])
            obtain ⟨x', h3, h4⟩ := r2 i b.1 (by rw [hds]; simp [hb])
            obtain rfl := Option.some.inj (h1.symm.trans h3)
            obtain ⟨v', h5, h6⟩ := rdS_ok hns ρ (d := b.1) (p := b.2) hf h4
            have : cs[i]? = some v' := by
              have := congrArg (·[0]?) h5
              simpa [List.getElem?_take, List.getElem?_drop] using this
            obtain rfl := Option.some.inj (h2.symm.trans this)
            exact h6
          · cases h
      · cases hr
    · cases hr
  · obtain ⟨x, h1, rfl⟩ := Option.map_eq_some_iff.1 hr
    obtain ⟨v, rfl, h2⟩ := rdS_ok hns ρ h h1
    exact (VRs.nil ρ).cons h2
end
theorem shaped_at {P : Program} {w : World} (h : w.ShapedOpen P) {g : Nat} {t : TypeId} {n : String} {cs : Array Value} (hg : g < P.globals.size)
    (hty : (((begin P (fun _ _ => 0) default).world.heap[g]?).bind Obj.row?).map (·.2) = some t) (hn : P.globalNamed n = some g) (hv : w.var? P n = some cs) : w.heap[g]? = some (.cells cs t (0, 0)) := by
  obtain ⟨⟨zero, t'⟩, h1, h2⟩ := Option.map_eq_some_iff.1 hty
  simp only at h2
  subst h2
  obtain ⟨cs', h3, _⟩ := h.1 g zero t' hg h1
  have : cs' = cs := by
    unfold World.var? at hv
    rw [hn] at hv
    simp only [Option.bind_some, h3] at hv
    injection hv
  rw [← this]
  exact h3
theorem laid_reads {P : Program} {w : World} : ∀ {l : List (String × DataW Unit)} {ps : List MemPlace}, DataW.LaidVars P w l ps → ∀ n d, (n, d) ∈ l →
    ∃ g t cs fuel p, P.globalNamed n = some g ∧ (P.globals[g]?).map (·.type) = some t ∧ w.var? P n = some cs ∧ DataW.trod (fun _ => ()) P w 0 (fun _ => true) false fuel t cs.toList = some (d, p)
  | [], _, _, _, _, hm => by cases hm
  | (n', d') :: r, ps, h, n, d, hm => by
    obtain ⟨g, t, cs, fuel, p, q, h1, h2, h3, h4, h5, _⟩ := h
    rcases List.mem_cons.1 hm with e | e
    · cases e
      exact ⟨g, t, cs, fuel, p, h1, h2, h3, h4⟩
    · exact laid_reads h5 n d e
theorem laid_block {P : Program} {w : World} {laid : List (String × DataW Unit)} (hL : laidMet P laid w) (hsh : w.ShapedOpen P) {ns : List (String × TypeId)} (hns : Ns P ns) {n : String} {d : DataW Unit} (hm : (n, d) ∈ laid) {g : Nat} {t : TypeId} {l : List AV}
    (hg : P.globalNamed n = some g) (hlt : g < P.globals.size) (hgt : (P.globals[g]?).map (·.type) = some t) (hty : (((begin P (fun _ _ => 0) default).world.heap[g]?).bind Obj.row?).map (·.2) = some t) (hr : rdV P ns t d = some l) :
    ∃ arr : Array Value, w.heap[g]? = some (.cells arr t (0, 0)) ∧ ∀ ρ : Ren, VRs ρ l arr.toList := by
  obtain ⟨ps, hv, _⟩ := hL
  obtain ⟨g', t', cs, fuel, p, h1, h2, h3, h4⟩ := laid_reads hv n d hm
  obtain rfl := Option.some.inj (hg.symm.trans h1)
  obtain rfl := Option.some.inj (hgt.symm.trans h2)
  exact ⟨cs, shaped_at hsh hlt hty hg h3, fun ρ => rdV_ok hns ρ h4 hr⟩
end Ax
end Go.Proofs.YtdfgnoflohfnmaaGreatDoor

/-! The heap in which a law begins: the variables that the row lists. -/

namespace Go.Proofs.YtdfgnoflohfnmaaGreatDoor
namespace Ax
abbrev Gl := Nat × List AV × TypeId
noncomputable def hOf (l : List Gl) : Tr AO := match l with
  | [] => .leaf
  | x :: r => (hOf r).put .x (.k x.2.1 x.2.2) (pth x.1)
theorem hOf_get (l : List Gl) (b : Pn) : hv (hOf l) b = .x ∨ ∃ x ∈ l, b = pth x.1 ∧ hv (hOf l) b = .k x.2.1 x.2.2 := by
  induction l with
  | nil => exact .inl (get_leaf _ _)
  | cons x r ih =>
    have e : hOf (x :: r) = (hOf r).put .x (.k x.2.1 x.2.2) (pth x.1) := rfl
    rw [e, hv_put]
    by_cases h : b = pth x.1
    · subst h
      rw [upd_same]
      exact .inr ⟨x, by simp, rfl, rfl⟩
    · rw [upd_other _ _ h]
      rcases ih with h1 | ⟨y, h1, h2, h3⟩
      · exact .inl h1
      · exact .inr ⟨y, by simp [h1], h2, h3⟩
theorem hOf_own (l : List Gl) (b : Pn) : ¬ own (hv (hOf l) b) := by
  rintro ⟨h1, h2⟩
  rcases hOf_get l b with h | ⟨x, _, _, h⟩
  · exact h1 h
  · exact h2 _ _ h
noncomputable def szOf (w : World) (c : Nat) : Nat := match w.heap[c]? with
  | some (.cells arr _ _) => arr.size
  | _ => 0
noncomputable def ren0 (w : World) (ng : Nat) : Ren := fun b => if b.nat ≤ ng then some ⟨b.nat - 1, 0, szOf w (b.nat - 1)⟩ else none
theorem ren0_pth (w : World) {ng g : Nat} (h : g < ng) : ren0 w ng (pth g) = some ⟨g, 0, szOf w g⟩ := by
  unfold ren0
  rw [nat_pth, if_pos (by omega), Nat.add_sub_cancel]
def Begun (l : List Gl) (ng : Nat) (w : World) : Prop := ∀ x ∈ l, x.1 < ng ∧ ∃ arr : Array Value, w.heap[x.1]? = some (.cells arr x.2.2 (0, 0)) ∧ ∀ ρ : Ren, VRs ρ x.2.1 arr.toList
theorem start_rel {l : List Gl} {ng : Nat} {w : World} (hl : Begun l ng w) : Rel (ren0 w ng) (hv (hOf l)) w where
  ob := fun b hb => by
    rcases hOf_get l b with h | ⟨x, h1, h2, h3⟩
    · exact absurd h hb
    · obtain ⟨hg, arr, ha, hv'⟩ := hl x h1
      refine ⟨⟨x.1, 0, szOf w x.1⟩, by rw [h2]; exact ren0_pth w hg, ?_⟩
      rw [h3]
      have hlen := (hv' (ren0 w ng)).1
      rw [Array.length_toList] at hlen
      refine ⟨arr, 0, 0, ha, ⟨by simp [szOf, ha], rfl⟩, rfl, by simp only; omega, ?_⟩
      have : (arr.toList.drop 0).take x.2.1.length = arr.toList := by
        rw [List.drop_zero, List.take_of_length_le (by rw [Array.length_toList]; omega)]
      simp only
      rw [this]
      exact hv' _
  inj := fun b _ _ _ h1 => absurd h1 (hOf_own l b)
theorem start_gl {E : Env} {ng : Nat} (h : E.ng = ng) (w : World) : GL E (ren0 w ng) := fun g hg => ⟨_, ren0_pth w (by omega), rfl, rfl⟩
theorem start_fresh {l : List Gl} {ng : Nat} {w : World} (hl : ∀ x ∈ l, x.1 < ng) (b : Pn) (hb : (pth ng).nat ≤ b.nat) : ren0 w ng b = none ∧ hv (hOf l) b = .x := by
  rw [nat_pth] at hb
  refine ⟨by unfold ren0; rw [if_neg (by omega)], ?_⟩
  rcases hOf_get l b with h | ⟨x, h1, h2, h3⟩
  · exact h
  · exfalso
    have := hl x h1
    rw [h2, nat_pth] at hb
    omega
theorem begun_true {E : Env} (hE : EOK E) {ix : FuncId → Option Ix} (hI : IxOK E ix) {code : FuncId → Nat × CD} (hC : CodeT E ix code) {m : Nat} {f : FuncId} {us : List AV} {l : List Gl} (hix : ix f = none)
    (hk : okR (trueU E ix (bd E ix code m) f us (hOf l) (pth E.ng)) = true) {w : World} {args : Array Value} (hb : Begun l E.ng w) (ha : ∀ ρ : Ren, VRs ρ us args.toList) :
    Calls E.P f args w fun e w' => e = .returned (.bool true) ∧ Kept w w' :=
  call_true hE hI hC hix hk (start_gl rfl w) (start_rel hb) (ha _) (start_fresh fun x hx => (hb x hx).1) (hOf_own l)
end Ax
end Go.Proofs.YtdfgnoflohfnmaaGreatDoor

/-! Call summaries: a call is reckoned alone, from what it reaches; elsewhere its summary stands in its place. -/

namespace Go.Proofs.YtdfgnoflohfnmaaGreatDoor
namespace Ax
end Ax
end Go.Proofs.YtdfgnoflohfnmaaGreatDoor

/-! Call summaries: what stands in a call's place, and that it may stand there. -/

namespace Go.Proofs.YtdfgnoflohfnmaaGreatDoor
namespace Ax
noncomputable def bc (l : List Nat) : List AV := List.rec [] (fun a _ ih => .i .u8 (.ofNat a) :: ih) l
noncomputable def q (n : Nat) : Pn :=
  Nat.rec (motive := fun _ => Nat → Pn) (fun _ => .one) (fun _ ih n => Bool.rec (Bool.rec (.o (ih (Nat.div n 2))) (.i (ih (Nat.div n 2))) (Nat.beq (Nat.mod n 2) 1)) .one (Nat.ble n 1)) 40 n
end Ax
end Go.Proofs.YtdfgnoflohfnmaaGreatDoor

/-! Call summaries laid before what stands in functions' places; code compiled for any such table. -/

namespace Go.Proofs.YtdfgnoflohfnmaaGreatDoor
namespace Ax
noncomputable def codeI (E : Env) (d : Nat) (ix : FuncId → Option Ix) : FuncId → Nat × CD :=
  let t := Tr.build d fun p => codeOf E ix (p.nat - 1)
  fun f => t.get (0, .bad 299) (pth f)
theorem codeI_ok (E : Env) (d : Nat) (ix : FuncId → Option Ix) : CodeT E ix (codeI E d ix) := fun f => by
  have h : codeI E d ix f = (Tr.build d fun p => codeOf E ix (p.nat - 1)).get (0, .bad 299) (pth f) := rfl
  rw [h]
  rcases build_get ((0, .bad 299) : Nat × CD) d (fun p => codeOf E ix (p.nat - 1)) (pth f) with e | e
  · right
    exact ⟨299, congrArg Prod.snd e⟩
  · left
    exact e.trans (by rw [nat_pth, Nat.add_sub_cancel])
end Ax
end Go.Proofs.YtdfgnoflohfnmaaGreatDoor

/-! maps.clone, in the place of a function without a body. -/

namespace Go.Proofs.YtdfgnoflohfnmaaGreatDoor
namespace Ax
end Ax
end Go.Proofs.YtdfgnoflohfnmaaGreatDoor

/-! Functions without a body that read bytes: first places, counts, order. -/

namespace Go.Proofs.YtdfgnoflohfnmaaGreatDoor
namespace Ax
noncomputable def bysK (h : Tr AO) (v : AV) (k : List UInt8 → R) : R :=
  Bool.rec (asSl v (k []) fun b o n _ _ => blkK h b fun l _ _ => cutK l o n fun cs => toBytes cs k) (asS v k) (isS v)
theorem bysK_inv {P : Program} {h : Tr AO} {v : AV} {k : List UInt8 → R} (hk : Ok (bysK h v k)) :
    ∃ r : List UInt8, bysK h v k = k r ∧ ∀ (ρ : Ren) (w : World) (v' : Value), VR ρ v v' → Rel ρ (hv h) w → (Extern.Bytes.bytesOf v').run P w = .ok ⟨r.toArray⟩ w := by
  unfold bysK at hk ⊢
  cases hs : isS v with
  | true =>
    rw [hs] at hk
    obtain ⟨l, rfl, h1⟩ := asS_inv hk
    exact ⟨l, h1, fun ρ w v' hv _ => by rw [hv.s_inv]; rfl⟩
  | false =>
    rw [hs] at hk
    rcases asSl_inv hk with ⟨rfl, h1⟩ | ⟨b, p, n, c, ex, rfl, h1⟩
    · refine ⟨_, h1, fun ρ w v' hv hR => ?_⟩
      rw [hv.ns_inv]
      rfl
    · rw [h1] at hk ⊢
      obtain ⟨l, ty, fz, h2, h3⟩ := blkK_inv hk
      rw [h3] at hk ⊢
      obtain ⟨h4, h5⟩ := cutK_inv hk
      rw [h5] at hk ⊢
      obtain ⟨r, h6, h7, h8⟩ := toBytes_inv _ hk
      refine ⟨_, h6, fun ρ w v' hv hR => ?_⟩
      obtain ⟨tb, off, c', g1, rfl, g3, g4, _, _, g5⟩ := hv.sl_inv
      obtain ⟨tb', vs, e1, e2, e3, e4⟩ := cut_rel hR h2 h4
      obtain rfl := Option.some.inj (g1.symm.trans e1)
      obtain ⟨ns, rfl, rfl⟩ := h8 ρ vs e2
      have hl := Lib.run_loadBytesX (P := P) w ns ⟨tb.c, off, none⟩ .empty (fun j x hj => by
        have hj' : (ns.map (Value.int .u8))[j]? = some (.int .u8 x) := by rw [List.getElem?_map, hj]; rfl
        have hjn : j < n := by rw [← e3]; exact (List.getElem?_eq_some_iff.1 hj').1
        have hoff : off = tb.d + p := by rcases g3 with g | g; exact g; omega
        subst hoff
        exact e4 j _ hj')
      have hn : ns.length = n := by rw [← e3, List.length_map]
      rw [hn] at hl
      show (Extern.Bytes.loadBytes ⟨tb.c, off, none⟩ n .empty).run P w = _
      rw [hl]
      congr 1
      apply ByteArray.ext
      show (#[] : Array UInt8) ++ (Lib.bytesOf ns).toArray = _
      rw [Array.empty_append]
      rfl
theorem one_bytes {P : Program} {w : World} {F : ByteArray → Sem Value} {x : Value} {s : ByteArray} (hx : (Extern.Bytes.bytesOf x).run P w = .ok s w) :
    (do let a ← Extern.Bytes.bytesOf x; F a : Sem Value).run P w = (F s).run P w := by
  rw [Sem.run_bind, hx]; rfl
theorem two_bytes {P : Program} {w : World} {F : ByteArray → ByteArray → Sem Value} {x y : Value} {s t : ByteArray} (hx : (Extern.Bytes.bytesOf x).run P w = .ok s w) (hy : (Extern.Bytes.bytesOf y).run P w = .ok t w) :
    (do let a ← Extern.Bytes.bytesOf x; let b ← Extern.Bytes.bytesOf y; F a b : Sem Value).run P w = (F s t).run P w := by
  rw [Sem.run_bind, hx, Result.andThen_ok, Sem.run_bind, hy]; rfl
noncomputable def ixIY : Ix := fun _ vs h n k => match vs with
  | [v, .i q (.ofNat c)] => ifK (isU8 q && Nat.ble c 255) 306 fun _ => bysK h v fun l => idxB l c 0 fun z => k (.i .i64 z) h n
  | _ => .er 306
theorem u8_eq {q : IntKind} (h : isU8 q = true) : q = .u8 := by unfold isU8 at h; cases q <;> first | rfl | (simp [kidx] at h)
theorem idxB_first (l : List UInt8) (c : Nat) (hc : c ≤ 255) (k : Int → R) : idxB l c 0 k = k (firstIdx ⟨l.toArray⟩ (c : Int).toNat.toUInt8) := by
  rw [idxB_eq l c hc]
  congr 1
  unfold firstIdx
  rw [s_size]
  have hg : (fun i : Nat => (⟨l.toArray⟩ : ByteArray)[i]! == (c : Int).toNat.toUInt8) = fun j : Nat => l[j]! == (c : Int).toNat.toUInt8 := by
    funext j
    congr 1
    by_cases hj : j < l.length
    · rw [getElem!_pos l j hj, getElem!_pos (⟨l.toArray⟩ : ByteArray) j (by rw [s_size]; exact hj)]; rfl
    · rw [getElem!_neg l j hj, getElem!_neg (⟨l.toArray⟩ : ByteArray) j (by rw [s_size]; exact hj)]
  rw [hg]
  cases (List.range l.length).find? (fun j => l[j]! == (c : Int).toNat.toUInt8) with
  | none => rfl
  | some j => simp
def iyF (c : Int) (b : ByteArray) : Sem Value := do
  let c' ← Extern.Bytes.asByte (.int .u8 c)
  match (List.range b.size).find? fun i => b[i]! == c' with
  | some i => pure (goInt i)
  | none => pure (goInt (-1))
theorem ix_iy {E : Env} {f : FuncId} {fn : Func} (hf : E.P.funcs[f]? = some fn) (hname : (fn.name == "runtime.NumGoroutine") = false) (hb : fn.body.isNone = true) (hn : Extern.findNext fn = none) (he : Extern.find fn = some Extern.BytealgIndexByte.indexByte) :
    ∀ B, BdOK E B → ∀ us h n k, Ok (ixIY B us h n k) → ∃ v h' n', ixIY B us h n k = k v h' n' ∧ CallS E f us h n v h' n' := by
  intro B _ us h n k hk
  unfold ixIY at hk ⊢
  split at hk
  · rename_i v q c
    obtain ⟨h1, h2⟩ := ifK_inv hk
    simp only [h2] at hk ⊢
    rw [Bool.and_eq_true, ble_iff] at h1
    obtain rfl := u8_eq h1.1
    obtain ⟨l, h3, h4⟩ := bysK_inv (P := E.P) hk
    rw [h3, idxB_first l c h1.2]
    refine ⟨_, _, _, rfl, Nat.le_refl _, fun ρ w args hg hu hR hF => ?_⟩
    obtain ⟨a0, r0, e0, g1, g2⟩ := hu.cons_inv
    obtain ⟨a1, r1, e1, g3, g4⟩ := g2.cons_inv
    have e2 := g4.nil_inv
    subst e2
    subst e1
    have hargs : args = #[a0, .int .u8 c] := by
      apply Array.ext'
      rw [e0, g3.i_inv]
      rfl
    have hb2 := h4 ρ w a0 g1 hR
    have hrun : (Extern.BytealgIndexByte.indexByte #[a0, .int .u8 c]).run E.P w = .ok (.int .i64 (firstIdx ⟨l.toArray⟩ (c : Int).toNat.toUInt8)) w := by
      rw [← run_indexByte_string]
      have q1 : (Extern.BytealgIndexByte.indexByte #[a0, .int .u8 c]).run E.P w = (iyF c ⟨l.toArray⟩).run E.P w := one_bytes (F := iyF c) hb2
      have q2 : (Extern.BytealgIndexByte.indexByte #[.string ⟨l.toArray⟩, .int .u8 c]).run E.P w = (iyF c ⟨l.toArray⟩).run E.P w := one_bytes (F := iyF c) (x := .string ⟨l.toArray⟩) rfl
      exact q1.trans q2.symm
    refine ⟨.value _, w, by rw [run_callFunc_extern hf hname hb hn he, hargs, hrun]; rfl, ρ, Step.refl hR, .i _ _⟩
  · exact (ok_er hk).elim
noncomputable def cntB (l : List UInt8) (c : Nat) : Nat → (Nat → R) → R :=
  List.rec (motive := fun _ => Nat → (Nat → R) → R) (fun n k => k n) (fun a _ ih n k => Bool.rec (ih n k) (ih (n + 1) k) (Nat.beq a.toNat c)) l
theorem cntB_eq (l : List UInt8) (c : Nat) (hc : c ≤ 255) : ∀ (n : Nat) (k : Nat → R), cntB l c n k = k (n + Lib.countByte l (c : Int).toNat.toUInt8) := by
  induction l with
  | nil => intro n k; rfl
  | cons a l ih =>
    intro n k
    have e : cntB (a :: l) c n k = Bool.rec (cntB l c n k) (cntB l c (n + 1) k) (Nat.beq a.toNat c) := rfl
    rw [e, ← byte_beq a hc]
    unfold Lib.countByte
    rw [List.count_cons]
    cases hb : (a == (c : Int).toNat.toUInt8) with
    | true =>
      show cntB l c (n + 1) k = _
      rw [ih (n + 1) k]
      unfold Lib.countByte
      congr 1
      simp
      omega
    | false =>
      show cntB l c n k = _
      rw [ih n k]
      rfl
noncomputable def ixCt : Ix := fun _ vs h n k => match vs with
  | [v, .i q (.ofNat c)] => ifK (isU8 q && Nat.ble c 255) 307 fun _ => bysK h v fun l => cntB l c 0 fun z => k (.i .i64 (.ofNat z)) h n
  | _ => .er 307
def ctF (c : Int) (b : ByteArray) : Sem Value := do
  let c' ← Extern.Bytes.asByte (.int .u8 c)
  pure (goInt (b.foldl (fun n x => if x == c' then n + 1 else n) (0 : Nat)))
theorem ix_ct {E : Env} {f : FuncId} {fn : Func} (hf : E.P.funcs[f]? = some fn) (hname : (fn.name == "runtime.NumGoroutine") = false) (hb : fn.body.isNone = true) (hn : Extern.findNext fn = none) (he : Extern.find fn = some Extern.BytealgCount.count) :
    ∀ B, BdOK E B → ∀ us h n k, Ok (ixCt B us h n k) → ∃ v h' n', ixCt B us h n k = k v h' n' ∧ CallS E f us h n v h' n' := by
  intro B _ us h n k hk
  unfold ixCt at hk ⊢
  split at hk
  · rename_i v q c
    obtain ⟨h1, h2⟩ := ifK_inv hk
    simp only [h2] at hk ⊢
    rw [Bool.and_eq_true, ble_iff] at h1
    obtain rfl := u8_eq h1.1
    obtain ⟨l, h3, h4⟩ := bysK_inv (P := E.P) hk
    rw [h3, cntB_eq l c h1.2]
    refine ⟨_, _, _, rfl, Nat.le_refl _, fun ρ w args hg hu hR hF => ?_⟩
    obtain ⟨a0, r0, e0, g1, g2⟩ := hu.cons_inv
    obtain ⟨a1, r1, e1, g3, g4⟩ := g2.cons_inv
    have e2 := g4.nil_inv
    subst e2
    subst e1
    have hargs : args = #[a0, .int .u8 c] := by
      apply Array.ext'
      rw [e0, g3.i_inv]
      rfl
    have hb2 := h4 ρ w a0 g1 hR
    have hrun : (Extern.BytealgCount.count #[a0, .int .u8 c]).run E.P w = .ok (.int .i64 (Lib.countByte l (c : Int).toNat.toUInt8)) w := by
      have hs := Lib.run_countString (P := E.P) ⟨l.toArray⟩ c w
      rw [← hs]
      have q1 : (Extern.BytealgCount.count #[a0, .int .u8 c]).run E.P w = (ctF c ⟨l.toArray⟩).run E.P w := one_bytes (F := ctF c) hb2
      have q2 : (Extern.BytealgCount.count #[.string ⟨l.toArray⟩, .int .u8 c]).run E.P w = (ctF c ⟨l.toArray⟩).run E.P w := one_bytes (F := ctF c) (x := .string ⟨l.toArray⟩) rfl
      exact q1.trans q2.symm
    refine ⟨.value _, w, by rw [run_callFunc_extern hf hname hb hn he, hargs, hrun]; rfl, ρ, Step.refl hR, ?_⟩
    rw [Nat.zero_add]
    exact .i _ _
  · exact (ok_er hk).elim
noncomputable def cmpB (x : List UInt8) : List UInt8 → Int :=
  List.rec (motive := fun _ => List UInt8 → Int) (fun y => List.rec (.ofNat 0) (fun _ _ _ => .negSucc 0) y)
    (fun a _ ih y => List.rec (.ofNat 1) (fun b y _ => Bool.rec (Bool.rec (ih y) (.ofNat 1) (Nat.ble (b.toNat + 1) a.toNat)) (.negSucc 0) (Nat.ble (a.toNat + 1) b.toNat)) y) x
noncomputable def ixCp : Ix := fun _ vs h n k => match vs with
  | [x, y] => bysK h x fun l => bysK h y fun m => k (.i .i64 (cmpB l m)) h n
  | _ => .er 308
noncomputable def isPfx (p : List UInt8) : List UInt8 → Bool :=
  List.rec (motive := fun _ => List UInt8 → Bool) (fun _ => true) (fun a _ ih l => List.rec false (fun b l _ => Bool.rec false (ih l) (Nat.beq a.toNat b.toNat)) l) p
theorem isPfx_eq (p : List UInt8) : ∀ l, isPfx p l = p.isPrefixOf l := by
  induction p with
  | nil => intro l; cases l <;> rfl
  | cons a p ih =>
    intro l
    cases l with
    | nil => rfl
    | cons b l =>
      have e : isPfx (a :: p) (b :: l) = Bool.rec false (isPfx p l) (Nat.beq a.toNat b.toNat) := rfl
      rw [e, List.isPrefixOf]
      have h : (a == b) = Nat.beq a.toNat b.toNat := by
        rw [Bool.eq_iff_iff, beq_iff_eq, beq_iff, ← UInt8.toNat_inj]
      rw [h, ← ih l]
      cases Nat.beq a.toNat b.toNat <;> rfl
noncomputable def idxL (p : List UInt8) (l : List UInt8) : Nat → (Int → R) → R :=
  List.rec (motive := fun _ => Nat → (Int → R) → R) (fun i k => Bool.rec (k (.negSucc 0)) (k (.ofNat i)) (isPfx p [])) (fun a l ih i k => Bool.rec (ih (i + 1) k) (k (.ofNat i)) (isPfx p (a :: l))) l
theorem idxL_eq (p l : List UInt8) : ∀ (i : Nat) (k : Int → R), idxL p l i k = k (if Lib.index l p == -1 then -1 else (i : Int) + Lib.index l p) := by
  induction l with
  | nil =>
    intro i k
    have e : idxL p [] i k = Bool.rec (k (.negSucc 0)) (k (.ofNat i)) (isPfx p []) := rfl
    rw [e, isPfx_eq, Lib.index]
    cases p with
    | nil => simp
    | cons a p => rfl
  | cons a l ih =>
    intro i k
    have e : idxL p (a :: l) i k = Bool.rec (idxL p l (i + 1) k) (k (.ofNat i)) (isPfx p (a :: l)) := rfl
    rw [e, isPfx_eq, Lib.index]
    cases hp : p.isPrefixOf (a :: l) with
    | true => simp
    | false =>
      show idxL p l (i + 1) k = _
      rw [ih (i + 1) k]
      congr 1
      have := Lib.index_ge l p
      by_cases h1 : Lib.index l p = -1
      · simp [h1]
      · have h2 : (Lib.index l p == -1) = false := by simpa using h1
        have h3 : ¬ (Lib.index l p + 1 = -1) := by omega
        simp [h2, h3]
        omega
noncomputable def loK (o : AO) : (Int → R) → R := match o with
  | .k [.iv .i64 lo _] _ => fun k => k lo
  | _ => fun _ => .er 309
def idxF (a b : ByteArray) : Sem Value := do
  if b.size < 2 || (b.size : Int) > (← Extern.BytealgIndex.maxLen) then
    unsupported (.noEntry "extern/internal/bytealg.Index.length")
  if a.size ≥ 2 ^ 32 - 15 then
    unsupported (.noEntry "extern/internal/bytealg.Index: a haystack of 2^32 - 15 bytes or more")
  match (List.range (a.size + 1 - b.size)).find? fun i => a.extract i (i + b.size) == b with
  | some i => pure (goInt i)
  | none => pure (goInt (-1))
noncomputable def ixIx (g : Nat) : Ix := fun _ vs h n k => match vs with
  | [x, y] => bysK h x fun l => bysK h y fun m => h.getK .x (pth g) fun o => loK o fun lo =>
      ifK (Nat.ble 2 m.length && ile (.ofNat m.length) lo && Nat.ble l.length 4294967280) 309 fun _ => idxL m l 0 fun z => k (.i .i64 z) h n
  | _ => .er 309
theorem loK_inv {o : AO} {k : Int → R} (hk : Ok (loK o k)) : ∃ lo hi ty, o = .k [.iv .i64 lo hi] ty ∧ loK o k = k lo := by
  unfold loK at hk ⊢
  split at hk
  · exact ⟨_, _, _, rfl, rfl⟩
  · exact (ok_er hk).elim
theorem ix_ix {E : Env} {f : FuncId} {fn : Func} {g : Nat} (hg0 : E.P.globals.findIdx? (·.name == "internal/bytealg.MaxLen") = some g) (hgn : g < E.ng)
    (hf : E.P.funcs[f]? = some fn) (hname : (fn.name == "runtime.NumGoroutine") = false) (hb : fn.body.isNone = true) (hn : Extern.findNext fn = none) (he : Extern.find fn = some Extern.BytealgIndex.index) :
    ∀ B, BdOK E B → ∀ us h n k, Ok (ixIx g B us h n k) → ∃ v h' n', ixIx g B us h n k = k v h' n' ∧ CallS E f us h n v h' n' := by
  intro B _ us h n k hk
  unfold ixIx at hk ⊢
  split at hk
  · rename_i x y
    obtain ⟨l, h3, h4⟩ := bysK_inv (P := E.P) hk
    simp only [h3] at hk ⊢
    obtain ⟨m, h5, h6⟩ := bysK_inv (P := E.P) hk
    rw [h5] at hk ⊢
    rw [getK_eq] at hk ⊢
    obtain ⟨lo, hi, ty, h7, h8⟩ := loK_inv hk
    rw [h8] at hk ⊢
    obtain ⟨h9, h10⟩ := ifK_inv hk
    rw [h10, idxL_eq]
    simp only [Bool.and_eq_true, ble_iff, ile_eq, decide_eq_true_eq] at h9
    obtain ⟨⟨h11, h12⟩, h13⟩ := h9
    refine ⟨_, _, _, rfl, Nat.le_refl _, fun ρ w args hg hu hR hF => ?_⟩
    obtain ⟨a0, r0, e0, g1, g2⟩ := hu.cons_inv
    obtain ⟨a1, r1, e1, g3, g4⟩ := g2.cons_inv
    have e2 := g4.nil_inv
    subst e2
    subst e1
    have hargs : args = #[a0, a1] := by
      apply Array.ext'
      rw [e0]
    obtain ⟨tb, t1, t2⟩ := hR.ob (pth g) (by show h.get .x (pth g) ≠ .x; rw [h7]; simp)
    obtain ⟨tb', t3, t4, t5⟩ := hg g hgn
    obtain rfl := Option.some.inj (t1.symm.trans t3)
    rw [show hv h (pth g) = .k [.iv .i64 lo hi] ty from h7] at t2
    obtain ⟨arr, q1, q2, q3, q4, q5, q6, q7⟩ := t2
    have hcell : ∃ mv : Int, w.cell? ⟨g, 0, none⟩ = some (.int .i64 mv) ∧ lo ≤ mv := by
      obtain ⟨v, r, d1, d2, d3⟩ := q7.cons_inv
      have hv0 : arr[0]? = some v := by
        have := congrArg (fun l : List Value => l[0]?) d1
        simp only [List.getElem?_cons_zero] at this
        rw [List.getElem?_take, List.getElem?_drop] at this
        simp only [q4.2, Nat.zero_add, List.length_cons, List.length_nil] at this
        simpa using this
      cases d2 with
      | iv u1 u2 =>
        rename_i mv
        refine ⟨mv, ?_, u1⟩
        rw [← t4]
        simp [World.cell?, q3, hv0]
    obtain ⟨mv, hm, hlo⟩ := hcell
    have hrun : (Extern.BytealgIndex.index #[a0, a1]).run E.P w = .ok (.int .i64 (Lib.index l m)) w := by
      have hs := Lib.run_indexString (P := E.P) ⟨l.toArray⟩ ⟨m.toArray⟩ w g mv hg0 hm (by rw [s_size]; exact h11) (by rw [s_size]; exact Int.le_trans h12 hlo) (by rw [s_size]; omega)
      rw [← hs]
      have q1 : (Extern.BytealgIndex.index #[a0, a1]).run E.P w = (idxF ⟨l.toArray⟩ ⟨m.toArray⟩).run E.P w := two_bytes (F := idxF) (h4 ρ w a0 g1 hR) (h6 ρ w a1 g3 hR)
      have q2 : (Extern.BytealgIndex.index #[.string ⟨l.toArray⟩, .string ⟨m.toArray⟩]).run E.P w = (idxF ⟨l.toArray⟩ ⟨m.toArray⟩).run E.P w := two_bytes (F := idxF) (x := .string ⟨l.toArray⟩) (y := .string ⟨m.toArray⟩) rfl rfl
      exact q1.trans q2.symm
    refine ⟨.value _, w, by rw [run_callFunc_extern hf hname hb hn he, hargs, hrun]; rfl, ρ, Step.refl hR, ?_⟩
    have hge := Lib.index_ge l m
    by_cases h1 : Lib.index l m = -1
    · rw [h1]; exact .i _ _
    · have h2 : (Lib.index l m == -1) = false := by simpa using h1
      rw [h2]
      have : ((0 : Nat) : Int) + Lib.index l m = Lib.index l m := by omega
      simp only [Bool.false_eq_true, if_false, this]
      exact .i _ _
  · exact (ok_er hk).elim
end Ax
end Go.Proofs.YtdfgnoflohfnmaaGreatDoor
namespace Go.Proofs.YtdfgnoflohfnmaaGreatDoor
namespace Ax
noncomputable def ixMZ (e : TypeId) : Ix := fun _ vs h n k => match vs with
  | [.i q (.ofNat c)] => ifK (Nat.beq (kidx q) 3 && Nat.ble c 281474976710656) 310 fun _ => newK h n (.c (repC c [.z]) e false) fun h n' => k (.sl n 0 c c 1) h n'
  | _ => .er 310
theorem repZ (c : Nat) : (repC c [.z]).length = c ∧ ∀ x ∈ repC c [.z], x = .z := by
  induction c with
  | zero => exact ⟨rfl, fun x hx => by cases hx⟩
  | succ c ih =>
    have e : repC (c + 1) [.z] = .z :: repC c [.z] := rfl
    rw [e]
    refine ⟨by rw [List.length_cons, ih.1], fun x hx => ?_⟩
    rcases List.mem_cons.1 hx with h | h
    · exact h
    · exact ih.2 x h
theorem ix_mz {E : Env} {f : FuncId} {fn : Func} {ps : Array TypeId} {t e : TypeId} (ht : E.P.underlying t = some (.slice e))
    (hf : E.P.funcs[f]? = some fn) (hname : (fn.name == "runtime.NumGoroutine") = false) (hb : fn.body.isNone = true) (hn : Extern.findNext fn = none) (he : Extern.find fn = some (Extern.BytealgMakeNoZero.makeNoZero ps #[t])) :
    ∀ B, BdOK E B → ∀ us h n k, Ok (ixMZ e B us h n k) → ∃ v h' n', ixMZ e B us h n k = k v h' n' ∧ CallS E f us h n v h' n' := by
  intro B _ us h n k hk
  unfold ixMZ at hk ⊢
  split at hk
  · rename_i q c
    obtain ⟨h1, h2⟩ := ifK_inv hk
    simp only [h2]
    rw [Bool.and_eq_true, ble_iff] at h1
    obtain ⟨h3, h4⟩ := h1
    have hq : q = .i64 := by cases q <;> first | rfl | (simp [kidx] at h3)
    subst hq
    unfold newK
    rw [setK_eq]
    refine ⟨_, _, _, rfl, by rw [nat_succ]; omega, fun ρ w args hg hu hR hF => ?_⟩
    obtain ⟨a0, r0, e0, g1, g2⟩ := hu.cons_inv
    have e2 := g2.nil_inv
    subst e2
    have hargs : args = #[.int .i64 c] := by
      apply Array.ext'
      rw [e0, g1.i_inv]
      rfl
    obtain ⟨cs, r1, r2, _⟩ := Lib.run_makeNoZero (P := E.P) w ps t e ht c h4
    have hf0 := hF n (Nat.le_refl _) (by rw [nat_succ]; omega)
    obtain ⟨z1, z2⟩ := repZ c
    refine ⟨.value (.slice (some ⟨w.heap.size, 0, none⟩) c cs.size), w.drew.drew.alloc (.cells cs e), ?_, updR ρ n ⟨w.heap.size, 0, cs.size⟩, ?_,
      .sl (o := 0) (t := ⟨w.heap.size, 0, cs.size⟩) (updR_same _ _) (.inl rfl) (Nat.le_refl c) r2 (fun h => by cases h) (fun _ => by show 0 + cs.size * 1 ≤ cs.size; omega)⟩
    · rw [run_callFunc_extern hf hname hb hn he, hargs, r1]
      rfl
    · rw [hv_put]
      refine Step.new (n := n) hR hf0.1 hf0.2 rfl ⟨cs, 0, 0, rfl, ⟨rfl, fun _ => rfl⟩, .inl rfl, by rw [z1]; show 0 + c ≤ cs.size; omega, ?_⟩ (rel_lt hR) rfl rfl rfl rfl
      refine ⟨?_, fun i x v hx _ => ?_⟩
      · rw [z1]
        simp
        omega
      · rw [z2 x (List.mem_of_getElem? hx)]
        exact .z v
  · exact (ok_er hk).elim
end Ax
end Go.Proofs.YtdfgnoflohfnmaaGreatDoor

/-! A call that may come to more than one thing, where all are one in the end: what is no plain memory is laid aside while it runs. -/

namespace Go.Proofs.YtdfgnoflohfnmaaGreatDoor
namespace Ax
theorem OLe.trans {a b c : AO} (h : OLe a b) (k : OLe b c) : OLe a c := ⟨fun ρ ob t hr => k.rel ρ ob t (h.rel ρ ob t hr), fun hc => h.own (k.own hc), fun hc => h.x (k.x hc), fun l ty e => h.k l ty (k.k l ty e)⟩
end Ax
end Go.Proofs.YtdfgnoflohfnmaaGreatDoor
