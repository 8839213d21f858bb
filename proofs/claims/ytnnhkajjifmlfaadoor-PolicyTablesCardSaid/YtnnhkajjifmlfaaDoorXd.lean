/- Intrinsics: what stands in the place of functions without a body. -/
import Derived.Test.YtnnhkajjifmlfaaDoorXc
import Derived.Laws.Externs
import Derived.ChangeSame
import Derived.ChangeArms
import Derived.LaidLaws
import Derived.Lib.LaidTab
/-! Intrinsics: what stands in the place of functions without a body. -/

namespace Go.Proofs.YtnnhkajjifmlfaaDoor
namespace Ax
/-- the first place of a byte -/
noncomputable def idxB (l : List UInt8) (c : Nat) : Nat → (Int → R) → R :=
  List.rec (motive := fun _ => Nat → (Int → R) → R) (fun _ k => k (.negSucc 0)) (fun a _ ih i k => Bool.rec (ih (i + 1) k) (k (.ofNat i)) (Nat.beq a.toNat c)) l
def isU8 (q : IntKind) : Bool := Nat.beq (kidx q) 4
/-- bytealg.IndexByteString -/
noncomputable def ixIB : Ix := fun vs h n k => match vs with
  | [.s l, .i q (.ofNat c)] => ifK (isU8 q && Nat.ble c 255) 301 fun _ => idxB l c 0 fun z => k (.i .i64 z) h n
  | _ => .er 301
theorem byte_beq (a : UInt8) {c : Nat} (hc : c ≤ 255) : (a == (c : Int).toNat.toUInt8) = Nat.beq a.toNat c := by
  rw [Bool.eq_iff_iff, beq_iff_eq, beq_iff, ← UInt8.toNat_inj]
  have : ((c : Int).toNat.toUInt8).toNat = c := by
    simp [Nat.toUInt8]
    omega
  rw [this]
theorem idxB_eq (l : List UInt8) (c : Nat) (hc : c ≤ 255) : ∀ (i : Nat) (k : Int → R), idxB l c i k = k (match (List.range l.length).find? (fun j => l[j]! == (c : Int).toNat.toUInt8) with | some j => ((i + j : Nat) : Int) | none => -1) := by
  induction l with
  | nil => intro i k; rfl
  | cons a l ih =>
    intro i k
    have e : idxB (a :: l) c i k = Bool.rec (idxB l c (i + 1) k) (k (.ofNat i)) (Nat.beq a.toNat c) := rfl
    rw [e, List.length_cons, List.range_succ_eq_map, List.find?_cons]
    have h0 : ((a :: l)[0]! == (c : Int).toNat.toUInt8) = Nat.beq a.toNat c := by
      rw [← byte_beq a hc]; rfl
    rw [h0]
    cases hb : Nat.beq a.toNat c with
    | true => rfl
    | false =>
      rw [List.find?_map]
      show idxB l c (i + 1) k = _
      rw [ih (i + 1) k]
      congr 1
      have : ((fun j => (a :: l)[j]! == (c : Int).toNat.toUInt8) ∘ Nat.succ) = fun j => l[j]! == (c : Int).toNat.toUInt8 := by
        funext j; simp
      rw [this]
      cases (List.range l.length).find? (fun j => l[j]! == (c : Int).toNat.toUInt8) with
      | none => rfl
      | some j => simp; omega
/-- a function without a body, of the model's own -/
theorem ix_ib {E : Env} {f : FuncId} {fn : Func} (hf : E.P.funcs[f]? = some fn) (hname : (fn.name == "runtime.NumGoroutine") = false) (hb : fn.body.isNone = true) (hn : Extern.findNext fn = none) (he : Extern.find fn = some Extern.BytealgIndexByte.indexByte) :
    ∀ us h n k, Ok (ixIB us h n k) → ∃ v h' n', ixIB us h n k = k v h' n' ∧ CallS E f us h n v h' n' := by
  intro us h n k hk
  unfold ixIB at hk ⊢
  split at hk
  · rename_i l q c
    obtain ⟨h1, h2⟩ := ifK_inv hk
    rw [h2]
    rw [Bool.and_eq_true, ble_iff] at h1
    have hq : q = .u8 := by
      have := h1.1
      unfold isU8 at this
      cases q <;> first | rfl | (simp [kidx] at this)
    subst hq
    rw [idxB_eq l c h1.2]
    refine ⟨_, _, _, rfl, Nat.le_refl _, fun ρ w args hg hu hR hF => ?_⟩
    obtain ⟨a0, r0, e0, g1, g2⟩ := hu.cons_inv
    obtain ⟨a1, r1, e1, g3, g4⟩ := g2.cons_inv
    have e2 := g4.nil_inv
    subst e2
    subst e1
    have hargs : args = #[.string ⟨l.toArray⟩, .int .u8 c] := by
      apply Array.ext'
      rw [e0, g1.s_inv, g3.i_inv]
      rfl
    have hfi : firstIdx ⟨l.toArray⟩ (c : Int).toNat.toUInt8 = (match (List.range l.length).find? (fun j => l[j]! == (c : Int).toNat.toUInt8) with | some j => ((0 + j : Nat) : Int) | none => -1) := by
      unfold firstIdx
      rw [s_size]
      have hg : (fun i : Nat => (⟨l.toArray⟩ : ByteArray)[i]! == (c : Int).toNat.toUInt8) = fun j : Nat => l[j]! == (c : Int).toNat.toUInt8 := by
        funext j
        congr 1
        by_cases hj : j < l.length
        · rw [getElem!_pos l j hj, getElem!_pos (⟨l.toArray⟩ : ByteArray) j (by rw [s_size]; exact hj)]; rfl
        · rw [getElem!_neg l j hj, getElem!_neg (⟨l.toArray⟩ : ByteArray) j (by rw [s_size]; exact hj)]
      rw [hg]
      cases (List.range l.length).find? (fun j => l[j]! == (c : Int).toNat.toUInt8) with
      | none => rfl
      | some j => simp
    refine ⟨.value (.int .i64 (firstIdx ⟨l.toArray⟩ (c : Int).toNat.toUInt8)), w, by rw [run_callFunc_extern hf hname hb hn he, hargs, run_indexByte_string]; rfl, ?_⟩
    refine ⟨ρ, Step.refl hR, ?_⟩
    rw [hfi]
    exact .i _ _
  · exact (ok_er hk).elim
end Ax
end Go.Proofs.YtnnhkajjifmlfaaDoor

/-! Tables laid as trees tell the truth. -/

namespace Go.Proofs.YtnnhkajjifmlfaaDoor
namespace Ax
theorem build_get {α : Type} (d : α) : ∀ (n : Nat) (g : Pn → α) (p : Pn), (Tr.build n g).get d p = d ∨ (Tr.build n g).get d p = g p
  | 0, _, p => .inl (get_leaf d p)
  | _ + 1, _, .one => .inr rfl
  | n + 1, g, .o p => build_get d n (fun p => g (.o p)) p
  | n + 1, g, .i p => build_get d n (fun p => g (.i p)) p
end Ax
end Go.Proofs.YtnnhkajjifmlfaaDoor

/-! From the executor's word to a call of the kit's, and to what a row says behind it. -/

namespace Go.Proofs.YtnnhkajjifmlfaaDoor
namespace Ax
/-- all that was there stays -/
abbrev Kept (W W' : World) : Prop := W.grownBy W' none
theorem Kept.same {W W' : World} (h : Kept W W') (k : Nat) (hk : k < W.heap.size) : W'.heap[k]? = W.heap[k]? := h.block k hk (by simp)
theorem Kept.keptBut {W W' : World} (h : Kept W W') (may : MemPlace → Prop) : W.keptBut W' may := by
  refine ⟨h.os, h.output, fun i hi => ?_⟩
  rw [Kept.same h i hi]
  cases W.heap[i]? with
  | none => rfl
  | some o =>
    cases o <;> first | exact ⟨rfl, rfl, rfl, fun _ _ => rfl⟩ | exact .inr ⟨rfl, rfl⟩ | rfl
theorem Kept.frozen {W W' : World} (h : Kept W W') (a : Addr) (ha : a.block < W.heap.size) : W'.frozen? a = W.frozen? a := by
  unfold World.frozen?
  rw [Kept.same h _ ha]
/-- a law's answer is true, of any arguments -/
noncomputable def trueU (E : Env) (ix : FuncId → Option Ix) (B : Bd) (f : FuncId) (us : List AV) (h : Tr AO) (n : Pn) : R :=
  callK E ix f us B h n fun v h n => asB v (.nm .leaf [] h n) (.er 280)
theorem call_true {E : Env} (hE : EOK E) {ix : FuncId → Option Ix} (hI : IxOK E ix) {code : FuncId → Nat × CD} (hC : CodeT E ix code) {m : Nat} {f : FuncId} {us : List AV} {h : Tr AO} {n : Pn} (hix : ix f = none)
    (hk : okR (trueU E ix (bd E ix code m) f us h n) = true) {ρ : Ren} {w : World} {args : Array Value} (hg : GL E ρ) (hR : Rel ρ (hv h) w) (ha : VRs ρ us args.toList)
    (hfr : ∀ b : Pn, n.nat ≤ b.nat → ρ b = none ∧ hv h b = .x) (hown : ∀ b, ¬ own (hv h b)) :
    Calls E.P f args w fun e w' => e = .returned (.bool true) ∧ Kept w w' := by
  have hk := ok_of hk
  unfold trueU callK at hk
  rw [hix] at hk
  simp only at hk
  obtain ⟨v, h', n', h1, h2, h3⟩ := callB_inv hE (bd_ok hE hI hC m) hk
  rw [h1] at hk
  obtain ⟨x, rfl, h4⟩ := asB_inv hk
  cases x with
  | false => rw [h4] at hk; exact (ok_er hk).elim
  | true =>
    obtain ⟨_, hc⟩ := h3 ρ w args hg ha hR (fun b hb _ => hfr b hb)
    refine callsIn_wide.1 (CallsIn.mono hc fun e w' hr => ?_)
    cases e with
    | returned v' =>
      obtain ⟨ρ', s, r⟩ := hr
      exact ⟨by rw [r.b_inv], s.os, s.tape, s.output, s.size, fun k hk _ => s.same k hk fun b t ho => absurd ho (hown b)⟩
    | panicked c => exact hr.elim
    | outgrown => exact hr.elim
section
open Go.ChangeShapes Go.WideShapes
variable {H : Type} {enc : TypeId × Value → H} {P : Program}
/-- what a row says behind a call that lays new blocks alone -/
theorem post_of_kept {f : Func} {s : ChangeSpec} {apart fresh handsOn again : Bool} {W W' : World} {args : Array Value} {v : Value} {ds gs : List (DataW H)} {before pa pv : List MemPlace}
    (hW : DataW.Whole enc P f.params.toList s.vars apart W args.toList ds gs before)
    (hres : ∀ (b : Nat) (sp : Nat → Bool) (hd : Bool), DataW.TrodAll enc P W' b sp hd f.resultTypes.toList (v.resultList f.resultTypes.size) (s.fn H (ds ++ gs)).results [])
    (hargs : ∀ sp : Nat → Bool, (∀ p ∈ before, sp p.block = true) → DataW.TrodAll enc P W' 0 sp true f.params.toList args.toList (s.fn H (ds ++ gs)).args pa)
    (hvars : ∀ sp : Nat → Bool, (∀ p ∈ before, sp p.block = true) → DataW.TrodVars enc P W' sp s.vars (s.fn H (ds ++ gs)).vars pv)
    (hps : before = pa ++ pv) (hk : Kept W W')
    (hok : ∀ (j : Nat) (t : TypeId) (r : Value), f.resultTypes[j]? = some t → (v.resultList f.resultTypes.size)[j]? = some r → Value.okWide P W' .any 0 t r) :
    s.post enc P f apart fresh handsOn again W args v W' := by
  have hold : ∀ p ∈ before, (fun b => decide (b < W.heap.size)) p.block = true := fun p hp => by simpa using hW.lt p hp
  have hlt : ∀ p ∈ before, p.block < W.heap.size := fun p hp => hW.lt p hp
  refine ⟨ds, gs, before, [], pa, pv, hW, hres _ _ _, hargs _ hold, hvars _ hold, World.keptBut_mono (fun p hp => ⟨hp, ?_⟩) (Kept.keptBut hk (· ∈ before)), fun _ => ?_⟩
  · rw [hps, List.mem_append] at hp
    exact Or.inr hp
  · obtain ⟨_, _, _, _, _, hz, hn⟩ := hW
    refine ⟨hok, _, _, ([] ++ pa) ++ pv, ⟨[] ++ pa, pv, trodAll_append (hargs _ (fun _ _ => rfl)) (hres _ _ _), hvars _ (fun _ _ => rfl), rfl, ?_, ?_⟩, ?_⟩
    · intro b off hp
      have hp' : MemPlace.cell b off ∈ before := by rw [hps]; simpa using hp
      rw [Kept.frozen hk ⟨b, off, none⟩ (hlt _ hp')]
      exact hz b off hp'
    · intro ha
      have := hn ha
      rw [hps] at this
      simpa using this
    · intro p hp _
      rw [hps]
      simpa using hp
end
end Ax
end Go.Proofs.YtnnhkajjifmlfaaDoor

/-! What the listed variables hold, as the executor has it; the world in which a law begins. -/

namespace Go.Proofs.YtnnhkajjifmlfaaDoor
namespace Ax
/-- one cell that reads as a datum -/
def rdS (P : Program) (ns : List (String × TypeId)) (t : TypeId) (d : DataW Unit) : Option AV :=
  match P.underlying t with
  | some .bool => match d with
    | .lit (.bool b) => some (.b b)
    | _ => none
  | some (.int k) => match d with
    | .lit (.int _ n) => some (.i k n)
    | _ => none
  | some .string => match d with
    | .lit (.string l) => some (.s l)
    | _ => none
  | some (.pointer _) => match d with
    | .nil => some .np
    | _ => some .z
  | some (.slice _) => match d with
    | .nil => some .ns
    | _ => some .z
  | some (.interface _) => match d with
    | .nil => some .ni
    | .iface name _ => (ns.find? fun x => x.1 == name).map fun x => .ifc x.2 .z
    | _ => none
  | _ => none
/-- the names stand for one type each -/
def Ns (P : Program) (ns : List (String × TypeId)) : Prop := ∀ n u, (n, u) ∈ ns → ∀ u', P.typeName? 3 u' = some n → u' = u
section
variable {P : Program} {w : World} {sp : Nat → Bool} {fuel : Nat} {t : TypeId} {cs : List Value} {d : DataW Unit} {p : List MemPlace}
theorem rdS_ok {ns : List (String × TypeId)} (hns : Ns P ns) (ρ : Ren) (h : DataW.trod (fun _ => ()) P w 0 sp false fuel t cs = some (d, p)) {x : AV} (hr : rdS P ns t d = some x) : ∃ v, cs = [v] ∧ VR ρ x v := by
  unfold rdS at hr
  split at hr
  · rename_i ht
    obtain ⟨b, rfl, hx⟩ := DataW.trod_bool ht h
    injection hx with hd hp
    subst hd
    injection hr with hr
    subst hr
    exact ⟨_, rfl, .b b⟩
  · rename_i k ht
    obtain ⟨n, rfl, hx, _⟩ := DataW.trod_int ht h
    injection hx with hd hp
    subst hd
    injection hr with hr
    subst hr
    exact ⟨_, rfl, .i k n⟩
  · rename_i ht
    obtain ⟨s, rfl, hx, _⟩ := DataW.trod_string ht h
    injection hx with hd hp
    subst hd
    injection hr with hr
    subst hr
    exact ⟨_, rfl, .s s.data.toList⟩
  · rename_i e ht
    rcases DataW.trod_pointer ht h with ⟨rfl, hx⟩ | ⟨a, cs', y, n, _, rfl, hx, _⟩
    · injection hx with hd hp
      subst hd
      injection hr with hr
      subst hr
      exact ⟨_, rfl, .np⟩
    · injection hx with hd hp
      subst hd
      injection hr with hr
      subst hr
      exact ⟨_, rfl, .z _⟩
  · rename_i e ht
    rcases DataW.trod_slice ht h with ⟨rfl, hx⟩ | ⟨a, len, cap, elems, rest, n, _, rfl, hx, _⟩
    · injection hx with hd hp
      subst hd
      injection hr with hr
      subst hr
      exact ⟨_, rfl, .ns⟩
    · injection hx with hd hp
      subst hd
      injection hr with hr
      subst hr
      exact ⟨_, rfl, .z _⟩
  · rename_i m ht
    cases fuel with
    | zero => simp [DataW.trod] at h
    | succ n =>
      unfold DataW.trod at h
      simp only [ht] at h
      split at h <;> first | (rename_i hq; cases hq; done) | skip
      · injection h with h
        injection h with hd hp
        subst hd
        injection hr with hr
        subst hr
        exact ⟨_, rfl, .ni⟩
      · rename_i u v hq
        split at h
        · rename_i hf
          cases hf
        · rename_i name hn
          obtain ⟨y, hy, hyd⟩ := Option.map_eq_some_iff.1 h
          injection hyd with hd hp
          subst hd
          simp only at hr
          obtain ⟨z, hz, rfl⟩ := Option.map_eq_some_iff.1 hr
          have hmem := List.mem_of_find?_eq_some hz
          have hname := List.find?_some hz
          have hu := hns z.1 z.2 hmem u (by rw [hn]; rw [beq_iff_eq] at hname; rw [hname])
          subst hu
          exact ⟨_, rfl, .ifc (.z _)⟩
        · cases h
      · cases h
  · cases hr
def rdL (P : Program) (ns : List (String × TypeId)) (e : TypeId) : List (DataW Unit) → Option (List AV)
  | [] => some []
  | d :: r => match rdS P ns e d, rdL P ns e r with
    | some x, some l => some (x :: l)
    | _, _ => none
theorem rdL_ok {P : Program} {ns : List (String × TypeId)} {e : TypeId} : ∀ {ds : List (DataW Unit)} {l : List AV}, rdL P ns e ds = some l → l.length = ds.length ∧ ∀ (i : Nat) (d : DataW Unit), ds[i]? = some d → ∃ x, l[i]? = some x ∧ rdS P ns e d = some x
  | [], l, h => by injection h with h; subst h; exact ⟨rfl, fun i d h => by simp at h⟩
  | d :: r, l, h => by
    unfold rdL at h
    split at h
    · rename_i x m h1 h2
      injection h with h
      subst h
      obtain ⟨h3, h4⟩ := rdL_ok h2
      refine ⟨by simp [h3], fun i d' hd => ?_⟩
      cases i with
      | zero => simp at hd; subst hd; exact ⟨x, rfl, h1⟩
      | succ i => simp at hd; simpa using h4 i d' hd
    · cases h
/-- a variable that reads as a datum -/
def rdV (P : Program) (ns : List (String × TypeId)) (t : TypeId) (d : DataW Unit) : Option (List AV) :=
  match P.underlying t with
  | some (.array n e) => match d with
    | .agg ds => match Nat.beq (P.cellsOf e) 1 && Nat.beq (P.cellsOf t) n with
      | true => rdL P ns e ds
      | false => none
    | _ => none
  | _ => (rdS P ns t d).map fun x => [x]
theorem rdV_ok {ns : List (String × TypeId)} (hns : Ns P ns) (ρ : Ren) (h : DataW.trod (fun _ => ()) P w 0 sp false fuel t cs = some (d, p)) {l : List AV} (hr : rdV P ns t d = some l) : VRs ρ l cs := by
  unfold rdV at hr
  split at hr
  · rename_i n e ht
    split at hr
    · rename_i ds
      split at hr
      · rename_i hc
        rw [Bool.and_eq_true] at hc
        have hce : P.cellsOf e = 1 := Nat.eq_of_beq_eq_true hc.1
        have hct : P.cellsOf t = n := Nat.eq_of_beq_eq_true hc.2
        cases fuel with
        | zero => simp [DataW.trod] at h
        | succ fuel =>
          simp only [DataW.trod, ht, hce, hct, Nat.mul_one] at h
          split at h
          · rename_i hl
            obtain ⟨xs, hm, hx⟩ := Option.map_eq_some_iff.1 h
            have hds : ds = xs.map (·.1) := by
              have := congrArg Prod.fst hx
              simp only at this
              injection this with this
              exact this.symm
            have hxl : xs.length = n := by simpa using Lib.mapM_length hm
            obtain ⟨r1, r2⟩ := rdL_ok hr
            have hll : l.length = n := by rw [r1, hds, List.length_map, hxl]
            refine ⟨by rw [hl, hll], fun i x v h1 h2 => ?_⟩
            have hi : i < n := by rw [← hll]; exact (List.getElem?_eq_some_iff.1 h1).1
            obtain ⟨b, hb, hf⟩ := Lib.mapM_at hm i i (by simp [hi])
            obtain ⟨x', h3, h4⟩ := r2 i b.1 (by rw [hds]; simp [hb])
            obtain rfl := Option.some.inj (h1.symm.trans h3)
            obtain ⟨v', h5, h6⟩ := rdS_ok hns ρ (d := b.1) (p := b.2) hf h4
            have : cs[i]? = some v' := by
              have := congrArg (·[0]?) h5
              simpa [List.getElem?_take, List.getElem?_drop] using this
            obtain rfl := Option.some.inj (h2.symm.trans this)
            exact h6
          · cases h
      · cases hr
    · cases hr
  · obtain ⟨x, h1, rfl⟩ := Option.map_eq_some_iff.1 hr
    obtain ⟨v, rfl, h2⟩ := rdS_ok hns ρ h h1
    exact (VRs.nil ρ).cons h2
end
/-- a block's type, as the program lays it -/
theorem shaped_at {P : Program} {w : World} (h : w.ShapedOpen P) {g : Nat} {t : TypeId} {n : String} {cs : Array Value} (hg : g < P.globals.size)
    (hty : (((begin P (fun _ _ => 0) default).world.heap[g]?).bind Obj.row?).map (·.2) = some t) (hn : P.globalNamed n = some g) (hv : w.var? P n = some cs) : w.heap[g]? = some (.cells cs t (0, 0)) := by
  obtain ⟨⟨zero, t'⟩, h1, h2⟩ := Option.map_eq_some_iff.1 hty
  simp only at h2
  subst h2
  obtain ⟨cs', h3, _⟩ := h.1 g zero t' hg h1
  have : cs' = cs := by
    unfold World.var? at hv
    rw [hn] at hv
    simp only [Option.bind_some, h3] at hv
    injection hv
  rw [← this]
  exact h3
/-- one listed variable's reading -/
theorem laid_reads {P : Program} {w : World} : ∀ {l : List (String × DataW Unit)} {ps : List MemPlace}, DataW.LaidVars P w l ps → ∀ n d, (n, d) ∈ l →
    ∃ g t cs fuel p, P.globalNamed n = some g ∧ (P.globals[g]?).map (·.type) = some t ∧ w.var? P n = some cs ∧ DataW.trod (fun _ => ()) P w 0 (fun _ => true) false fuel t cs.toList = some (d, p)
  | [], _, _, _, _, hm => by cases hm
  | (n', d') :: r, ps, h, n, d, hm => by
    obtain ⟨g, t, cs, fuel, p, q, h1, h2, h3, h4, h5, _⟩ := h
    rcases List.mem_cons.1 hm with e | e
    · cases e
      exact ⟨g, t, cs, fuel, p, h1, h2, h3, h4⟩
    · exact laid_reads h5 n d e
/-- a listed variable's block -/
theorem laid_block {P : Program} {w : World} {laid : List (String × DataW Unit)} (hL : laidMet P laid w) (hsh : w.ShapedOpen P) {ns : List (String × TypeId)} (hns : Ns P ns) {n : String} {d : DataW Unit} (hm : (n, d) ∈ laid) {g : Nat} {t : TypeId} {l : List AV}
    (hg : P.globalNamed n = some g) (hlt : g < P.globals.size) (hgt : (P.globals[g]?).map (·.type) = some t) (hty : (((begin P (fun _ _ => 0) default).world.heap[g]?).bind Obj.row?).map (·.2) = some t) (hr : rdV P ns t d = some l) :
    ∃ arr : Array Value, w.heap[g]? = some (.cells arr t (0, 0)) ∧ ∀ ρ : Ren, VRs ρ l arr.toList := by
  obtain ⟨ps, hv, _⟩ := hL
  obtain ⟨g', t', cs, fuel, p, h1, h2, h3, h4⟩ := laid_reads hv n d hm
  obtain rfl := Option.some.inj (hg.symm.trans h1)
  obtain rfl := Option.some.inj (hgt.symm.trans h2)
  exact ⟨cs, shaped_at hsh hlt hty hg h3, fun ρ => rdV_ok hns ρ h4 hr⟩
end Ax
end Go.Proofs.YtnnhkajjifmlfaaDoor

/-! The heap in which a law begins: the variables that the row lists. -/

namespace Go.Proofs.YtnnhkajjifmlfaaDoor
namespace Ax
/-- the listed variables' blocks: number, cells, type -/
abbrev Gl := Nat × List AV × TypeId
noncomputable def hOf (l : List Gl) : Tr AO := match l with
  | [] => .leaf
  | x :: r => (hOf r).put .x (.k x.2.1 x.2.2) (pth x.1)
theorem hOf_get (l : List Gl) (b : Pn) : hv (hOf l) b = .x ∨ ∃ x ∈ l, b = pth x.1 ∧ hv (hOf l) b = .k x.2.1 x.2.2 := by
  induction l with
  | nil => exact .inl (get_leaf _ _)
  | cons x r ih =>
    have e : hOf (x :: r) = (hOf r).put .x (.k x.2.1 x.2.2) (pth x.1) := rfl
    rw [e, hv_put]
    by_cases h : b = pth x.1
    · subst h
      rw [upd_same]
      exact .inr ⟨x, by simp, rfl, rfl⟩
    · rw [upd_other _ _ h]
      rcases ih with h1 | ⟨y, h1, h2, h3⟩
      · exact .inl h1
      · exact .inr ⟨y, by simp [h1], h2, h3⟩
theorem hOf_own (l : List Gl) (b : Pn) : ¬ own (hv (hOf l) b) := by
  rintro ⟨h1, h2⟩
  rcases hOf_get l b with h | ⟨x, _, _, h⟩
  · exact h1 h
  · exact h2 _ _ h
noncomputable def szOf (w : World) (c : Nat) : Nat := match w.heap[c]? with
  | some (.cells arr _ _) => arr.size
  | _ => 0
/-- where the variables lie -/
noncomputable def ren0 (w : World) (ng : Nat) : Ren := fun b => if b.nat ≤ ng then some ⟨b.nat - 1, 0, szOf w (b.nat - 1)⟩ else none
theorem ren0_pth (w : World) {ng g : Nat} (h : g < ng) : ren0 w ng (pth g) = some ⟨g, 0, szOf w g⟩ := by
  unfold ren0
  rw [nat_pth, if_pos (by omega), Nat.add_sub_cancel]
/-- the listed variables hold what the executor has -/
def Begun (l : List Gl) (ng : Nat) (w : World) : Prop := ∀ x ∈ l, x.1 < ng ∧ ∃ arr : Array Value, w.heap[x.1]? = some (.cells arr x.2.2 (0, 0)) ∧ ∀ ρ : Ren, VRs ρ x.2.1 arr.toList
theorem start_rel {l : List Gl} {ng : Nat} {w : World} (hl : Begun l ng w) : Rel (ren0 w ng) (hv (hOf l)) w where
  ob := fun b hb => by
    rcases hOf_get l b with h | ⟨x, h1, h2, h3⟩
    · exact absurd h hb
    · obtain ⟨hg, arr, ha, hv'⟩ := hl x h1
      refine ⟨⟨x.1, 0, szOf w x.1⟩, by rw [h2]; exact ren0_pth w hg, ?_⟩
      rw [h3]
      have hlen := (hv' (ren0 w ng)).1
      rw [Array.length_toList] at hlen
      refine ⟨arr, 0, 0, ha, ⟨by simp [szOf, ha], rfl⟩, rfl, by simp only; omega, ?_⟩
      have : (arr.toList.drop 0).take x.2.1.length = arr.toList := by
        rw [List.drop_zero, List.take_of_length_le (by rw [Array.length_toList]; omega)]
      simp only
      rw [this]
      exact hv' _
  inj := fun b _ _ _ h1 => absurd h1 (hOf_own l b)
theorem start_gl {E : Env} {ng : Nat} (h : E.ng = ng) (w : World) : GL E (ren0 w ng) := fun g hg => ⟨_, ren0_pth w (by omega), rfl, rfl⟩
theorem start_fresh {l : List Gl} {ng : Nat} {w : World} (hl : ∀ x ∈ l, x.1 < ng) (b : Pn) (hb : (pth ng).nat ≤ b.nat) : ren0 w ng b = none ∧ hv (hOf l) b = .x := by
  rw [nat_pth] at hb
  refine ⟨by unfold ren0; rw [if_neg (by omega)], ?_⟩
  rcases hOf_get l b with h | ⟨x, h1, h2, h3⟩
  · exact h
  · exfalso
    have := hl x h1
    rw [h2, nat_pth] at hb
    omega
/-- **a closed function that the executor finds true answers true in every world that holds the listed variables** -/
theorem begun_true {E : Env} (hE : EOK E) {ix : FuncId → Option Ix} (hI : IxOK E ix) {code : FuncId → Nat × CD} (hC : CodeT E ix code) {m : Nat} {f : FuncId} {us : List AV} {l : List Gl} (hix : ix f = none)
    (hk : okR (trueU E ix (bd E ix code m) f us (hOf l) (pth E.ng)) = true) {w : World} {args : Array Value} (hb : Begun l E.ng w) (ha : ∀ ρ : Ren, VRs ρ us args.toList) :
    Calls E.P f args w fun e w' => e = .returned (.bool true) ∧ Kept w w' :=
  call_true hE hI hC hix hk (start_gl rfl w) (start_rel hb) (ha _) (start_fresh fun x hx => (hb x hx).1) (hOf_own l)
end Ax
end Go.Proofs.YtnnhkajjifmlfaaDoor
