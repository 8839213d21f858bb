/- Intrinsics: what stands in the place of functions without a body. -/
import Derived.Test.YtdfgnoflohfnmaaGreatDoorXc
import Derived.Laws.Externs
import Derived.ChangeSame
import Derived.ChangeArms
import Derived.LaidLaws
import Derived.Lib.LaidTab
import Derived.Lib.Bytealg
import Derived.Lib.BytesEntry
import Derived.Lib.IndexEntry
import Derived.Lib.MakeNoZero
/-! Intrinsics: what stands in the place of functions without a body. -/

namespace Go.Proofs.YtdfgnoflohfnmaaGreatDoor
namespace Ax
end Ax
end Go.Proofs.YtdfgnoflohfnmaaGreatDoor

/-! Tables laid as trees tell the truth. -/

namespace Go.Proofs.YtdfgnoflohfnmaaGreatDoor
namespace Ax
end Ax
end Go.Proofs.YtdfgnoflohfnmaaGreatDoor

/-! From the executor's word to a call of the kit's, and to what a row says behind it. -/

namespace Go.Proofs.YtdfgnoflohfnmaaGreatDoor
namespace Ax
abbrev Kept (W W' : World) : Prop := W.grownBy W' none
theorem Kept.same {W W' : World} (h : Kept W W') (k : Nat) (hk : k < W.heap.size) : W'.heap[k]? = W.heap[k]? := h.block k hk (by simp)
theorem Kept.keptBut {W W' : World} (h : Kept W W') (may : MemPlace → Prop) : W.keptBut W' may := by
  refine ⟨h.os, h.output, fun i hi => ?_⟩
  rw [Kept.same h i hi]
  cases W.heap[i]? with
  | none => rfl
  | some o =>
    cases o <;> first | exact ⟨rfl, rfl, rfl, fun _ _ => rfl⟩ | exact .inr ⟨rfl, rfl⟩ | rfl
theorem Kept.frozen {W W' : World} (h : Kept W W') (a : Addr) (ha : a.block < W.heap.size) : W'.frozen? a = W.frozen? a := by
  unfold World.frozen?
  rw [Kept.same h _ ha]
section
open Go.ChangeShapes Go.WideShapes
variable {H : Type} {enc : TypeId × Value → H} {P : Program}
theorem post_of_kept {f : Func} {s : ChangeSpec} {apart fresh handsOn again : Bool} {W W' : World} {args : Array Value} {v : Value} {ds gs : List (DataW H)} {before pa pv : List MemPlace}
    (hW : DataW.Whole enc P f.params.toList s.vars apart W args.toList ds gs before)
    (hres : ∀ (b : Nat) (sp : Nat → Bool) (hd : Bool), DataW.TrodAll enc P W' b sp hd f.resultTypes.toList (v.resultList f.resultTypes.size) (s.fn H (ds ++ gs)).results [])
    (hargs : ∀ sp : Nat → Bool, (∀ p ∈ before, sp p.block = true) → DataW.TrodAll enc P W' 0 sp true f.params.toList args.toList (s.fn H (ds ++ gs)).args pa)
    (hvars : ∀ sp : Nat → Bool, (∀ p ∈ before, sp p.block = true) → DataW.TrodVars enc P W' sp s.vars (s.fn H (ds ++ gs)).vars pv)
    (hps : before = pa ++ pv) (hk : Kept W W')
    (hok : ∀ (j : Nat) (t : TypeId) (r : Value), f.resultTypes[j]? = some t → (v.resultList f.resultTypes.size)[j]? = some r → Value.okWide P W' .any 0 t r) :
    s.post enc P f apart fresh handsOn again W args v W' := by
  have hold : ∀ p ∈ before, (fun b => decide (b < W.heap.size)) p.block = true := fun p hp => by simpa using hW.lt p hp
  have hlt : ∀ p ∈ before, p.block < W.heap.size := fun p hp => hW.lt p hp
  refine ⟨ds, gs, before, [], pa, pv, hW, hres _ _ _, hargs _ hold, hvars _ hold, World.keptBut_mono (fun p hp => ⟨hp, ?_⟩) (Kept.keptBut hk (· ∈ before)), fun _ => ?_⟩
  · rw [hps, List.mem_append] at hp
    exact Or.inr hp
  · obtain ⟨_, _, _, _, _, hz, hn⟩ := hW
    refine ⟨hok, _, _, ([] ++ pa) ++ pv, ⟨[] ++ pa, pv, trodAll_append (hargs _ (fun _ _ => rfl)) (hres _ _ _), hvars _ (fun _ _ => rfl), rfl, ?_, ?_⟩, ?_⟩
    · intro b off hp
      have hp' : MemPlace.cell b off ∈ before := by rw [hps]; simpa using hp
      rw [Kept.frozen hk ⟨b, off, none⟩ (hlt _ hp')]
      exact hz b off hp'
    · intro ha
      have := hn ha
      rw [hps] at this
      simpa using this
    · intro p hp _
      rw [hps]
      simpa using hp
end
end Ax
end Go.Proofs.YtdfgnoflohfnmaaGreatDoor

/-! What the listed variables hold, as the executor has it; the world in which a law begins. -/

namespace Go.Proofs.YtdfgnoflohfnmaaGreatDoor
namespace Ax
def rdS (P : Program) (ns : List (String × TypeId)) (t : TypeId) (d : DataW Unit) : Option AV :=
  match P.underlying t with
  | some .bool => match d with
    | .lit (.bool b) => some (.b b)
    | _ => none
  | some (.int k) => match d with
    | .lit (.int _ n) => some (.i k n)
    | _ => none
  | some .string => match d with
    | .lit (.string l) => some (.s l)
    | _ => none
  | some (.pointer _) => match d with
    | .nil => some .np
    | _ => some .z
  | some (.slice _) => match d with
    | .nil => some .ns
    | _ => some .z
  | some (.interface _) => match d with
    | .nil => some .ni
    | .iface name _ => (ns.find? fun x => x.1 == name).map fun x => .ifc x.2 .z
    | _ => none
  | _ => none
def Ns (P : Program) (ns : List (String × TypeId)) : Prop := ∀ n u, (n, u) ∈ ns → ∀ u', P.typeName? 3 u' = some n → u' = u
section
variable {P : Program} {w : World} {sp : Nat → Bool} {fuel : Nat} {t : TypeId} {cs : List Value} {d : DataW Unit} {p : List MemPlace}
theorem rdS_ok {ns : List (String × TypeId)} (hns : Ns P ns) (ρ : Ren) (h : DataW.trod (fun _ => ()) P w 0 sp false fuel t cs = some (d, p)) {x : AV} (hr : rdS P ns t d = some x) : ∃ v, cs = [v] ∧ VR ρ x v := by
  unfold rdS at hr
  split at hr
  · rename_i ht
    obtain ⟨b, rfl, hx⟩ := DataW.trod_bool ht h
    injection hx with hd hp
    subst hd
    injection hr with hr
    subst hr
    exact ⟨_, rfl, .b b⟩
  · rename_i k ht
    obtain ⟨n, rfl, hx, _⟩ := DataW.trod_int ht h
    injection hx with hd hp
    subst hd
    injection hr with hr
    subst hr
    exact ⟨_, rfl, .i k n⟩
  · rename_i ht
    obtain ⟨s, rfl, hx, _⟩ := DataW.trod_string ht h
    injection hx with hd hp
    subst hd
    injection hr with hr
    subst hr
    exact ⟨_, rfl, .s s.data.toList⟩
  · rename_i e ht
    rcases DataW.trod_pointer ht h with ⟨rfl, hx⟩ | ⟨a, cs', y, n, _, rfl, hx, _⟩
    · injection hx with hd hp
      subst hd
      injection hr with hr
      subst hr
      exact ⟨_, rfl, .np⟩
    · injection hx with hd hp
      subst hd
      injection hr with hr
      subst hr
      exact ⟨_, rfl, .z _⟩
  · rename_i e ht
    rcases DataW.trod_slice ht h with ⟨rfl, hx⟩ | ⟨a, len, cap, elems, rest, n, _, rfl, hx, _⟩
    · injection hx with hd hp
      subst hd
      injection hr with hr
      subst hr
      exact ⟨_, rfl, .ns⟩
    · injection hx with hd hp
      subst hd
      injection hr with hr
      subst hr
      exact ⟨_, rfl, .z _⟩
  · rename_i m ht
    cases fuel with
    | zero => simp [DataW.trod] at h
    | succ n =>
      unfold DataW.trod at h
      simp only [ht] at h
      split at h <;> first | (rename_i hq; cases hq; done) | skip
      · injection h with h
        injection h with hd hp
        subst hd
        injection hr with hr
        subst hr
        exact ⟨_, rfl, .ni⟩
      · rename_i u v hq
        split at h
        · rename_i hf
          cases hf
        · rename_i name hn
          obtain ⟨y, hy, hyd⟩ := Option.map_eq_some_iff.1 h
          injection hyd with hd hp
          subst hd
          simp only at hr
          obtain ⟨z, hz, rfl⟩ := Option.map_eq_some_iff.1 hr
          have hmem := List.mem_of_find?_eq_some hz
          have hname := List.find?_some hz
          have hu := hns z.1 z.2 hmem u (by rw [hn]; rw [beq_iff_eq] at hname; rw [hname])
          subst hu
          exact ⟨_, rfl, .ifc (.z _)⟩
        · cases h
      · cases h
  · cases hr
def rdL (P : Program) (ns : List (String × TypeId)) (e : TypeId) : List (DataW Unit) → Option (List AV)
  | [] => some []
  | d :: r => match rdS P ns e d, rdL P ns e r with
    | some x, some l => some (x :: l)
    | _, _ => none
theorem rdL_ok {P : Program} {ns : List (String × TypeId)} {e : TypeId} : ∀ {ds : List (DataW Unit)} {l : List AV}, rdL P ns e ds = some l → l.length = ds.length ∧ ∀ (i : Nat) (d : DataW Unit), ds[i]? = some d → ∃ x, l[i]? = some x ∧ rdS P ns e d = some x
  | [], l, h => by injection h with h; subst h; exact ⟨rfl, fun i d h => by simp at h⟩
  | d :: r, l, h => by
    unfold rdL at h
    split at h
    · rename_i x m h1 h2
      injection h with h
      subst h
      obtain ⟨h3, h4⟩ := rdL_ok h2
      refine ⟨by simp [h3], fun i d' hd => ?_⟩
      cases i with
      | zero => simp at hd; subst hd; exact ⟨x, rfl, h1⟩
      | succ i => simp at hd; simpa using h4 i d' hd
    · cases h
def rdV (P : Program) (ns : List (String × TypeId)) (t : TypeId) (d : DataW Unit) : Option (List AV) :=
  match P.underlying t with
  | some (.array n e) => match d with
    | .agg ds => match Nat.beq (P.cellsOf e) 1 && Nat.beq (P.cellsOf t) n with
      | true => rdL P ns e ds
      | false => none
    | _ => none
  | _ => (rdS P ns t d).map fun x => [x]
theorem rdV_ok {ns : List (String × TypeId)} (hns : Ns P ns) (ρ : Ren) (h : DataW.trod (fun _ => ()) P w 0 sp false fuel t cs = some (d, p)) {l : List AV} (hr : rdV P ns t d = some l) : VRs ρ l cs := by
  unfold rdV at hr
  split at hr
  · rename_i n e ht
    split at hr
    · rename_i ds
      split at hr
      · rename_i hc
        rw [Bool.and_eq_true] at hc
        have hce : P.cellsOf e = 1 := Nat.eq_of_beq_eq_true hc.1
        have hct : P.cellsOf t = n := Nat.eq_of_beq_eq_true hc.2
        cases fuel with
        | zero => simp [DataW.trod] at h
        | succ fuel =>
          simp only [DataW.trod, ht, hce, hct, Nat.mul_one] at h
          split at h
          · rename_i hl
            obtain ⟨xs, hm, hx⟩ := Option.map_eq_some_iff.1 h
            have hds : ds = xs.map (·.1) := by
              have := congrArg Prod.fst hx
              simp only at this
              injection this with this
              exact this.symm
            have hxl : xs.length = n := by simpa using Lib.mapM_length hm
            obtain ⟨r1, r2⟩ := rdL_ok hr
            have hll : l.length = n := by rw [r1, hds, List.length_map, hxl]
            refine ⟨by rw [hl, hll], fun i x v h1 h2 => ?_⟩
            have hi : i < n := by rw [← hll]; exact (List.getElem?_eq_some_iff.1 h1).1
            obtain ⟨b, hb, hf⟩ := Lib.mapM_at hm i i (by simp [hi])
            obtain ⟨x', h3, h4⟩ := r2 i b.1 (by rw [hds]; simp [hb])
            obtain rfl := Option.some.inj (h1.symm.trans h3)
            obtain ⟨v', h5, h6⟩ := rdS_ok hns ρ (d := b.1) (p := b.2) hf h4
            have : cs[i]? = some v' := by
              have := congrArg (·[0]?) h5
              simpa [List.getElem?_take, List.getElem?_drop] using this
            obtain rfl := Option.some.inj (h2.symm.trans this)
            exact h6
          · cases h
      · cases hr
    · cases hr
  · obtain ⟨x, h1, rfl⟩ := Option.map_eq_some_iff.1 hr
    obtain ⟨v, rfl, h2⟩ := rdS_ok hns ρ h h1
    exact (VRs.nil ρ).cons h2
end
theorem shaped_at {P : Program} {w : World} (h : w.ShapedOpen P) {g : Nat} {t : TypeId} {n : String} {cs : Array Value} (hg : g < P.globals.size)
    (hty : (((begin P (fun _ _ => 0) default).world.heap[g]?).bind Obj.row?).map (·.2) = some t) (hn : P.globalNamed n = some g) (hv : w.var? P n = some cs) : w.heap[g]? = some (.cells cs t (0, 0)) := by
  obtain ⟨⟨zero, t'⟩, h1, h2⟩ := Option.map_eq_some_iff.1 hty
  simp only at h2
  subst h2
  obtain ⟨cs', h3, _⟩ := h.1 g zero t' hg h1
  have : cs' = cs := by
    unfold World.var? at hv
    rw [hn] at hv
    simp only [Option.bind_some, h3] at hv
    injection hv
  rw [← this]
  exact h3
theorem laid_reads {P : Program} {w : World} : ∀ {l : List (String × DataW Unit)} {ps : List MemPlace}, DataW.LaidVars P w l ps → ∀ n d, (n, d) ∈ l →
    ∃ g t cs fuel p, P.globalNamed n = some g ∧ (P.globals[g]?).map (·.type) = some t ∧ w.var? P n = some cs ∧ DataW.trod (fun _ => ()) P w 0 (fun _ => true) false fuel t cs.toList = some (d, p)
  | [], _, _, _, _, hm => by cases hm
  | (n', d') :: r, ps, h, n, d, hm => by
    obtain ⟨g, t, cs, fuel, p, q, h1, h2, h3, h4, h5, _⟩ := h
    rcases List.mem_cons.1 hm with e | e
    · cases e
      exact ⟨g, t, cs, fuel, p, h1, h2, h3, h4⟩
    · exact laid_reads h5 n d e
theorem laid_block {P : Program} {w : World} {laid : List (String × DataW Unit)} (hL : laidMet P laid w) (hsh : w.ShapedOpen P) {ns : List (String × TypeId)} (hns : Ns P ns) {n : String} {d : DataW Unit} (hm : (n, d) ∈ laid) {g : Nat} {t : TypeId} {l : List AV}
    (hg : P.globalNamed n = some g) (hlt : g < P.globals.size) (hgt : (P.globals[g]?).map (·.type) = some t) (hty : (((begin P (fun _ _ => 0) default).world.heap[g]?).bind Obj.row?).map (·.2) = some t) (hr : rdV P ns t d = some l) :
    ∃ arr : Array Value, w.heap[g]? = some (.cells arr t (0, 0)) ∧ ∀ ρ : Ren, VRs ρ l arr.toList := by
  obtain ⟨ps, hv, _⟩ := hL
  obtain ⟨g', t', cs, fuel, p, h1, h2, h3, h4⟩ := laid_reads hv n d hm
  obtain rfl := Option.some.inj (hg.symm.trans h1)
  obtain rfl := Option.some.inj (hgt.symm.trans h2)
  exact ⟨cs, shaped_at hsh hlt hty hg h3, fun ρ => rdV_ok hns ρ h4 hr⟩
end Ax
end Go.Proofs.YtdfgnoflohfnmaaGreatDoor

/-! The heap in which a law begins: the variables that the row lists. -/

namespace Go.Proofs.YtdfgnoflohfnmaaGreatDoor
namespace Ax
abbrev Gl := Nat × List AV × TypeId
def Begun (l : List Gl) (ng : Nat) (w : World) : Prop := ∀ x ∈ l, x.1 < ng ∧ ∃ arr : Array Value, w.heap[x.1]? = some (.cells arr x.2.2 (0, 0)) ∧ ∀ ρ : Ren, VRs ρ x.2.1 arr.toList
end Ax
end Go.Proofs.YtdfgnoflohfnmaaGreatDoor

/-! Call summaries: a call is reckoned alone, from what it reaches; elsewhere its summary stands in its place. -/

namespace Go.Proofs.YtdfgnoflohfnmaaGreatDoor
namespace Ax
end Ax
end Go.Proofs.YtdfgnoflohfnmaaGreatDoor

/-! Call summaries: what stands in a call's place, and that it may stand there. -/

namespace Go.Proofs.YtdfgnoflohfnmaaGreatDoor
namespace Ax
noncomputable def bc (l : List Nat) : List AV := List.rec [] (fun a _ ih => .i .u8 (.ofNat a) :: ih) l
noncomputable def q (n : Nat) : Pn :=
  Nat.rec (motive := fun _ => Nat → Pn) (fun _ => .one) (fun _ ih n => Bool.rec (Bool.rec (.o (ih (Nat.div n 2))) (.i (ih (Nat.div n 2))) (Nat.beq (Nat.mod n 2) 1)) .one (Nat.ble n 1)) 40 n
end Ax
end Go.Proofs.YtdfgnoflohfnmaaGreatDoor

/-! Call summaries laid before what stands in functions' places; code compiled for any such table. -/

namespace Go.Proofs.YtdfgnoflohfnmaaGreatDoor
namespace Ax
end Ax
end Go.Proofs.YtdfgnoflohfnmaaGreatDoor

/-! maps.clone, in the place of a function without a body. -/

namespace Go.Proofs.YtdfgnoflohfnmaaGreatDoor
namespace Ax
end Ax
end Go.Proofs.YtdfgnoflohfnmaaGreatDoor

/-! Functions without a body that read bytes: first places, counts, order. -/

namespace Go.Proofs.YtdfgnoflohfnmaaGreatDoor
namespace Ax
theorem one_bytes {P : Program} {w : World} {F : ByteArray → Sem Value} {x : Value} {s : ByteArray} (hx : (Extern.Bytes.bytesOf x).run P w = .ok s w) :
    (do let a ← Extern.Bytes.bytesOf x; F a : Sem Value).run P w = (F s).run P w := by
  rw [Sem.run_bind, hx]; rfl
end Ax
end Go.Proofs.YtdfgnoflohfnmaaGreatDoor
namespace Go.Proofs.YtdfgnoflohfnmaaGreatDoor
namespace Ax
end Ax
end Go.Proofs.YtdfgnoflohfnmaaGreatDoor

/-! A call that may come to more than one thing, where all are one in the end: what is no plain memory is laid aside while it runs. -/

namespace Go.Proofs.YtdfgnoflohfnmaaGreatDoor
namespace Ax
theorem OLe.trans {a b c : AO} (h : OLe a b) (k : OLe b c) : OLe a c := ⟨fun ρ ob t hr => k.rel ρ ob t (h.rel ρ ob t hr), fun hc => h.own (k.own hc), fun hc => h.x (k.x hc), fun l ty e => h.k l ty (k.k l ty e)⟩
end Ax
end Go.Proofs.YtdfgnoflohfnmaaGreatDoor
