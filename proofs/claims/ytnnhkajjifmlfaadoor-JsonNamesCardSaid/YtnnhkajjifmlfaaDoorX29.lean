/- What the listed variables hold, as the executor has it; the world in which a law begins. -/
import Derived.Test.YtnnhkajjifmlfaaDoorX28
import Derived.ChangeArms
import Derived.LaidLaws
import Derived.Lib.LaidTab
namespace Go.Proofs.YtnnhkajjifmlfaaDoor
namespace Ax
/-- one cell that reads as a datum -/
def rdS (P : Program) (ns : List (String × TypeId)) (t : TypeId) (d : DataW Unit) : Option AV :=
  match P.underlying t with
  | some .bool => match d with
    | .lit (.bool b) => some (.b b)
    | _ => none
  | some (.int k) => match d with
    | .lit (.int _ n) => some (.i k n)
    | _ => none
  | some .string => match d with
    | .lit (.string l) => some (.s l)
    | _ => none
  | some (.pointer _) => match d with
    | .nil => some .np
    | _ => some .z
  | some (.slice _) => match d with
    | .nil => some .ns
    | _ => some .z
  | some (.interface _) => match d with
    | .nil => some .ni
    | .iface name _ => (ns.find? fun x => x.1 == name).map fun x => .ifc x.2 .z
    | _ => none
  | _ => none
/-- the names stand for one type each -/
def Ns (P : Program) (ns : List (String × TypeId)) : Prop := ∀ n u, (n, u) ∈ ns → ∀ u', P.typeName? 3 u' = some n → u' = u
section
variable {P : Program} {w : World} {sp : Nat → Bool} {fuel : Nat} {t : TypeId} {cs : List Value} {d : DataW Unit} {p : List MemPlace}
theorem rdS_ok {ns : List (String × TypeId)} (hns : Ns P ns) (ρ : Ren) (h : DataW.trod (fun _ => ()) P w 0 sp false fuel t cs = some (d, p)) {x : AV} (hr : rdS P ns t d = some x) : ∃ v, cs = [v] ∧ VR ρ x v := by
  unfold rdS at hr
  split at hr
  · rename_i ht
    obtain ⟨b, rfl, hx⟩ := DataW.trod_bool ht h
    injection hx with hd hp
    subst hd
    injection hr with hr
    subst hr
    exact ⟨_, rfl, .b b⟩
  · rename_i k ht
    obtain ⟨n, rfl, hx, _⟩ := DataW.trod_int ht h
    injection hx with hd hp
    subst hd
    injection hr with hr
    subst hr
    exact ⟨_, rfl, .i k n⟩
  · rename_i ht
    obtain ⟨s, rfl, hx, _⟩ := DataW.trod_string ht h
    injection hx with hd hp
    subst hd
    injection hr with hr
    subst hr
    exact ⟨_, rfl, .s s.data.toList⟩
  · rename_i e ht
    rcases DataW.trod_pointer ht h with ⟨rfl, hx⟩ | ⟨a, cs', y, n, _, rfl, hx, _⟩
    · injection hx with hd hp
      subst hd
      injection hr with hr
      subst hr
      exact ⟨_, rfl, .np⟩
    · injection hx with hd hp
      subst hd
      injection hr with hr
      subst hr
      exact ⟨_, rfl, .z _⟩
  · rename_i e ht
    rcases DataW.trod_slice ht h with ⟨rfl, hx⟩ | ⟨a, len, cap, elems, rest, n, _, rfl, hx, _⟩
    · injection hx with hd hp
      subst hd
      injection hr with hr
      subst hr
      exact ⟨_, rfl, .ns⟩
    · injection hx with hd hp
      subst hd
      injection hr with hr
      subst hr
      exact ⟨_, rfl, .z _⟩
  · rename_i m ht
    cases fuel with
    | zero => simp [DataW.trod] at h
    | succ n =>
      unfold DataW.trod at h
      simp only [ht] at h
      split at h <;> first | (rename_i hq; cases hq; done) | skip
      · injection h with h
        injection h with hd hp
        subst hd
        injection hr with hr
        subst hr
        exact ⟨_, rfl, .ni⟩
      · rename_i u v hq
        split at h
        · rename_i hf
          cases hf
        · rename_i name hn
          obtain ⟨y, hy, hyd⟩ := Option.map_eq_some_iff.1 h
          injection hyd with hd hp
          subst hd
          simp only at hr
          obtain ⟨z, hz, rfl⟩ := Option.map_eq_some_iff.1 hr
          have hmem := List.mem_of_find?_eq_some hz
          have hname := List.find?_some hz
          have hu := hns z.1 z.2 hmem u (by rw [hn]; rw [beq_iff_eq] at hname; rw [hname])
          subst hu
          exact ⟨_, rfl, .ifc (.z _)⟩
        · cases h
      · cases h
  · cases hr
def rdL (P : Program) (ns : List (String × TypeId)) (e : TypeId) : List (DataW Unit) → Option (List AV)
  | [] => some []
  | d :: r => match rdS P ns e d, rdL P ns e r with
    | some x, some l => some (x :: l)
    | _, _ => none
theorem rdL_ok {P : Program} {ns : List (String × TypeId)} {e : TypeId} : ∀ {ds : List (DataW Unit)} {l : List AV}, rdL P ns e ds = some l → l.length = ds.length ∧ ∀ (i : Nat) (d : DataW Unit), ds[i]? = some d → ∃ x, l[i]? = some x ∧ rdS P ns e d = some x
  | [], l, h => by injection h with h; subst h; exact ⟨rfl, fun i d h => by simp at h⟩
  | d :: r, l, h => by
    unfold rdL at h
    split at h
    · rename_i x m h1 h2
      injection h with h
      subst h
      obtain ⟨h3, h4⟩ := rdL_ok h2
      refine ⟨by simp [h3], fun i d' hd => ?_⟩
      cases i with
      | zero => simp at hd; subst hd; exact ⟨x, rfl, h1⟩
      | succ i => simp at hd; simpa using h4 i d' hd
    · cases h
/-- a variable that reads as a datum -/
def rdV (P : Program) (ns : List (String × TypeId)) (t : TypeId) (d : DataW Unit) : Option (List AV) :=
  match P.underlying t with
  | some (.array n e) => match d with
    | .agg ds => match Nat.beq (P.cellsOf e) 1 && Nat.beq (P.cellsOf t) n with
      | true => rdL P ns e ds
      | false => none
    | _ => none
  | _ => (rdS P ns t d).map fun x => [x]
theorem rdV_ok {ns : List (String × TypeId)} (hns : Ns P ns) (ρ : Ren) (h : DataW.trod (fun _ => ()) P w 0 sp false fuel t cs = some (d, p)) {l : List AV} (hr : rdV P ns t d = some l) : VRs ρ l cs := by
  unfold rdV at hr
  split at hr
  · rename_i n e ht
    split at hr
    · rename_i ds
      split at hr
      · rename_i hc
        rw [Bool.and_eq_true] at hc
        have hce : P.cellsOf e = 1 := Nat.eq_of_beq_eq_true hc.1
        have hct : P.cellsOf t = n := Nat.eq_of_beq_eq_true hc.2
        cases fuel with
        | zero => simp [DataW.trod] at h
        | succ fuel =>
          simp only [DataW.trod, ht, hce, hct, Nat.mul_one] at h
          split at h
          · rename_i hl
            obtain ⟨xs, hm, hx⟩ := Option.map_eq_some_iff.1 h
            have hds : ds = xs.map (·.1) := by
              have := congrArg Prod.fst hx
              simp only at this
              injection this with this
              exact this.symm
            have hxl : xs.length = n := by simpa using Lib.mapM_length hm
            obtain ⟨r1, r2⟩ := rdL_ok hr
            have hll : l.length = n := by rw [r1, hds, List.length_map, hxl]
            refine ⟨by rw [hl, hll], fun i x v h1 h2 => ?_⟩
            have hi : i < n := by rw [← hll]; exact (List.getElem?_eq_some_iff.1 h1).1
            obtain ⟨b, hb, hf⟩ := Lib.mapM_at hm i i (by simp [hi])
            obtain ⟨x', h3, h4⟩ := r2 i b.1 (by rw [hds]; simp [hb])
            obtain rfl := Option.some.inj (h1.symm.trans h3)
            obtain ⟨v', h5, h6⟩ := rdS_ok hns ρ (d := b.1) (p := b.2) hf h4
            have : cs[i]? = some v' := by
              have := congrArg (·[0]?) h5
              simpa [List.getElem?_take, List.getElem?_drop] using this
            obtain rfl := Option.some.inj (h2.symm.trans this)
            exact h6
          · cases h
      · cases hr
    · cases hr
  · obtain ⟨x, h1, rfl⟩ := Option.map_eq_some_iff.1 hr
    obtain ⟨v, rfl, h2⟩ := rdS_ok hns ρ h h1
    exact (VRs.nil ρ).cons h2
end
/-- a block's type, as the program lays it -/
theorem shaped_at {P : Program} {w : World} (h : w.ShapedOpen P) {g : Nat} {t : TypeId} {n : String} {cs : Array Value} (hg : g < P.globals.size)
    (hty : (((begin P (fun _ _ => 0) default).world.heap[g]?).bind Obj.row?).map (·.2) = some t) (hn : P.globalNamed n = some g) (hv : w.var? P n = some cs) : w.heap[g]? = some (.cells cs t (0, 0)) := by
  obtain ⟨⟨zero, t'⟩, h1, h2⟩ := Option.map_eq_some_iff.1 hty
  simp only at h2
  subst h2
  obtain ⟨cs', h3, _⟩ := h.1 g zero t' hg h1
  have : cs' = cs := by
    unfold World.var? at hv
    rw [hn] at hv
    simp only [Option.bind_some, h3] at hv
    injection hv
  rw [← this]
  exact h3
/-- one listed variable's reading -/
theorem laid_reads {P : Program} {w : World} : ∀ {l : List (String × DataW Unit)} {ps : List MemPlace}, DataW.LaidVars P w l ps → ∀ n d, (n, d) ∈ l →
    ∃ g t cs fuel p, P.globalNamed n = some g ∧ (P.globals[g]?).map (·.type) = some t ∧ w.var? P n = some cs ∧ DataW.trod (fun _ => ()) P w 0 (fun _ => true) false fuel t cs.toList = some (d, p)
  | [], _, _, _, _, hm => by cases hm
  | (n', d') :: r, ps, h, n, d, hm => by
    obtain ⟨g, t, cs, fuel, p, q, h1, h2, h3, h4, h5, _⟩ := h
    rcases List.mem_cons.1 hm with e | e
    · cases e
      exact ⟨g, t, cs, fuel, p, h1, h2, h3, h4⟩
    · exact laid_reads h5 n d e
/-- a listed variable's block -/
theorem laid_block {P : Program} {w : World} {laid : List (String × DataW Unit)} (hL : laidMet P laid w) (hsh : w.ShapedOpen P) {ns : List (String × TypeId)} (hns : Ns P ns) {n : String} {d : DataW Unit} (hm : (n, d) ∈ laid) {g : Nat} {t : TypeId} {l : List AV}
    (hg : P.globalNamed n = some g) (hlt : g < P.globals.size) (hgt : (P.globals[g]?).map (·.type) = some t) (hty : (((begin P (fun _ _ => 0) default).world.heap[g]?).bind Obj.row?).map (·.2) = some t) (hr : rdV P ns t d = some l) :
    ∃ arr : Array Value, w.heap[g]? = some (.cells arr t (0, 0)) ∧ ∀ ρ : Ren, VRs ρ l arr.toList := by
  obtain ⟨ps, hv, _⟩ := hL
  obtain ⟨g', t', cs, fuel, p, h1, h2, h3, h4⟩ := laid_reads hv n d hm
  obtain rfl := Option.some.inj (hg.symm.trans h1)
  obtain rfl := Option.some.inj (hgt.symm.trans h2)
  exact ⟨cs, shaped_at hsh hlt hty hg h3, fun ρ => rdV_ok hns ρ h4 hr⟩
end Ax
end Go.Proofs.YtnnhkajjifmlfaaDoor
