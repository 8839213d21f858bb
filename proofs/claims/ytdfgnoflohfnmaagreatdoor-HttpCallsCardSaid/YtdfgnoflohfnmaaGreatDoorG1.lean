/-
  A region that draws its order, in two parts: where the last operation of a first part waits for all of that part, and every later operation waits for it:
  the first part by one walk in the text's order (each operation one value in every world of a class, a world of the class behind it), the second part from any world of the class.
-/
import Derived.Deep.Quiet
import Derived.Deep.QuietTactic
import Derived.BigQuiet
import Derived.Deep.RegionLaw
namespace Go.Proofs.YtdfgnoflohfnmaaGreatDoor
open Go

section
variable {P : Program} {ops : Array Oper} {md : Region.Mode} {C : World → Prop}
/-- is there an operation between i and p that waits for i? -/
def childB (md : Region.Mode) (ops : Array Oper) (p i : Nat) : Bool :=
  (List.range p).any fun k => decide (i < k) && ((ops[k]?).map fun o => o.after.any fun e => Region.binds md e && decide (e.on = i)).getD false
/-- the split's conditions: edges and guards go back; each operation of the first part but its last has a child in it; each later one waits for the last of the first part, or for a later one -/
def splitB (md : Region.Mode) (ops : Array Oper) (p : Nat) : Bool :=
  decide (0 < p) && decide (p ≤ ops.size)
  && ((List.range ops.size).all fun i => ((ops[i]?).map fun o => (o.after.all fun e => !Region.binds md e || decide (e.on < i)) && (match o.guard with | none => true | some (g, _) => decide (g < i))).getD false)
  && ((List.range (p - 1)).all fun i => childB md ops p i)
  && ((List.range ops.size).all fun j => decide (j < p) || ((ops[j]?).map fun o => o.after.any fun e => Region.binds md e && (decide (e.on + 1 = p) || (decide (p ≤ e.on) && decide (e.on < j)))).getD false)

def Down (md : Region.Mode) (ops : Array Oper) (lp : Array Bool) : Prop :=
  ∀ k o, ops[k]? = some o → lp.getD k false = true → ∀ e ∈ o.after, Region.binds md e = true → lp.getD e.on false = true

theorem getDft {l : Array Bool} {i : Nat} (h : i < l.size) : l.getD i true = l.getD i false := by simp [h]
theorem getD_app_lt {l m : Array Bool} {i : Nat} (d : Bool) (h : i < l.size) : (l ++ m).getD i d = l.getD i d := by
  simp [Array.getElem?_append_left h]
theorem getD_app_ge {l : Array Bool} {r i : Nat} (h : l.size ≤ i) : (l ++ Array.replicate r false).getD i false = false := by
  rw [Array.getD_eq_getD_getElem?, Array.getElem?_append_right h]
  rcases Nat.lt_or_ge (i - l.size) r with h1 | h1
  · simp [h1]
  · rw [Array.getElem?_eq_none (by simpa using h1)]; rfl

theorem splitB_spec {p : Nat} (h : splitB md ops p = true) :
    0 < p ∧ p ≤ ops.size ∧ (∀ i o, ops[i]? = some o → (∀ e ∈ o.after, Region.binds md e = true → e.on < i) ∧ (∀ g b, o.guard = some (g, b) → g < i)) ∧
    (∀ i, i + 1 < p → ∃ k o, i < k ∧ k < p ∧ ops[k]? = some o ∧ ∃ e ∈ o.after, Region.binds md e = true ∧ e.on = i) ∧
    (∀ j o, p ≤ j → ops[j]? = some o → ∃ e ∈ o.after, Region.binds md e = true ∧ (e.on + 1 = p ∨ (p ≤ e.on ∧ e.on < j))) := by
  unfold splitB at h
  simp only [Bool.and_eq_true, decide_eq_true_eq] at h
  obtain ⟨⟨⟨⟨h0, h1⟩, h2⟩, h3⟩, h4⟩ := h
  refine ⟨h0, h1, fun i o ho => ?_, fun i hi => ?_, fun j o hj ho => ?_⟩
  · have hlt : i < ops.size := (Array.getElem?_eq_some_iff.1 ho).1
    have := List.all_eq_true.1 h2 i (List.mem_range.2 hlt)
    rw [ho] at this
    simp only [Option.map_some, Option.getD_some, Bool.and_eq_true] at this
    refine ⟨fun e he hb => ?_, fun g b hg => ?_⟩
    · have h5 := Array.all_eq_true'.1 this.1 e he
      simpa [hb] using h5
    · have h5 := this.2
      rw [hg] at h5
      simpa using h5
  · have h5 := List.all_eq_true.1 h3 i (List.mem_range.2 (by omega))
    unfold childB at h5
    obtain ⟨k, hk, h6⟩ := List.any_eq_true.1 h5
    rw [Bool.and_eq_true, decide_eq_true_eq] at h6
    have hkp := List.mem_range.1 hk
    cases ho : ops[k]? with
    | none => rw [ho] at h6; simp at h6
    | some o =>
      rw [ho] at h6
      simp only [Option.map_some, Option.getD_some] at h6
      obtain ⟨e, he, h7⟩ := Array.any_eq_true'.1 h6.2
      rw [Bool.and_eq_true, decide_eq_true_eq] at h7
      exact ⟨k, o, h6.1, hkp, ho, e, he, h7.1, h7.2⟩
  · have hlt : j < ops.size := (Array.getElem?_eq_some_iff.1 ho).1
    have h5 := List.all_eq_true.1 h4 j (List.mem_range.2 hlt)
    rw [ho] at h5
    have hjp : decide (j < p) = false := decide_eq_false (by omega)
    rw [hjp, Bool.false_or] at h5
    simp only [Option.map_some, Option.getD_some] at h5
    obtain ⟨e, he, h7⟩ := Array.any_eq_true'.1 h5
    rw [Bool.and_eq_true, Bool.or_eq_true, Bool.and_eq_true] at h7
    simp only [decide_eq_true_eq] at h7
    exact ⟨e, he, h7.1, h7.2⟩

/-- the first part's last listed: all of it is -/
theorem down_all {p : Nat} (h : splitB md ops p = true) {lp : Array Bool} (hd : Down md ops lp) (hl : lp.getD (p - 1) false = true) : ∀ i, i < p → lp.getD i false = true := by
  obtain ⟨h0, _, _, h3, _⟩ := splitB_spec h
  have key : ∀ n i, p - i ≤ n → i < p → lp.getD i false = true := by
    intro n
    induction n with
    | zero => intro i h1 h2; omega
    | succ n ih =>
      intro i h1 h2
      by_cases he : i + 1 = p
      · rw [show i = p - 1 by omega]; exact hl
      · obtain ⟨k, o, hik, hkp, ho, e, hm, hb, rfl⟩ := h3 i (by omega)
        exact hd k o ho (ih k (by omega) hkp) e hm hb
  exact fun i hi => key (p - i) i (Nat.le_refl _) hi
/-- the least that is not listed is ready -/
theorem least_ready {p : Nat} (h : splitB md ops p = true) {l : Array Bool} (hs : l.size = ops.size) : ∀ i, i < ops.size → l.getD i true = false → ∃ j, j ≤ i ∧ j ∈ Region.ready md ops l := by
  obtain ⟨_, _, h2, _, _⟩ := splitB_spec h
  intro i
  induction i using Nat.strongRecOn with
  | _ i ih =>
    intro hi hf
    by_cases hx : ∃ j, j < i ∧ l.getD j true = false
    · obtain ⟨j, hj, hjf⟩ := hx
      obtain ⟨k, hk, hr⟩ := ih j hj (by omega) hjf
      exact ⟨k, by omega, hr⟩
    · refine ⟨i, Nat.le_refl _, mem_ready.2 ⟨hf, ops[i], by simp [hi], fun e he hb => ?_⟩⟩
      have hlt := (h2 i ops[i] (by simp [hi])).1 e he hb
      rw [← getDft (by omega)]
      cases hc : l.getD e.on true
      · exact absurd ⟨e.on, hlt, hc⟩ hx
      · rfl
theorem pre_get {p i : Nat} (hi : i < p) : (ops.extract 0 p)[i]? = ops[i]? := by
  simp [Array.getElem?_extract]; omega
theorem pre_yielded {p g : Nat} (hg : g < p) (tmps : Array Value) : yielded (ops.extract 0 p) tmps g = yielded ops tmps g := by
  unfold yielded; rw [pre_get hg]
theorem pre_wanted {p : Nat} {o : Oper} (hg : ∀ g b, o.guard = some (g, b) → g < p) (tmps : Array Value) : Region.wanted o (yielded (ops.extract 0 p) tmps) = Region.wanted o (yielded ops tmps) := by
  unfold Region.wanted
  cases h : o.guard with
  | none => rfl
  | some x => obtain ⟨g, b⟩ := x; simp only; rw [pre_yielded (hg g b h)]
theorem pre_qOp {p i : Nat} (h : splitB md ops p = true) (hi : i < p) {K : Act → Prop} {a : Act} (hq : qOp P (ops.extract 0 p) C i K a) : qOp P ops C i K a := by
  obtain ⟨_, _, h2, _, _⟩ := splitB_spec h
  unfold qOp at *
  rw [pre_get hi] at hq
  cases ho : ops[i]? with
  | none => rw [ho] at hq; exact hq
  | some o =>
    rw [ho] at hq
    simp only at hq ⊢
    rw [pre_wanted (fun g b hg => Nat.lt_trans ((h2 i o ho).2 g b hg) hi)] at hq
    exact hq
/-- one more step of fuel -/
theorem wpAny_more {Q : Exit → Act → World → Prop} : ∀ (f : Nat) (l : Array Bool) (a : Act) (w : World), wpAny P md ops Q f l a w → wpAny P md ops Q (f + 1) l a w
  | 0, _, _, _, h => ⟨fun _ => h.2, fun i hi => by rw [h.1] at hi; cases hi⟩
  | f + 1, _, _, _, h => ⟨h.1, fun i hi => wpOp_mono (fun a w hw => wpAny_more f _ a w hw) (h.2 i hi)⟩
theorem wpAny_mores {Q : Exit → Act → World → Prop} (k : Nat) {f : Nat} {l : Array Bool} {a : Act} {w : World} (h : wpAny P md ops Q f l a w) : wpAny P md ops Q (k + f) l a w := by
  induction k with
  | zero => rwa [Nat.zero_add]
  | succ k ih => rw [show k + 1 + f = (k + f) + 1 by omega]; exact wpAny_more _ _ _ _ ih
theorem set_app {lp : Array Bool} {m : Array Bool} {i : Nat} (h : i < lp.size) : (lp ++ m).setIfInBounds i true = lp.setIfInBounds i true ++ m := by
  apply Array.ext_getElem?
  intro j
  by_cases hij : i = j
  · subst hij
    rw [Array.getElem?_append_left (by simpa using h), Array.getElem?_setIfInBounds_self_of_lt (by simp; omega), Array.getElem?_setIfInBounds_self_of_lt h]
  · rw [Array.getElem?_setIfInBounds_ne hij]
    rcases Nat.lt_or_ge j lp.size with hj | hj
    · rw [Array.getElem?_append_left hj, Array.getElem?_append_left (by simpa using hj), Array.getElem?_setIfInBounds_ne hij]
    · rw [Array.getElem?_append_right hj, Array.getElem?_append_right (by simpa using hj)]
      simp

theorem split_go {p r : Nat} (h : splitB md ops p = true) (hr : ops.size = p + r) {Q : Act → Prop} {Q' : Exit → Act → World → Prop}
    (hQ : ∀ a w, C w → Q a → wpAny P md ops Q' r (Array.replicate p true ++ Array.replicate r false) a w) :
    ∀ (fuel : Nat) (lp : Array Bool) (a : Act) (w : World), lp.size = p → Down md ops lp → C w → wpAnyQ P md (ops.extract 0 p) C Q fuel lp a → wpAny P md ops Q' (fuel + r) (lp ++ Array.replicate r false) a w := by
  obtain ⟨h0, h1, h2, h3, h4⟩ := splitB_spec h
  have hlt : ∀ {lp : Array Bool} {i : Nat}, lp.size = p → lp.getD i true = false → i < p := fun {lp i} hs hf => by
    rcases Nat.lt_or_ge i lp.size with h5 | h5
    · omega
    · simp [Array.getElem?_eq_none h5] at hf
  -- what is ready in the whole is ready in the first part, and the other way
  have rdy : ∀ (lp : Array Bool), lp.size = p → Down md ops lp → (∃ i, i < p ∧ lp.getD i false = false) → ∀ i, i ∈ Region.ready md ops (lp ++ Array.replicate r false) → i < p ∧ i ∈ Region.ready md (ops.extract 0 p) lp := by
    intro lp hs hd hun i hi
    obtain ⟨hf, o, ho, hall⟩ := mem_ready.1 hi
    have hip : i < p := by
      rcases Nat.lt_or_ge i p with h5 | h5
      · exact h5
      · exfalso
        obtain ⟨e, he, hb, hc⟩ := h4 i o h5 ho
        have h6 := hall e he hb
        rcases hc with hc | ⟨hc, _⟩
        · rw [getD_app_lt false (by omega)] at h6
          obtain ⟨u, hu, huf⟩ := hun
          have := down_all h hd (by rw [show p - 1 = e.on by omega]; exact h6) u hu
          rw [this] at huf; cases huf
        · rw [getD_app_ge (by omega)] at h6; cases h6
    refine ⟨hip, mem_ready.2 ⟨by rw [getD_app_lt true (by omega)] at hf; exact hf, o, by rw [pre_get hip]; exact ho, fun e he hb => ?_⟩⟩
    have h6 := hall e he hb
    have h7 := (h2 i o ho).1 e he hb
    rwa [getD_app_lt false (by omega)] at h6
  have rdy2 : ∀ (lp : Array Bool), lp.size = p → (∃ i, i < p ∧ lp.getD i false = false) → Region.ready md ops (lp ++ Array.replicate r false) ≠ [] := by
    intro lp hs ⟨i, hi, hf⟩ hnil
    obtain ⟨j, _, hj⟩ := least_ready h (l := lp ++ Array.replicate r false) (by simp [hs, hr]) i (by omega) (by rw [getD_app_lt true (by omega), getDft (by omega)]; exact hf)
    rw [hnil] at hj; cases hj
  have full : ∀ (lp : Array Bool), lp.size = p → (∀ i, i < p → lp.getD i false = true) → lp = Array.replicate p true := by
    intro lp hs hall
    apply Array.ext
    · simpa using hs
    · intro i h5 h6
      have := hall i (by omega)
      rw [Array.getD_eq_getD_getElem?, Array.getElem?_eq_getElem h5] at this
      simpa using this
  have nord : ∀ (lp : Array Bool), lp.size = p → (∀ i, i < p → lp.getD i false = true) → Region.ready md (ops.extract 0 p) lp = [] := by
    intro lp hs hall
    apply List.eq_nil_iff_forall_not_mem.2
    intro i hi
    obtain ⟨hf, _⟩ := mem_ready.1 hi
    have h5 := hlt hs hf
    have := hall i h5
    rw [← getDft (by omega), hf] at this; cases this
  intro fuel
  induction fuel with
  | zero =>
    intro lp a w hs hd hC hq
    by_cases hall : ∀ i, i < p → lp.getD i false = true
    · rw [Nat.zero_add, full lp hs hall]
      exact hQ a w hC hq.2
    · exfalso
      have hex : ∃ i, i < p ∧ lp.getD i false = false := by
        refine Classical.byContradiction fun hn => hall fun i hi => ?_
        cases hc : lp.getD i false
        · exact absurd ⟨i, hi, hc⟩ hn
        · rfl
      have h5 := rdy2 lp hs hex
      cases hr2 : Region.ready md ops (lp ++ Array.replicate r false) with
      | nil => exact h5 hr2
      | cons i t =>
        have := (rdy lp hs hd hex i (by rw [hr2]; simp)).2
        rw [hq.1] at this; cases this
  | succ fuel ih =>
    intro lp a w hs hd hC hq
    by_cases hall : ∀ i, i < p → lp.getD i false = true
    · have h5 := hq.1 (nord lp hs hall)
      rw [full lp hs hall]
      exact wpAny_mores _ (hQ a w hC h5)
    · have hex : ∃ i, i < p ∧ lp.getD i false = false := by
        refine Classical.byContradiction fun hn => hall fun i hi => ?_
        cases hc : lp.getD i false
        · exact absurd ⟨i, hi, hc⟩ hn
        · rfl
      rw [show fuel + 1 + r = (fuel + r) + 1 by omega]
      refine ⟨fun hnil => absurd hnil (rdy2 lp hs hex), fun i hi => ?_⟩
      obtain ⟨hip, hir⟩ := rdy lp hs hd hex i hi
      refine wpOp_of_qOp hC (fun a' w' hC' hK => ?_) (pre_qOp h hip (hq.2 i hir))
      rw [set_app (by omega)]
      refine ih _ a' w' (by simpa using hs) ?_ hC' hK
      intro k o ho hk e he hb
      by_cases hik : i = k
      · subst hik
        obtain ⟨_, o2, ho2, hall2⟩ := mem_ready.1 hir
        rw [pre_get hip, ho] at ho2
        injection ho2 with ho2
        subst ho2
        exact getD_set_true (hall2 e he hb)
      · rw [getD_set_ne false hik] at hk
        exact getD_set_true (hd k o ho hk e he hb)

/-- **the region's wp, in two parts** -/
theorem wp_region_split {id : Nat} {Q : Exit → Act → World → Prop} {a : Act} {w : World} {l m : List Oper} (hm : P.follows .mixedOrders = true) (hs : splitB .any (l ++ m).toArray l.length = true) (hB : Region.lexB .any l.toArray = true)
    (hC : C w.drew)
    (h : wpQuiet P l.toArray C (fun a' => ∀ w', C w' → wpAny P .any (l ++ m).toArray Q m.length (Array.replicate l.length true ++ Array.replicate m.length false) a' w') l a) : (Code.region id (l ++ m).toArray true).wp P Q a w := by
  simp only [Region.lexB, Bool.and_eq_true] at hB
  have hex : (l ++ m).toArray.extract 0 l.length = l.toArray := by simp
  have h5 := wpAnyQ_lex (C := C) (md := .any) hB.1 l 0 (Array.replicate l.length false) a (by simp) (by simpa using hB.2) h
  have h6 := split_go (P := P) (C := C) (Q := fun a' => ∀ w', C w' → wpAny P .any (l ++ m).toArray Q m.length (Array.replicate l.length true ++ Array.replicate m.length false) a' w') (Q' := Q) hs (r := m.length) (by simp) (fun a' w' hw' hq => hq w' hw') l.length (Array.replicate l.length false) a w.drew (by simp)
    (fun k o _ hk => by
      rw [Array.getD_eq_getD_getElem?] at hk
      rcases Nat.lt_or_ge k l.length with h7 | h7
      · simp [h7] at hk
      · simp [Array.getElem?_eq_none (show (Array.replicate l.length false).size ≤ k by simpa using h7)] at hk) hC (by rw [hex]; exact h5)
  refine wp_region_any hm ?_
  have e1 : (l ++ m).toArray.size = l.length + m.length := by simp
  have e2 : Array.replicate (l ++ m).toArray.size false = Array.replicate l.length false ++ Array.replicate m.length false := by rw [e1]; simp
  rw [e2, e1]
  exact h6
end
end Go.Proofs.YtdfgnoflohfnmaaGreatDoor
/-! A region in two parts, at the class of the worlds that have grown out of one. -/
namespace Go.Proofs.YtdfgnoflohfnmaaGreatDoor
open Go Go.RowKit
/-- a world that has grown out of w -/
structure Grown (w : World) where
  W : World
  h : w.grownBy W none
instance (w : World) : Nonempty (Grown w) := ⟨⟨w, ⟨rfl, rfl, rfl, Nat.le_refl _, fun _ _ _ => rfl⟩⟩⟩
theorem wp_region_grown {P : Program} {id : Nat} {Q : Exit → Act → World → Prop} {a : Act} {w : World} {L l : List Oper} (p r : Nat) (hl : L.take p = l) (hr : (L.drop p).length = r) (hg : w.grownBy w.drew none)
    (hm : P.follows .mixedOrders = true) (hs : splitB .any L.toArray p = true) (hp : (L.take p).length = p) (hB : Region.lexB .any (L.take p).toArray = true)
    (h : wpQuiet P l.toArray (fun W => ∃ G : Grown w, W = G.W) (fun a' => ∀ G : Grown w, wpAny P .any L.toArray Q r (Array.replicate p true ++ Array.replicate r false) a' G.W) l a) :
    (Code.region id L.toArray true).wp P Q a w := by
  subst hl; subst hr
  have e : L = L.take p ++ L.drop p := (List.take_append_drop p L).symm
  have := wp_region_split (P := P) (id := id) (Q := Q) (a := a) (w := w) (C := fun W => ∃ G : Grown w, W = G.W) (l := L.take p) (m := L.drop p) hm (by rw [← e, hp]; exact hs) hB ⟨⟨w.drew, hg⟩, rfl⟩
    (by rw [← e, hp]; exact (show _ from by
          have h2 := h
          simpa using h2))
  rw [← e] at this
  exact this
/-- a call, in every world that has grown out of w: one value -/
def QC (P : Program) (w : World) (f : FuncId) (args : Array Value) (v : Value) : Prop := ∀ G : Grown w, Calls P f args G.W fun e w' => e = .returned v ∧ w.grownBy w' none
theorem QC.at {P : Program} {w : World} {f : FuncId} {args : Array Value} {v : Value} (h : QC P w f args v) (G : Grown w) : Calls P f args G.W fun e w' => e = .returned v ∧ ∃ G' : Grown w, w' = G'.W :=
  (h G).mono fun _ w' hh => ⟨hh.1, ⟨⟨w', hh.2⟩, rfl⟩⟩
end Go.Proofs.YtdfgnoflohfnmaaGreatDoor
