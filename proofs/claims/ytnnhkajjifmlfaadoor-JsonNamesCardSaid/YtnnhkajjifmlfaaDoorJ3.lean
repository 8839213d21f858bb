/- json.short: the map of the bytes that have an escape of their own. -/
import Derived.Test.YtnnhkajjifmlfaaDoorJ2
import Derived.Maps.RangeWalk
import Derived.Maps.OwnOps
import Derived.Maps.Views
namespace Go.Proofs.YtnnhkajjifmlfaaDoor
open Go.RowKit Go.Maps

/-- a map literal's entry -/
theorem wpList_insert_own {H : Type} {P : Program} (w : World) {ops : Array Oper} {rest : List Oper} {o : Oper} {a : Act} {Q : Exit → Act → World → Prop}
    (hg : o.guard = none) (m x v : Operand) (t : TypeId) (hop : o.op = Op.insert t m x v)
    (k e : TypeId) (K : Keyed P k) (ht : P.underlying t = some (.map k e)) (R : Value → Option (DataW H × List MemPlace)) (b n : Nat) (D : DataW H)
    (hm : a.eval m = .map (some b)) (hown : w.ownsMap P k R b n D) (hn : n < maxLen) (key val : Value) (kl : Lit) (hx : a.eval x = key) (hv : a.eval v = val) (hkey : keyOf P k key = some kl)
    (d : DataW H) (ps : List MemPlace) (hval : R val = some (d, ps))
    (hK : ∀ w', w'.ownsMap P k R b (n + 1) (D.put kl d) → w.grownBy w' (some b) → wpList P ops Q rest (a.put o.dst undef) w') :
    wpList P ops Q (o :: rest) a w := by
  refine wpList_plain hg fun K' hK' => ?_
  obtain ⟨w', hrun, r1, r2⟩ := hown.update K ht hn hkey hval
  unfold Oper.wp
  simp [execOp, hop, hm, hx, hv, hrun, Result.andThen]
  exact hK' _ _ (hK w' r1 r2)

theorem lawU8 : Keyed Tryd.prog 5 := int_keyed Tryd.underlying5
def pu (D : DataW Unit) (k v : Int) : DataW Unit := D.put (.int .u8 k) (.lit (.int .u8 v))
def shortD : DataW Unit := pu (pu (pu (pu (pu (pu (pu (.map []) 34 34) 92 92) 8 98) 9 116) 10 110) 12 102) 13 114

theorem short_step {w : World} {ops : Array Oper} {rest : List Oper} {o : Oper} {a : Act} {Q : Exit → Act → World → Prop} (k v : Int)
    (hg : o.guard = none) (hop : o.op = Op.insert 133 (.tmp 1) (.const (.int .u8 k)) (.const (.int .u8 v))) (hk : (Lit.int .u8 k).wf = true) (hv : (Lit.int .u8 v).wf = true)
    (b n : Nat) (D : DataW Unit) (hm : a.eval (.tmp 1) = .map (some b)) (hn : n < maxLen) (hown : w.ownsMap Tryd.prog 5 (plainElem Tryd.prog 5) b n D)
    (hK : ∀ w', w'.ownsMap Tryd.prog 5 (plainElem Tryd.prog 5) b (n + 1) (pu D k v) → w.grownBy w' (some b) → wpList Tryd.prog ops Q rest (a.put o.dst undef) w') :
    wpList Tryd.prog ops Q (o :: rest) a w :=
  wpList_insert_own w hg _ _ _ 133 hop 5 5 lawU8 Tryd.underlying133 _ b n D hm hown hn _ _ _ rfl rfl (keyOf_int_mk Tryd.underlying5 hk) _ [] (plainElem_int Tryd.underlying5 hv) hK

set_option maxHeartbeats 800000 in
theorem short_any (w : World) :
    Calls Tryd.prog 97 #[] w fun e w' => e = .returned (.map (some w.heap.size)) ∧ w'.ownsMap Tryd.prog 5 (plainElem (H := Unit) Tryd.prog 5) w.heap.size 7 shortD ∧ w.grownBy w' none := by
  have hmm := @run_makeMap Tryd.prog
  have h0 := World.ownsMap_made w Tryd.prog 5 (plainElem (H := Unit) Tryd.prog 5)
  go_enter Tryd.func97, Tryd.ntmps97
  go_wp2_with (first
    | (refine short_step 34 34 rfl rfl (by decide) (by decide) w.heap.size 0 _ rfl (by decide) h0 ?_; intro w1 h1 g1)
    | (refine short_step 92 92 rfl rfl (by decide) (by decide) w.heap.size 1 _ rfl (by decide) h1 ?_; intro w2 h2 g2)
    | (refine short_step 8 98 rfl rfl (by decide) (by decide) w.heap.size 2 _ rfl (by decide) h2 ?_; intro w3 h3 g3)
    | (refine short_step 9 116 rfl rfl (by decide) (by decide) w.heap.size 3 _ rfl (by decide) h3 ?_; intro w4 h4 g4)
    | (refine short_step 10 110 rfl rfl (by decide) (by decide) w.heap.size 4 _ rfl (by decide) h4 ?_; intro w5 h5 g5)
    | (refine short_step 12 102 rfl rfl (by decide) (by decide) w.heap.size 5 _ rfl (by decide) h5 ?_; intro w6 h6 g6)
    | (refine short_step 13 114 rfl rfl (by decide) (by decide) w.heap.size 6 _ rfl (by decide) h6 ?_; intro w7 h7 g7))
  go_ret
  refine ⟨rfl, h7, ?_⟩
  have e : ∀ {a b : World}, a.grownBy b (some w.heap.size) → w.heap.size ≤ a.heap.size → w.grownBy a none → w.grownBy b none := fun h _ k =>
    gb_more k h (fun g hg => by cases hg; exact .inr (Nat.le_refl _))
  have k0 : w.grownBy (w.alloc (.map #[] 0)) none := gb_alloc (gb_refl w _) _
  have k1 := e g1 k0.size k0
  have k2 := e g2 k1.size k1
  have k3 := e g3 k2.size k2
  have k4 := e g4 k3.size k3
  have k5 := e g5 k4.size k4
  have k6 := e g6 k5.size k5
  exact e g7 k6.size k6
end Go.Proofs.YtnnhkajjifmlfaaDoor
