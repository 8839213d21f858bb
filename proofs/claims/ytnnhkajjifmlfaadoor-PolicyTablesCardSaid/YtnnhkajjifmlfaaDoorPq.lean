/- Policies: is a node of a list so: slices.IndexFunc, ContainsFunc: the walks. -/
import Derived.Test.YtnnhkajjifmlfaaDoorPp
namespace Go.Proofs.YtnnhkajjifmlfaaDoor.Pl
open Go.RowKit Go.Maps

/-- the six cells of a node -/
def NodeAt (w : World) (b q : Nat) (x : PN) : Prop :=
  w.cell? ⟨b, q, none⟩ = some (.int .i64 x.k) ∧ w.cell? ⟨b, q + 1, none⟩ = some (.int .i64 x.n) ∧ w.cell? ⟨b, q + 2, none⟩ = some (.string x.a) ∧ w.cell? ⟨b, q + 3, none⟩ = some (.string x.b) ∧ w.cell? ⟨b, q + 4, none⟩ = some (.int .i64 x.l) ∧ w.cell? ⟨b, q + 5, none⟩ = some (.int .i64 x.r)
/-- nodes in memory -/
def NodesAt (w : World) (S : Nat → Prop) (v : Value) (l : List PN) : Prop :=
  ∃ A c, v = .slice A l.length c ∧ (0 < l.length → ∃ b o, A = some ⟨b, o, none⟩ ∧ S b ∧ ∀ i (h : i < l.length), NodeAt w b (o + i * 6) l[i])
section
variable {w w' : World} {S S' : Nat → Prop} {v : Value} {l : List PN}
theorem NodeAt.keep {b q : Nat} {x : PN} (h : NodeAt w b q x) (hb : w'.heap[b]? = w.heap[b]?) : NodeAt w' b q x := by
  have t : ∀ q, w'.cell? ⟨b, q, none⟩ = w.cell? ⟨b, q, none⟩ := fun q => World.cell?_of_block (w := w) (a := ⟨b, q, none⟩) hb
  obtain ⟨h0, h1, h2, h3, h4, h5⟩ := h
  exact ⟨by rw [t]; exact h0, by rw [t]; exact h1, by rw [t]; exact h2, by rw [t]; exact h3, by rw [t]; exact h4, by rw [t]; exact h5⟩
theorem NodesAt.keep (h : NodesAt w S v l) (hk : ∀ b, S b → w'.heap[b]? = w.heap[b]?) (hs : ∀ b, S b → S' b) : NodesAt w' S' v l := by
  obtain ⟨A, c, rfl, h⟩ := h
  refine ⟨A, c, rfl, fun h0 => ?_⟩
  obtain ⟨b, o, rfl, hb, hcell⟩ := h h0
  exact ⟨b, o, rfl, hs b hb, fun i hi => (hcell i hi).keep (hk b hb)⟩
theorem NodesAt.grown (h : NodesAt w S v l) {row : Option Nat} (hg : w.grownBy w' row) (hS : ∀ b, S b → b < w.heap.size ∧ some b ≠ row) : NodesAt w' S v l :=
  h.keep (fun b hb => hg.block b (hS b hb).1 (hS b hb).2) (fun _ => id)
end
theorem nodesC_get : ∀ (l : List PN) (i : Nat) (h : i < l.length), (nodesC l)[i * 6]? = some (.int .i64 l[i].k) ∧ (nodesC l)[i * 6 + 1]? = some (.int .i64 l[i].n) ∧ (nodesC l)[i * 6 + 2]? = some (.string l[i].a) ∧ (nodesC l)[i * 6 + 3]? = some (.string l[i].b) ∧ (nodesC l)[i * 6 + 4]? = some (.int .i64 l[i].l) ∧ (nodesC l)[i * 6 + 5]? = some (.int .i64 l[i].r)
  | x :: l, 0, _ => ⟨rfl, rfl, rfl, rfl, rfl, rfl⟩
  | x :: l, i + 1, h => by
    obtain ⟨h0, h1, h2, h3, h4, h5⟩ := nodesC_get l i (by simpa using h)
    have s : ∀ q, (nodesC (x :: l))[(i + 1) * 6 + q]? = (nodesC l)[i * 6 + q]? := fun q => by
      rw [show (i + 1) * 6 + q = (i * 6 + q) + 6 from by omega]
      show (nodeC x ++ nodesC l)[(i * 6 + q) + 6]? = _
      rw [List.getElem?_append_right (by simp [nodeC])]
      rfl
    exact ⟨(s 0).trans h0, (s 1).trans h1, (s 2).trans h2, (s 3).trans h3, (s 4).trans h4, (s 5).trans h5⟩
/-- what a reader has put can be read -/
theorem NodesAt.of_own {w : World} {B : Nat} {A : Option Addr} {c : Nat} {l : List PN} (h : w.ownsRow B 64 6 (.slice A l.length c) l.length (nodesC l)) : NodesAt w (fun b => (Value.slice A l.length c).ownBlock = some b) (.slice A l.length c) l := by
  refine ⟨A, c, rfl, fun h0 => ?_⟩
  obtain ⟨g, cap, e, _, _⟩ := h.form h0
  cases e
  refine ⟨g, 0, rfl, rfl, fun i hi => ?_⟩
  have ad : ∀ q, (⟨g, 0, none⟩ : Addr).add q = ⟨g, 0 + q, none⟩ := fun q => by unfold Addr.add; split <;> simp_all
  have t : ∀ q u, (nodesC l)[q]? = some u → w.cell? ⟨g, 0 + q, none⟩ = some u := fun q u hq => by rw [← ad]; exact h.cells (g := g) rfl q u hq
  obtain ⟨h0, h1, h2, h3, h4, h5⟩ := nodesC_get l i hi
  exact ⟨t _ _ h0, t _ _ h1, t _ _ h2, t _ _ h3, t _ _ h4, t _ _ h5⟩
/-- the place of the first that is so, from i on; -1: none -/
def ixFrom (p : PN → Bool) : List PN → Nat → Int
  | [], _ => -1
  | x :: l, i => if p x then (i : Int) else ixFrom p l (i + 1)
theorem ix_any (p : PN → Bool) : ∀ (l : List PN) (i : Nat), decide (0 ≤ ixFrom p l i) = l.any p
  | [], i => by rfl
  | x :: l, i => by
    unfold ixFrom
    rw [List.any_cons]
    cases p x with
    | true => simp
    | false => simp only [Bool.false_eq_true, if_false, Bool.false_or]; exact ix_any p l (i + 1)
theorem ix_at (p : PN → Bool) (l : List PN) (q : Nat) (h : q < l.length) : ixFrom p (l.drop q) q = if p l[q] then (q : Int) else ixFrom p (l.drop (q + 1)) (q + 1) := by
  rw [List.drop_eq_getElem_cons h]; rfl
/-- what a closure over nodes is to answer -/
def PredC (f : Nat) (p : PN → Bool) : Prop := ∀ (x : PN) (w : World), Calls Tryd.prog f #[nodeV x] w fun e w' => e = .returned (.bool (p x)) ∧ w.grownBy w' none
set_option maxRecDepth 100000 in
set_option maxHeartbeats 3200000 in
theorem index_73 (p : PN → Bool) (hp : PredC 73 p) (l : List PN) (S : Nat → Prop) (v : Value) (w : World) (hl : l.length ≤ 140737488355328) (h : NodesAt w S v l) (hS : ∀ b, S b → b < w.heap.size) :
    Calls Tryd.prog 119 #[v, .func (.func 73) #[] #[]] w fun e w' => e = .returned (.int .i64 (ixFrom p l 0)) ∧ w.grownBy w' none := by
  obtain ⟨A, c, rfl, hA⟩ := h
  have hl' := Lib.hid hl
  go_enter Tryd.func119, Tryd.ntmps119
  clear hl
  go_wp2_with fail
  go_loopg [8] l.length (fun z u8 wr => ∃ q : Nat, q ≤ l.length ∧ z = l.length - q ∧ u8 = .int .i64 q ∧ Hid (ixFrom p l 0 = ixFrom p (l.drop q) q) ∧ w.grownBy wr none)
  case atStart => exact ⟨0, Nat.zero_le _, rfl, rfl, rfl, gb_refl _ _⟩
  case round =>
    obtain ⟨q, hq, rfl, rfl, hno, hg⟩ := hrel
    by_cases hlt : q < l.length
    · obtain ⟨b, o, rfl, hSb, hcell⟩ := hA (by omega)
      have hqi : (q : Int) < (l.length : Int) := by omega
      obtain ⟨c0, c1, c2, c3, c4, c5⟩ := (hcell q hlt).keep (hg.block b (hS b hSb) (by simp))
      have hq1 := Lib.hid (show wrap64 ((q : Int) + 1) = ((q + 1 : Nat) : Int) from (wrap64_id (by omega) (by have := hl'.out; omega)).trans (by omega))
      have hst := Lib.hid (ix_at p l q hlt)
      have hP := fun W => Lib.hid (hp l[q] W)
      clear hA hcell hp
      generalize p l[q] = y at *
      generalize l[q] = x at *
      cases y with
      | true =>
        go_wp2_with (first
          | (go_at_call 73; refine ((hP _).out).mono ?_; rintro e w4 ⟨rfl, hg4⟩))
        go_ret
        exact ⟨by rw [hno.out, hst.out]; rfl, gb_trans hg hg4⟩
      | false =>
        go_wp2_with (first
          | (go_at_call 73; refine ((hP _).out).mono ?_; rintro e w4 ⟨rfl, hg4⟩))
        go_roundg (l.length - (q + 1))
        case measure => omega
        case rel => exact ⟨q + 1, hlt, rfl, by first | rw [hq1.out] | go_num, by unfold Hid; rw [hno.out, hst.out]; rfl, gb_trans hg hg4⟩
    · obtain rfl : q = l.length := by omega
      have hfin : Hid (ixFrom p l 0 = -1) := by unfold Hid; rw [hno.out, List.drop_length]; rfl
      clear hno hA hp
      go_wp2_with fail
      go_ret
      exact ⟨by rw [hfin.out]; rfl, hg⟩
theorem contains_73 (p : PN → Bool) (hp : PredC 73 p) (l : List PN) (S : Nat → Prop) (v : Value) (w : World) (hl : l.length ≤ 140737488355328) (h : NodesAt w S v l) (hS : ∀ b, S b → b < w.heap.size) :
    Calls Tryd.prog 72 #[v, .func (.func 73) #[] #[]] w fun e w' => e = .returned (.bool (l.any p)) ∧ w.grownBy w' none := by
  have hI := Lib.hid (index_73 p hp l S v w hl h hS)
  rw [← ix_any p l 0]
  generalize ixFrom p l 0 = j at *
  go_enter Tryd.func72, Tryd.ntmps72
  go_wp2_with (first
    | (go_at_call 119; refine (hI.out).mono ?_; rintro e w4 ⟨rfl, hg4⟩))
  go_ret
  exact ⟨rfl, hg4⟩
set_option maxRecDepth 100000 in
set_option maxHeartbeats 3200000 in
theorem index_74 (p : PN → Bool) (hp : PredC 74 p) (l : List PN) (S : Nat → Prop) (v : Value) (w : World) (hl : l.length ≤ 140737488355328) (h : NodesAt w S v l) (hS : ∀ b, S b → b < w.heap.size) :
    Calls Tryd.prog 119 #[v, .func (.func 74) #[] #[]] w fun e w' => e = .returned (.int .i64 (ixFrom p l 0)) ∧ w.grownBy w' none := by
  obtain ⟨A, c, rfl, hA⟩ := h
  have hl' := Lib.hid hl
  go_enter Tryd.func119, Tryd.ntmps119
  clear hl
  go_wp2_with fail
  go_loopg [8] l.length (fun z u8 wr => ∃ q : Nat, q ≤ l.length ∧ z = l.length - q ∧ u8 = .int .i64 q ∧ Hid (ixFrom p l 0 = ixFrom p (l.drop q) q) ∧ w.grownBy wr none)
  case atStart => exact ⟨0, Nat.zero_le _, rfl, rfl, rfl, gb_refl _ _⟩
  case round =>
    obtain ⟨q, hq, rfl, rfl, hno, hg⟩ := hrel
    by_cases hlt : q < l.length
    · obtain ⟨b, o, rfl, hSb, hcell⟩ := hA (by omega)
      have hqi : (q : Int) < (l.length : Int) := by omega
      obtain ⟨c0, c1, c2, c3, c4, c5⟩ := (hcell q hlt).keep (hg.block b (hS b hSb) (by simp))
      have hq1 := Lib.hid (show wrap64 ((q : Int) + 1) = ((q + 1 : Nat) : Int) from (wrap64_id (by omega) (by have := hl'.out; omega)).trans (by omega))
      have hst := Lib.hid (ix_at p l q hlt)
      have hP := fun W => Lib.hid (hp l[q] W)
      clear hA hcell hp
      generalize p l[q] = y at *
      generalize l[q] = x at *
      cases y with
      | true =>
        go_wp2_with (first
          | (go_at_call 74; refine ((hP _).out).mono ?_; rintro e w4 ⟨rfl, hg4⟩))
        go_ret
        exact ⟨by rw [hno.out, hst.out]; rfl, gb_trans hg hg4⟩
      | false =>
        go_wp2_with (first
          | (go_at_call 74; refine ((hP _).out).mono ?_; rintro e w4 ⟨rfl, hg4⟩))
        go_roundg (l.length - (q + 1))
        case measure => omega
        case rel => exact ⟨q + 1, hlt, rfl, by first | rw [hq1.out] | go_num, by unfold Hid; rw [hno.out, hst.out]; rfl, gb_trans hg hg4⟩
    · obtain rfl : q = l.length := by omega
      have hfin : Hid (ixFrom p l 0 = -1) := by unfold Hid; rw [hno.out, List.drop_length]; rfl
      clear hno hA hp
      go_wp2_with fail
      go_ret
      exact ⟨by rw [hfin.out]; rfl, hg⟩
theorem contains_74 (p : PN → Bool) (hp : PredC 74 p) (l : List PN) (S : Nat → Prop) (v : Value) (w : World) (hl : l.length ≤ 140737488355328) (h : NodesAt w S v l) (hS : ∀ b, S b → b < w.heap.size) :
    Calls Tryd.prog 72 #[v, .func (.func 74) #[] #[]] w fun e w' => e = .returned (.bool (l.any p)) ∧ w.grownBy w' none := by
  have hI := Lib.hid (index_74 p hp l S v w hl h hS)
  rw [← ix_any p l 0]
  generalize ixFrom p l 0 = j at *
  go_enter Tryd.func72, Tryd.ntmps72
  go_wp2_with (first
    | (go_at_call 119; refine (hI.out).mono ?_; rintro e w4 ⟨rfl, hg4⟩))
  go_ret
  exact ⟨rfl, hg4⟩
end Go.Proofs.YtnnhkajjifmlfaaDoor.Pl
