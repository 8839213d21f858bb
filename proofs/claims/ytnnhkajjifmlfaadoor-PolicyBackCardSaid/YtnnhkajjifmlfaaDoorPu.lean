/- Policies: are two the same; are they gone through: the walks. -/
import Derived.Test.YtnnhkajjifmlfaaDoorPt
namespace Go.Proofs.YtnnhkajjifmlfaaDoor.Pl
open Go.RowKit Go.Maps

theorem run_ne64 (x y : PN) (w : World) : (binOp .neq 64 (.agg #[.int .i64 x.k, .int .i64 x.n, .string x.a, .string x.b, .int .i64 x.l, .int .i64 x.r]) (.agg #[.int .i64 y.k, .int .i64 y.n, .string y.a, .string y.b, .int .i64 y.l, .int .i64 y.r])).run Tryd.prog w = .ok (.bool (!decide (x = y))) w := by
  have h := run_eq64 x y w
  rw [run_eql_struct] at h
  rw [run_neq_struct]
  revert h
  generalize (Op.equalIn 10000 64 (.agg #[.int .i64 x.k, .int .i64 x.n, .string x.a, .string x.b, .int .i64 x.l, .int .i64 x.r]) (.agg #[.int .i64 y.k, .int .i64 y.n, .string y.a, .string y.b, .int .i64 y.l, .int .i64 y.r])).run Tryd.prog w = r
  intro h
  cases r with
  | ok b w1 =>
    simp only [Result.andThen_ok] at h ⊢
    injection h with h1 h2
    injection h1 with h1
    rw [h1, h2]
  | halt x w1 => simp [Result.andThen] at h
theorem take_eq_succ {a b : List PN} {q : Nat} (h1 : q < a.length) (h2 : q < b.length) (h : a.take q = b.take q) : (a.take (q + 1) = b.take (q + 1)) ↔ a[q] = b[q] := by
  have e : ∀ (l : List PN) (hl : q < l.length), l.take (q + 1) = l.take q ++ [l[q]] := fun l hl => by
    rw [List.take_add_one, List.getElem?_eq_getElem hl]; rfl
  rw [e a h1, e b h2, h]
  exact ⟨fun h => by injection List.append_cancel_left h, fun h => by rw [h]⟩
set_option maxRecDepth 100000 in
set_option maxHeartbeats 3200000 in
theorem same_any (a b : List PN) (S S' : Nat → Prop) (u v : Value) (w : World) (hl : a.length ≤ 140737488355328) (_hl' : b.length ≤ 140737488355328) (hu : NodesAt w S u a) (hv : NodesAt w S' v b) (hS : ∀ x, S x → x < w.heap.size) (hS' : ∀ x, S' x → x < w.heap.size) :
    Calls Tryd.prog 36 #[.agg #[u], .agg #[v]] w fun e w' => e = .returned (.bool (decide (a = b))) ∧ w.grownBy w' none := by
  obtain ⟨A, c, rfl, hA⟩ := hu
  obtain ⟨X, d, rfl, hX⟩ := hv
  go_enter Tryd.func36, Tryd.ntmps36
  by_cases hne : a.length = b.length
  · have hbf : ((a.length : Int) != (b.length : Int)) = false := by simp [hne]
    have hll' := Lib.hid hl
    have hneH := Lib.hid hne
    have g0 := gb_alloc (gb_alloc (gb_refl w none) (.cells #[.slice A a.length c] 48)) (.cells #[.slice X b.length d] 48)
    have z0 : ((w.alloc (.cells #[.slice A a.length c] 48)).alloc (.cells #[.slice X b.length d] 48)).cell? ⟨w.heap.size, 0, none⟩ = some (.slice A a.length c) := by
      rw [cell_of_row _ _ 0 _ _ _ ((Below.heap_alloc _ _ w.heap.size (by simp)).trans (heap_alloc_new w _))]; rfl
    have z1 : ((w.alloc (.cells #[.slice A a.length c] 48)).alloc (.cells #[.slice X b.length d] 48)).cell? ⟨w.heap.size + 1, 0, none⟩ = some (.slice X b.length d) := by
      have e : (w.alloc (.cells #[.slice A a.length c] 48)).heap.size = w.heap.size + 1 := by simp
      rw [← e, cell_of_row _ _ 0 _ _ _ (heap_alloc_new _ _)]; rfl
    clear hl hne
    go_wp2_with fail
    generalize (w.alloc (.cells #[.slice A a.length c] 48)).alloc (.cells #[.slice X b.length d] 48) = W at *
    go_loopg [5] a.length (fun z u5 wr => ∃ q : Nat, q ≤ a.length ∧ z = a.length - q ∧ u5 = .int .i64 q ∧ Hid (a.take q = b.take q) ∧ w.grownBy wr none ∧ wr.cell? ⟨w.heap.size, 0, none⟩ = some (.slice A a.length c) ∧ wr.cell? ⟨w.heap.size + 1, 0, none⟩ = some (.slice X b.length d))
    case atStart => exact ⟨0, Nat.zero_le _, rfl, rfl, rfl, g0, z0, z1⟩
    case round =>
      clear g0 z0 z1
      obtain ⟨q, hq, rfl, rfl, hno, hg, z0, z1⟩ := hrel
      by_cases hlt : q < a.length
      · have hlt' : q < b.length := by have := hneH.out; omega
        obtain ⟨b1, o1, rfl, hSb, hcell⟩ := hA (by omega)
        obtain ⟨b2, o2, rfl, hSb2, hcell2⟩ := hX (by omega)
        have hqi : (q : Int) < (a.length : Int) := by omega
        have hqj : (q : Int) < (b.length : Int) := by omega
        obtain ⟨c0, c1, c2, c3, c4, c5⟩ := (hcell q hlt).keep (hg.block b1 (hS b1 hSb) (by simp))
        obtain ⟨e0, e1, e2, e3, e4, e5⟩ := (hcell2 q hlt').keep (hg.block b2 (hS' b2 hSb2) (by simp))
        have hq1 := Lib.hid (show wrap64 ((q : Int) + 1) = ((q + 1 : Nat) : Int) from (wrap64_id (by omega) (by have := hll'.out; omega)).trans (by omega))
        have hst := Lib.hid (take_eq_succ hlt hlt' hno.out)
        have hEq := fun W => run_ne64 a[q] b[q] W
        clear hA hX hcell hcell2 hno
        have hxy : Hid (decide (a[q] = b[q]) = true ↔ a.take (q + 1) = b.take (q + 1)) := by unfold Hid; rw [decide_eq_true_eq, hst.out]
        clear hst
        generalize decide (a[q] = b[q]) = y at *
        generalize a[q] = x1 at *
        generalize b[q] = x2 at *
        cases y with
        | true =>
          have ht := Lib.hid (hxy.out.1 rfl)
          go_wp2_with fail
          go_quiet (fail)
          go_wp2_with fail
          go_roundg (a.length - (q + 1))
          case measure => omega
          case rel => exact ⟨q + 1, hlt, rfl, by first | rw [hq1.out] | go_num, ht, gb_drewN hg _, by exact z0, by exact z1⟩
        | false =>
          have ht : Hid (decide (a = b) = false) := decide_eq_false (fun h => by have := hxy.out.2 (by rw [h]); cases this)
          go_wp2_with fail
          go_quiet (fail)
          go_wp2_with fail
          go_ret
          exact ⟨by rw [ht.out]; rfl, gb_drewN hg _⟩
      · obtain rfl : q = a.length := by omega
        have hfin : Hid (decide (a = b) = true) := by
          have := hno.out
          rw [List.take_of_length_le (Nat.le_refl _), List.take_of_length_le (by have := hneH.out; omega)] at this
          exact decide_eq_true this
        clear hno hA hX
        go_wp2_with fail
        go_ret
        exact ⟨by rw [hfin.out]; rfl, hg⟩
  · have hE : Hid (decide (a = b) = false) := decide_eq_false (fun h => hne (by rw [h]))
    have hneI : ((a.length : Int) != (b.length : Int)) = true := by simp; omega
    clear hA hX
    go_wp2_with fail
    go_ret
    exact ⟨by rw [hE.out]; rfl, gb_alloc (gb_alloc (gb_refl _ _) _) _⟩
def smallN (x : PN) : Bool := decide (x.a.size ≤ 9000) && decide (x.b.size ≤ 9000)
def smallP (l : List PN) : Bool := decide (l.length ≤ 200) && l.all smallN
theorem take_all_succ {l : List PN} {q : Nat} (h : q < l.length) : (l.take (q + 1)).all smallN = ((l.take q).all smallN && smallN l[q]) := by
  rw [List.take_add_one, List.getElem?_eq_getElem h, List.all_append]
  simp
theorem smallP_no {l : List PN} {q : Nat} (h : q < l.length) (hx : smallN l[q] = false) : smallP l = false := by
  unfold smallP
  have : l.all smallN = false := by
    rw [List.all_eq_false]
    exact ⟨_, List.getElem_mem h, by rw [hx]; decide⟩
  rw [this, Bool.and_false]
set_option maxRecDepth 100000 in
set_option maxHeartbeats 3200000 in
theorem small_any (l : List PN) (S : Nat → Prop) (v : Value) (w : World) (hl : l.length ≤ 140737488355328) (h : NodesAt w S v l) (hS : ∀ x, S x → x < w.heap.size) :
    Calls Tryd.prog 37 #[.agg #[v]] w fun e w' => e = .returned (.bool (smallP l)) ∧ w.grownBy w' none := by
  obtain ⟨A, c, rfl, hA⟩ := h
  have hll := Lib.hid hl
  have g0 := gb_alloc (gb_refl w none) (.cells #[.slice A l.length c] 48)
  have z0 := box_c0 w (.slice A l.length c)
  clear hl
  go_enter Tryd.func37, Tryd.ntmps37
  go_wp2_with fail
  generalize w.alloc (.cells #[.slice A l.length c] 48) = W at *
  go_loopg [3] 300 (fun z u3 wr => ∃ q : Nat, q ≤ l.length ∧ q ≤ 201 ∧ z = 300 - q ∧ u3 = .int .i64 q ∧ Hid ((l.take q).all smallN = true) ∧ w.grownBy wr none ∧ wr.cell? ⟨w.heap.size, 0, none⟩ = some (.slice A l.length c))
  case atStart => exact ⟨0, Nat.zero_le _, by omega, rfl, rfl, rfl, g0, z0⟩
  case round =>
    clear g0 z0
    obtain ⟨q, hq, hq2, rfl, rfl, hno, hg, z0⟩ := hrel
    by_cases hlt : q < l.length
    · have hqi : (q : Int) < (l.length : Int) := by omega
      by_cases h200 : q ≤ 200
      · have h2I : (q : Int) ≤ 200 := by omega
        obtain ⟨b1, o1, rfl, hSb, hcell⟩ := hA (by omega)
        obtain ⟨c0, c1, c2, c3, c4, c5⟩ := (hcell q hlt).keep (hg.block b1 (hS b1 hSb) (by simp))
        have hq1 := Lib.hid (show wrap64 ((q : Int) + 1) = ((q + 1 : Nat) : Int) from (wrap64_id (by omega) (by omega)).trans (by omega))
        have hst := Lib.hid (take_all_succ hlt)
        have hnope : smallN l[q] = false → Hid (smallP l = false) := fun h => smallP_no hlt h
        have hsm : smallN l[q] = (decide (l[q].a.size ≤ 9000) && decide (l[q].b.size ≤ 9000)) := rfl
        rw [hsm] at hst hnope
        clear hA hcell hsm
        generalize l[q] = x at *
        by_cases h1 : x.a.size ≤ 9000
        · have h1I : ¬ (9000 : Int) < (x.a.size : Int) := by omega
          by_cases h2 : x.b.size ≤ 9000
          · have h2J : ¬ (9000 : Int) < (x.b.size : Int) := by omega
            have hst2 : Hid ((l.take (q + 1)).all smallN = true) := by unfold Hid; rw [hst.out, hno.out, decide_eq_true h1, decide_eq_true h2]; rfl
            clear hst hnope hno
            go_wp2_with fail
            go_roundg (300 - (q + 1))
            case measure => omega
            case rel => exact ⟨q + 1, hlt, by omega, rfl, by first | rw [hq1.out] | go_num, hst2, hg, z0⟩
          · have h2J : (9000 : Int) < (x.b.size : Int) := by omega
            have ht := hnope (by rw [decide_eq_false h2, Bool.and_false])
            clear hst hnope hno
            go_wp2_with fail
            go_ret
            exact ⟨by rw [ht.out]; rfl, hg⟩
        · have h1I : (9000 : Int) < (x.a.size : Int) := by omega
          have ht := hnope (by rw [decide_eq_false h1]; rfl)
          clear hst hnope hno
          go_wp2_with fail
          go_ret
          exact ⟨by rw [ht.out]; rfl, hg⟩
      · have h2I : ¬ (q : Int) ≤ 200 := by omega
        have hI : ¬ (l.length : Int) ≤ 200 := by omega
        have ht : Hid (smallP l = false) := by unfold Hid smallP; rw [decide_eq_false (by omega)]; rfl
        clear hA hno
        go_wp2_with fail
        go_ret
        exact ⟨by rw [ht.out]; rfl, hg⟩
    · obtain rfl : q = l.length := by omega
      have hqi : ¬ (l.length : Int) < (l.length : Int) := by omega
      have hall : Hid (l.all smallN = true) := by
        have := hno.out
        rw [List.take_of_length_le (Nat.le_refl _)] at this
        exact this
      by_cases h200 : l.length ≤ 200
      · have h2I : (l.length : Int) ≤ 200 := by omega
        have ht : Hid (smallP l = true) := by unfold Hid smallP; rw [decide_eq_true h200, hall.out]; rfl
        clear hA hno hall
        go_wp2_with fail
        go_ret
        exact ⟨by rw [ht.out]; rfl, hg⟩
      · have h2I : ¬ (l.length : Int) ≤ 200 := by omega
        have ht : Hid (smallP l = false) := by unfold Hid smallP; rw [decide_eq_false h200]; rfl
        clear hA hno hall
        go_wp2_with fail
        go_ret
        exact ⟨by rw [ht.out]; rfl, hg⟩
end Go.Proofs.YtnnhkajjifmlfaaDoor.Pl
