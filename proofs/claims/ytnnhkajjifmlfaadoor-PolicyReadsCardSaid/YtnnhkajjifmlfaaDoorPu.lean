/- Policies: are two the same; are they gone through: the walks. -/
import Derived.Test.YtnnhkajjifmlfaaDoorPt
namespace Go.Proofs.YtnnhkajjifmlfaaDoor.Pl
open Go.RowKit Go.Maps

theorem run_ne64 (x y : PN) (w : World) : (binOp .neq 64 (.agg #[.int .i64 x.k, .int .i64 x.n, .string x.a, .string x.b, .int .i64 x.l, .int .i64 x.r]) (.agg #[.int .i64 y.k, .int .i64 y.n, .string y.a, .string y.b, .int .i64 y.l, .int .i64 y.r])).run Tryd.prog w = .ok (.bool (!decide (x = y))) w := by
  have h := run_eq64 x y w
  rw [run_eql_struct] at h
  rw [run_neq_struct]
  revert h
  generalize (Op.equalIn 10000 64 (.agg #[.int .i64 x.k, .int .i64 x.n, .string x.a, .string x.b, .int .i64 x.l, .int .i64 x.r]) (.agg #[.int .i64 y.k, .int .i64 y.n, .string y.a, .string y.b, .int .i64 y.l, .int .i64 y.r])).run Tryd.prog w = r
  intro h
  cases r with
  | ok b w1 =>
    simp only [Result.andThen_ok] at h ⊢
    injection h with h1 h2
    injection h1 with h1
    rw [h1, h2]
  | halt x w1 => simp [Result.andThen] at h
theorem take_eq_succ {a b : List PN} {q : Nat} (h1 : q < a.length) (h2 : q < b.length) (h : a.take q = b.take q) : (a.take (q + 1) = b.take (q + 1)) ↔ a[q] = b[q] := by
  have e : ∀ (l : List PN) (hl : q < l.length), l.take (q + 1) = l.take q ++ [l[q]] := fun l hl => by
    rw [List.take_add_one, List.getElem?_eq_getElem hl]; rfl
  rw [e a h1, e b h2, h]
  exact ⟨fun h => by injection List.append_cancel_left h, fun h => by rw [h]⟩
set_option maxRecDepth 100000 in
set_option maxHeartbeats 3200000 in
theorem same_any (a b : List PN) (S S' : Nat → Prop) (u v : Value) (w : World) (hl : a.length ≤ 140737488355328) (_hl' : b.length ≤ 140737488355328) (hu : NodesAt w S u a) (hv : NodesAt w S' v b) (hS : ∀ x, S x → x < w.heap.size) (hS' : ∀ x, S' x → x < w.heap.size) :
    Calls Tryd.prog 36 #[.agg #[u], .agg #[v]] w fun e w' => e = .returned (.bool (decide (a = b))) ∧ w.grownBy w' none := by
  obtain ⟨A, c, rfl, hA⟩ := hu
  obtain ⟨X, d, rfl, hX⟩ := hv
  go_enter Tryd.func36, Tryd.ntmps36
  by_cases hne : a.length = b.length
  · have hbf : ((a.length : Int) != (b.length : Int)) = false := by simp [hne]
    have hll' := Lib.hid hl
    have hneH := Lib.hid hne
    have g0 := gb_alloc (gb_alloc (gb_refl w none) (.cells #[.slice A a.length c] 48)) (.cells #[.slice X b.length d] 48)
    have z0 : ((w.alloc (.cells #[.slice A a.length c] 48)).alloc (.cells #[.slice X b.length d] 48)).cell? ⟨w.heap.size, 0, none⟩ = some (.slice A a.length c) := by
      rw [cell_of_row _ _ 0 _ _ _ ((Below.heap_alloc _ _ w.heap.size (by simp)).trans (heap_alloc_new w _))]; rfl
    have z1 : ((w.alloc (.cells #[.slice A a.length c] 48)).alloc (.cells #[.slice X b.length d] 48)).cell? ⟨w.heap.size + 1, 0, none⟩ = some (.slice X b.length d) := by
      have e : (w.alloc (.cells #[.slice A a.length c] 48)).heap.size = w.heap.size + 1 := by simp
      rw [← e, cell_of_row _ _ 0 _ _ _ (heap_alloc_new _ _)]; rfl
    clear hl hne
    go_wp2_with fail
    generalize (w.alloc (.cells #[.slice A a.length c] 48)).alloc (.cells #[.slice X b.length d] 48) = W at *
    go_loopg [5] a.length (fun z u5 wr => ∃ q : Nat, q ≤ a.length ∧ z = a.length - q ∧ u5 = .int .i64 q ∧ Hid (a.take q = b.take q) ∧ w.grownBy wr none ∧ wr.cell? ⟨w.heap.size, 0, none⟩ = some (.slice A a.length c) ∧ wr.cell? ⟨w.heap.size + 1, 0, none⟩ = some (.slice X b.length d))
    case atStart => exact ⟨0, Nat.zero_le _, rfl, rfl, rfl, g0, z0, z1⟩
    case round =>
      clear g0 z0 z1
      obtain ⟨q, hq, rfl, rfl, hno, hg, z0, z1⟩ := hrel
      by_cases hlt : q < a.length
      · have hlt' : q < b.length := by have := hneH.out; omega
        obtain ⟨b1, o1, rfl, hSb, hcell⟩ := hA (by omega)
        obtain ⟨b2, o2, rfl, hSb2, hcell2⟩ := hX (by omega)
        have hqi : (q : Int) < (a.length : Int) := by omega
        have hqj : (q : Int) < (b.length : Int) := by omega
        obtain ⟨c0, c1, c2, c3, c4, c5⟩ := (hcell q hlt).keep (hg.block b1 (hS b1 hSb) (by simp))
        obtain ⟨e0, e1, e2, e3, e4, e5⟩ := (hcell2 q hlt').keep (hg.block b2 (hS' b2 hSb2) (by simp))
        have hq1 := Lib.hid (show wrap64 ((q : Int) + 1) = ((q + 1 : Nat) : Int) from (wrap64_id (by omega) (by have := hll'.out; omega)).trans (by omega))
        have hst := Lib.hid (take_eq_succ hlt hlt' hno.out)
        have hEq := fun W => run_ne64 a[q] b[q] W
        clear hA hX hcell hcell2 hno
        have hxy : Hid (decide (a[q] = b[q]) = true ↔ a.take (q + 1) = b.take (q + 1)) := by unfold Hid; rw [decide_eq_true_eq, hst.out]
        clear hst
        generalize decide (a[q] = b[q]) = y at *
        generalize a[q] = x1 at *
        generalize b[q] = x2 at *
        cases y with
        | true =>
          have ht := Lib.hid (hxy.out.1 rfl)
          go_wp2_with fail
          go_quiet (fail)
          go_wp2_with fail
          go_roundg (a.length - (q + 1))
          case measure => omega
          case rel => exact ⟨q + 1, hlt, rfl, by first | rw [hq1.out] | go_num, ht, gb_drewN hg _, by exact z0, by exact z1⟩
        | false =>
          have ht : Hid (decide (a = b) = false) := decide_eq_false (fun h => by have := hxy.out.2 (by rw [h]); cases this)
          go_wp2_with fail
          go_quiet (fail)
          go_wp2_with fail
          go_ret
          exact ⟨by rw [ht.out]; rfl, gb_drewN hg _⟩
      · obtain rfl : q = a.length := by omega
        have hfin : Hid (decide (a = b) = true) := by
          have := hno.out
          rw [List.take_of_length_le (Nat.le_refl _), List.take_of_length_le (by have := hneH.out; omega)] at this
          exact decide_eq_true this
        clear hno hA hX
        go_wp2_with fail
        go_ret
        exact ⟨by rw [hfin.out]; rfl, hg⟩
  · have hE : Hid (decide (a = b) = false) := decide_eq_false (fun h => hne (by rw [h]))
    have hneI : ((a.length : Int) != (b.length : Int)) = true := by simp; omega
    clear hA hX
    go_wp2_with fail
    go_ret
    exact ⟨by rw [hE.out]; rfl, gb_alloc (gb_alloc (gb_refl _ _) _) _⟩
end Go.Proofs.YtnnhkajjifmlfaaDoor.Pl
