/- Policies: may a node be, kind by kind: the walks. -/
import Derived.Test.YtnnhkajjifmlfaaDoorPn
namespace Go.Proofs.YtnnhkajjifmlfaaDoor.Pl
open Go.RowKit Go.Maps

theorem tl_nil : (⟨#[]⟩ : ByteArray).toList = [] := by rw [Lib.toList_data]
set_option maxHeartbeats 3200000 in
theorem fine_1 (n : Int) (a b : ByteArray) (l r : Int) (w : World) : Calls Tryd.prog 75 #[nodeV ⟨1, n, a, b, l, r⟩] w fun e w' => e = .returned (.bool (fineN ⟨1, n, a, b, l, r⟩)) ∧ w.grownBy w' none := by
  have hQ1 := fun W => Lib.hid (quotable_any a W)
  have hQ2 := fun W => Lib.hid (quotable_any b W)
  have hEq := fun W => run_eq64 ⟨1, n, a, b, l, r⟩ ⟨1, 0, ⟨#[]⟩, ⟨#[]⟩, 0, 0⟩ W
  have hT : Hid (fineN ⟨1, n, a, b, l, r⟩ = (decide ((⟨1, n, a, b, l, r⟩ : PN) = ⟨1, 0, ⟨#[]⟩, ⟨#[]⟩, 0, 0⟩) && decide (0 ≤ n) && true && quotB a && quotB b)) := by
    unfold Hid; rw [fineN_eq]; unfold namedN bareN; simp
  simp only at hEq
  generalize decide ((⟨1, n, a, b, l, r⟩ : PN) = ⟨1, 0, ⟨#[]⟩, ⟨#[]⟩, 0, 0⟩) = E at *
  generalize quotB a = qa at *
  generalize quotB b = qb at *
  rw [hT.out]
  clear hT
  go_enter Tryd.func75, Tryd.ntmps75
  cases E with
  | true =>
    by_cases hn : 0 ≤ n
    · rw [decide_eq_true hn]
      cases qa with
      | true =>
        go_wp2_with (first
          | (go_at_call 120; have hmk := hq1; refine ((hQ2 _).out).mono ?_; rintro e w2 ⟨rfl, rfl⟩)
          | (go_at_call 120; refine ((hQ1 _).out).mono ?_; rintro e w1 ⟨rfl, rfl⟩; have hq1 := (rfl : (1 : Nat) = 1)))
        go_ret
        exact ⟨rfl, gb_alloc (gb_alloc (gb_refl _ _) _) _⟩
      | false =>
        go_wp2_with (first
          | (go_at_call 120; refine ((hQ1 _).out).mono ?_; rintro e w1 ⟨rfl, rfl⟩))
        go_ret
        exact ⟨rfl, gb_alloc (gb_alloc (gb_refl _ _) _) _⟩
    · rw [decide_eq_false hn]
      go_wp2_with fail
      go_ret
      exact ⟨rfl, gb_alloc (gb_alloc (gb_refl _ _) _) _⟩
  | false =>
    go_wp2_with fail
    go_ret
    exact ⟨rfl, gb_alloc (gb_alloc (gb_refl _ _) _) _⟩
set_option maxHeartbeats 3200000 in
theorem fine_2 (n : Int) (a b : ByteArray) (l r : Int) (w : World) : Calls Tryd.prog 75 #[nodeV ⟨2, n, a, b, l, r⟩] w fun e w' => e = .returned (.bool (fineN ⟨2, n, a, b, l, r⟩)) ∧ w.grownBy w' none := by
  have hQ1 := fun W => Lib.hid (quotable_any a W)
  have hQ2 := fun W => Lib.hid (quotable_any b W)
  have hEq := fun W => run_eq64 ⟨2, n, a, b, l, r⟩ ⟨2, 0, ⟨#[]⟩, ⟨#[]⟩, 0, 0⟩ W
  have hT : Hid (fineN ⟨2, n, a, b, l, r⟩ = (decide ((⟨2, n, a, b, l, r⟩ : PN) = ⟨2, 0, ⟨#[]⟩, ⟨#[]⟩, 0, 0⟩) && decide (0 ≤ n) && true && quotB a && quotB b)) := by
    unfold Hid; rw [fineN_eq]; unfold namedN bareN; simp
  simp only at hEq
  generalize decide ((⟨2, n, a, b, l, r⟩ : PN) = ⟨2, 0, ⟨#[]⟩, ⟨#[]⟩, 0, 0⟩) = E at *
  generalize quotB a = qa at *
  generalize quotB b = qb at *
  rw [hT.out]
  clear hT
  go_enter Tryd.func75, Tryd.ntmps75
  cases E with
  | true =>
    by_cases hn : 0 ≤ n
    · rw [decide_eq_true hn]
      cases qa with
      | true =>
        go_wp2_with (first
          | (go_at_call 120; have hmk := hq1; refine ((hQ2 _).out).mono ?_; rintro e w2 ⟨rfl, rfl⟩)
          | (go_at_call 120; refine ((hQ1 _).out).mono ?_; rintro e w1 ⟨rfl, rfl⟩; have hq1 := (rfl : (1 : Nat) = 1)))
        go_ret
        exact ⟨rfl, gb_alloc (gb_alloc (gb_refl _ _) _) _⟩
      | false =>
        go_wp2_with (first
          | (go_at_call 120; refine ((hQ1 _).out).mono ?_; rintro e w1 ⟨rfl, rfl⟩))
        go_ret
        exact ⟨rfl, gb_alloc (gb_alloc (gb_refl _ _) _) _⟩
    · rw [decide_eq_false hn]
      go_wp2_with fail
      go_ret
      exact ⟨rfl, gb_alloc (gb_alloc (gb_refl _ _) _) _⟩
  | false =>
    go_wp2_with fail
    go_ret
    exact ⟨rfl, gb_alloc (gb_alloc (gb_refl _ _) _) _⟩
set_option maxHeartbeats 3200000 in
theorem fine_3 (n : Int) (a b : ByteArray) (l r : Int) (w : World) : Calls Tryd.prog 75 #[nodeV ⟨3, n, a, b, l, r⟩] w fun e w' => e = .returned (.bool (fineN ⟨3, n, a, b, l, r⟩)) ∧ w.grownBy w' none := by
  have hQ1 := fun W => Lib.hid (quotable_any a W)
  have hQ2 := fun W => Lib.hid (quotable_any b W)
  have hEq := fun W => run_eq64 ⟨3, 0, a, b, l, r⟩ ⟨3, 0, ⟨#[]⟩, ⟨#[]⟩, 0, 0⟩ W
  have hT : Hid (fineN ⟨3, n, a, b, l, r⟩ = (decide ((⟨3, 0, a, b, l, r⟩ : PN) = ⟨3, 0, ⟨#[]⟩, ⟨#[]⟩, 0, 0⟩) && decide (0 ≤ n) && true && quotB a && quotB b)) := by
    unfold Hid; rw [fineN_eq]; unfold namedN bareN; simp
  simp only at hEq
  generalize decide ((⟨3, 0, a, b, l, r⟩ : PN) = ⟨3, 0, ⟨#[]⟩, ⟨#[]⟩, 0, 0⟩) = E at *
  generalize quotB a = qa at *
  generalize quotB b = qb at *
  rw [hT.out]
  clear hT
  go_enter Tryd.func75, Tryd.ntmps75
  cases E with
  | true =>
    by_cases hn : 0 ≤ n
    · rw [decide_eq_true hn]
      cases qa with
      | true =>
        go_wp2_with (first
          | (go_at_call 120; have hmk := hq1; refine ((hQ2 _).out).mono ?_; rintro e w2 ⟨rfl, rfl⟩)
          | (go_at_call 120; refine ((hQ1 _).out).mono ?_; rintro e w1 ⟨rfl, rfl⟩; have hq1 := (rfl : (1 : Nat) = 1)))
        go_ret
        exact ⟨rfl, gb_alloc (gb_alloc (gb_refl _ _) _) _⟩
      | false =>
        go_wp2_with (first
          | (go_at_call 120; refine ((hQ1 _).out).mono ?_; rintro e w1 ⟨rfl, rfl⟩))
        go_ret
        exact ⟨rfl, gb_alloc (gb_alloc (gb_refl _ _) _) _⟩
    · rw [decide_eq_false hn]
      go_wp2_with fail
      go_ret
      exact ⟨rfl, gb_alloc (gb_alloc (gb_refl _ _) _) _⟩
  | false =>
    go_wp2_with fail
    go_ret
    exact ⟨rfl, gb_alloc (gb_alloc (gb_refl _ _) _) _⟩
set_option maxHeartbeats 3200000 in
theorem fine_6 (n : Int) (a b : ByteArray) (l r : Int) (w : World) : Calls Tryd.prog 75 #[nodeV ⟨6, n, a, b, l, r⟩] w fun e w' => e = .returned (.bool (fineN ⟨6, n, a, b, l, r⟩)) ∧ w.grownBy w' none := by
  have hQ1 := fun W => Lib.hid (quotable_any a W)
  have hQ2 := fun W => Lib.hid (quotable_any b W)
  have hEq := fun W => run_eq64 ⟨6, 0, a, b, l, r⟩ ⟨6, 0, ⟨#[]⟩, ⟨#[]⟩, 0, 0⟩ W
  have hT : Hid (fineN ⟨6, n, a, b, l, r⟩ = (decide ((⟨6, 0, a, b, l, r⟩ : PN) = ⟨6, 0, ⟨#[]⟩, ⟨#[]⟩, 0, 0⟩) && decide (0 ≤ n) && true && quotB a && quotB b)) := by
    unfold Hid; rw [fineN_eq]; unfold namedN bareN; simp
  simp only at hEq
  generalize decide ((⟨6, 0, a, b, l, r⟩ : PN) = ⟨6, 0, ⟨#[]⟩, ⟨#[]⟩, 0, 0⟩) = E at *
  generalize quotB a = qa at *
  generalize quotB b = qb at *
  rw [hT.out]
  clear hT
  go_enter Tryd.func75, Tryd.ntmps75
  cases E with
  | true =>
    by_cases hn : 0 ≤ n
    · rw [decide_eq_true hn]
      cases qa with
      | true =>
        go_wp2_with (first
          | (go_at_call 120; have hmk := hq1; refine ((hQ2 _).out).mono ?_; rintro e w2 ⟨rfl, rfl⟩)
          | (go_at_call 120; refine ((hQ1 _).out).mono ?_; rintro e w1 ⟨rfl, rfl⟩; have hq1 := (rfl : (1 : Nat) = 1)))
        go_ret
        exact ⟨rfl, gb_alloc (gb_alloc (gb_refl _ _) _) _⟩
      | false =>
        go_wp2_with (first
          | (go_at_call 120; refine ((hQ1 _).out).mono ?_; rintro e w1 ⟨rfl, rfl⟩))
        go_ret
        exact ⟨rfl, gb_alloc (gb_alloc (gb_refl _ _) _) _⟩
    · rw [decide_eq_false hn]
      go_wp2_with fail
      go_ret
      exact ⟨rfl, gb_alloc (gb_alloc (gb_refl _ _) _) _⟩
  | false =>
    go_wp2_with fail
    go_ret
    exact ⟨rfl, gb_alloc (gb_alloc (gb_refl _ _) _) _⟩
set_option maxHeartbeats 3200000 in
theorem fine_7 (n : Int) (a b : ByteArray) (l r : Int) (w : World) : Calls Tryd.prog 75 #[nodeV ⟨7, n, a, b, l, r⟩] w fun e w' => e = .returned (.bool (fineN ⟨7, n, a, b, l, r⟩)) ∧ w.grownBy w' none := by
  have hQ1 := fun W => Lib.hid (quotable_any a W)
  have hQ2 := fun W => Lib.hid (quotable_any b W)
  have hEq := fun W => run_eq64 ⟨7, n, a, b, 0, r⟩ ⟨7, 0, ⟨#[]⟩, ⟨#[]⟩, 0, 0⟩ W
  have hT : Hid (fineN ⟨7, n, a, b, l, r⟩ = (decide ((⟨7, n, a, b, 0, r⟩ : PN) = ⟨7, 0, ⟨#[]⟩, ⟨#[]⟩, 0, 0⟩) && decide (0 ≤ n) && true && quotB a && quotB b)) := by
    unfold Hid; rw [fineN_eq]; unfold namedN bareN; simp
  simp only at hEq
  generalize decide ((⟨7, n, a, b, 0, r⟩ : PN) = ⟨7, 0, ⟨#[]⟩, ⟨#[]⟩, 0, 0⟩) = E at *
  generalize quotB a = qa at *
  generalize quotB b = qb at *
  rw [hT.out]
  clear hT
  go_enter Tryd.func75, Tryd.ntmps75
  cases E with
  | true =>
    by_cases hn : 0 ≤ n
    · rw [decide_eq_true hn]
      cases qa with
      | true =>
        go_wp2_with (first
          | (go_at_call 120; have hmk := hq1; refine ((hQ2 _).out).mono ?_; rintro e w2 ⟨rfl, rfl⟩)
          | (go_at_call 120; refine ((hQ1 _).out).mono ?_; rintro e w1 ⟨rfl, rfl⟩; have hq1 := (rfl : (1 : Nat) = 1)))
        go_ret
        exact ⟨rfl, gb_alloc (gb_alloc (gb_refl _ _) _) _⟩
      | false =>
        go_wp2_with (first
          | (go_at_call 120; refine ((hQ1 _).out).mono ?_; rintro e w1 ⟨rfl, rfl⟩))
        go_ret
        exact ⟨rfl, gb_alloc (gb_alloc (gb_refl _ _) _) _⟩
    · rw [decide_eq_false hn]
      go_wp2_with fail
      go_ret
      exact ⟨rfl, gb_alloc (gb_alloc (gb_refl _ _) _) _⟩
  | false =>
    go_wp2_with fail
    go_ret
    exact ⟨rfl, gb_alloc (gb_alloc (gb_refl _ _) _) _⟩
end Go.Proofs.YtnnhkajjifmlfaaDoor.Pl
