/- Policies: may a node be, kind by kind: the walks. -/
import Derived.Test.YtnnhkajjifmlfaaDoorPo
namespace Go.Proofs.YtnnhkajjifmlfaaDoor.Pl
open Go.RowKit Go.Maps

set_option maxHeartbeats 3200000 in
theorem fine_8 (n : Int) (a b : ByteArray) (l r : Int) (w : World) : Calls Tryd.prog 75 #[nodeV ⟨8, n, a, b, l, r⟩] w fun e w' => e = .returned (.bool (fineN ⟨8, n, a, b, l, r⟩)) ∧ w.grownBy w' none := by
  have hQ1 := fun W => Lib.hid (quotable_any a W)
  have hQ2 := fun W => Lib.hid (quotable_any b W)
  have hEq := fun W => run_eq64 ⟨8, n, a, b, 0, 0⟩ ⟨8, 0, ⟨#[]⟩, ⟨#[]⟩, 0, 0⟩ W
  have hT : Hid (fineN ⟨8, n, a, b, l, r⟩ = (decide ((⟨8, n, a, b, 0, 0⟩ : PN) = ⟨8, 0, ⟨#[]⟩, ⟨#[]⟩, 0, 0⟩) && decide (0 ≤ n) && true && quotB a && quotB b)) := by
    unfold Hid; rw [fineN_eq]; unfold namedN bareN; simp
  simp only at hEq
  generalize decide ((⟨8, n, a, b, 0, 0⟩ : PN) = ⟨8, 0, ⟨#[]⟩, ⟨#[]⟩, 0, 0⟩) = E at *
  generalize quotB a = qa at *
  generalize quotB b = qb at *
  rw [hT.out]
  clear hT
  go_enter Tryd.func75, Tryd.ntmps75
  cases E with
  | true =>
    by_cases hn : 0 ≤ n
    · rw [decide_eq_true hn]
      cases qa with
      | true =>
        go_wp2_with (first
          | (go_at_call 120; have hmk := hq1; refine ((hQ2 _).out).mono ?_; rintro e w2 ⟨rfl, rfl⟩)
          | (go_at_call 120; refine ((hQ1 _).out).mono ?_; rintro e w1 ⟨rfl, rfl⟩; have hq1 := (rfl : (1 : Nat) = 1)))
        go_ret
        exact ⟨rfl, gb_alloc (gb_alloc (gb_refl _ _) _) _⟩
      | false =>
        go_wp2_with (first
          | (go_at_call 120; refine ((hQ1 _).out).mono ?_; rintro e w1 ⟨rfl, rfl⟩))
        go_ret
        exact ⟨rfl, gb_alloc (gb_alloc (gb_refl _ _) _) _⟩
    · rw [decide_eq_false hn]
      go_wp2_with fail
      go_ret
      exact ⟨rfl, gb_alloc (gb_alloc (gb_refl _ _) _) _⟩
  | false =>
    go_wp2_with fail
    go_ret
    exact ⟨rfl, gb_alloc (gb_alloc (gb_refl _ _) _) _⟩
set_option maxHeartbeats 3200000 in
theorem fine_9 (n : Int) (a b : ByteArray) (l r : Int) (w : World) : Calls Tryd.prog 75 #[nodeV ⟨9, n, a, b, l, r⟩] w fun e w' => e = .returned (.bool (fineN ⟨9, n, a, b, l, r⟩)) ∧ w.grownBy w' none := by
  have hQ1 := fun W => Lib.hid (quotable_any a W)
  have hQ2 := fun W => Lib.hid (quotable_any b W)
  have hEq := fun W => run_eq64 ⟨9, n, a, b, 0, 0⟩ ⟨9, 0, ⟨#[]⟩, ⟨#[]⟩, 0, 0⟩ W
  have hT : Hid (fineN ⟨9, n, a, b, l, r⟩ = (decide ((⟨9, n, a, b, 0, 0⟩ : PN) = ⟨9, 0, ⟨#[]⟩, ⟨#[]⟩, 0, 0⟩) && decide (0 ≤ n) && true && quotB a && quotB b)) := by
    unfold Hid; rw [fineN_eq]; unfold namedN bareN; simp
  simp only at hEq
  generalize decide ((⟨9, n, a, b, 0, 0⟩ : PN) = ⟨9, 0, ⟨#[]⟩, ⟨#[]⟩, 0, 0⟩) = E at *
  generalize quotB a = qa at *
  generalize quotB b = qb at *
  rw [hT.out]
  clear hT
  go_enter Tryd.func75, Tryd.ntmps75
  cases E with
  | true =>
    by_cases hn : 0 ≤ n
    · rw [decide_eq_true hn]
      cases qa with
      | true =>
        go_wp2_with (first
          | (go_at_call 120; have hmk := hq1; refine ((hQ2 _).out).mono ?_; rintro e w2 ⟨rfl, rfl⟩)
          | (go_at_call 120; refine ((hQ1 _).out).mono ?_; rintro e w1 ⟨rfl, rfl⟩; have hq1 := (rfl : (1 : Nat) = 1)))
        go_ret
        exact ⟨rfl, gb_alloc (gb_alloc (gb_refl _ _) _) _⟩
      | false =>
        go_wp2_with (first
          | (go_at_call 120; refine ((hQ1 _).out).mono ?_; rintro e w1 ⟨rfl, rfl⟩))
        go_ret
        exact ⟨rfl, gb_alloc (gb_alloc (gb_refl _ _) _) _⟩
    · rw [decide_eq_false hn]
      go_wp2_with fail
      go_ret
      exact ⟨rfl, gb_alloc (gb_alloc (gb_refl _ _) _) _⟩
  | false =>
    go_wp2_with fail
    go_ret
    exact ⟨rfl, gb_alloc (gb_alloc (gb_refl _ _) _) _⟩
set_option maxHeartbeats 3200000 in
theorem fine_4 (n : Int) (a b : ByteArray) (l r : Int) (w : World) : Calls Tryd.prog 75 #[nodeV ⟨4, n, a, b, l, r⟩] w fun e w' => e = .returned (.bool (fineN ⟨4, n, a, b, l, r⟩)) ∧ w.grownBy w' none := by
  have hQ1 := fun W => Lib.hid (quotable_any a W)
  have hQ2 := fun W => Lib.hid (quotable_any b W)
  have hEq := fun W => run_eq64 ⟨4, n, ⟨#[]⟩, b, l, r⟩ ⟨4, 0, ⟨#[]⟩, ⟨#[]⟩, 0, 0⟩ W
  have hT : Hid (fineN ⟨4, n, a, b, l, r⟩ = (decide ((⟨4, n, ⟨#[]⟩, b, l, r⟩ : PN) = ⟨4, 0, ⟨#[]⟩, ⟨#[]⟩, 0, 0⟩) && decide (0 ≤ n) && decide (a ≠ ⟨#[]⟩) && quotB a && quotB b)) := by
    unfold Hid; rw [fineN_eq]; unfold namedN bareN; simp
  simp only at hEq
  generalize decide ((⟨4, n, ⟨#[]⟩, b, l, r⟩ : PN) = ⟨4, 0, ⟨#[]⟩, ⟨#[]⟩, 0, 0⟩) = E at *
  generalize quotB a = qa at *
  generalize quotB b = qb at *
  rw [hT.out]
  clear hT
  go_enter Tryd.func75, Tryd.ntmps75
  by_cases ha : a = ⟨#[]⟩
  · have hab : (a.toList == []) = true := txt_yes tl_nil ha
    have hd : decide (a ≠ ⟨#[]⟩) = false := by simp [ha]
    rw [hd]
    clear ha hd
    cases E with
    | true =>
      by_cases hn : 0 ≤ n
      · rw [decide_eq_true hn]
        go_wp2_with fail
        go_ret
        exact ⟨rfl, gb_alloc (gb_alloc (gb_refl _ _) _) _⟩
      · rw [decide_eq_false hn]
        go_wp2_with fail
        go_ret
        exact ⟨rfl, gb_alloc (gb_alloc (gb_refl _ _) _) _⟩
    | false =>
      go_wp2_with fail
      go_ret
      exact ⟨rfl, gb_alloc (gb_alloc (gb_refl _ _) _) _⟩
  · have hab : (a.toList == []) = false := txt_no tl_nil ha
    have hd : decide (a ≠ ⟨#[]⟩) = true := by simp [ha]
    rw [hd]
    clear ha hd
    cases E with
    | true =>
      by_cases hn : 0 ≤ n
      · rw [decide_eq_true hn]
        cases qa with
        | true =>
          go_wp2_with (first
            | (go_at_call 120; have hmk := hq1; refine ((hQ2 _).out).mono ?_; rintro e w2 ⟨rfl, rfl⟩)
            | (go_at_call 120; refine ((hQ1 _).out).mono ?_; rintro e w1 ⟨rfl, rfl⟩; have hq1 := (rfl : (1 : Nat) = 1)))
          go_ret
          exact ⟨rfl, gb_alloc (gb_alloc (gb_refl _ _) _) _⟩
        | false =>
          go_wp2_with (first
            | (go_at_call 120; refine ((hQ1 _).out).mono ?_; rintro e w1 ⟨rfl, rfl⟩))
          go_ret
          exact ⟨rfl, gb_alloc (gb_alloc (gb_refl _ _) _) _⟩
      · rw [decide_eq_false hn]
        go_wp2_with fail
        go_ret
        exact ⟨rfl, gb_alloc (gb_alloc (gb_refl _ _) _) _⟩
    | false =>
      go_wp2_with fail
      go_ret
      exact ⟨rfl, gb_alloc (gb_alloc (gb_refl _ _) _) _⟩
set_option maxHeartbeats 3200000 in
theorem fine_5 (n : Int) (a b : ByteArray) (l r : Int) (w : World) : Calls Tryd.prog 75 #[nodeV ⟨5, n, a, b, l, r⟩] w fun e w' => e = .returned (.bool (fineN ⟨5, n, a, b, l, r⟩)) ∧ w.grownBy w' none := by
  have hQ1 := fun W => Lib.hid (quotable_any a W)
  have hQ2 := fun W => Lib.hid (quotable_any b W)
  have hEq := fun W => run_eq64 ⟨5, n, ⟨#[]⟩, ⟨#[]⟩, l, r⟩ ⟨5, 0, ⟨#[]⟩, ⟨#[]⟩, 0, 0⟩ W
  have hT : Hid (fineN ⟨5, n, a, b, l, r⟩ = (decide ((⟨5, n, ⟨#[]⟩, ⟨#[]⟩, l, r⟩ : PN) = ⟨5, 0, ⟨#[]⟩, ⟨#[]⟩, 0, 0⟩) && decide (0 ≤ n) && decide (a ≠ ⟨#[]⟩) && quotB a && quotB b)) := by
    unfold Hid; rw [fineN_eq]; unfold namedN bareN; simp
  simp only at hEq
  generalize decide ((⟨5, n, ⟨#[]⟩, ⟨#[]⟩, l, r⟩ : PN) = ⟨5, 0, ⟨#[]⟩, ⟨#[]⟩, 0, 0⟩) = E at *
  generalize quotB a = qa at *
  generalize quotB b = qb at *
  rw [hT.out]
  clear hT
  go_enter Tryd.func75, Tryd.ntmps75
  by_cases ha : a = ⟨#[]⟩
  · have hab : (a.toList == []) = true := txt_yes tl_nil ha
    have hd : decide (a ≠ ⟨#[]⟩) = false := by simp [ha]
    rw [hd]
    clear ha hd
    cases E with
    | true =>
      by_cases hn : 0 ≤ n
      · rw [decide_eq_true hn]
        go_wp2_with fail
        go_ret
        exact ⟨rfl, gb_alloc (gb_alloc (gb_refl _ _) _) _⟩
      · rw [decide_eq_false hn]
        go_wp2_with fail
        go_ret
        exact ⟨rfl, gb_alloc (gb_alloc (gb_refl _ _) _) _⟩
    | false =>
      go_wp2_with fail
      go_ret
      exact ⟨rfl, gb_alloc (gb_alloc (gb_refl _ _) _) _⟩
  · have hab : (a.toList == []) = false := txt_no tl_nil ha
    have hd : decide (a ≠ ⟨#[]⟩) = true := by simp [ha]
    rw [hd]
    clear ha hd
    cases E with
    | true =>
      by_cases hn : 0 ≤ n
      · rw [decide_eq_true hn]
        cases qa with
        | true =>
          go_wp2_with (first
            | (go_at_call 120; have hmk := hq1; refine ((hQ2 _).out).mono ?_; rintro e w2 ⟨rfl, rfl⟩)
            | (go_at_call 120; refine ((hQ1 _).out).mono ?_; rintro e w1 ⟨rfl, rfl⟩; have hq1 := (rfl : (1 : Nat) = 1)))
          go_ret
          exact ⟨rfl, gb_alloc (gb_alloc (gb_refl _ _) _) _⟩
        | false =>
          go_wp2_with (first
            | (go_at_call 120; refine ((hQ1 _).out).mono ?_; rintro e w1 ⟨rfl, rfl⟩))
          go_ret
          exact ⟨rfl, gb_alloc (gb_alloc (gb_refl _ _) _) _⟩
      · rw [decide_eq_false hn]
        go_wp2_with fail
        go_ret
        exact ⟨rfl, gb_alloc (gb_alloc (gb_refl _ _) _) _⟩
    | false =>
      go_wp2_with fail
      go_ret
      exact ⟨rfl, gb_alloc (gb_alloc (gb_refl _ _) _) _⟩
set_option maxHeartbeats 3200000 in
theorem fine_out (x : PN) (w : World) (hk : x.k < 1 ∨ 9 < x.k) : Calls Tryd.prog 75 #[nodeV x] w fun e w' => e = .returned (.bool (fineN x)) ∧ w.grownBy w' none := by
  have hT : Hid (fineN x = false) := by
    unfold Hid; rw [fineN_eq]
    rcases hk with h | h
    · rw [decide_eq_false (by omega)]; rfl
    · rw [decide_eq_false (show ¬ x.k ≤ 9 by omega), Bool.and_false]; rfl
  have b3 : (x.k == 3) = false := beq_eq_false_iff_ne.2 (by omega)
  have b4 : (x.k == 4) = false := beq_eq_false_iff_ne.2 (by omega)
  have b5 : (x.k == 5) = false := beq_eq_false_iff_ne.2 (by omega)
  have b6 : (x.k == 6) = false := beq_eq_false_iff_ne.2 (by omega)
  have b7 : (x.k == 7) = false := beq_eq_false_iff_ne.2 (by omega)
  have b8 : (x.k == 8) = false := beq_eq_false_iff_ne.2 (by omega)
  have b9 : (x.k == 9) = false := beq_eq_false_iff_ne.2 (by omega)
  have n4 : (x.k != 4) = true := by simpa using b4
  have n5 : (x.k != 5) = true := by simpa using b5
  rw [hT.out]
  clear hT
  go_enter Tryd.func75, Tryd.ntmps75
  by_cases h1 : (1 : Int) ≤ x.k
  · have h9 : ¬ x.k ≤ 9 := by omega
    clear hk
    go_wp2_with fail
    go_ret
    exact ⟨rfl, gb_alloc (gb_alloc (gb_refl _ _) _) _⟩
  · clear hk
    go_wp2_with fail
    go_ret
    exact ⟨rfl, gb_alloc (gb_alloc (gb_refl _ _) _) _⟩
theorem fine_any (x : PN) (w : World) : Calls Tryd.prog 75 #[nodeV x] w fun e w' => e = .returned (.bool (fineN x)) ∧ w.grownBy w' none := by
  by_cases hk : x.k < 1 ∨ 9 < x.k
  · exact fine_out x w hk
  · obtain ⟨k, n, a, b, l, r⟩ := x
    simp only at hk
    have : k = 1 ∨ k = 2 ∨ k = 3 ∨ k = 4 ∨ k = 5 ∨ k = 6 ∨ k = 7 ∨ k = 8 ∨ k = 9 := by omega
    rcases this with rfl | rfl | rfl | rfl | rfl | rfl | rfl | rfl | rfl
    · exact fine_1 n a b l r w
    · exact fine_2 n a b l r w
    · exact fine_3 n a b l r w
    · exact fine_4 n a b l r w
    · exact fine_5 n a b l r w
    · exact fine_6 n a b l r w
    · exact fine_7 n a b l r w
    · exact fine_8 n a b l r w
    · exact fine_9 n a b l r w
theorem unfine_any (x : PN) (w : World) : Calls Tryd.prog 74 #[nodeV x] w fun e w' => e = .returned (.bool (!fineN x)) ∧ w.grownBy w' none := by
  have hF := fun W => Lib.hid (fine_any x W)
  generalize fineN x = r at *
  go_enter Tryd.func74, Tryd.ntmps74
  go_wp2_with (first
    | (go_at_call 75; refine ((hF _).out).mono ?_; rintro e w1 ⟨rfl, hg⟩))
  go_ret
  exact ⟨rfl, gb_trans (gb_alloc (gb_refl _ _) _) hg⟩
end Go.Proofs.YtnnhkajjifmlfaaDoor.Pl
