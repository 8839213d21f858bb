/- HTTP: what a byte is: the leaf functions, walked. -/
import Derived.Test.YtdfgnoflohfnmaaGreatDoorH0
namespace Go.Proofs.YtdfgnoflohfnmaaGreatDoor.Hx
open Go.RowKit Go.Maps

theorem letter_any (c : UInt8) (w : World) : Calls Tryz.prog 82 #[.int .u8 (c.toNat : Int)] w fun e w' => e = .returned (.bool (letB c)) ∧ w' = w := by
  have hT : Hid (letB c = ((decide (97 ≤ c.toNat) && decide (c.toNat ≤ 122)) || (decide (65 ≤ c.toNat) && decide (c.toNat ≤ 90)))) := rfl
  generalize letB c = y at *
  generalize c.toNat = n at *
  go_enter Tryz.func82, Tryz.ntmps82
  by_cases h2 : (97 : Int) ≤ n
  · by_cases h4 : (n : Int) ≤ 122
    · have hy : Hid (y = true) := by unfold Hid; rw [hT.out]; simp; omega
      clear hT
      go_wp2_with fail
      go_ret
      exact ⟨by rw [hy.out]; rfl, rfl⟩
    · by_cases h6 : (65 : Int) ≤ n
      · by_cases h8 : (n : Int) ≤ 90
        · have hy : Hid (y = true) := by unfold Hid; rw [hT.out]; simp; omega
          clear hT
          go_wp2_with fail
          go_ret
          exact ⟨by rw [hy.out]; rfl, rfl⟩
        · have hy : Hid (y = false) := by unfold Hid; rw [hT.out]; simp; omega
          clear hT
          go_wp2_with fail
          go_ret
          exact ⟨by rw [hy.out]; rfl, rfl⟩
      · have hy : Hid (y = false) := by unfold Hid; rw [hT.out]; simp; omega
        clear hT
        go_wp2_with fail
        go_ret
        exact ⟨by rw [hy.out]; rfl, rfl⟩
  · by_cases h4 : (65 : Int) ≤ n
    · by_cases h6 : (n : Int) ≤ 90
      · have hy : Hid (y = true) := by unfold Hid; rw [hT.out]; simp; omega
        clear hT
        go_wp2_with fail
        go_ret
        exact ⟨by rw [hy.out]; rfl, rfl⟩
      · have hy : Hid (y = false) := by unfold Hid; rw [hT.out]; simp; omega
        clear hT
        go_wp2_with fail
        go_ret
        exact ⟨by rw [hy.out]; rfl, rfl⟩
    · have hy : Hid (y = false) := by unfold Hid; rw [hT.out]; simp; omega
      clear hT
      go_wp2_with fail
      go_ret
      exact ⟨by rw [hy.out]; rfl, rfl⟩
theorem digit_any (c : UInt8) (w : World) : Calls Tryz.prog 78 #[.int .u8 (c.toNat : Int)] w fun e w' => e = .returned (.bool (digB c)) ∧ w' = w := by
  have hT : Hid (digB c = (decide (48 ≤ c.toNat) && decide (c.toNat ≤ 57))) := rfl
  generalize digB c = y at *
  generalize c.toNat = n at *
  go_enter Tryz.func78, Tryz.ntmps78
  by_cases h2 : (48 : Int) ≤ n
  · by_cases h4 : (n : Int) ≤ 57
    · have hy : Hid (y = true) := by unfold Hid; rw [hT.out]; simp; omega
      clear hT
      go_wp2_with fail
      go_ret
      exact ⟨by rw [hy.out]; rfl, rfl⟩
    · have hy : Hid (y = false) := by unfold Hid; rw [hT.out]; simp; omega
      clear hT
      go_wp2_with fail
      go_ret
      exact ⟨by rw [hy.out]; rfl, rfl⟩
  · have hy : Hid (y = false) := by unfold Hid; rw [hT.out]; simp; omega
    clear hT
    go_wp2_with fail
    go_ret
    exact ⟨by rw [hy.out]; rfl, rfl⟩
theorem print_any (c : UInt8) (w : World) : Calls Tryz.prog 46 #[.int .u8 (c.toNat : Int)] w fun e w' => e = .returned (.bool (prB c)) ∧ w' = w := by
  have hT : Hid (prB c = (decide (32 ≤ c.toNat) && decide (c.toNat ≤ 126))) := rfl
  generalize prB c = y at *
  generalize c.toNat = n at *
  go_enter Tryz.func46, Tryz.ntmps46
  by_cases h2 : (32 : Int) ≤ n
  · by_cases h4 : (n : Int) ≤ 126
    · have hy : Hid (y = true) := by unfold Hid; rw [hT.out]; simp; omega
      clear hT
      go_wp2_with fail
      go_ret
      exact ⟨by rw [hy.out]; rfl, rfl⟩
    · have hy : Hid (y = false) := by unfold Hid; rw [hT.out]; simp; omega
      clear hT
      go_wp2_with fail
      go_ret
      exact ⟨by rw [hy.out]; rfl, rfl⟩
  · have hy : Hid (y = false) := by unfold Hid; rw [hT.out]; simp; omega
    clear hT
    go_wp2_with fail
    go_ret
    exact ⟨by rw [hy.out]; rfl, rfl⟩
theorem tg_any (c : UInt8) (w : World) : Calls Tryz.prog 39 #[.int .u8 (c.toNat : Int)] w fun e w' => e = .returned (.bool (tgB c)) ∧ w' = w := by
  have hT : Hid (tgB c = (decide (33 ≤ c.toNat) && decide (c.toNat ≤ 126))) := rfl
  generalize tgB c = y at *
  generalize c.toNat = n at *
  go_enter Tryz.func39, Tryz.ntmps39
  by_cases h2 : (33 : Int) ≤ n
  · by_cases h4 : (n : Int) ≤ 126
    · have hy : Hid (y = true) := by unfold Hid; rw [hT.out]; simp; omega
      clear hT
      go_wp2_with fail
      go_ret
      exact ⟨by rw [hy.out]; rfl, rfl⟩
    · have hy : Hid (y = false) := by unfold Hid; rw [hT.out]; simp; omega
      clear hT
      go_wp2_with fail
      go_ret
      exact ⟨by rw [hy.out]; rfl, rfl⟩
  · have hy : Hid (y = false) := by unfold Hid; rw [hT.out]; simp; omega
    clear hT
    go_wp2_with fail
    go_ret
    exact ⟨by rw [hy.out]; rfl, rfl⟩
theorem cap_any (c : UInt8) (w : World) : Calls Tryz.prog 65 #[.int .u8 (c.toNat : Int)] w fun e w' => e = .returned (.bool (capB c)) ∧ w' = w := by
  have hT : Hid (capB c = (decide (65 ≤ c.toNat) && decide (c.toNat ≤ 90))) := rfl
  generalize capB c = y at *
  generalize c.toNat = n at *
  go_enter Tryz.func65, Tryz.ntmps65
  by_cases h2 : (65 : Int) ≤ n
  · by_cases h4 : (n : Int) ≤ 90
    · have hy : Hid (y = true) := by unfold Hid; rw [hT.out]; simp; omega
      clear hT
      go_wp2_with fail
      go_ret
      exact ⟨by rw [hy.out]; rfl, rfl⟩
    · have hy : Hid (y = false) := by unfold Hid; rw [hT.out]; simp; omega
      clear hT
      go_wp2_with fail
      go_ret
      exact ⟨by rw [hy.out]; rfl, rfl⟩
  · have hy : Hid (y = false) := by unfold Hid; rw [hT.out]; simp; omega
    clear hT
    go_wp2_with fail
    go_ret
    exact ⟨by rw [hy.out]; rfl, rfl⟩
theorem cap2_any (c : UInt8) (w : World) : Calls Tryz.prog 59 #[.int .u8 (c.toNat : Int)] w fun e w' => e = .returned (.bool (capB c)) ∧ w' = w := by
  have hT : Hid (capB c = (decide (65 ≤ c.toNat) && decide (c.toNat ≤ 90))) := rfl
  generalize capB c = y at *
  generalize c.toNat = n at *
  go_enter Tryz.func59, Tryz.ntmps59
  by_cases h2 : (65 : Int) ≤ n
  · by_cases h4 : (n : Int) ≤ 90
    · have hy : Hid (y = true) := by unfold Hid; rw [hT.out]; simp; omega
      clear hT
      go_wp2_with fail
      go_ret
      exact ⟨by rw [hy.out]; rfl, rfl⟩
    · have hy : Hid (y = false) := by unfold Hid; rw [hT.out]; simp; omega
      clear hT
      go_wp2_with fail
      go_ret
      exact ⟨by rw [hy.out]; rfl, rfl⟩
  · have hy : Hid (y = false) := by unfold Hid; rw [hT.out]; simp; omega
    clear hT
    go_wp2_with fail
    go_ret
    exact ⟨by rw [hy.out]; rfl, rfl⟩
theorem ln_any (c : UInt8) (w : World) : Calls Tryz.prog 89 #[.int .u8 (c.toNat : Int)] w fun e w' => e = .returned (.bool (lnB c)) ∧ w' = w := by
  have hp := fun W => Lib.hid (print_any c W)
  have hT : Hid (lnB c = (prB c || decide (c.toNat = 9))) := rfl
  generalize lnB c = y at *
  generalize prB c = z at *
  generalize c.toNat = n at *
  go_enter Tryz.func89, Tryz.ntmps89
  cases z with
  | true =>
    have hy : Hid (y = true) := by unfold Hid; rw [hT.out]; rfl
    clear hT
    go_wp2_with (first
      | (go_at_call 46; refine ((hp _).out).mono ?_; rintro e w1 ⟨rfl, rfl⟩))
    go_ret
    exact ⟨by rw [hy.out]; rfl, rfl⟩
  | false =>
    by_cases h : n = 9
    · have hy : Hid (y = true) := by unfold Hid; rw [hT.out, decide_eq_true h]; rfl
      have hb : ((n : Int) == 9) = true := by simp; omega
      clear hT h
      go_wp2_with (first
        | (go_at_call 46; refine ((hp _).out).mono ?_; rintro e w1 ⟨rfl, rfl⟩))
      go_ret
      exact ⟨by rw [hy.out]; rfl, rfl⟩
    · have hy : Hid (y = false) := by unfold Hid; rw [hT.out, decide_eq_false h]; rfl
      have hb : ((n : Int) == 9) = false := by simp; omega
      clear hT h
      go_wp2_with (first
        | (go_at_call 46; refine ((hp _).out).mono ?_; rintro e w1 ⟨rfl, rfl⟩))
      go_ret
      exact ⟨by rw [hy.out]; rfl, rfl⟩
theorem nm_any (c : UInt8) (w : World) : Calls Tryz.prog 92 #[.int .u8 (c.toNat : Int)] w fun e w' => e = .returned (.bool (nmB c)) ∧ w' = w := by
  have hl := fun W => Lib.hid (letter_any c W)
  have hd := fun W => Lib.hid (digit_any c W)
  have hT : Hid (nmB c = (letB c || digB c || decide (c.toNat = 45))) := rfl
  generalize nmB c = y at *
  generalize letB c = z at *
  generalize digB c = z2 at *
  generalize c.toNat = n at *
  go_enter Tryz.func92, Tryz.ntmps92
  cases z with
  | true =>
    have hy : Hid (y = true) := by unfold Hid; rw [hT.out]; rfl
    clear hT
    go_wp2_with (first
      | (go_at_call 82; refine ((hl _).out).mono ?_; rintro e w1 ⟨rfl, rfl⟩))
    go_ret
    exact ⟨by rw [hy.out]; rfl, rfl⟩
  | false =>
    cases z2 with
    | true =>
      have hy : Hid (y = true) := by unfold Hid; rw [hT.out]; rfl
      clear hT
      go_wp2_with (first
        | (go_at_call 82; refine ((hl _).out).mono ?_; rintro e w1 ⟨rfl, rfl⟩)
        | (go_at_call 78; refine ((hd _).out).mono ?_; rintro e w1 ⟨rfl, rfl⟩))
      go_ret
      exact ⟨by rw [hy.out]; rfl, rfl⟩
    | false =>
      by_cases h : n = 45
      · have hy : Hid (y = true) := by unfold Hid; rw [hT.out, decide_eq_true h]; rfl
        have hb : ((n : Int) == 45) = true := by simp; omega
        clear hT h
        go_wp2_with (first
          | (go_at_call 82; refine ((hl _).out).mono ?_; rintro e w1 ⟨rfl, rfl⟩)
          | (go_at_call 78; refine ((hd _).out).mono ?_; rintro e w1 ⟨rfl, rfl⟩))
        go_ret
        exact ⟨by rw [hy.out]; rfl, rfl⟩
      · have hy : Hid (y = false) := by unfold Hid; rw [hT.out, decide_eq_false h]; rfl
        have hb : ((n : Int) == 45) = false := by simp; omega
        clear hT h
        go_wp2_with (first
          | (go_at_call 82; refine ((hl _).out).mono ?_; rintro e w1 ⟨rfl, rfl⟩)
          | (go_at_call 78; refine ((hd _).out).mono ?_; rintro e w1 ⟨rfl, rfl⟩))
        go_ret
        exact ⟨by rw [hy.out]; rfl, rfl⟩
end Go.Proofs.YtdfgnoflohfnmaaGreatDoor.Hx
