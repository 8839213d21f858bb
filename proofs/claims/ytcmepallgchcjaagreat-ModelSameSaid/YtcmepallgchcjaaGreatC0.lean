/- Numbers and texts compared (cmp.Compare, cmp.Or): what they answer. -/
import Derived.Test.YtcmepallgchcjaaGreatB0
import Derived.Test.YtcmepallgchcjaaGreatG1
namespace Go.Proofs.YtcmepallgchcjaaGreat
open Go.RowKit

/-- numbers compared -/
def cmpI (a b : Int) : Int := if a < b then -1 else if b < a then 1 else 0
theorem cmpI_zero {a b : Int} : cmpI a b = 0 ↔ a = b := by
  unfold cmpI; split
  · omega
  · split <;> omega
theorem bytesLess_self : ∀ l : List UInt8, Op.bytesLess l l = false
  | [] => rfl
  | a :: l => by
    rw [Op.bytesLess, bytesLess_self l]
    simp
/-- texts compared -/
def cmpS (a b : ByteArray) : Int := if Op.bytesLess a.toList b.toList = true then -1 else if (Op.bytesLess a.toList b.toList || (a.toList == b.toList)) = true then 0 else 1
theorem toList_inj {a b : ByteArray} (h : a.toList = b.toList) : a = b := by
  rw [ByteArray.toList_eq, ByteArray.toList_eq] at h
  obtain ⟨⟨x⟩⟩ := a
  obtain ⟨⟨y⟩⟩ := b
  simpa using h
theorem cmpS_zero {a b : ByteArray} : cmpS a b = 0 ↔ a = b := by
  unfold cmpS
  constructor
  · intro h
    split at h
    · cases h
    · rename_i h1
      split at h
      · rename_i h2
        have h1' : Op.bytesLess a.toList b.toList = false := by simpa using h1
        rw [h1', Bool.false_or] at h2
        exact toList_inj (by simpa using h2)
      · cases h
  · rintro rfl
    rw [bytesLess_self]
    simp
/-- the first that is not 0 -/
def orL : List Int → Int
  | [] => 0
  | x :: r => if x = 0 then orL r else x
theorem orL_zero : ∀ {l : List Int}, orL l = 0 ↔ ∀ x ∈ l, x = 0
  | [] => by simp [orL]
  | x :: r => by
    rw [orL]
    by_cases h : x = 0
    · rw [if_pos h, orL_zero]; simp [h]
    · rw [if_neg h]; simp [h]
theorem nan119_any (a : Int) (w : World) : Calls Tryz.prog 119 #[.int .u64 a] w fun e w' => e = .returned (.bool false) ∧ w' = w := by
  go_enter Tryz.func119, Tryz.ntmps119
  go_wp2_with fail
  go_ret
  exact ⟨by simp, rfl⟩
set_option maxHeartbeats 800000 in
theorem cmp82_any (a b : Int) (w : World) : Calls Tryz.prog 82 #[.int .u64 a, .int .u64 b] w fun e w' => e = .returned (.int .i64 (cmpI a b)) ∧ w' = w := by
  go_enter Tryz.func82, Tryz.ntmps82
  by_cases h1 : a < b
  · have hE : Hid (cmpI a b = -1) := by unfold Hid cmpI; rw [if_pos h1]
    go_wp2_with (first | (go_at_call 119; refine (nan119_any _ _).mono ?_; rintro e w2 ⟨rfl, rfl⟩))
    go_ret
    exact ⟨by rw [hE.out]; rfl, rfl⟩
  · by_cases h2 : b < a
    · have hE : Hid (cmpI a b = 1) := by unfold Hid cmpI; rw [if_neg h1, if_pos h2]
      go_wp2_with (first | (go_at_call 119; refine (nan119_any _ _).mono ?_; rintro e w2 ⟨rfl, rfl⟩))
      go_ret
      exact ⟨by rw [hE.out]; rfl, rfl⟩
    · have hE : Hid (cmpI a b = 0) := by unfold Hid cmpI; rw [if_neg h1, if_neg h2]
      go_wp2_with (first | (go_at_call 119; refine (nan119_any _ _).mono ?_; rintro e w2 ⟨rfl, rfl⟩))
      go_ret
      exact ⟨by rw [hE.out]; rfl, rfl⟩
theorem nan130_any (a : Int) (w : World) : Calls Tryz.prog 130 #[.int .i64 a] w fun e w' => e = .returned (.bool false) ∧ w' = w := by
  go_enter Tryz.func130, Tryz.ntmps130
  go_wp2_with fail
  go_ret
  exact ⟨by simp, rfl⟩
set_option maxHeartbeats 800000 in
theorem cmp101_any (a b : Int) (w : World) : Calls Tryz.prog 101 #[.int .i64 a, .int .i64 b] w fun e w' => e = .returned (.int .i64 (cmpI a b)) ∧ w' = w := by
  go_enter Tryz.func101, Tryz.ntmps101
  by_cases h1 : a < b
  · have hE : Hid (cmpI a b = -1) := by unfold Hid cmpI; rw [if_pos h1]
    go_wp2_with (first | (go_at_call 130; refine (nan130_any _ _).mono ?_; rintro e w2 ⟨rfl, rfl⟩))
    go_ret
    exact ⟨by rw [hE.out]; rfl, rfl⟩
  · by_cases h2 : b < a
    · have hE : Hid (cmpI a b = 1) := by unfold Hid cmpI; rw [if_neg h1, if_pos h2]
      go_wp2_with (first | (go_at_call 130; refine (nan130_any _ _).mono ?_; rintro e w2 ⟨rfl, rfl⟩))
      go_ret
      exact ⟨by rw [hE.out]; rfl, rfl⟩
    · have hE : Hid (cmpI a b = 0) := by unfold Hid cmpI; rw [if_neg h1, if_neg h2]
      go_wp2_with (first | (go_at_call 130; refine (nan130_any _ _).mono ?_; rintro e w2 ⟨rfl, rfl⟩))
      go_ret
      exact ⟨by rw [hE.out]; rfl, rfl⟩
theorem nan170_any (a : Int) (w : World) : Calls Tryz.prog 170 #[.int .i64 a] w fun e w' => e = .returned (.bool false) ∧ w' = w := by
  go_enter Tryz.func170, Tryz.ntmps170
  go_wp2_with fail
  go_ret
  exact ⟨by simp, rfl⟩
set_option maxHeartbeats 800000 in
theorem cmp148_any (a b : Int) (w : World) : Calls Tryz.prog 148 #[.int .i64 a, .int .i64 b] w fun e w' => e = .returned (.int .i64 (cmpI a b)) ∧ w' = w := by
  go_enter Tryz.func148, Tryz.ntmps148
  by_cases h1 : a < b
  · have hE : Hid (cmpI a b = -1) := by unfold Hid cmpI; rw [if_pos h1]
    go_wp2_with (first | (go_at_call 170; refine (nan170_any _ _).mono ?_; rintro e w2 ⟨rfl, rfl⟩))
    go_ret
    exact ⟨by rw [hE.out]; rfl, rfl⟩
  · by_cases h2 : b < a
    · have hE : Hid (cmpI a b = 1) := by unfold Hid cmpI; rw [if_neg h1, if_pos h2]
      go_wp2_with (first | (go_at_call 170; refine (nan170_any _ _).mono ?_; rintro e w2 ⟨rfl, rfl⟩))
      go_ret
      exact ⟨by rw [hE.out]; rfl, rfl⟩
    · have hE : Hid (cmpI a b = 0) := by unfold Hid cmpI; rw [if_neg h1, if_neg h2]
      go_wp2_with (first | (go_at_call 170; refine (nan170_any _ _).mono ?_; rintro e w2 ⟨rfl, rfl⟩))
      go_ret
      exact ⟨by rw [hE.out]; rfl, rfl⟩
theorem nan167_any (a : ByteArray) (w : World) : Calls Tryz.prog 167 #[.string a] w fun e w' => e = .returned (.bool false) ∧ w' = w := by
  go_enter Tryz.func167, Tryz.ntmps167
  go_wp2_with fail
  go_ret
  exact ⟨by simp, rfl⟩
set_option maxHeartbeats 800000 in
theorem cmp147_any (a b : ByteArray) (w : World) : Calls Tryz.prog 147 #[.string a, .string b] w fun e w' => e = .returned (.int .i64 (cmpS a b)) ∧ w' = w := by
  have hC : Hid (cmpS a b = if Op.bytesLess a.toList b.toList = true then -1 else if (Op.bytesLess a.toList b.toList || (a.toList == b.toList)) = true then 0 else 1) := rfl
  have hgt : ∀ W, (Go.binOp .gtr 9 (.string a) (.string b)).run Tryz.prog W = .ok (.bool (!(Op.bytesLess a.toList b.toList || (a.toList == b.toList)))) W := fun W => by
    simp [Go.binOp, Op.stringOp, go_sem]
  go_enter Tryz.func147, Tryz.ntmps147
  generalize hx : Op.bytesLess a.toList b.toList = x at *
  generalize hy : (a.toList == b.toList) = y at *
  cases x with
  | true =>
    go_wp2_with (first | (go_at_call 167; refine (nan167_any _ _).mono ?_; rintro e w2 ⟨rfl, rfl⟩))
    go_ret
    exact ⟨by rw [hC.out]; rfl, rfl⟩
  | false =>
    cases y with
    | true =>
      go_wp2_with (first | (go_at_call 167; refine (nan167_any _ _).mono ?_; rintro e w2 ⟨rfl, rfl⟩))
      go_ret
      exact ⟨by rw [hC.out]; rfl, rfl⟩
    | false =>
      go_wp2_with (first | (go_at_call 167; refine (nan167_any _ _).mono ?_; rintro e w2 ⟨rfl, rfl⟩))
      go_ret
      exact ⟨by rw [hC.out]; rfl, rfl⟩
def truthN (b : Bool) : Int := if b then 1 else 0
theorem truth_any (b : Bool) (w : World) : Calls Tryz.prog 123 #[.bool b] w fun e w' => e = .returned (.int .i64 (truthN b)) ∧ w' = w := by
  go_enter Tryz.func123, Tryz.ntmps123
  cases b with
  | true =>
    go_wp2_with fail
    go_ret
    exact ⟨rfl, rfl⟩
  | false =>
    go_wp2_with fail
    go_ret
    exact ⟨rfl, rfl⟩
end Go.Proofs.YtcmepallgchcjaaGreat
