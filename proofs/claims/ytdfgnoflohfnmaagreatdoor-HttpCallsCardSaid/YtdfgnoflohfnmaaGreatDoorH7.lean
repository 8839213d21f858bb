/- HTTP: what a byte is: the leaf functions, walked. -/
import Derived.Test.YtdfgnoflohfnmaaGreatDoorH0
namespace Go.Proofs.YtdfgnoflohfnmaaGreatDoor.Hx
open Go.RowKit Go.Maps

theorem letter_any (c : UInt8) (w : World) : Calls Tryz.prog 82 #[.int .u8 (c.toNat : Int)] w fun e w' => e = .returned (.bool (letB c)) ∧ w' = w := by
  have hT : Hid (letB c = ((decide (97 ≤ c.toNat) && decide (c.toNat ≤ 122)) || (decide (65 ≤ c.toNat) && decide (c.toNat ≤ 90)))) := rfl
  generalize letB c = y at *
  generalize c.toNat = n at *
  go_enter Tryz.func82, Tryz.ntmps82
  by_cases h2 : (97 : Int) ≤ n
  · by_cases h4 : (n : Int) ≤ 122
    · have hy : Hid (y = true) := by unfold Hid; rw [hT.out]; simp; omega
      clear hT
      go_wp2_with fail
      go_ret
      exact ⟨by rw [hy.out]; rfl, rfl⟩
    · by_cases h6 : (65 : Int) ≤ n
      · by_cases h8 : (n : Int) ≤ 90
        · have hy : Hid (y = true) := by unfold Hid; rw [hT.out]; simp; omega
          clear hT
          go_wp2_with fail
          go_ret
          exact ⟨by rw [hy.out]; rfl, rfl⟩
        · have hy : Hid (y = false) := by unfold Hid; rw [hT.out]; simp; omega
          clear hT
          go_wp2_with fail
          go_ret
          exact ⟨by rw [hy.out]; rfl, rfl⟩
      · have hy : Hid (y = false) := by unfold Hid; rw [hT.out]; simp; omega
        clear hT
        go_wp2_with fail
        go_ret
        exact ⟨by rw [hy.out]; rfl, rfl⟩
  · by_cases h4 : (65 : Int) ≤ n
    · by_cases h6 : (n : Int) ≤ 90
      · have hy : Hid (y = true) := by unfold Hid; rw [hT.out]; simp; omega
        clear hT
        go_wp2_with fail
        go_ret
        exact ⟨by rw [hy.out]; rfl, rfl⟩
      · have hy : Hid (y = false) := by unfold Hid; rw [hT.out]; simp; omega
        clear hT
        go_wp2_with fail
        go_ret
        exact ⟨by rw [hy.out]; rfl, rfl⟩
    · have hy : Hid (y = false) := by unfold Hid; rw [hT.out]; simp; omega
      clear hT
      go_wp2_with fail
      go_ret
      exact ⟨by rw [hy.out]; rfl, rfl⟩
theorem digit_any (c : UInt8) (w : World) : Calls Tryz.prog 78 #[.int .u8 (c.toNat : Int)] w fun e w' => e = .returned (.bool (digB c)) ∧ w' = w := by
  have hT : Hid (digB c = (decide (48 ≤ c.toNat) && decide (c.toNat ≤ 57))) := rfl
  generalize digB c = y at *
  generalize c.toNat = n at *
  go_enter Tryz.func78, Tryz.ntmps78
  by_cases h2 : (48 : Int) ≤ n
  · by_cases h4 : (n : Int) ≤ 57
    · have hy : Hid (y = true) := by unfold Hid; rw [hT.out]; simp; omega
      clear hT
      go_wp2_with fail
      go_ret
      exact ⟨by rw [hy.out]; rfl, rfl⟩
    · have hy : Hid (y = false) := by unfold Hid; rw [hT.out]; simp; omega
      clear hT
      go_wp2_with fail
      go_ret
      exact ⟨by rw [hy.out]; rfl, rfl⟩
  · have hy : Hid (y = false) := by unfold Hid; rw [hT.out]; simp; omega
    clear hT
    go_wp2_with fail
    go_ret
    exact ⟨by rw [hy.out]; rfl, rfl⟩
theorem print_any (c : UInt8) (w : World) : Calls Tryz.prog 46 #[.int .u8 (c.toNat : Int)] w fun e w' => e = .returned (.bool (prB c)) ∧ w' = w := by
  have hT : Hid (prB c = (decide (32 ≤ c.toNat) && decide (c.toNat ≤ 126))) := rfl
  generalize prB c = y at *
  generalize c.toNat = n at *
  go_enter Tryz.func46, Tryz.ntmps46
  by_cases h2 : (32 : Int) ≤ n
  · by_cases h4 : (n : Int) ≤ 126
    · have hy : Hid (y = true) := by unfold Hid; rw [hT.out]; simp; omega
      clear hT
      go_wp2_with fail
      go_ret
      exact ⟨by rw [hy.out]; rfl, rfl⟩
    · have hy : Hid (y = false) := by unfold Hid; rw [hT.out]; simp; omega
      clear hT
      go_wp2_with fail
      go_ret
      exact ⟨by rw [hy.out]; rfl, rfl⟩
  · have hy : Hid (y = false) := by unfold Hid; rw [hT.out]; simp; omega
    clear hT
    go_wp2_with fail
    go_ret
    exact ⟨by rw [hy.out]; rfl, rfl⟩
theorem tg_any (c : UInt8) (w : World) : Calls Tryz.prog 39 #[.int .u8 (c.toNat : Int)] w fun e w' => e = .returned (.bool (tgB c)) ∧ w' = w := by
  have hT : Hid (tgB c = (decide (33 ≤ c.toNat) && decide (c.toNat ≤ 126))) := rfl
  generalize tgB c = y at *
  generalize c.toNat = n at *
  go_enter Tryz.func39, Tryz.ntmps39
  by_cases h2 : (33 : Int) ≤ n
  · by_cases h4 : (n : Int) ≤ 126
    · have hy : Hid (y = true) := by unfold Hid; rw [hT.out]; simp; omega
      clear hT
      go_wp2_with fail
      go_ret
      exact ⟨by rw [hy.out]; rfl, rfl⟩
    · have hy : Hid (y = false) := by unfold Hid; rw [hT.out]; simp; omega
      clear hT
      go_wp2_with fail
      go_ret
      exact ⟨by rw [hy.out]; rfl, rfl⟩
  · have hy : Hid (y = false) := by unfold Hid; rw [hT.out]; simp; omega
    clear hT
    go_wp2_with fail
    go_ret
    exact ⟨by rw [hy.out]; rfl, rfl⟩
theorem cap_any (c : UInt8) (w : World) : Calls Tryz.prog 65 #[.int .u8 (c.toNat : Int)] w fun e w' => e = .returned (.bool (capB c)) ∧ w' = w := by
  have hT : Hid (capB c = (decide (65 ≤ c.toNat) && decide (c.toNat ≤ 90))) := rfl
  generalize capB c = y at *
  generalize c.toNat = n at *
  go_enter Tryz.func65, Tryz.ntmps65
  by_cases h2 : (65 : Int) ≤ n
  · by_cases h4 : (n : Int) ≤ 90
    · have hy : Hid (y = true) := by unfold Hid; rw [hT.out]; simp; omega
      clear hT
      go_wp2_with fail
      go_ret
      exact ⟨by rw [hy.out]; rfl, rfl⟩
    · have hy : Hid (y = false) := by unfold Hid; rw [hT.out]; simp; omega
      clear hT
      go_wp2_with fail
      go_ret
      exact ⟨by rw [hy.out]; rfl, rfl⟩
  · have hy : Hid (y = false) := by unfold Hid; rw [hT.out]; simp; omega
    clear hT
    go_wp2_with fail
    go_ret
    exact ⟨by rw [hy.out]; rfl, rfl⟩
theorem cap2_any (c : UInt8) (w : World) : Calls Tryz.prog 59 #[.int .u8 (c.toNat : Int)] w fun e w' => e = .returned (.bool (capB c)) ∧ w' = w := by
  have hT : Hid (capB c = (decide (65 ≤ c.toNat) && decide (c.toNat ≤ 90))) := rfl
  generalize capB c = y at *
  generalize c.toNat = n at *
  go_enter Tryz.func59, Tryz.ntmps59
  by_cases h2 : (65 : Int) ≤ n
  · by_cases h4 : (n : Int) ≤ 90
    · have hy : Hid (y = true) := by unfold Hid; rw [hT.out]; simp; omega
      clear hT
      go_wp2_with fail
      go_ret
      exact ⟨by rw [hy.out]; rfl, rfl⟩
    · have hy : Hid (y = false) := by unfold Hid; rw [hT.out]; simp; omega
      clear hT
      go_wp2_with fail
      go_ret
      exact ⟨by rw [hy.out]; rfl, rfl⟩
  · have hy : Hid (y = false) := by unfold Hid; rw [hT.out]; simp; omega
    clear hT
    go_wp2_with fail
    go_ret
    exact ⟨by rw [hy.out]; rfl, rfl⟩
theorem ln_any (c : UInt8) (w : World) : Calls Tryz.prog 89 #[.int .u8 (c.toNat : Int)] w fun e w' => e = .returned (.bool (lnB c)) ∧ w' = w := by
  have hp := fun W => Lib.hid (print_any c W)
  have hT : Hid (lnB c = (prB c || decide (c.toNat = 9))) := rfl
  generalize lnB c = y at *
  generalize prB c = z at *
  generalize c.toNat = n at *
  go_enter Tryz.func89, Tryz.ntmps89
  cases z with
  | true =>
    have hy : Hid (y = true) := by unfold Hid; rw [hT.out]; rfl
    clear hT
    go_wp2_with (first
      | (go_at_call 46; refine ((hp _).out).mono ?_; rintro e w1 ⟨rfl, rfl⟩))
    go_ret
    exact ⟨by rw [hy.out]; rfl, rfl⟩
  | false =>
    by_cases h : n = 9
    · have hy : Hid (y = true) := by unfold Hid; rw [hT.out, decide_eq_true h]; rfl
      have hb : ((n : Int) == 9) = true := by simp; omega
      clear hT h
      go_wp2_with (first
        | (go_at_call 46; refine ((hp _).out).mono ?_; rintro e w1 ⟨rfl, rfl⟩))
      go_ret
      exact ⟨by rw [hy.out]; rfl, rfl⟩
    · have hy : Hid (y = false) := by unfold Hid; rw [hT.out, decide_eq_false h]; rfl
      have hb : ((n : Int) == 9) = false := by simp; omega
      clear hT h
      go_wp2_with (first
        | (go_at_call 46; refine ((hp _).out).mono ?_; rintro e w1 ⟨rfl, rfl⟩))
      go_ret
      exact ⟨by rw [hy.out]; rfl, rfl⟩
theorem nm_any (c : UInt8) (w : World) : Calls Tryz.prog 92 #[.int .u8 (c.toNat : Int)] w fun e w' => e = .returned (.bool (nmB c)) ∧ w' = w := by
  have hl := fun W => Lib.hid (letter_any c W)
  have hd := fun W => Lib.hid (digit_any c W)
  have hT : Hid (nmB c = (letB c || digB c || decide (c.toNat = 45))) := rfl
  generalize nmB c = y at *
  generalize letB c = z at *
  generalize digB c = z2 at *
  generalize c.toNat = n at *
  go_enter Tryz.func92, Tryz.ntmps92
  cases z with
  | true =>
    have hy : Hid (y = true) := by unfold Hid; rw [hT.out]; rfl
    clear hT
    go_wp2_with (first
      | (go_at_call 82; refine ((hl _).out).mono ?_; rintro e w1 ⟨rfl, rfl⟩))
    go_ret
    exact ⟨by rw [hy.out]; rfl, rfl⟩
  | false =>
    cases z2 with
    | true =>
      have hy : Hid (y = true) := by unfold Hid; rw [hT.out]; rfl
      clear hT
      go_wp2_with (first
        | (go_at_call 82; refine ((hl _).out).mono ?_; rintro e w1 ⟨rfl, rfl⟩)
        | (go_at_call 78; refine ((hd _).out).mono ?_; rintro e w1 ⟨rfl, rfl⟩))
      go_ret
      exact ⟨by rw [hy.out]; rfl, rfl⟩
    | false =>
      by_cases h : n = 45
      · have hy : Hid (y = true) := by unfold Hid; rw [hT.out, decide_eq_true h]; rfl
        have hb : ((n : Int) == 45) = true := by simp; omega
        clear hT h
        go_wp2_with (first
          | (go_at_call 82; refine ((hl _).out).mono ?_; rintro e w1 ⟨rfl, rfl⟩)
          | (go_at_call 78; refine ((hd _).out).mono ?_; rintro e w1 ⟨rfl, rfl⟩))
        go_ret
        exact ⟨by rw [hy.out]; rfl, rfl⟩
      · have hy : Hid (y = false) := by unfold Hid; rw [hT.out, decide_eq_false h]; rfl
        have hb : ((n : Int) == 45) = false := by simp; omega
        clear hT h
        go_wp2_with (first
          | (go_at_call 82; refine ((hl _).out).mono ?_; rintro e w1 ⟨rfl, rfl⟩)
          | (go_at_call 78; refine ((hd _).out).mono ?_; rintro e w1 ⟨rfl, rfl⟩))
        go_ret
        exact ⟨by rw [hy.out]; rfl, rfl⟩
end Go.Proofs.YtdfgnoflohfnmaaGreatDoor.Hx
/-! HTTP: are all bytes of a text so? (http.all, at each function that it is handed.) -/
namespace Go.Proofs.YtdfgnoflohfnmaaGreatDoor.Hx
open Go.RowKit Go.Maps

theorem all_succ (s : ByteArray) {k : Nat} (h : k < s.size) (p : UInt8 → Bool) : (s.data.toList.take (k + 1)).all p = ((s.data.toList.take k).all p && p s[k]) := by
  have h' : k < s.data.toList.length := h
  rw [List.take_succ_eq_append_getElem h', List.all_append]
  have e : s.data.toList[k] = s[k] := rfl
  rw [e]
  simp
theorem all_no (s : ByteArray) {k : Nat} (h : k < s.size) {p : UInt8 → Bool} (hp : p s[k] = false) : s.data.toList.all p = false := by
  rw [List.all_eq_false]
  exact ⟨s[k], List.getElem_mem (l := s.data.toList) h, by rw [hp]; decide⟩
set_option maxRecDepth 100000 in
set_option maxHeartbeats 1600000 in
theorem all_tg (s : ByteArray) (w : World) (hs : s.size ≤ 1000000000) : Calls Tryz.prog 38 #[.string s, .func (.func 39) #[] #[]] w fun e w' => e = .returned (.bool (s.data.toList.all tgB)) ∧ w' = w := by
  obtain ⟨R, hR⟩ : ∃ R, R = s.data.toList.all tgB := ⟨_, rfl⟩
  have hA : Hid (R = (s.data.toList.take s.size).all tgB) := by
    unfold Hid
    rw [show s.size = s.data.toList.length from rfl, List.take_length]
    exact hR
  rw [← hR]
  have hN : Hid (s.data.toList.all tgB = R) := hR.symm
  clear hR
  go_enter Tryz.func38, Tryz.ntmps38
  go_wp2_with fail
  go_loopg [8] s.size (fun z u8 wr => ∃ k : Nat, k ≤ s.size ∧ z = s.size - k ∧ u8 = .int .i64 k ∧ Hid ((s.data.toList.take k).all tgB = true) ∧ wr = w)
  case atStart => exact ⟨0, Nat.zero_le _, rfl, rfl, rfl, rfl⟩
  case round =>
    obtain ⟨k, hk, rfl, rfl, hp, rfl⟩ := hrel
    by_cases hlt : k < s.size
    · have hki : (k : Int) < (s.size : Int) := by omega
      have hst := Lib.hid (all_succ s hlt tgB)
      have hno : tgB s[k] = false → Hid (R = false) := fun h => hN.out.symm.trans (all_no s hlt (p := tgB) h)
      have hc := fun W => Lib.hid (tg_any s[k] W)
      have hq1 := Lib.hid (show wrap64 ((k : Int) + 1) = ((k + 1 : Nat) : Int) from (wrap64_id (by omega) (by omega)).trans (by omega))
      generalize hy : tgB s[k] = y at *
      cases y with
      | true =>
        have hst2 : Hid ((s.data.toList.take (k + 1)).all tgB = true) := by unfold Hid; rw [hst.out, hp.out]; rfl
        clear hst hno hy hp hA hN
        go_wp2_with (first
          | (go_at_call 39; refine ((hc _).out).mono ?_; rintro e w1 ⟨rfl, rfl⟩))
        go_roundg (s.size - (k + 1))
        case measure => omega
        case rel => exact ⟨k + 1, hlt, rfl, by first | rw [hq1.out] | go_num, hst2, rfl⟩
      | false =>
        have hno2 := hno rfl
        clear hst hno hy hp hA hq1 hN
        go_wp2_with (first
          | (go_at_call 39; refine ((hc _).out).mono ?_; rintro e w1 ⟨rfl, rfl⟩))
        go_ret
        exact ⟨by rw [hno2.out]; rfl, rfl⟩
    · have hke : k = s.size := by omega
      subst hke
      have hT : Hid (R = true) := hA.out.trans hp.out
      have hni : ¬ ((s.size : Int) < (s.size : Int)) := by omega
      clear hp hA hN
      go_wp2_with fail
      go_ret
      exact ⟨by rw [hT.out]; rfl, rfl⟩
set_option maxRecDepth 100000 in
set_option maxHeartbeats 1600000 in
theorem all_cap2 (s : ByteArray) (w : World) (hs : s.size ≤ 1000000000) : Calls Tryz.prog 38 #[.string s, .func (.func 59) #[] #[]] w fun e w' => e = .returned (.bool (s.data.toList.all capB)) ∧ w' = w := by
  obtain ⟨R, hR⟩ : ∃ R, R = s.data.toList.all capB := ⟨_, rfl⟩
  have hA : Hid (R = (s.data.toList.take s.size).all capB) := by
    unfold Hid
    rw [show s.size = s.data.toList.length from rfl, List.take_length]
    exact hR
  rw [← hR]
  have hN : Hid (s.data.toList.all capB = R) := hR.symm
  clear hR
  go_enter Tryz.func38, Tryz.ntmps38
  go_wp2_with fail
  go_loopg [8] s.size (fun z u8 wr => ∃ k : Nat, k ≤ s.size ∧ z = s.size - k ∧ u8 = .int .i64 k ∧ Hid ((s.data.toList.take k).all capB = true) ∧ wr = w)
  case atStart => exact ⟨0, Nat.zero_le _, rfl, rfl, rfl, rfl⟩
  case round =>
    obtain ⟨k, hk, rfl, rfl, hp, rfl⟩ := hrel
    by_cases hlt : k < s.size
    · have hki : (k : Int) < (s.size : Int) := by omega
      have hst := Lib.hid (all_succ s hlt capB)
      have hno : capB s[k] = false → Hid (R = false) := fun h => hN.out.symm.trans (all_no s hlt (p := capB) h)
      have hc := fun W => Lib.hid (cap2_any s[k] W)
      have hq1 := Lib.hid (show wrap64 ((k : Int) + 1) = ((k + 1 : Nat) : Int) from (wrap64_id (by omega) (by omega)).trans (by omega))
      generalize hy : capB s[k] = y at *
      cases y with
      | true =>
        have hst2 : Hid ((s.data.toList.take (k + 1)).all capB = true) := by unfold Hid; rw [hst.out, hp.out]; rfl
        clear hst hno hy hp hA hN
        go_wp2_with (first
          | (go_at_call 59; refine ((hc _).out).mono ?_; rintro e w1 ⟨rfl, rfl⟩))
        go_roundg (s.size - (k + 1))
        case measure => omega
        case rel => exact ⟨k + 1, hlt, rfl, by first | rw [hq1.out] | go_num, hst2, rfl⟩
      | false =>
        have hno2 := hno rfl
        clear hst hno hy hp hA hq1 hN
        go_wp2_with (first
          | (go_at_call 59; refine ((hc _).out).mono ?_; rintro e w1 ⟨rfl, rfl⟩))
        go_ret
        exact ⟨by rw [hno2.out]; rfl, rfl⟩
    · have hke : k = s.size := by omega
      subst hke
      have hT : Hid (R = true) := hA.out.trans hp.out
      have hni : ¬ ((s.size : Int) < (s.size : Int)) := by omega
      clear hp hA hN
      go_wp2_with fail
      go_ret
      exact ⟨by rw [hT.out]; rfl, rfl⟩
set_option maxRecDepth 100000 in
set_option maxHeartbeats 1600000 in
theorem all_cap (s : ByteArray) (w : World) (hs : s.size ≤ 1000000000) : Calls Tryz.prog 38 #[.string s, .func (.func 65) #[] #[]] w fun e w' => e = .returned (.bool (s.data.toList.all capB)) ∧ w' = w := by
  obtain ⟨R, hR⟩ : ∃ R, R = s.data.toList.all capB := ⟨_, rfl⟩
  have hA : Hid (R = (s.data.toList.take s.size).all capB) := by
    unfold Hid
    rw [show s.size = s.data.toList.length from rfl, List.take_length]
    exact hR
  rw [← hR]
  have hN : Hid (s.data.toList.all capB = R) := hR.symm
  clear hR
  go_enter Tryz.func38, Tryz.ntmps38
  go_wp2_with fail
  go_loopg [8] s.size (fun z u8 wr => ∃ k : Nat, k ≤ s.size ∧ z = s.size - k ∧ u8 = .int .i64 k ∧ Hid ((s.data.toList.take k).all capB = true) ∧ wr = w)
  case atStart => exact ⟨0, Nat.zero_le _, rfl, rfl, rfl, rfl⟩
  case round =>
    obtain ⟨k, hk, rfl, rfl, hp, rfl⟩ := hrel
    by_cases hlt : k < s.size
    · have hki : (k : Int) < (s.size : Int) := by omega
      have hst := Lib.hid (all_succ s hlt capB)
      have hno : capB s[k] = false → Hid (R = false) := fun h => hN.out.symm.trans (all_no s hlt (p := capB) h)
      have hc := fun W => Lib.hid (cap_any s[k] W)
      have hq1 := Lib.hid (show wrap64 ((k : Int) + 1) = ((k + 1 : Nat) : Int) from (wrap64_id (by omega) (by omega)).trans (by omega))
      generalize hy : capB s[k] = y at *
      cases y with
      | true =>
        have hst2 : Hid ((s.data.toList.take (k + 1)).all capB = true) := by unfold Hid; rw [hst.out, hp.out]; rfl
        clear hst hno hy hp hA hN
        go_wp2_with (first
          | (go_at_call 65; refine ((hc _).out).mono ?_; rintro e w1 ⟨rfl, rfl⟩))
        go_roundg (s.size - (k + 1))
        case measure => omega
        case rel => exact ⟨k + 1, hlt, rfl, by first | rw [hq1.out] | go_num, hst2, rfl⟩
      | false =>
        have hno2 := hno rfl
        clear hst hno hy hp hA hq1 hN
        go_wp2_with (first
          | (go_at_call 65; refine ((hc _).out).mono ?_; rintro e w1 ⟨rfl, rfl⟩))
        go_ret
        exact ⟨by rw [hno2.out]; rfl, rfl⟩
    · have hke : k = s.size := by omega
      subst hke
      have hT : Hid (R = true) := hA.out.trans hp.out
      have hni : ¬ ((s.size : Int) < (s.size : Int)) := by omega
      clear hp hA hN
      go_wp2_with fail
      go_ret
      exact ⟨by rw [hT.out]; rfl, rfl⟩
set_option maxRecDepth 100000 in
set_option maxHeartbeats 1600000 in
theorem all_ln (s : ByteArray) (w : World) (hs : s.size ≤ 1000000000) : Calls Tryz.prog 38 #[.string s, .func (.func 89) #[] #[]] w fun e w' => e = .returned (.bool (s.data.toList.all lnB)) ∧ w' = w := by
  obtain ⟨R, hR⟩ : ∃ R, R = s.data.toList.all lnB := ⟨_, rfl⟩
  have hA : Hid (R = (s.data.toList.take s.size).all lnB) := by
    unfold Hid
    rw [show s.size = s.data.toList.length from rfl, List.take_length]
    exact hR
  rw [← hR]
  have hN : Hid (s.data.toList.all lnB = R) := hR.symm
  clear hR
  go_enter Tryz.func38, Tryz.ntmps38
  go_wp2_with fail
  go_loopg [8] s.size (fun z u8 wr => ∃ k : Nat, k ≤ s.size ∧ z = s.size - k ∧ u8 = .int .i64 k ∧ Hid ((s.data.toList.take k).all lnB = true) ∧ wr = w)
  case atStart => exact ⟨0, Nat.zero_le _, rfl, rfl, rfl, rfl⟩
  case round =>
    obtain ⟨k, hk, rfl, rfl, hp, rfl⟩ := hrel
    by_cases hlt : k < s.size
    · have hki : (k : Int) < (s.size : Int) := by omega
      have hst := Lib.hid (all_succ s hlt lnB)
      have hno : lnB s[k] = false → Hid (R = false) := fun h => hN.out.symm.trans (all_no s hlt (p := lnB) h)
      have hc := fun W => Lib.hid (ln_any s[k] W)
      have hq1 := Lib.hid (show wrap64 ((k : Int) + 1) = ((k + 1 : Nat) : Int) from (wrap64_id (by omega) (by omega)).trans (by omega))
      generalize hy : lnB s[k] = y at *
      cases y with
      | true =>
        have hst2 : Hid ((s.data.toList.take (k + 1)).all lnB = true) := by unfold Hid; rw [hst.out, hp.out]; rfl
        clear hst hno hy hp hA hN
        go_wp2_with (first
          | (go_at_call 89; refine ((hc _).out).mono ?_; rintro e w1 ⟨rfl, rfl⟩))
        go_roundg (s.size - (k + 1))
        case measure => omega
        case rel => exact ⟨k + 1, hlt, rfl, by first | rw [hq1.out] | go_num, hst2, rfl⟩
      | false =>
        have hno2 := hno rfl
        clear hst hno hy hp hA hq1 hN
        go_wp2_with (first
          | (go_at_call 89; refine ((hc _).out).mono ?_; rintro e w1 ⟨rfl, rfl⟩))
        go_ret
        exact ⟨by rw [hno2.out]; rfl, rfl⟩
    · have hke : k = s.size := by omega
      subst hke
      have hT : Hid (R = true) := hA.out.trans hp.out
      have hni : ¬ ((s.size : Int) < (s.size : Int)) := by omega
      clear hp hA hN
      go_wp2_with fail
      go_ret
      exact ⟨by rw [hT.out]; rfl, rfl⟩
set_option maxRecDepth 100000 in
set_option maxHeartbeats 1600000 in
theorem all_nm (s : ByteArray) (w : World) (hs : s.size ≤ 1000000000) : Calls Tryz.prog 38 #[.string s, .func (.func 92) #[] #[]] w fun e w' => e = .returned (.bool (s.data.toList.all nmB)) ∧ w' = w := by
  obtain ⟨R, hR⟩ : ∃ R, R = s.data.toList.all nmB := ⟨_, rfl⟩
  have hA : Hid (R = (s.data.toList.take s.size).all nmB) := by
    unfold Hid
    rw [show s.size = s.data.toList.length from rfl, List.take_length]
    exact hR
  rw [← hR]
  have hN : Hid (s.data.toList.all nmB = R) := hR.symm
  clear hR
  go_enter Tryz.func38, Tryz.ntmps38
  go_wp2_with fail
  go_loopg [8] s.size (fun z u8 wr => ∃ k : Nat, k ≤ s.size ∧ z = s.size - k ∧ u8 = .int .i64 k ∧ Hid ((s.data.toList.take k).all nmB = true) ∧ wr = w)
  case atStart => exact ⟨0, Nat.zero_le _, rfl, rfl, rfl, rfl⟩
  case round =>
    obtain ⟨k, hk, rfl, rfl, hp, rfl⟩ := hrel
    by_cases hlt : k < s.size
    · have hki : (k : Int) < (s.size : Int) := by omega
      have hst := Lib.hid (all_succ s hlt nmB)
      have hno : nmB s[k] = false → Hid (R = false) := fun h => hN.out.symm.trans (all_no s hlt (p := nmB) h)
      have hc := fun W => Lib.hid (nm_any s[k] W)
      have hq1 := Lib.hid (show wrap64 ((k : Int) + 1) = ((k + 1 : Nat) : Int) from (wrap64_id (by omega) (by omega)).trans (by omega))
      generalize hy : nmB s[k] = y at *
      cases y with
      | true =>
        have hst2 : Hid ((s.data.toList.take (k + 1)).all nmB = true) := by unfold Hid; rw [hst.out, hp.out]; rfl
        clear hst hno hy hp hA hN
        go_wp2_with (first
          | (go_at_call 92; refine ((hc _).out).mono ?_; rintro e w1 ⟨rfl, rfl⟩))
        go_roundg (s.size - (k + 1))
        case measure => omega
        case rel => exact ⟨k + 1, hlt, rfl, by first | rw [hq1.out] | go_num, hst2, rfl⟩
      | false =>
        have hno2 := hno rfl
        clear hst hno hy hp hA hq1 hN
        go_wp2_with (first
          | (go_at_call 92; refine ((hc _).out).mono ?_; rintro e w1 ⟨rfl, rfl⟩))
        go_ret
        exact ⟨by rw [hno2.out]; rfl, rfl⟩
    · have hke : k = s.size := by omega
      subst hke
      have hT : Hid (R = true) := hA.out.trans hp.out
      have hni : ¬ ((s.size : Int) < (s.size : Int)) := by omega
      clear hp hA hN
      go_wp2_with fail
      go_ret
      exact ⟨by rw [hT.out]; rfl, rfl⟩
set_option maxRecDepth 100000 in
set_option maxHeartbeats 1600000 in
theorem all_dig (s : ByteArray) (w : World) (hs : s.size ≤ 1000000000) : Calls Tryz.prog 38 #[.string s, .func (.func 78) #[] #[]] w fun e w' => e = .returned (.bool (s.data.toList.all digB)) ∧ w' = w := by
  obtain ⟨R, hR⟩ : ∃ R, R = s.data.toList.all digB := ⟨_, rfl⟩
  have hA : Hid (R = (s.data.toList.take s.size).all digB) := by
    unfold Hid
    rw [show s.size = s.data.toList.length from rfl, List.take_length]
    exact hR
  rw [← hR]
  have hN : Hid (s.data.toList.all digB = R) := hR.symm
  clear hR
  go_enter Tryz.func38, Tryz.ntmps38
  go_wp2_with fail
  go_loopg [8] s.size (fun z u8 wr => ∃ k : Nat, k ≤ s.size ∧ z = s.size - k ∧ u8 = .int .i64 k ∧ Hid ((s.data.toList.take k).all digB = true) ∧ wr = w)
  case atStart => exact ⟨0, Nat.zero_le _, rfl, rfl, rfl, rfl⟩
  case round =>
    obtain ⟨k, hk, rfl, rfl, hp, rfl⟩ := hrel
    by_cases hlt : k < s.size
    · have hki : (k : Int) < (s.size : Int) := by omega
      have hst := Lib.hid (all_succ s hlt digB)
      have hno : digB s[k] = false → Hid (R = false) := fun h => hN.out.symm.trans (all_no s hlt (p := digB) h)
      have hc := fun W => Lib.hid (digit_any s[k] W)
      have hq1 := Lib.hid (show wrap64 ((k : Int) + 1) = ((k + 1 : Nat) : Int) from (wrap64_id (by omega) (by omega)).trans (by omega))
      generalize hy : digB s[k] = y at *
      cases y with
      | true =>
        have hst2 : Hid ((s.data.toList.take (k + 1)).all digB = true) := by unfold Hid; rw [hst.out, hp.out]; rfl
        clear hst hno hy hp hA hN
        go_wp2_with (first
          | (go_at_call 78; refine ((hc _).out).mono ?_; rintro e w1 ⟨rfl, rfl⟩))
        go_roundg (s.size - (k + 1))
        case measure => omega
        case rel => exact ⟨k + 1, hlt, rfl, by first | rw [hq1.out] | go_num, hst2, rfl⟩
      | false =>
        have hno2 := hno rfl
        clear hst hno hy hp hA hq1 hN
        go_wp2_with (first
          | (go_at_call 78; refine ((hc _).out).mono ?_; rintro e w1 ⟨rfl, rfl⟩))
        go_ret
        exact ⟨by rw [hno2.out]; rfl, rfl⟩
    · have hke : k = s.size := by omega
      subst hke
      have hT : Hid (R = true) := hA.out.trans hp.out
      have hni : ¬ ((s.size : Int) < (s.size : Int)) := by omega
      clear hp hA hN
      go_wp2_with fail
      go_ret
      exact ⟨by rw [hT.out]; rfl, rfl⟩
set_option maxRecDepth 100000 in
set_option maxHeartbeats 1600000 in
theorem all_pr (s : ByteArray) (w : World) (hs : s.size ≤ 1000000000) : Calls Tryz.prog 38 #[.string s, .func (.func 46) #[] #[]] w fun e w' => e = .returned (.bool (s.data.toList.all prB)) ∧ w' = w := by
  obtain ⟨R, hR⟩ : ∃ R, R = s.data.toList.all prB := ⟨_, rfl⟩
  have hA : Hid (R = (s.data.toList.take s.size).all prB) := by
    unfold Hid
    rw [show s.size = s.data.toList.length from rfl, List.take_length]
    exact hR
  rw [← hR]
  have hN : Hid (s.data.toList.all prB = R) := hR.symm
  clear hR
  go_enter Tryz.func38, Tryz.ntmps38
  go_wp2_with fail
  go_loopg [8] s.size (fun z u8 wr => ∃ k : Nat, k ≤ s.size ∧ z = s.size - k ∧ u8 = .int .i64 k ∧ Hid ((s.data.toList.take k).all prB = true) ∧ wr = w)
  case atStart => exact ⟨0, Nat.zero_le _, rfl, rfl, rfl, rfl⟩
  case round =>
    obtain ⟨k, hk, rfl, rfl, hp, rfl⟩ := hrel
    by_cases hlt : k < s.size
    · have hki : (k : Int) < (s.size : Int) := by omega
      have hst := Lib.hid (all_succ s hlt prB)
      have hno : prB s[k] = false → Hid (R = false) := fun h => hN.out.symm.trans (all_no s hlt (p := prB) h)
      have hc := fun W => Lib.hid (print_any s[k] W)
      have hq1 := Lib.hid (show wrap64 ((k : Int) + 1) = ((k + 1 : Nat) : Int) from (wrap64_id (by omega) (by omega)).trans (by omega))
      generalize hy : prB s[k] = y at *
      cases y with
      | true =>
        have hst2 : Hid ((s.data.toList.take (k + 1)).all prB = true) := by unfold Hid; rw [hst.out, hp.out]; rfl
        clear hst hno hy hp hA hN
        go_wp2_with (first
          | (go_at_call 46; refine ((hc _).out).mono ?_; rintro e w1 ⟨rfl, rfl⟩))
        go_roundg (s.size - (k + 1))
        case measure => omega
        case rel => exact ⟨k + 1, hlt, rfl, by first | rw [hq1.out] | go_num, hst2, rfl⟩
      | false =>
        have hno2 := hno rfl
        clear hst hno hy hp hA hq1 hN
        go_wp2_with (first
          | (go_at_call 46; refine ((hc _).out).mono ?_; rintro e w1 ⟨rfl, rfl⟩))
        go_ret
        exact ⟨by rw [hno2.out]; rfl, rfl⟩
    · have hke : k = s.size := by omega
      subst hke
      have hT : Hid (R = true) := hA.out.trans hp.out
      have hni : ¬ ((s.size : Int) < (s.size : Int)) := by omega
      clear hp hA hN
      go_wp2_with fail
      go_ret
      exact ⟨by rw [hT.out]; rfl, rfl⟩
end Go.Proofs.YtdfgnoflohfnmaaGreatDoor.Hx
