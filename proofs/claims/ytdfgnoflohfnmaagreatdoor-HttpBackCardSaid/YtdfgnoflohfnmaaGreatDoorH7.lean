/- HTTP: are all bytes of a text so? (http.all, at each function that it is handed.) -/
import Derived.Test.YtdfgnoflohfnmaaGreatDoorH6
namespace Go.Proofs.YtdfgnoflohfnmaaGreatDoor.Hx
open Go.RowKit Go.Maps

theorem all_succ (s : ByteArray) {k : Nat} (h : k < s.size) (p : UInt8 → Bool) : (s.data.toList.take (k + 1)).all p = ((s.data.toList.take k).all p && p s[k]) := by
  have h' : k < s.data.toList.length := h
  rw [List.take_succ_eq_append_getElem h', List.all_append]
  have e : s.data.toList[k] = s[k] := rfl
  rw [e]
  simp
theorem all_no (s : ByteArray) {k : Nat} (h : k < s.size) {p : UInt8 → Bool} (hp : p s[k] = false) : s.data.toList.all p = false := by
  rw [List.all_eq_false]
  exact ⟨s[k], List.getElem_mem (l := s.data.toList) h, by rw [hp]; decide⟩
set_option maxRecDepth 100000 in
set_option maxHeartbeats 1600000 in
theorem all_tg (s : ByteArray) (w : World) (hs : s.size ≤ 1000000000) : Calls Tryz.prog 38 #[.string s, .func (.func 39) #[] #[]] w fun e w' => e = .returned (.bool (s.data.toList.all tgB)) ∧ w' = w := by
  obtain ⟨R, hR⟩ : ∃ R, R = s.data.toList.all tgB := ⟨_, rfl⟩
  have hA : Hid (R = (s.data.toList.take s.size).all tgB) := by
    unfold Hid
    rw [show s.size = s.data.toList.length from rfl, List.take_length]
    exact hR
  rw [← hR]
  have hN : Hid (s.data.toList.all tgB = R) := hR.symm
  clear hR
  go_enter Tryz.func38, Tryz.ntmps38
  go_wp2_with fail
  go_loopg [8] s.size (fun z u8 wr => ∃ k : Nat, k ≤ s.size ∧ z = s.size - k ∧ u8 = .int .i64 k ∧ Hid ((s.data.toList.take k).all tgB = true) ∧ wr = w)
  case atStart => exact ⟨0, Nat.zero_le _, rfl, rfl, rfl, rfl⟩
  case round =>
    obtain ⟨k, hk, rfl, rfl, hp, rfl⟩ := hrel
    by_cases hlt : k < s.size
    · have hki : (k : Int) < (s.size : Int) := by omega
      have hst := Lib.hid (all_succ s hlt tgB)
      have hno : tgB s[k] = false → Hid (R = false) := fun h => hN.out.symm.trans (all_no s hlt (p := tgB) h)
      have hc := fun W => Lib.hid (tg_any s[k] W)
      have hq1 := Lib.hid (show wrap64 ((k : Int) + 1) = ((k + 1 : Nat) : Int) from (wrap64_id (by omega) (by omega)).trans (by omega))
      generalize hy : tgB s[k] = y at *
      cases y with
      | true =>
        have hst2 : Hid ((s.data.toList.take (k + 1)).all tgB = true) := by unfold Hid; rw [hst.out, hp.out]; rfl
        clear hst hno hy hp hA hN
        go_wp2_with (first
          | (go_at_call 39; refine ((hc _).out).mono ?_; rintro e w1 ⟨rfl, rfl⟩))
        go_roundg (s.size - (k + 1))
        case measure => omega
        case rel => exact ⟨k + 1, hlt, rfl, by first | rw [hq1.out] | go_num, hst2, rfl⟩
      | false =>
        have hno2 := hno rfl
        clear hst hno hy hp hA hq1 hN
        go_wp2_with (first
          | (go_at_call 39; refine ((hc _).out).mono ?_; rintro e w1 ⟨rfl, rfl⟩))
        go_ret
        exact ⟨by rw [hno2.out]; rfl, rfl⟩
    · have hke : k = s.size := by omega
      subst hke
      have hT : Hid (R = true) := hA.out.trans hp.out
      have hni : ¬ ((s.size : Int) < (s.size : Int)) := by omega
      clear hp hA hN
      go_wp2_with fail
      go_ret
      exact ⟨by rw [hT.out]; rfl, rfl⟩
set_option maxRecDepth 100000 in
set_option maxHeartbeats 1600000 in
theorem all_cap2 (s : ByteArray) (w : World) (hs : s.size ≤ 1000000000) : Calls Tryz.prog 38 #[.string s, .func (.func 59) #[] #[]] w fun e w' => e = .returned (.bool (s.data.toList.all capB)) ∧ w' = w := by
  obtain ⟨R, hR⟩ : ∃ R, R = s.data.toList.all capB := ⟨_, rfl⟩
  have hA : Hid (R = (s.data.toList.take s.size).all capB) := by
    unfold Hid
    rw [show s.size = s.data.toList.length from rfl, List.take_length]
    exact hR
  rw [← hR]
  have hN : Hid (s.data.toList.all capB = R) := hR.symm
  clear hR
  go_enter Tryz.func38, Tryz.ntmps38
  go_wp2_with fail
  go_loopg [8] s.size (fun z u8 wr => ∃ k : Nat, k ≤ s.size ∧ z = s.size - k ∧ u8 = .int .i64 k ∧ Hid ((s.data.toList.take k).all capB = true) ∧ wr = w)
  case atStart => exact ⟨0, Nat.zero_le _, rfl, rfl, rfl, rfl⟩
  case round =>
    obtain ⟨k, hk, rfl, rfl, hp, rfl⟩ := hrel
    by_cases hlt : k < s.size
    · have hki : (k : Int) < (s.size : Int) := by omega
      have hst := Lib.hid (all_succ s hlt capB)
      have hno : capB s[k] = false → Hid (R = false) := fun h => hN.out.symm.trans (all_no s hlt (p := capB) h)
      have hc := fun W => Lib.hid (cap2_any s[k] W)
      have hq1 := Lib.hid (show wrap64 ((k : Int) + 1) = ((k + 1 : Nat) : Int) from (wrap64_id (by omega) (by omega)).trans (by omega))
      generalize hy : capB s[k] = y at *
      cases y with
      | true =>
        have hst2 : Hid ((s.data.toList.take (k + 1)).all capB = true) := by unfold Hid; rw [hst.out, hp.out]; rfl
        clear hst hno hy hp hA hN
        go_wp2_with (first
          | (go_at_call 59; refine ((hc _).out).mono ?_; rintro e w1 ⟨rfl, rfl⟩))
        go_roundg (s.size - (k + 1))
        case measure => omega
        case rel => exact ⟨k + 1, hlt, rfl, by first | rw [hq1.out] | go_num, hst2, rfl⟩
      | false =>
        have hno2 := hno rfl
        clear hst hno hy hp hA hq1 hN
        go_wp2_with (first
          | (go_at_call 59; refine ((hc _).out).mono ?_; rintro e w1 ⟨rfl, rfl⟩))
        go_ret
        exact ⟨by rw [hno2.out]; rfl, rfl⟩
    · have hke : k = s.size := by omega
      subst hke
      have hT : Hid (R = true) := hA.out.trans hp.out
      have hni : ¬ ((s.size : Int) < (s.size : Int)) := by omega
      clear hp hA hN
      go_wp2_with fail
      go_ret
      exact ⟨by rw [hT.out]; rfl, rfl⟩
set_option maxRecDepth 100000 in
set_option maxHeartbeats 1600000 in
theorem all_cap (s : ByteArray) (w : World) (hs : s.size ≤ 1000000000) : Calls Tryz.prog 38 #[.string s, .func (.func 65) #[] #[]] w fun e w' => e = .returned (.bool (s.data.toList.all capB)) ∧ w' = w := by
  obtain ⟨R, hR⟩ : ∃ R, R = s.data.toList.all capB := ⟨_, rfl⟩
  have hA : Hid (R = (s.data.toList.take s.size).all capB) := by
    unfold Hid
    rw [show s.size = s.data.toList.length from rfl, List.take_length]
    exact hR
  rw [← hR]
  have hN : Hid (s.data.toList.all capB = R) := hR.symm
  clear hR
  go_enter Tryz.func38, Tryz.ntmps38
  go_wp2_with fail
  go_loopg [8] s.size (fun z u8 wr => ∃ k : Nat, k ≤ s.size ∧ z = s.size - k ∧ u8 = .int .i64 k ∧ Hid ((s.data.toList.take k).all capB = true) ∧ wr = w)
  case atStart => exact ⟨0, Nat.zero_le _, rfl, rfl, rfl, rfl⟩
  case round =>
    obtain ⟨k, hk, rfl, rfl, hp, rfl⟩ := hrel
    by_cases hlt : k < s.size
    · have hki : (k : Int) < (s.size : Int) := by omega
      have hst := Lib.hid (all_succ s hlt capB)
      have hno : capB s[k] = false → Hid (R = false) := fun h => hN.out.symm.trans (all_no s hlt (p := capB) h)
      have hc := fun W => Lib.hid (cap_any s[k] W)
      have hq1 := Lib.hid (show wrap64 ((k : Int) + 1) = ((k + 1 : Nat) : Int) from (wrap64_id (by omega) (by omega)).trans (by omega))
      generalize hy : capB s[k] = y at *
      cases y with
      | true =>
        have hst2 : Hid ((s.data.toList.take (k + 1)).all capB = true) := by unfold Hid; rw [hst.out, hp.out]; rfl
        clear hst hno hy hp hA hN
        go_wp2_with (first
          | (go_at_call 65; refine ((hc _).out).mono ?_; rintro e w1 ⟨rfl, rfl⟩))
        go_roundg (s.size - (k + 1))
        case measure => omega
        case rel => exact ⟨k + 1, hlt, rfl, by first | rw [hq1.out] | go_num, hst2, rfl⟩
      | false =>
        have hno2 := hno rfl
        clear hst hno hy hp hA hq1 hN
        go_wp2_with (first
          | (go_at_call 65; refine ((hc _).out).mono ?_; rintro e w1 ⟨rfl, rfl⟩))
        go_ret
        exact ⟨by rw [hno2.out]; rfl, rfl⟩
    · have hke : k = s.size := by omega
      subst hke
      have hT : Hid (R = true) := hA.out.trans hp.out
      have hni : ¬ ((s.size : Int) < (s.size : Int)) := by omega
      clear hp hA hN
      go_wp2_with fail
      go_ret
      exact ⟨by rw [hT.out]; rfl, rfl⟩
set_option maxRecDepth 100000 in
set_option maxHeartbeats 1600000 in
theorem all_ln (s : ByteArray) (w : World) (hs : s.size ≤ 1000000000) : Calls Tryz.prog 38 #[.string s, .func (.func 89) #[] #[]] w fun e w' => e = .returned (.bool (s.data.toList.all lnB)) ∧ w' = w := by
  obtain ⟨R, hR⟩ : ∃ R, R = s.data.toList.all lnB := ⟨_, rfl⟩
  have hA : Hid (R = (s.data.toList.take s.size).all lnB) := by
    unfold Hid
    rw [show s.size = s.data.toList.length from rfl, List.take_length]
    exact hR
  rw [← hR]
  have hN : Hid (s.data.toList.all lnB = R) := hR.symm
  clear hR
  go_enter Tryz.func38, Tryz.ntmps38
  go_wp2_with fail
  go_loopg [8] s.size (fun z u8 wr => ∃ k : Nat, k ≤ s.size ∧ z = s.size - k ∧ u8 = .int .i64 k ∧ Hid ((s.data.toList.take k).all lnB = true) ∧ wr = w)
  case atStart => exact ⟨0, Nat.zero_le _, rfl, rfl, rfl, rfl⟩
  case round =>
    obtain ⟨k, hk, rfl, rfl, hp, rfl⟩ := hrel
    by_cases hlt : k < s.size
    · have hki : (k : Int) < (s.size : Int) := by omega
      have hst := Lib.hid (all_succ s hlt lnB)
      have hno : lnB s[k] = false → Hid (R = false) := fun h => hN.out.symm.trans (all_no s hlt (p := lnB) h)
      have hc := fun W => Lib.hid (ln_any s[k] W)
      have hq1 := Lib.hid (show wrap64 ((k : Int) + 1) = ((k + 1 : Nat) : Int) from (wrap64_id (by omega) (by omega)).trans (by omega))
      generalize hy : lnB s[k] = y at *
      cases y with
      | true =>
        have hst2 : Hid ((s.data.toList.take (k + 1)).all lnB = true) := by unfold Hid; rw [hst.out, hp.out]; rfl
        clear hst hno hy hp hA hN
        go_wp2_with (first
          | (go_at_call 89; refine ((hc _).out).mono ?_; rintro e w1 ⟨rfl, rfl⟩))
        go_roundg (s.size - (k + 1))
        case measure => omega
        case rel => exact ⟨k + 1, hlt, rfl, by first | rw [hq1.out] | go_num, hst2, rfl⟩
      | false =>
        have hno2 := hno rfl
        clear hst hno hy hp hA hq1 hN
        go_wp2_with (first
          | (go_at_call 89; refine ((hc _).out).mono ?_; rintro e w1 ⟨rfl, rfl⟩))
        go_ret
        exact ⟨by rw [hno2.out]; rfl, rfl⟩
    · have hke : k = s.size := by omega
      subst hke
      have hT : Hid (R = true) := hA.out.trans hp.out
      have hni : ¬ ((s.size : Int) < (s.size : Int)) := by omega
      clear hp hA hN
      go_wp2_with fail
      go_ret
      exact ⟨by rw [hT.out]; rfl, rfl⟩
set_option maxRecDepth 100000 in
set_option maxHeartbeats 1600000 in
theorem all_nm (s : ByteArray) (w : World) (hs : s.size ≤ 1000000000) : Calls Tryz.prog 38 #[.string s, .func (.func 92) #[] #[]] w fun e w' => e = .returned (.bool (s.data.toList.all nmB)) ∧ w' = w := by
  obtain ⟨R, hR⟩ : ∃ R, R = s.data.toList.all nmB := ⟨_, rfl⟩
  have hA : Hid (R = (s.data.toList.take s.size).all nmB) := by
    unfold Hid
    rw [show s.size = s.data.toList.length from rfl, List.take_length]
    exact hR
  rw [← hR]
  have hN : Hid (s.data.toList.all nmB = R) := hR.symm
  clear hR
  go_enter Tryz.func38, Tryz.ntmps38
  go_wp2_with fail
  go_loopg [8] s.size (fun z u8 wr => ∃ k : Nat, k ≤ s.size ∧ z = s.size - k ∧ u8 = .int .i64 k ∧ Hid ((s.data.toList.take k).all nmB = true) ∧ wr = w)
  case atStart => exact ⟨0, Nat.zero_le _, rfl, rfl, rfl, rfl⟩
  case round =>
    obtain ⟨k, hk, rfl, rfl, hp, rfl⟩ := hrel
    by_cases hlt : k < s.size
    · have hki : (k : Int) < (s.size : Int) := by omega
      have hst := Lib.hid (all_succ s hlt nmB)
      have hno : nmB s[k] = false → Hid (R = false) := fun h => hN.out.symm.trans (all_no s hlt (p := nmB) h)
      have hc := fun W => Lib.hid (nm_any s[k] W)
      have hq1 := Lib.hid (show wrap64 ((k : Int) + 1) = ((k + 1 : Nat) : Int) from (wrap64_id (by omega) (by omega)).trans (by omega))
      generalize hy : nmB s[k] = y at *
      cases y with
      | true =>
        have hst2 : Hid ((s.data.toList.take (k + 1)).all nmB = true) := by unfold Hid; rw [hst.out, hp.out]; rfl
        clear hst hno hy hp hA hN
        go_wp2_with (first
          | (go_at_call 92; refine ((hc _).out).mono ?_; rintro e w1 ⟨rfl, rfl⟩))
        go_roundg (s.size - (k + 1))
        case measure => omega
        case rel => exact ⟨k + 1, hlt, rfl, by first | rw [hq1.out] | go_num, hst2, rfl⟩
      | false =>
        have hno2 := hno rfl
        clear hst hno hy hp hA hq1 hN
        go_wp2_with (first
          | (go_at_call 92; refine ((hc _).out).mono ?_; rintro e w1 ⟨rfl, rfl⟩))
        go_ret
        exact ⟨by rw [hno2.out]; rfl, rfl⟩
    · have hke : k = s.size := by omega
      subst hke
      have hT : Hid (R = true) := hA.out.trans hp.out
      have hni : ¬ ((s.size : Int) < (s.size : Int)) := by omega
      clear hp hA hN
      go_wp2_with fail
      go_ret
      exact ⟨by rw [hT.out]; rfl, rfl⟩
set_option maxRecDepth 100000 in
set_option maxHeartbeats 1600000 in
theorem all_dig (s : ByteArray) (w : World) (hs : s.size ≤ 1000000000) : Calls Tryz.prog 38 #[.string s, .func (.func 78) #[] #[]] w fun e w' => e = .returned (.bool (s.data.toList.all digB)) ∧ w' = w := by
  obtain ⟨R, hR⟩ : ∃ R, R = s.data.toList.all digB := ⟨_, rfl⟩
  have hA : Hid (R = (s.data.toList.take s.size).all digB) := by
    unfold Hid
    rw [show s.size = s.data.toList.length from rfl, List.take_length]
    exact hR
  rw [← hR]
  have hN : Hid (s.data.toList.all digB = R) := hR.symm
  clear hR
  go_enter Tryz.func38, Tryz.ntmps38
  go_wp2_with fail
  go_loopg [8] s.size (fun z u8 wr => ∃ k : Nat, k ≤ s.size ∧ z = s.size - k ∧ u8 = .int .i64 k ∧ Hid ((s.data.toList.take k).all digB = true) ∧ wr = w)
  case atStart => exact ⟨0, Nat.zero_le _, rfl, rfl, rfl, rfl⟩
  case round =>
    obtain ⟨k, hk, rfl, rfl, hp, rfl⟩ := hrel
    by_cases hlt : k < s.size
    · have hki : (k : Int) < (s.size : Int) := by omega
      have hst := Lib.hid (all_succ s hlt digB)
      have hno : digB s[k] = false → Hid (R = false) := fun h => hN.out.symm.trans (all_no s hlt (p := digB) h)
      have hc := fun W => Lib.hid (digit_any s[k] W)
      have hq1 := Lib.hid (show wrap64 ((k : Int) + 1) = ((k + 1 : Nat) : Int) from (wrap64_id (by omega) (by omega)).trans (by omega))
      generalize hy : digB s[k] = y at *
      cases y with
      | true =>
        have hst2 : Hid ((s.data.toList.take (k + 1)).all digB = true) := by unfold Hid; rw [hst.out, hp.out]; rfl
        clear hst hno hy hp hA hN
        go_wp2_with (first
          | (go_at_call 78; refine ((hc _).out).mono ?_; rintro e w1 ⟨rfl, rfl⟩))
        go_roundg (s.size - (k + 1))
        case measure => omega
        case rel => exact ⟨k + 1, hlt, rfl, by first | rw [hq1.out] | go_num, hst2, rfl⟩
      | false =>
        have hno2 := hno rfl
        clear hst hno hy hp hA hq1 hN
        go_wp2_with (first
          | (go_at_call 78; refine ((hc _).out).mono ?_; rintro e w1 ⟨rfl, rfl⟩))
        go_ret
        exact ⟨by rw [hno2.out]; rfl, rfl⟩
    · have hke : k = s.size := by omega
      subst hke
      have hT : Hid (R = true) := hA.out.trans hp.out
      have hni : ¬ ((s.size : Int) < (s.size : Int)) := by omega
      clear hp hA hN
      go_wp2_with fail
      go_ret
      exact ⟨by rw [hT.out]; rfl, rfl⟩
set_option maxRecDepth 100000 in
set_option maxHeartbeats 1600000 in
theorem all_pr (s : ByteArray) (w : World) (hs : s.size ≤ 1000000000) : Calls Tryz.prog 38 #[.string s, .func (.func 46) #[] #[]] w fun e w' => e = .returned (.bool (s.data.toList.all prB)) ∧ w' = w := by
  obtain ⟨R, hR⟩ : ∃ R, R = s.data.toList.all prB := ⟨_, rfl⟩
  have hA : Hid (R = (s.data.toList.take s.size).all prB) := by
    unfold Hid
    rw [show s.size = s.data.toList.length from rfl, List.take_length]
    exact hR
  rw [← hR]
  have hN : Hid (s.data.toList.all prB = R) := hR.symm
  clear hR
  go_enter Tryz.func38, Tryz.ntmps38
  go_wp2_with fail
  go_loopg [8] s.size (fun z u8 wr => ∃ k : Nat, k ≤ s.size ∧ z = s.size - k ∧ u8 = .int .i64 k ∧ Hid ((s.data.toList.take k).all prB = true) ∧ wr = w)
  case atStart => exact ⟨0, Nat.zero_le _, rfl, rfl, rfl, rfl⟩
  case round =>
    obtain ⟨k, hk, rfl, rfl, hp, rfl⟩ := hrel
    by_cases hlt : k < s.size
    · have hki : (k : Int) < (s.size : Int) := by omega
      have hst := Lib.hid (all_succ s hlt prB)
      have hno : prB s[k] = false → Hid (R = false) := fun h => hN.out.symm.trans (all_no s hlt (p := prB) h)
      have hc := fun W => Lib.hid (print_any s[k] W)
      have hq1 := Lib.hid (show wrap64 ((k : Int) + 1) = ((k + 1 : Nat) : Int) from (wrap64_id (by omega) (by omega)).trans (by omega))
      generalize hy : prB s[k] = y at *
      cases y with
      | true =>
        have hst2 : Hid ((s.data.toList.take (k + 1)).all prB = true) := by unfold Hid; rw [hst.out, hp.out]; rfl
        clear hst hno hy hp hA hN
        go_wp2_with (first
          | (go_at_call 46; refine ((hc _).out).mono ?_; rintro e w1 ⟨rfl, rfl⟩))
        go_roundg (s.size - (k + 1))
        case measure => omega
        case rel => exact ⟨k + 1, hlt, rfl, by first | rw [hq1.out] | go_num, hst2, rfl⟩
      | false =>
        have hno2 := hno rfl
        clear hst hno hy hp hA hq1 hN
        go_wp2_with (first
          | (go_at_call 46; refine ((hc _).out).mono ?_; rintro e w1 ⟨rfl, rfl⟩))
        go_ret
        exact ⟨by rw [hno2.out]; rfl, rfl⟩
    · have hke : k = s.size := by omega
      subst hke
      have hT : Hid (R = true) := hA.out.trans hp.out
      have hni : ¬ ((s.size : Int) < (s.size : Int)) := by omega
      clear hp hA hN
      go_wp2_with fail
      go_ret
      exact ⟨by rw [hT.out]; rfl, rfl⟩
end Go.Proofs.YtdfgnoflohfnmaaGreatDoor.Hx
