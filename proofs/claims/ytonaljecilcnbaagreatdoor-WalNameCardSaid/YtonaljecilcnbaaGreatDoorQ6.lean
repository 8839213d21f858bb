/- A name that is told is read again (plain); WalName's own walk. -/
import Derived.Test.YtonaljecilcnbaaGreatDoorQ5
namespace Go.Proofs.YtonaljecilcnbaaGreatDoor
open Go.RowKit Go.Sort Go.Lib

theorem valD_snoc : ∀ (l : List UInt8) (c : UInt8) (a : Nat), valD (l ++ [c]) a = valD l a * 10 + (c.toNat - 48)
  | [], _, _ => rfl
  | _ :: r, c, _ => valD_snoc r c _
theorem dg_nat (n j : Nat) : (dg n j).toNat = 48 + n / 10 ^ j % 10 := by
  unfold dg
  have : n / 10 ^ j % 10 < 10 := Nat.mod_lt _ (by decide)
  rw [UInt8.toNat_ofNat']
  omega
theorem val_dg : ∀ (k n : Nat), valD ((List.range k).map fun t => dg n (k - 1 - t)) 0 = n % 10 ^ k
  | 0, n => by simp [valD]; omega
  | k + 1, n => by
    rw [List.range_succ, List.map_append, List.map_cons, List.map_nil, valD_snoc]
    have e : ((List.range k).map fun t => dg n (k + 1 - 1 - t)) = (List.range k).map fun t => dg (n / 10) (k - 1 - t) := by
      apply List.map_congr_left
      intro t ht
      have ht' : t < k := List.mem_range.1 ht
      rw [show k + 1 - 1 - t = (k - 1 - t) + 1 by omega, dg_succ]
    rw [e, val_dg k (n / 10), dg_nat, show k + 1 - 1 - k = 0 by omega, Nat.pow_zero, Nat.div_one, Nat.pow_succ, Nat.mul_comm (10 ^ k) 10, Nat.mod_mul]
    omega
theorem back (n : Nat) (hs : n < 1000000000000) : segP (nameL n) = (n, true) := by
  have hN : nameL n = [119, 97, 108, 45] ++ dig12 n := by unfold nameL; rw [if_pos hs]
  have hd : (nameL n).drop 4 = dig12 n := by rw [hN]; rfl
  have hlen : (dig12 n).length = 12 := by rw [dig12_eq hs]; simp
  unfold segP
  rw [if_pos, hd]
  · rw [dig12_eq hs]
    have := val_dg 12 n
    rw [show (12 : Nat) - 1 = 11 from rfl] at this
    rw [this, Nat.mod_eq_of_lt (by omega)]
  · refine ⟨by rw [hN, List.length_append, hlen]; rfl, by rw [hN]; rfl, ?_⟩
    rw [hd, dig12_eq hs, List.all_eq_true]
    intro c hc
    obtain ⟨t, _, rfl⟩ := List.mem_map.1 hc
    have h2 := dg_nat n (11 - t)
    have h3 : n / 10 ^ (11 - t) % 10 < 10 := Nat.mod_lt _ (by decide)
    exact decide_eq_true (by omega)
theorem name_size (n : Nat) : (⟨(nameL n).toArray⟩ : ByteArray).size ≤ 300 := by
  show (nameL n).toArray.size ≤ 300
  rw [List.size_toArray]
  by_cases hs : n < 1000000000000
  · have hlen : (dig12 n).length = 12 := by rw [dig12_eq hs]; simp
    unfold nameL
    rw [if_pos hs, List.length_append, hlen]
    decide
  · unfold nameL
    rw [if_neg hs]
    decide

set_option maxRecDepth 100000 in
set_option maxHeartbeats 1600000 in
theorem walName_walk (n : Nat) (hn : n < 18446744073709551616) (s : ByteArray) (w : World) (htab : PT w) (hl : Calls Tryz.prog 6 #[] w fun e w' => e = .returned (.bool true) ∧ w.grownBy w' none) :
    Calls Tryz.prog 3 #[.int .u64 n, .string s] w fun e w' => e = .returned (.bool true) ∧ w.grownBy w' none := by
  by_cases hs : s.size ≤ 300
  · have hsI : ¬ (300 : Int) < (s.size : Int) := by omega
    obtain ⟨p, hp⟩ : ∃ p : ByteArray → Nat × Bool, ∀ t, segP t.data.toList = p t := ⟨_, fun _ => rfl⟩
    obtain ⟨S, hS⟩ : ∃ S : ByteArray, (⟨(nameL n).toArray⟩ : ByteArray) = S := ⟨_, rfl⟩
    have hb : n < 1000000000000 → p S = (n, true) := fun h => by rw [← hp, ← hS]; exact back n h
    have hSs : S.size ≤ 300 := hS ▸ name_size n
    have hP := fun t (ht : t.size ≤ 300) W => Lib.hid (parse_any t ht W)
    have hQ := fun t W => Lib.hid (refParse_any t W)
    have hA := fun W (hg : w.grownBy W none) => Lib.hid (name_any n hn W (pt_kept htab hg))
    have hB := fun W => Lib.hid (refName_any n hn W)
    simp only [hp] at hP hQ
    rw [hS] at hA hB
    have HP := Lib.hid hP
    have HQ := Lib.hid hQ
    have HA := Lib.hid hA
    have HB := Lib.hid hB
    have HSS := Lib.hid hSs
    have HS := Lib.hid hs
    clear hS hp hP hQ hA hB hSs htab hs
    by_cases hn12 : n < 1000000000000
    · have hz := hb hn12
      have hz1 : (p S).1 = n := by rw [hz]
      have hz2 : (p S).2 = true := by rw [hz]
      clear hb hz
      go_enter Tryz.func3, Tryz.ntmps3
      go_wp2_with (first
        | (go_at_call 10; refine (HB.out _).out.mono ?_; rintro e w6 ⟨rfl, hg6⟩; have hnI : ¬ (1000000000000 : Int) ≤ (n : Int) := by omega
           clear hsI hn12 hn HP HQ HA HB HSS HS)
        | (go_at_call 9; have := hg4; refine (HA.out _ (by exact gb_trans (gb_trans (gb_trans hg1 hg2) hg3) hg4)).out.mono ?_; clear this; rintro e w5 ⟨rfl, hg5⟩)
        | (go_at_call 7; have := hg3; refine (HP.out S HSS.out _).out.mono ?_; clear this; rintro e w4 ⟨rfl, hg4⟩)
        | (go_at_call 9; refine (HA.out _ (by exact gb_trans hg1 hg2)).out.mono ?_; rintro e w3 ⟨rfl, hg3⟩)
        | (go_at_call 8; refine (HQ.out s _).out.mono ?_; rintro e w0 ⟨rfl, rfl⟩)
        | (go_at_call 7; refine (HP.out s HS.out _).out.mono ?_; rintro e w2 ⟨rfl, hg2⟩)
        | (go_at_call 6; refine hl.mono ?_; rintro e w1 ⟨rfl, hg1⟩))
      go_ret
      exact ⟨rfl, gb_trans (gb_trans (gb_trans (gb_trans (gb_trans hg1 hg2) hg3) hg4) hg5) hg6⟩
    · clear hb
      go_enter Tryz.func3, Tryz.ntmps3
      go_wp2_with (first
        | (go_at_call 10; refine (HB.out _).out.mono ?_; rintro e w6 ⟨rfl, hg6⟩; have hnI : (1000000000000 : Int) ≤ (n : Int) := by omega
           clear hsI hn12 hn HP HQ HA HB HSS HS)
        | (go_at_call 9; have := hg4; refine (HA.out _ (by exact gb_trans (gb_trans (gb_trans hg1 hg2) hg3) hg4)).out.mono ?_; clear this; rintro e w5 ⟨rfl, hg5⟩)
        | (go_at_call 7; have := hg3; refine (HP.out S HSS.out _).out.mono ?_; clear this; rintro e w4 ⟨rfl, hg4⟩)
        | (go_at_call 9; refine (HA.out _ (by exact gb_trans hg1 hg2)).out.mono ?_; rintro e w3 ⟨rfl, hg3⟩)
        | (go_at_call 8; refine (HQ.out s _).out.mono ?_; rintro e w0 ⟨rfl, rfl⟩)
        | (go_at_call 7; refine (HP.out s HS.out _).out.mono ?_; rintro e w2 ⟨rfl, hg2⟩)
        | (go_at_call 6; refine hl.mono ?_; rintro e w1 ⟨rfl, hg1⟩))
      go_ret
      exact ⟨rfl, gb_trans (gb_trans (gb_trans (gb_trans (gb_trans hg1 hg2) hg3) hg4) hg5) hg6⟩
  · have hsI : (300 : Int) < (s.size : Int) := by omega
    clear htab
    go_enter Tryz.func3, Tryz.ntmps3
    go_wp2_with (first
      | (go_at_call 6; refine hl.mono ?_; rintro e w1 ⟨rfl, hg1⟩))
    go_ret
    exact ⟨rfl, hg1⟩
end Go.Proofs.YtonaljecilcnbaaGreatDoor
