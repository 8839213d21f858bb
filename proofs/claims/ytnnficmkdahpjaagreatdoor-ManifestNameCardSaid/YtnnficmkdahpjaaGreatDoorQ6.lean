/- ManifestName's own walk. -/
import Derived.Test.YtnnficmkdahpjaaGreatDoorQ5
namespace Go.Proofs.YtnnficmkdahpjaaGreatDoor
open Go.RowKit Go.Sort Go.Lib

theorem name_size (n : Nat) : (⟨(nameL n).toArray⟩ : ByteArray).size ≤ 300 := by
  show (nameL n).toArray.size ≤ 300
  rw [List.size_toArray]
  by_cases hs : n < 1000000000000
  · have hlen : (dig12 n).length = 12 := by rw [dig12_eq hs]; simp
    unfold nameL
    rw [if_pos hs, List.length_append, hlen]
    decide
  · unfold nameL
    rw [if_neg hs]
    decide

set_option maxRecDepth 100000 in
set_option maxHeartbeats 1600000 in
theorem manifestName_walk (n : Nat) (hn : n < 18446744073709551616) (s : ByteArray) (w : World) (htab : PT w) (hl : Calls Tryz.prog 6 #[] w fun e w' => e = .returned (.bool true) ∧ w.grownBy w' none) :
    Calls Tryz.prog 3 #[.int .u64 n, .string s] w fun e w' => e = .returned (.bool true) ∧ w.grownBy w' none := by
  by_cases hs : s.size ≤ 300
  · have hsI : ¬ (300 : Int) < (s.size : Int) := by omega
    obtain ⟨p, hp⟩ : ∃ p : ByteArray → Nat × Bool, ∀ t, segP t.data.toList = p t := ⟨_, fun _ => rfl⟩
    obtain ⟨S, hS⟩ : ∃ S : ByteArray, (⟨(nameL n).toArray⟩ : ByteArray) = S := ⟨_, rfl⟩
    have hSs : S.size ≤ 300 := hS ▸ name_size n
    have hP := fun t (ht : t.size ≤ 300) W => Lib.hid (parse_any t ht W)
    have hQ := fun t W => Lib.hid (refParse_any t W)
    have hA := fun W (hg : w.grownBy W none) => Lib.hid (name_any n hn W (pt_kept htab hg))
    have hB := fun W => Lib.hid (refName_any n hn W)
    simp only [hp] at hP hQ
    rw [hS] at hA hB
    have HP := Lib.hid hP
    have HQ := Lib.hid hQ
    have HA := Lib.hid hA
    have HB := Lib.hid hB
    have HSS := Lib.hid hSs
    have HS := Lib.hid hs
    clear hS hp hP hQ hA hB hSs htab hs
    clear hn
    go_enter Tryz.func3, Tryz.ntmps3
    go_wp2_with (first
      | (go_at_call 10; refine (HB.out _).out.mono ?_; rintro e w6 ⟨rfl, hg6⟩; clear HP HQ HA HB HSS HS)
      | (go_at_call 9; refine (HA.out _ (by exact gb_trans hg1 hg2)).out.mono ?_; rintro e w3 ⟨rfl, hg3⟩)
      | (go_at_call 8; refine (HQ.out s _).out.mono ?_; rintro e w0 ⟨rfl, rfl⟩)
      | (go_at_call 7; refine (HP.out s HS.out _).out.mono ?_; rintro e w2 ⟨rfl, hg2⟩)
      | (go_at_call 6; refine hl.mono ?_; rintro e w1 ⟨rfl, hg1⟩))
    go_ret
    exact ⟨rfl, gb_trans (gb_trans (gb_trans hg1 hg2) hg3) hg6⟩
  · have hsI : (300 : Int) < (s.size : Int) := by omega
    clear htab
    go_enter Tryz.func3, Tryz.ntmps3
    go_wp2_with (first
      | (go_at_call 6; refine hl.mono ?_; rintro e w1 ⟨rfl, hg1⟩))
    go_ret
    exact ⟨rfl, hg1⟩
end Go.Proofs.YtnnficmkdahpjaaGreatDoor
