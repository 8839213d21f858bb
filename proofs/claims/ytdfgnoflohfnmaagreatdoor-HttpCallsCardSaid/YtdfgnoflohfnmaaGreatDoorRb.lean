/- HTTP, the document's side: a digit's number, bytes in bounds, allowed bytes. -/
import Derived.Test.YtdfgnoflohfnmaaGreatDoorH9
import Derived.Test.YtdfgnoflohfnmaaGreatDoorH2
namespace Go.Proofs.YtdfgnoflohfnmaaGreatDoor.Hx
open Go.RowKit Go.Maps

def rgB (lo : Int) (c : UInt8) : Bool := decide (lo ≤ (c.toNat : Int)) && decide (c.toNat ≤ 126)
theorem rgB_pr : rgB 32 = prB := by funext c; unfold rgB prB; congr 1; rw [decide_eq_decide]; omega
theorem rgB_tg : rgB 33 = tgB := by funext c; unfold rgB tgB; congr 1; rw [decide_eq_decide]; omega
theorem rhex_any (c : UInt8) (w : World) : Calls Tryz.prog 76 #[.int .u8 (c.toNat : Int)] w fun e w' => e = .returned (.int .i64 (hexV c)) ∧ w' = w := by
  have hT : Hid (hexV c = if digB c then (c.toNat : Int) - 48 else if 97 ≤ c.toNat ∧ c.toNat ≤ 102 then (c.toNat : Int) - 87 else if 65 ≤ c.toNat ∧ c.toNat ≤ 70 then (c.toNat : Int) - 55 else -1) := rfl
  have hlt := UInt8.toNat_lt c
  have hD : Hid (digB c = (decide (48 ≤ c.toNat) && decide (c.toNat ≤ 57))) := rfl
  generalize hexV c = y at *
  generalize hz : digB c = z at *
  generalize c.toNat = n at *
  clear hz
  go_enter Tryz.func76, Tryz.ntmps76
  have hz : z = true ↔ 48 ≤ n ∧ n ≤ 57 := by rw [hD.out]; simp
  by_cases a1 : (48 : Int) ≤ n
  · by_cases a2 : (n : Int) ≤ 57
    · have hzt : z = true := hz.2 ⟨by omega, by omega⟩
      subst hzt
      clear hz
      have hw : IntKind.u8.wrap ((n : Int) - 48) = (n : Int) - 48 := wrap_u8 (by omega) (by omega)
      have hy : Hid (y = (n : Int) - 48) := by
        unfold Hid
        rw [hT.out]
        rfl
      clear hT hD hlt
      go_wp2_with fail
      go_ret
      refine ⟨?_, rfl⟩
      rw [hy.out]
      first | rfl | (simp; omega)
    · have hzf : z = false := by cases z; rfl; have := hz.1 rfl; omega
      subst hzf
      clear hz
      rw [if_neg (by decide)] at hT
      by_cases b1 : (97 : Int) ≤ n
      · by_cases b2 : (n : Int) ≤ 102
        · have hw : IntKind.u8.wrap ((n : Int) - 97) = (n : Int) - 97 := wrap_u8 (by omega) (by omega)
          have hq : wrap64 ((n : Int) - 97 + 10) = (n : Int) - 87 := (wrap64_id (by omega) (by omega)).trans (by omega)
          have hy : Hid (y = (n : Int) - 87) := by
            unfold Hid
            rw [hT.out]
            rw [if_pos (by omega)]
          clear hT hD hlt
          go_wp2_with fail
          go_ret
          refine ⟨?_, rfl⟩
          rw [hy.out]
          first | rfl | (simp; omega)
        · have h3 : (65 : Int) ≤ n := by omega
          have h4 : ¬ (n : Int) ≤ 70 := by omega
          have hy : Hid (y = -1) := by
            unfold Hid
            rw [hT.out]
            rw [if_neg (by omega), if_neg (by omega)]
          clear hT hD hlt
          go_wp2_with fail
          go_ret
          refine ⟨?_, rfl⟩
          rw [hy.out]
          first | rfl | (simp; omega)
      · by_cases b3 : (65 : Int) ≤ n
        · by_cases b4 : (n : Int) ≤ 70
          · have hw : IntKind.u8.wrap ((n : Int) - 65) = (n : Int) - 65 := wrap_u8 (by omega) (by omega)
            have hq : wrap64 ((n : Int) - 65 + 10) = (n : Int) - 55 := (wrap64_id (by omega) (by omega)).trans (by omega)
            have hy : Hid (y = (n : Int) - 55) := by
              unfold Hid
              rw [hT.out]
              rw [if_neg (by omega), if_pos (by omega)]
            clear hT hD hlt
            go_wp2_with fail
            go_ret
            refine ⟨?_, rfl⟩
            rw [hy.out]
            first | rfl | (simp; omega)
          · have hy : Hid (y = -1) := by
              unfold Hid
              rw [hT.out]
              rw [if_neg (by omega), if_neg (by omega)]
            clear hT hD hlt
            go_wp2_with fail
            go_ret
            refine ⟨?_, rfl⟩
            rw [hy.out]
            first | rfl | (simp; omega)
        · have hy : Hid (y = -1) := by
            unfold Hid
            rw [hT.out]
            rw [if_neg (by omega), if_neg (by omega)]
          clear hT hD hlt
          go_wp2_with fail
          go_ret
          refine ⟨?_, rfl⟩
          rw [hy.out]
          first | rfl | (simp; omega)
  · have hzf : z = false := by cases z; rfl; have := hz.1 rfl; omega
    subst hzf
    clear hz
    rw [if_neg (by decide)] at hT
    by_cases b1 : (97 : Int) ≤ n
    · by_cases b2 : (n : Int) ≤ 102
      · have hw : IntKind.u8.wrap ((n : Int) - 97) = (n : Int) - 97 := wrap_u8 (by omega) (by omega)
        have hq : wrap64 ((n : Int) - 97 + 10) = (n : Int) - 87 := (wrap64_id (by omega) (by omega)).trans (by omega)
        have hy : Hid (y = (n : Int) - 87) := by
          unfold Hid
          rw [hT.out]
          rw [if_pos (by omega)]
        clear hT hD hlt
        go_wp2_with fail
        go_ret
        refine ⟨?_, rfl⟩
        rw [hy.out]
        first | rfl | (simp; omega)
      · have h3 : (65 : Int) ≤ n := by omega
        have h4 : ¬ (n : Int) ≤ 70 := by omega
        have hy : Hid (y = -1) := by
          unfold Hid
          rw [hT.out]
          rw [if_neg (by omega), if_neg (by omega)]
        clear hT hD hlt
        go_wp2_with fail
        go_ret
        refine ⟨?_, rfl⟩
        rw [hy.out]
        first | rfl | (simp; omega)
    · by_cases b3 : (65 : Int) ≤ n
      · by_cases b4 : (n : Int) ≤ 70
        · have hw : IntKind.u8.wrap ((n : Int) - 65) = (n : Int) - 65 := wrap_u8 (by omega) (by omega)
          have hq : wrap64 ((n : Int) - 65 + 10) = (n : Int) - 55 := (wrap64_id (by omega) (by omega)).trans (by omega)
          have hy : Hid (y = (n : Int) - 55) := by
            unfold Hid
            rw [hT.out]
            rw [if_neg (by omega), if_pos (by omega)]
          clear hT hD hlt
          go_wp2_with fail
          go_ret
          refine ⟨?_, rfl⟩
          rw [hy.out]
          first | rfl | (simp; omega)
        · have hy : Hid (y = -1) := by
            unfold Hid
            rw [hT.out]
            rw [if_neg (by omega), if_neg (by omega)]
          clear hT hD hlt
          go_wp2_with fail
          go_ret
          refine ⟨?_, rfl⟩
          rw [hy.out]
          first | rfl | (simp; omega)
      · have hy : Hid (y = -1) := by
          unfold Hid
          rw [hT.out]
          rw [if_neg (by omega), if_neg (by omega)]
        clear hT hD hlt
        go_wp2_with fail
        go_ret
        refine ⟨?_, rfl⟩
        rw [hy.out]
        first | rfl | (simp; omega)
set_option maxRecDepth 100000 in
set_option maxHeartbeats 1600000 in
theorem rplain_any (lo : Int) (s : ByteArray) (w : World) (hs : s.size ≤ 1000000000) : Calls Tryz.prog 43 #[.string s, .int .u8 lo] w fun e w' => e = .returned (.bool (s.data.toList.all (rgB lo))) ∧ w' = w := by
  obtain ⟨R, hR⟩ : ∃ R, R = s.data.toList.all (rgB lo) := ⟨_, rfl⟩
  have hA : Hid (R = (s.data.toList.take s.size).all (rgB lo)) := by
    unfold Hid
    rw [show s.size = s.data.toList.length from rfl, List.take_length]
    exact hR
  rw [← hR]
  have hN : Hid (s.data.toList.all (rgB lo) = R) := hR.symm
  clear hR
  go_enter Tryz.func43, Tryz.ntmps43
  go_wp2_with fail
  go_loopg [5] s.size (fun z u8 wr => ∃ k : Nat, k ≤ s.size ∧ z = s.size - k ∧ u8 = .int .i64 k ∧ Hid ((s.data.toList.take k).all (rgB lo) = true) ∧ wr = w)
  case atStart => exact ⟨0, Nat.zero_le _, rfl, rfl, rfl, rfl⟩
  case round =>
    obtain ⟨k, hk, rfl, rfl, hp, rfl⟩ := hrel
    by_cases hlt : k < s.size
    · have hki : (k : Int) < (s.size : Int) := by omega
      have hq1 := Lib.hid (show wrap64 ((k : Int) + 1) = ((k + 1 : Nat) : Int) from (wrap64_id (by omega) (by omega)).trans (by omega))
      by_cases h1 : (s[k].toNat : Int) < lo
      · have hno2 : Hid (R = false) := hN.out.symm.trans (all_no s hlt (p := (rgB lo)) (by unfold rgB; simp; omega))
        clear hp hA hq1 hN
        go_wp2_with fail
        go_ret
        exact ⟨by rw [hno2.out]; rfl, rfl⟩
      · by_cases h2 : (126 : Int) < (s[k].toNat : Int)
        · have hno2 : Hid (R = false) := hN.out.symm.trans (all_no s hlt (p := (rgB lo)) (by unfold rgB; simp; omega))
          clear hp hA hq1 hN
          go_wp2_with fail
          go_ret
          exact ⟨by rw [hno2.out]; rfl, rfl⟩
        · have hst2 : Hid ((s.data.toList.take (k + 1)).all (rgB lo) = true) := by unfold Hid; rw [all_succ s hlt, hp.out, show (rgB lo) s[k] = true from (by unfold rgB; simp; omega)]; rfl
          clear hp hA hN
          go_wp2_with fail
          go_roundg (s.size - (k + 1))
          case measure => omega
          case rel => exact ⟨k + 1, hlt, rfl, by first | rw [hq1.out] | go_num, hst2, rfl⟩
    · have hke : k = s.size := by omega
      subst hke
      have hT : Hid (R = true) := hA.out.trans hp.out
      have hni : ¬ ((s.size : Int) < (s.size : Int)) := by omega
      clear hp hA hN
      go_wp2_with fail
      go_ret
      exact ⟨by rw [hT.out]; rfl, rfl⟩
end Go.Proofs.YtdfgnoflohfnmaaGreatDoor.Hx
/-! HTTP, the document's side: a text cut at a byte, trimmed, in small letters; a length. -/
namespace Go.Proofs.YtdfgnoflohfnmaaGreatDoor.Hx
open Go.RowKit Go.Maps

theorem occ_one (s : Bs) (c : UInt8) (i : Nat) : Lib.occAt s [c] i = (s[i]? == some c) := by
  unfold Lib.occAt
  cases h : s.drop i with
  | nil =>
    have : s[i]? = none := by rw [← List.head?_drop, h]; rfl
    rw [this]; rfl
  | cons b t =>
    have : s[i]? = some b := by rw [← List.head?_drop, h]; rfl
    rw [this]
    simp only [List.isPrefixOf, Bool.and_true]
    rw [Bool.eq_iff_iff]
    simp
    exact ⟨fun h => h.symm, fun h => h.symm⟩
theorem rcut_hit {s : Bs} {c : UInt8} {k : Nat} (hk : k < s.length) (h : ∀ j, j < k → s[j]? ≠ some c) (hc : s[k]? = some c) : Lib.cut s [c] = (s.take k, s.drop (k + 1), true) :=
  cut_hit (Lib.index_first (by omega) (by rw [occ_one, hc]; simp) (fun j hj => by rw [occ_one]; have := h j hj; simpa using this))
theorem cut_none {s : Bs} {c : UInt8} (h : ∀ j, j < s.length → s[j]? ≠ some c) : Lib.cut s [c] = (s, [], false) := by
  rcases idx_cases s c with h1 | ⟨i, h1, h2⟩
  · exact cut_miss h1
  · rcases Lib.index_spec s [c] with ⟨h3, _⟩ | ⟨j, h3, _, h4, _⟩
    · rw [h3] at h1; omega
    · obtain rfl : j = i := by omega
      rw [occ_one] at h4
      exact absurd (by simpa using h4) (h j h2)
theorem at_byte (s : ByteArray) {k : Nat} (h : k < s.size) : s.data.toList[k]? = some s[k] := List.getElem?_eq_getElem (l := s.data.toList) h
set_option maxRecDepth 100000 in
set_option maxHeartbeats 1600000 in
theorem rcut_any (s : ByteArray) (c : UInt8) (w : World) (hs : s.size ≤ 1000000000) : Calls Tryz.prog 44 #[.string s, .int .u8 (c.toNat : Int)] w fun e w' => e = .returned (.tuple #[.string ⟨(Lib.cut s.data.toList [c]).1.toArray⟩, .string ⟨(Lib.cut s.data.toList [c]).2.1.toArray⟩, .bool (Lib.cut s.data.toList [c]).2.2]) ∧ w.grownBy w' none := by
  obtain ⟨R, hR⟩ : ∃ R : Value, R = .tuple #[.string ⟨(Lib.cut s.data.toList [c]).1.toArray⟩, .string ⟨(Lib.cut s.data.toList [c]).2.1.toArray⟩, .bool (Lib.cut s.data.toList [c]).2.2] := ⟨_, rfl⟩
  rw [← hR]
  replace hR := Lib.hid hR
  go_enter Tryz.func44, Tryz.ntmps44
  go_wp2_with fail
  go_loopg [7] s.size (fun z u8 wr => ∃ k : Nat, k ≤ s.size ∧ z = s.size - k ∧ u8 = .int .i64 k ∧ Hid (∀ j, j < k → s.data.toList[j]? ≠ some c) ∧ wr = w)
  case atStart => exact ⟨0, Nat.zero_le _, rfl, rfl, fun j hj => absurd hj (Nat.not_lt_zero _), rfl⟩
  case round =>
    obtain ⟨k, hk, rfl, rfl, hp, rfl⟩ := hrel
    by_cases hlt : k < s.size
    · have hki : (k : Int) < (s.size : Int) := by omega
      have hk0 : (0 : Int) ≤ (k : Int) := by omega
      have hk1 : (k : Int) ≤ (s.size : Int) := by omega
      have hk2 : (k : Int) + 1 ≤ (s.size : Int) := by omega
      have hw1 : IntKind.i64.wrap ((k : Int) + 1) = (k : Int) + 1 := wrap_id (by omega) (by omega)
      have hq1 := Lib.hid (show wrap64 ((k : Int) + 1) = ((k + 1 : Nat) : Int) from (wrap64_id (by omega) (by omega)).trans (by omega))
      have hb := at_byte s hlt
      by_cases hc : s[k] = c
      · have hcut := Lib.hid (rcut_hit (s := s.data.toList) (c := c) hlt hp.out (by rw [hb, hc]))
        have hce : ((s[k].toNat : Int) == (c.toNat : Int)) = true := by rw [hc]; simp
        have hx1 := Lib.hid (show s.extract 0 k = (⟨(s.data.toList.take k).toArray⟩ : ByteArray) from ByteArray.ext (Array.toList_inj.1 (by simp)))
        have hx2 := Lib.hid (show s.extract (k + 1) s.size = (⟨(s.data.toList.drop (k + 1)).toArray⟩ : ByteArray) from ByteArray.ext (Array.toList_inj.1 (by rw [Lib.extract_to_end])))
        replace hp := Lib.hid hp
        clear hp hb hc hq1
        go_wp2_with fail
        go_quiet (fail)
        go_wp2_with fail
        refine bodyPost_ret (v := .tuple #[.string (s.extract 0 k), .string (s.extract (k + 1) s.size), .bool true]) (by simp [results, Tryz.results44, go_sem]) rfl ?_
        exact ⟨by rw [hR.out, hcut.out, hx1.out, hx2.out], gb_drewN (gb_refl _ _) _⟩
      · have hce : ((s[k].toNat : Int) == (c.toNat : Int)) = false := by
          rw [beq_eq_false_iff_ne]
          intro e
          exact hc (UInt8.toNat_inj.mp (by omega))
        have hst : Hid (∀ j, j < k + 1 → s.data.toList[j]? ≠ some c) := fun j hj => by
          rcases Nat.lt_succ_iff_lt_or_eq.mp hj with h | rfl
          · exact hp.out j h
          · rw [hb]; intro e; exact hc (Option.some.inj e)
        clear hp hb hc hw1
        go_wp2_with fail
        go_roundg (s.size - (k + 1))
        case measure => omega
        case rel => exact ⟨k + 1, hlt, rfl, by first | rw [hq1.out] | go_num, hst, rfl⟩
    · have hke : k = s.size := by omega
      subst hke
      have hcut := Lib.hid (cut_none (s := s.data.toList) (c := c) hp.out)
      have hni : ¬ ((s.size : Int) < (s.size : Int)) := by omega
      clear hp
      go_wp2_with fail
      refine bodyPost_ret (v := .tuple #[.string s, .string ⟨#[]⟩, .bool false]) (by simp [results, Tryz.results44, go_sem]) rfl ?_
      exact ⟨by rw [hR.out, hcut.out], gb_refl _ _⟩
end Go.Proofs.YtdfgnoflohfnmaaGreatDoor.Hx
