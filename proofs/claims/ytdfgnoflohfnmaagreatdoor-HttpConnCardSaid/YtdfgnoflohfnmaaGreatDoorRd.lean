/- HTTP, the document's side: a length. -/
import Derived.Test.YtdfgnoflohfnmaaGreatDoorRc
namespace Go.Proofs.YtdfgnoflohfnmaaGreatDoor.Hx
open Go.RowKit Go.Maps

theorem decV_snoc (l : Bs) (c : UInt8) : decV (l ++ [c]) = 10 * decV l + ((c.toNat : Int) - 48) := by unfold decV; rw [List.foldl_append]; rfl
theorem digB_iff (c : UInt8) : digB c = true ↔ (48 : Int) ≤ (c.toNat : Int) ∧ (c.toNat : Int) ≤ 57 := by unfold digB; simp; omega
theorem take_snoc (s : ByteArray) {k : Nat} (h : k < s.size) : s.data.toList.take (k + 1) = s.data.toList.take k ++ [s[k]] := by
  have h' : k < s.data.toList.length := h
  exact List.take_succ_eq_append_getElem h'
theorem pow10_le (k : Nat) (hk : k ≤ 8) : (10 : Int) ^ k ≤ 100000000 := by
  have h := Nat.pow_le_pow_right (n := 10) (by decide) hk
  have h2 : ((10 ^ k : Nat) : Int) ≤ ((10 ^ 8 : Nat) : Int) := Int.ofNat_le.mpr h
  rw [Int.natCast_pow] at h2
  exact h2
def lenV (s : Bs) : Value := match lengthR s with | some n => .tuple #[.int .i64 n, .bool true] | none => .tuple #[.int .i64 0, .bool false]
set_option maxRecDepth 100000 in
set_option maxHeartbeats 3200000 in
theorem rlength_any (s : ByteArray) (w : World) (hs : s.size ≤ 1000000000) : Calls Tryz.prog 71 #[.string s] w fun e w' => e = .returned (lenV s.data.toList) ∧ w' = w := by
  have hsl : s.data.toList.length = s.size := Array.length_toList
  obtain ⟨R, hR⟩ : ∃ R : Value, R = lenV s.data.toList := ⟨_, rfl⟩
  rw [← hR]
  unfold lenV lengthR at hR
  rw [hsl] at hR
  have hN : Hid ((s.size < 1 ∨ 9 < s.size ∨ s.data.toList.all digB = false) → R = .tuple #[.int .i64 0, .bool false]) := fun h => by rw [hR, if_pos h]
  have hG : Hid (¬ (s.size < 1 ∨ 9 < s.size ∨ s.data.toList.all digB = false) → R = .tuple #[.int .i64 (decV s.data.toList), .bool true]) := fun h => by rw [hR, if_neg h]
  clear hR hsl
  by_cases h1 : (s.size : Int) < 1
  · have hr := Lib.hid (hN.out (.inl (by omega)))
    clear hN hG
    go_enter Tryz.func71, Tryz.ntmps71
    go_wp2_with fail
    refine bodyPost_ret (v := .tuple #[.int .i64 0, .bool false]) (by simp [results, Tryz.results71, go_sem]) rfl ?_
    exact ⟨by rw [hr.out], rfl⟩
  · by_cases h2 : (9 : Int) < (s.size : Int)
    · have hr := Lib.hid (hN.out (.inr (.inl (by omega))))
      clear hN hG
      go_enter Tryz.func71, Tryz.ntmps71
      go_wp2_with fail
      refine bodyPost_ret (v := .tuple #[.int .i64 0, .bool false]) (by simp [results, Tryz.results71, go_sem]) rfl ?_
      exact ⟨by rw [hr.out], rfl⟩
    · go_enter Tryz.func71, Tryz.ntmps71
      go_wp2_with fail
      go_loopg [4, 5] s.size (fun z u4 u5 wr => ∃ (k : Nat) (n : Int), k ≤ s.size ∧ z = s.size - k ∧ u4 = .int .i64 n ∧ u5 = .int .i64 (k : Nat) ∧ Hid ((s.data.toList.take k).all digB = true ∧ n = decV (s.data.toList.take k) ∧ 0 ≤ n ∧ n < 10 ^ k) ∧ wr = w)
      case atStart => exact ⟨0, 0, Nat.zero_le _, rfl, rfl, rfl, ⟨rfl, rfl, Int.le_refl _, by decide⟩, rfl⟩
      case round =>
        obtain ⟨k, n, hk, rfl, rfl, rfl, hp, rfl⟩ := hrel
        by_cases hlt : k < s.size
        · have hki : (k : Int) < (s.size : Int) := by omega
          have hq1 := Lib.hid (show wrap64 ((k : Int) + 1) = ((k + 1 : Nat) : Int) from (wrap64_id (by omega) (by omega)).trans (by omega))
          by_cases a1 : (s[k].toNat : Int) < 48
          · have hr := Lib.hid (hN.out (.inr (.inr (all_no s hlt (p := digB) (by rw [Bool.eq_false_iff]; intro e; have := (digB_iff _).1 e; omega)))))
            clear hN hG hp hq1
            go_wp2_with fail
            refine bodyPost_ret (v := .tuple #[.int .i64 0, .bool false]) (by simp [results, Tryz.results71, go_sem]) rfl ?_
            exact ⟨by rw [hr.out], rfl⟩
          · by_cases a2 : (57 : Int) < (s[k].toNat : Int)
            · have hr := Lib.hid (hN.out (.inr (.inr (all_no s hlt (p := digB) (by rw [Bool.eq_false_iff]; intro e; have := (digB_iff _).1 e; omega)))))
              clear hN hG hp hq1
              go_wp2_with fail
              refine bodyPost_ret (v := .tuple #[.int .i64 0, .bool false]) (by simp [results, Tryz.results71, go_sem]) rfl ?_
              exact ⟨by rw [hr.out], rfl⟩
            · obtain ⟨hp1, hp2, hp3, hp4⟩ := hp.out
              have hk9 : (10 : Int) ^ k ≤ 100000000 := pow10_le k (by omega)
              have hnx : Hid ((s.data.toList.take (k + 1)).all digB = true ∧ 10 * n + ((s[k].toNat : Int) - 48) = decV (s.data.toList.take (k + 1)) ∧ 0 ≤ 10 * n + ((s[k].toNat : Int) - 48) ∧ 10 * n + ((s[k].toNat : Int) - 48) < 10 ^ (k + 1)) := by
                refine ⟨by rw [all_succ s hlt, hp1, (digB_iff _).2 ⟨by omega, by omega⟩]; rfl, by rw [take_snoc s hlt, decV_snoc, ← hp2], by omega, ?_⟩
                rw [Int.pow_succ]
                omega
              have hw1 : wrap64 (10 * n) = 10 * n := wrap64_id (by omega) (by omega)
              have hw2 : IntKind.u8.wrap ((s[k].toNat : Int) - 48) = (s[k].toNat : Int) - 48 := wrap_u8 (by omega) (by omega)
              have hw3 : wrap64 (10 * n + ((s[k].toNat : Int) - 48)) = 10 * n + ((s[k].toNat : Int) - 48) := wrap64_id (by omega) (by omega)
              clear hN hG hp hp1 hp2 hp3 hp4 hk9
              go_wp2_with fail
              go_roundg (s.size - (k + 1))
              case measure => omega
              case rel => exact ⟨k + 1, _, hlt, rfl, rfl, by first | rw [hq1.out] | go_num, hnx, rfl⟩
        · have hke : k = s.size := by omega
          subst hke
          obtain ⟨hp1, hp2, _, _⟩ := hp.out
          rw [show s.size = s.data.toList.length from rfl, List.take_length] at hp1 hp2
          have hr := Lib.hid (hG.out (by rintro (e | e | e); omega; omega; rw [hp1] at e; cases e))
          have hnv := Lib.hid hp2
          have hni : ¬ ((s.size : Int) < (s.size : Int)) := by omega
          clear hN hG hp hp1 hp2
          go_wp2_with fail
          refine bodyPost_ret (v := .tuple #[.int .i64 n, .bool true]) (by simp [results, Tryz.results71, go_sem]) rfl ?_
          exact ⟨by rw [hr.out, hnv.out], rfl⟩
end Go.Proofs.YtdfgnoflohfnmaaGreatDoor.Hx
