/- HTTP: a text with escapes, as the document has it. -/
import Derived.Test.YtdfgnoflohfnmaaGreatDoorCa
import Derived.Test.YtdfgnoflohfnmaaGreatDoorBi
import Derived.BigQuiet
namespace Go.Proofs.YtdfgnoflohfnmaaGreatDoor.Hx
open Go.RowKit Go.Maps

theorem rsafe_any (c : UInt8) (w : World) : Calls Tryz.prog 87 #[.int .u8 (c.toNat : Int)] w fun e w' => e = .returned (.bool (safeB false c)) ∧ w' = w := by
  have hT : Hid (safeB false c = (((decide (97 ≤ c.toNat) && decide (c.toNat ≤ 122)) || (decide (65 ≤ c.toNat) && decide (c.toNat ≤ 90))) || (decide (48 ≤ c.toNat) && decide (c.toNat ≤ 57)) || decide (c.toNat = 45) || decide (c.toNat = 46) || decide (c.toNat = 95))) := by unfold Hid safeB letB digB; simp
  generalize safeB false c = y at *
  generalize c.toNat = n at *
  have hc : n < 45 ∨ n = 45 ∨ n = 46 ∨ n = 47 ∨ (48 ≤ n ∧ n ≤ 57) ∨ (58 ≤ n ∧ n ≤ 64) ∨ (65 ≤ n ∧ n ≤ 90) ∨ (91 ≤ n ∧ n ≤ 94) ∨ n = 95 ∨ n = 96 ∨ (97 ≤ n ∧ n ≤ 122) ∨ 123 ≤ n := by omega
  go_enter Tryz.func87, Tryz.ntmps87
  rcases hc with hc | hc | hc | hc | hc | hc | hc | hc | hc | hc | hc | hc
  · have hy : Hid (y = false) := by unfold Hid; rw [hT.out]; simp; omega
    have f0 : ¬ ((97 : Int) ≤ (n : Int)) := by omega
    have f1 : (n : Int) ≤ 122 := by omega
    have f2 : ¬ ((65 : Int) ≤ (n : Int)) := by omega
    have f3 : (n : Int) ≤ 90 := by omega
    have f4 : ¬ ((48 : Int) ≤ (n : Int)) := by omega
    have f5 : (n : Int) ≤ 57 := by omega
    have f6 : ((n : Int) == 45) = false := by simp; omega
    have f7 : ((n : Int) == 46) = false := by simp; omega
    have f8 : ((n : Int) == 95) = false := by simp; omega
    clear hT hc
    go_wp2_with fail
    go_ret
    exact ⟨by rw [hy.out]; rfl, rfl⟩
  · have hy : Hid (y = true) := by unfold Hid; rw [hT.out]; simp; omega
    have f0 : ¬ ((97 : Int) ≤ (n : Int)) := by omega
    have f1 : (n : Int) ≤ 122 := by omega
    have f2 : ¬ ((65 : Int) ≤ (n : Int)) := by omega
    have f3 : (n : Int) ≤ 90 := by omega
    have f4 : ¬ ((48 : Int) ≤ (n : Int)) := by omega
    have f5 : (n : Int) ≤ 57 := by omega
    have f6 : (n : Int) = 45 := by omega
    have f7 : ((n : Int) == 46) = false := by simp; omega
    have f8 : ((n : Int) == 95) = false := by simp; omega
    clear hT hc
    go_wp2_with fail
    go_ret
    exact ⟨by rw [hy.out]; rfl, rfl⟩
  · have hy : Hid (y = true) := by unfold Hid; rw [hT.out]; simp; omega
    have f0 : ¬ ((97 : Int) ≤ (n : Int)) := by omega
    have f1 : (n : Int) ≤ 122 := by omega
    have f2 : ¬ ((65 : Int) ≤ (n : Int)) := by omega
    have f3 : (n : Int) ≤ 90 := by omega
    have f4 : ¬ ((48 : Int) ≤ (n : Int)) := by omega
    have f5 : (n : Int) ≤ 57 := by omega
    have f6 : ((n : Int) == 45) = false := by simp; omega
    have f7 : (n : Int) = 46 := by omega
    have f8 : ((n : Int) == 95) = false := by simp; omega
    clear hT hc
    go_wp2_with fail
    go_ret
    exact ⟨by rw [hy.out]; rfl, rfl⟩
  · have hy : Hid (y = false) := by unfold Hid; rw [hT.out]; simp; omega
    have f0 : ¬ ((97 : Int) ≤ (n : Int)) := by omega
    have f1 : (n : Int) ≤ 122 := by omega
    have f2 : ¬ ((65 : Int) ≤ (n : Int)) := by omega
    have f3 : (n : Int) ≤ 90 := by omega
    have f4 : ¬ ((48 : Int) ≤ (n : Int)) := by omega
    have f5 : (n : Int) ≤ 57 := by omega
    have f6 : ((n : Int) == 45) = false := by simp; omega
    have f7 : ((n : Int) == 46) = false := by simp; omega
    have f8 : ((n : Int) == 95) = false := by simp; omega
    clear hT hc
    go_wp2_with fail
    go_ret
    exact ⟨by rw [hy.out]; rfl, rfl⟩
  · have hy : Hid (y = true) := by unfold Hid; rw [hT.out]; simp; omega
    have f0 : ¬ ((97 : Int) ≤ (n : Int)) := by omega
    have f1 : (n : Int) ≤ 122 := by omega
    have f2 : ¬ ((65 : Int) ≤ (n : Int)) := by omega
    have f3 : (n : Int) ≤ 90 := by omega
    have f4 : (48 : Int) ≤ (n : Int) := by omega
    have f5 : (n : Int) ≤ 57 := by omega
    have f6 : ((n : Int) == 45) = false := by simp; omega
    have f7 : ((n : Int) == 46) = false := by simp; omega
    have f8 : ((n : Int) == 95) = false := by simp; omega
    clear hT hc
    go_wp2_with fail
    go_ret
    exact ⟨by rw [hy.out]; rfl, rfl⟩
  · have hy : Hid (y = false) := by unfold Hid; rw [hT.out]; simp; omega
    have f0 : ¬ ((97 : Int) ≤ (n : Int)) := by omega
    have f1 : (n : Int) ≤ 122 := by omega
    have f2 : ¬ ((65 : Int) ≤ (n : Int)) := by omega
    have f3 : (n : Int) ≤ 90 := by omega
    have f4 : (48 : Int) ≤ (n : Int) := by omega
    have f5 : ¬ ((n : Int) ≤ 57) := by omega
    have f6 : ((n : Int) == 45) = false := by simp; omega
    have f7 : ((n : Int) == 46) = false := by simp; omega
    have f8 : ((n : Int) == 95) = false := by simp; omega
    clear hT hc
    go_wp2_with fail
    go_ret
    exact ⟨by rw [hy.out]; rfl, rfl⟩
  · have hy : Hid (y = true) := by unfold Hid; rw [hT.out]; simp; omega
    have f0 : ¬ ((97 : Int) ≤ (n : Int)) := by omega
    have f1 : (n : Int) ≤ 122 := by omega
    have f2 : (65 : Int) ≤ (n : Int) := by omega
    have f3 : (n : Int) ≤ 90 := by omega
    have f4 : (48 : Int) ≤ (n : Int) := by omega
    have f5 : ¬ ((n : Int) ≤ 57) := by omega
    have f6 : ((n : Int) == 45) = false := by simp; omega
    have f7 : ((n : Int) == 46) = false := by simp; omega
    have f8 : ((n : Int) == 95) = false := by simp; omega
    clear hT hc
    go_wp2_with fail
    go_ret
    exact ⟨by rw [hy.out]; rfl, rfl⟩
  · have hy : Hid (y = false) := by unfold Hid; rw [hT.out]; simp; omega
    have f0 : ¬ ((97 : Int) ≤ (n : Int)) := by omega
    have f1 : (n : Int) ≤ 122 := by omega
    have f2 : (65 : Int) ≤ (n : Int) := by omega
    have f3 : ¬ ((n : Int) ≤ 90) := by omega
    have f4 : (48 : Int) ≤ (n : Int) := by omega
    have f5 : ¬ ((n : Int) ≤ 57) := by omega
    have f6 : ((n : Int) == 45) = false := by simp; omega
    have f7 : ((n : Int) == 46) = false := by simp; omega
    have f8 : ((n : Int) == 95) = false := by simp; omega
    clear hT hc
    go_wp2_with fail
    go_ret
    exact ⟨by rw [hy.out]; rfl, rfl⟩
  · have hy : Hid (y = true) := by unfold Hid; rw [hT.out]; simp; omega
    have f0 : ¬ ((97 : Int) ≤ (n : Int)) := by omega
    have f1 : (n : Int) ≤ 122 := by omega
    have f2 : (65 : Int) ≤ (n : Int) := by omega
    have f3 : ¬ ((n : Int) ≤ 90) := by omega
    have f4 : (48 : Int) ≤ (n : Int) := by omega
    have f5 : ¬ ((n : Int) ≤ 57) := by omega
    have f6 : ((n : Int) == 45) = false := by simp; omega
    have f7 : ((n : Int) == 46) = false := by simp; omega
    have f8 : (n : Int) = 95 := by omega
    clear hT hc
    go_wp2_with fail
    go_ret
    exact ⟨by rw [hy.out]; rfl, rfl⟩
  · have hy : Hid (y = false) := by unfold Hid; rw [hT.out]; simp; omega
    have f0 : ¬ ((97 : Int) ≤ (n : Int)) := by omega
    have f1 : (n : Int) ≤ 122 := by omega
    have f2 : (65 : Int) ≤ (n : Int) := by omega
    have f3 : ¬ ((n : Int) ≤ 90) := by omega
    have f4 : (48 : Int) ≤ (n : Int) := by omega
    have f5 : ¬ ((n : Int) ≤ 57) := by omega
    have f6 : ((n : Int) == 45) = false := by simp; omega
    have f7 : ((n : Int) == 46) = false := by simp; omega
    have f8 : ((n : Int) == 95) = false := by simp; omega
    clear hT hc
    go_wp2_with fail
    go_ret
    exact ⟨by rw [hy.out]; rfl, rfl⟩
  · have hy : Hid (y = true) := by unfold Hid; rw [hT.out]; simp; omega
    have f0 : (97 : Int) ≤ (n : Int) := by omega
    have f1 : (n : Int) ≤ 122 := by omega
    have f2 : (65 : Int) ≤ (n : Int) := by omega
    have f3 : ¬ ((n : Int) ≤ 90) := by omega
    have f4 : (48 : Int) ≤ (n : Int) := by omega
    have f5 : ¬ ((n : Int) ≤ 57) := by omega
    have f6 : ((n : Int) == 45) = false := by simp; omega
    have f7 : ((n : Int) == 46) = false := by simp; omega
    have f8 : ((n : Int) == 95) = false := by simp; omega
    clear hT hc
    go_wp2_with fail
    go_ret
    exact ⟨by rw [hy.out]; rfl, rfl⟩
  · have hy : Hid (y = false) := by unfold Hid; rw [hT.out]; simp; omega
    have f0 : (97 : Int) ≤ (n : Int) := by omega
    have f1 : ¬ ((n : Int) ≤ 122) := by omega
    have f2 : (65 : Int) ≤ (n : Int) := by omega
    have f3 : ¬ ((n : Int) ≤ 90) := by omega
    have f4 : (48 : Int) ≤ (n : Int) := by omega
    have f5 : ¬ ((n : Int) ≤ 57) := by omega
    have f6 : ((n : Int) == 45) = false := by simp; omega
    have f7 : ((n : Int) == 46) = false := by simp; omega
    have f8 : ((n : Int) == 95) = false := by simp; omega
    clear hT hc
    go_wp2_with fail
    go_ret
    exact ⟨by rw [hy.out]; rfl, rfl⟩
theorem safe_or (slash : Bool) (c : UInt8) : safeB slash c = (safeB false c || (slash && decide (c.toNat = 47))) := by unfold safeB; simp
theorem add_exx (a b : ByteArray) (ha : a.data.toList.length ≤ 100000000) (hb : b.data.toList.length ≤ 100000000) : ∃ S : ByteArray, (∀ W, (Op.stringOp .add a b).run Tryz.prog W = .ok (.string S) W) ∧ S.data.toList = a.data.toList ++ b.data.toList :=
  ⟨a ++ b, fun W => add_any a b (by rw [ba_size]; exact ha) (by rw [ba_size]; exact hb) W, app_list a b⟩
/-- one byte of a text -/
theorem ext_one (s : ByteArray) (k : Nat) (h : k < s.size) : (s.extract k (k + 1)).data.toList = [s[k]] := by
  have hk : k < s.data.toList.length := by rw [← ba_size]; exact h
  have e : (s.extract k (k + 1)).data.toList = (s.data.toList.drop k).take 1 := by
    rw [ByteArray.data_extract]
    simp [Array.toList_extract, List.extract_eq_take_drop]
  rw [e, List.drop_eq_getElem_cons hk]
  rfl
end Go.Proofs.YtdfgnoflohfnmaaGreatDoor.Hx
/-! HTTP: a text with escapes, as the document has it: walked. -/
namespace Go.Proofs.YtdfgnoflohfnmaaGreatDoor.Hx
open Go.RowKit Go.Maps

abbrev hexT : ByteArray := ⟨#[48, 49, 50, 51, 52, 53, 54, 55, 56, 57, 65, 66, 67, 68, 69, 70]⟩
theorem hex_ext (n : Nat) (h : n < 16) : (hexT.extract n (n + 1)).data.toList = [hexD n] := by
  rw [ext_one hexT n h, hex_at n h]
set_option maxRecDepth 100000 in
set_option maxHeartbeats 1600000 in
theorem resc_any (slash : Bool) (s : ByteArray) (w : World) (hs : s.size ≤ 10000000) :
    Calls Tryz.prog 62 #[.string s, .bool slash] w fun e w' => e = .returned (.string (btx (escP slash s.data.toList))) ∧ w.grownBy w' none := by
  have hc0 := fun c W => Lib.hid (rsafe_any c W)
  go_enter Tryz.func62, Tryz.ntmps62
  go_wp2_with fail
  go_loopg [5, 6] s.size (fun z u5 u6 wr => ∃ k : Nat, k ≤ s.size ∧ z = s.size - k ∧ u6 = .int .i64 k ∧ u5 = .string (btx (escP slash (s.data.toList.take k))) ∧ Hid (w.grownBy wr none))
  case atStart => exact ⟨0, Nat.zero_le _, rfl, rfl, rfl, Lib.hid (gb_refl _ _)⟩
  case round =>
    obtain ⟨k, hk, rfl, rfl, rfl, hg⟩ := hrel
    have hlen : (escP slash (s.data.toList.take k)).length ≤ 30000000 := by
      have := esc_len slash (s.data.toList.take k)
      have := List.length_take_le k s.data.toList
      omega
    by_cases hlt : k < s.size
    · have hki : (k : Int) < (s.size : Int) := by omega
      have hk0 : (0 : Int) ≤ (k : Int) := Int.natCast_nonneg k
      have hw1 : wrap64 ((k : Int) + 1) = (k : Int) + 1 := wrap64_id (by omega) (by omega)
      have htk : s.data.toList.take (k + 1) = s.data.toList.take k ++ [s[k]] := List.take_succ_eq_append_getElem (show k < s.data.toList.length from hlt)
      have hes := esc_succ slash (s.data.toList.take k) s[k]
      rw [← htk] at hes
      obtain ⟨O, hO⟩ : ∃ O, btx (escP slash (s.data.toList.take k)) = O := ⟨_, rfl⟩
      have hOd : O.data.toList = escP slash (s.data.toList.take k) := by rw [← hO, btx_list]
      have hOl : O.data.toList.length ≤ 30000000 := by rw [hOd]; exact hlen
      rw [hO]
      obtain ⟨R, hR⟩ : ∃ R, btx (escP slash (s.data.toList.take (k + 1))) = R := ⟨_, rfl⟩
      rw [← hOd] at hes
      clear htk hO hOd hlen
      have hrel' : Hid (∀ W, w.grownBy W none → ∃ k' : Nat, k' ≤ s.size ∧ s.size - (k + 1) = s.size - k' ∧ Value.int .i64 ((k : Int) + 1) = .int .i64 (k' : Nat) ∧ Value.string R = .string (btx (escP slash (s.data.toList.take k'))) ∧ Hid (w.grownBy W none)) := Lib.hid fun W hW => ⟨k + 1, hlt, rfl, rfl, by rw [hR], Lib.hid hW⟩
      cases hsb : safeB slash s[k] with
      | true =>
        rw [hsb, if_pos rfl] at hes
        obtain ⟨R', q1, e1⟩ := add_exx O (s.extract k (k + 1)) (by omega) (by rw [ext_one s k hlt]; show 1 ≤ 100000000; decide)
        have e2 : R' = R := by
          rw [← hR, hes]
          have := e1
          rw [ext_one s k hlt] at this
          rw [ba_btx R', this]
        rw [e2] at q1
        have h2 : (k : Int) ≤ (k : Int) + 1 := by omega
        have h3 : (k : Int) + 1 ≤ (s.size : Int) := by omega
        have hsa := safe_or slash s[k]
        rw [hsb] at hsa
        have hc1 := fun W => hc0 s[k] W
        clear hc0 hR e1 e2 hes
        cases hs2 : safeB false s[k] with
        | true =>
          rw [hs2] at hc1
          clear hsa hs2 hsb
          go_wp2_with (first
            | (go_at_call 87; refine ((hc1 _).out).mono ?_; rintro e w1 ⟨rfl, hw⟩; rw [hw]; clear hw))
          go_roundg (s.size - (k + 1))
          case measure => omega
          case rel => exact hrel'.out _ hg.out
        | false =>
          rw [hs2] at hc1 hsa
          cases slash with
          | false => simp at hsa
          | true =>
            have h47 : ((s[k].toNat : Int) == 47) = true := by simp at hsa ⊢; omega
            clear hsa hs2 hsb
            go_wp2_with (first
              | (go_at_call 87; refine ((hc1 _).out).mono ?_; rintro e w1 ⟨rfl, hw⟩; rw [hw]; clear hw))
            go_roundg (s.size - (k + 1))
            case measure => omega
            case rel => exact hrel'.out _ hg.out
      | false =>
        rw [hsb, if_neg (by decide)] at hes
        have hsa := safe_or slash s[k]
        rw [hsb] at hsa
        have hc1 := fun W => hc0 s[k] W
        have hs2 : safeB false s[k] = false := by
          cases h : safeB false s[k] with
          | false => rfl
          | true => rw [h] at hsa; simp at hsa
        rw [hs2] at hc1 hsa
        have hn256 : s[k].toNat < 256 := s[k].toNat_lt
        obtain ⟨hi, hhi⟩ : ∃ j, s[k].toNat / 16 = j := ⟨_, rfl⟩
        obtain ⟨lo, hlo⟩ : ∃ j, s[k].toNat % 16 = j := ⟨_, rfl⟩
        have hi16 : hi < 16 := by omega
        have lo16 : lo < 16 := by omega
        have hshr : (s[k].toNat : Int) / 16 = (hi : Int) := by omega
        have hand : bits BinOp.and IntKind.u8 (s[k].toNat : Int) 15 = (lo : Int) := by rw [and15_u8 _ hn256, hlo]
        rw [hhi, hlo] at hes
        obtain ⟨S1, q1, e1⟩ := add_exx O ⟨#[37]⟩ (by omega) (by decide)
        have l1 : S1.data.toList.length ≤ 30000001 := by rw [e1, List.length_append]; show _ + 1 ≤ _; omega
        obtain ⟨S2, q2, e2⟩ := add_exx S1 (hexT.extract hi (hi + 1)) (by omega) (by rw [hex_ext hi hi16]; show 1 ≤ 100000000; decide)
        have l2 : S2.data.toList.length ≤ 30000002 := by rw [e2, List.length_append, hex_ext hi hi16]; show _ + 1 ≤ _; omega
        obtain ⟨S3, q3, e3⟩ := add_exx S2 (hexT.extract lo (lo + 1)) (by omega) (by rw [hex_ext lo lo16]; show 1 ≤ 100000000; decide)
        have hS3 : S3 = R := by
          rw [← hR, hes, ba_btx S3, e3, e2, e1, hex_ext hi hi16, hex_ext lo lo16]
          simp
        rw [hS3] at q3
        have i0 : (0 : Int) ≤ (hi : Int) := by omega
        have i1 : (hi : Int) ≤ (hi : Int) + 1 := by omega
        have i2 : (hi : Int) + 1 ≤ 16 := by omega
        have j0 : (0 : Int) ≤ (lo : Int) := by omega
        have j1 : (lo : Int) ≤ (lo : Int) + 1 := by omega
        have j2 : (lo : Int) + 1 ≤ 16 := by omega
        have wi : IntKind.u8.wrap ((hi : Int) + 1) = (hi : Int) + 1 := w8_id (by omega) (by omega)
        have wj : IntKind.u8.wrap ((lo : Int) + 1) = (lo : Int) + 1 := w8_id (by omega) (by omega)
        clear hc0 hR hS3 e1 e2 e3 l1 l2 hhi hlo hn256 hes hs2 hsb
        cases slash with
        | false =>
          clear hsa
          go_upto_region 7 with (first
            | (go_at_call 87; refine ((hc1 _).out).mono ?_; rintro e w1 ⟨rfl, hw⟩; rw [hw]; clear hw))
          go_quiet (fail)
          go_wp2_with fail
          go_roundg (s.size - (k + 1))
          case measure => omega
          case rel => exact hrel'.out _ (gb_drewN hg.out _)
        | true =>
          have h47 : ((s[k].toNat : Int) == 47) = false := by simp at hsa ⊢; omega
          clear hsa
          go_upto_region 7 with (first
            | (go_at_call 87; refine ((hc1 _).out).mono ?_; rintro e w1 ⟨rfl, hw⟩; rw [hw]; clear hw))
          go_quiet (fail)
          go_wp2_with fail
          go_roundg (s.size - (k + 1))
          case measure => omega
          case rel => exact hrel'.out _ (gb_drewN hg.out _)
    · have hke : k = s.size := by omega
      subst hke
      have hni : ¬ ((s.size : Int) < (s.size : Int)) := by omega
      clear hc0
      go_wp2_with fail
      go_ret
      exact ⟨by rw [show s.size = s.data.toList.length from rfl, List.take_length]; rfl, hg.out⟩
end Go.Proofs.YtdfgnoflohfnmaaGreatDoor.Hx
