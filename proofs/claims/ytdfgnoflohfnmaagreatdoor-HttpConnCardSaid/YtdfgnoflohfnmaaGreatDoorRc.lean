/- HTTP, the document's side: a text trimmed; a length; small letters. -/
import Derived.Test.YtdfgnoflohfnmaaGreatDoorRb
namespace Go.Proofs.YtdfgnoflohfnmaaGreatDoor.Hx
open Go.RowKit Go.Maps

theorem head_cons (s : ByteArray) (h : 0 < s.size) : s.data.toList = s[0] :: s.data.toList.drop 1 := by
  have := list_at s h
  rw [List.drop_zero] at this
  exact this
theorem tail_extract (s : ByteArray) : (s.extract 1 s.size).data.toList = s.data.toList.drop 1 := Lib.extract_to_end _ _
theorem init_extract (s : ByteArray) (k : Nat) : (s.extract 0 k).data.toList = s.data.toList.take k := by simp
theorem last_snoc (s : ByteArray) (h : 0 < s.size) : s.data.toList = s.data.toList.take (s.size - 1) ++ [s[s.size - 1]] := by
  have hl : s.data.toList.length = s.size := Array.length_toList
  have e : s.data.toList.take (s.size - 1 + 1) = s.data.toList := by rw [show s.size - 1 + 1 = s.size from by omega, ← hl, List.take_length]
  have e2 := List.take_succ_eq_append_getElem (l := s.data.toList) (i := s.size - 1) (by omega)
  rw [e] at e2
  exact e2
theorem rdrop_snoc (p : UInt8 → Bool) (l : Bs) (c : UInt8) : ((l ++ [c]).reverse.dropWhile p).reverse = if p c then (l.reverse.dropWhile p).reverse else l ++ [c] := by
  rw [List.reverse_append]
  show ((c :: l.reverse).dropWhile p).reverse = _
  cases hp : p c with
  | true => rw [List.dropWhile_cons_of_pos hp]; rfl
  | false => rw [List.dropWhile_cons_of_neg (by rw [hp]; decide)]; simp
set_option maxRecDepth 100000 in
set_option maxHeartbeats 3200000 in
theorem rtrim_any (s : ByteArray) (w : World) (hs : s.size ≤ 1000000000) : Calls Tryz.prog 97 #[.string s] w fun e w' => e = .returned (.string ⟨(Lib.trimS s.data.toList [32, 9]).toArray⟩) ∧ w' = w := by
  obtain ⟨R, hR⟩ : ∃ R : ByteArray, R = ⟨(Lib.trimS s.data.toList [32, 9]).toArray⟩ := ⟨_, rfl⟩
  rw [← hR]
  rw [trim_eq] at hR
  replace hR := Lib.hid hR
  go_enter Tryz.func97, Tryz.ntmps97
  go_wp2_with fail
  go_loopg [0] s.size (fun z u0 wr => ∃ cur : ByteArray, u0 = .string cur ∧ cur.size ≤ s.size ∧ z = cur.size ∧ Hid (s.data.toList.dropWhile blB = cur.data.toList.dropWhile blB) ∧ wr = w)
  case atStart => exact ⟨s, rfl, Nat.le_refl _, rfl, rfl, rfl⟩
  case round =>
    obtain ⟨cur, rfl, hle, rfl, hd, rfl⟩ := hrel
    by_cases h0 : 0 < cur.size
    · have hp : (0 : Int) < (cur.size : Int) := by omega
      by_cases h32 : (cur[0].toNat : Int) = 32
      · have hb32 : ((cur[0].toNat : Int) == 32) = true := by simp [h32]
        have hbl : blB cur[0] = true := by unfold blB; simp; omega
        have hd2 : Hid (s.data.toList.dropWhile blB = (cur.extract 1 cur.size).data.toList.dropWhile blB) := by
          unfold Hid
          rw [hd.out, tail_extract, head_cons cur h0, List.dropWhile_cons_of_pos hbl]; rfl
        have hz : (cur.extract 1 cur.size).size = cur.size - 1 := by simp
        have hi1 : (1 : Int) ≤ (cur.size : Int) := by omega
        clear hd hbl
        go_wp2_with fail
        go_roundg (cur.size - 1)
        case measure => omega
        case rel => exact ⟨cur.extract 1 cur.size, rfl, by omega, hz.symm, hd2, rfl⟩
      · have hb32 : ((cur[0].toNat : Int) == 32) = false := by simp [h32]
        by_cases h9 : (cur[0].toNat : Int) = 9
        · have hb9 : ((cur[0].toNat : Int) == 9) = true := by simp [h9]
          have hbl : blB cur[0] = true := by unfold blB; simp; omega
          have hd2 : Hid (s.data.toList.dropWhile blB = (cur.extract 1 cur.size).data.toList.dropWhile blB) := by
            unfold Hid
            rw [hd.out, tail_extract, head_cons cur h0, List.dropWhile_cons_of_pos hbl]; rfl
          have hz : (cur.extract 1 cur.size).size = cur.size - 1 := by simp
          have hi1 : (1 : Int) ≤ (cur.size : Int) := by omega
          clear hd hbl
          go_wp2_with fail
          go_roundg (cur.size - 1)
          case measure => omega
          case rel => exact ⟨cur.extract 1 cur.size, rfl, by omega, hz.symm, hd2, rfl⟩
        · have hb9 : ((cur[0].toNat : Int) == 9) = false := by simp [h9]
          have hbl : blB cur[0] = false := by unfold blB; simp; omega
          have hR2 : Hid (R = ⟨(cur.data.toList.reverse.dropWhile blB).reverse.toArray⟩) := by
            unfold Hid
            rw [hR.out, hd.out]
            have : cur.data.toList.dropWhile blB = cur.data.toList := by rw [head_cons cur h0, List.dropWhile_cons_of_neg (by rw [hbl]; decide)]
            rw [this]
          clear hbl
          obtain ⟨wq, hwq⟩ : ∃ wq, wq = wr := ⟨_, rfl⟩
          subst hwq
          clear hd
          go_wp2_with fail
          go_loopg [0] cur.size (fun z u0 wr => ∃ cur2 : ByteArray, u0 = .string cur2 ∧ cur2.size ≤ cur.size ∧ z = cur2.size ∧ Hid (R = ⟨(cur2.data.toList.reverse.dropWhile blB).reverse.toArray⟩) ∧ wr = wq)
          case atStart => exact ⟨cur, rfl, Nat.le_refl _, rfl, hR2, rfl⟩
          case round =>
            obtain ⟨cur2, rfl, hle2, rfl, hd3, rfl⟩ := hrel
            clear hR2
            by_cases h1 : 0 < cur2.size
            · have hp2 : (0 : Int) < (cur2.size : Int) := by omega
              have hlst : (cur2.size - 1 : Nat) < cur2.size := by omega
              have hw8 : wrap64 ((cur2.size : Int) - 1) = ((cur2.size - 1 : Nat) : Int) := (wrap64_id (by omega) (by omega)).trans (by omega)
              have hj1 : ((cur2.size - 1 : Nat) : Int) < (cur2.size : Int) := by omega
              have hj0 : (0 : Int) ≤ ((cur2.size - 1 : Nat) : Int) := by omega
              by_cases h32 : (cur2[cur2.size - 1].toNat : Int) = 32
              · have hb32 : ((cur2[cur2.size - 1].toNat : Int) == 32) = true := by simp [h32]
                have hbl : blB cur2[cur2.size - 1] = true := by unfold blB; simp; omega
                have hd2 : Hid (R = ⟨((cur2.extract 0 (cur2.size - 1)).data.toList.reverse.dropWhile blB).reverse.toArray⟩) := by
                  unfold Hid
                  rw [hd3.out, last_snoc cur2 h1, rdrop_snoc, if_pos hbl, init_extract]
                have hz : (cur2.extract 0 (cur2.size - 1)).size = cur2.size - 1 := by simp
                have hw9 : wrap64 ((cur2.size : Int) - 1) = ((cur2.size - 1 : Nat) : Int) := (wrap64_id (by omega) (by omega)).trans (by omega)
                have hi1 : ((cur2.size - 1 : Nat) : Int) ≤ (cur2.size : Int) := by omega
                have hi2 : (0 : Int) ≤ ((cur2.size - 1 : Nat) : Int) := by omega
                clear hd3 hbl
                go_wp2_with fail
                all_goals go_roundg (cur2.size - 1)
                all_goals first
                  | omega
                  | exact ⟨cur2.extract 0 (cur2.size - 1), rfl, by omega, hz.symm, hd2, rfl⟩
              · have hb32 : ((cur2[cur2.size - 1].toNat : Int) == 32) = false := by simp [h32]
                by_cases h9 : (cur2[cur2.size - 1].toNat : Int) = 9
                · have hb9 : ((cur2[cur2.size - 1].toNat : Int) == 9) = true := by simp [h9]
                  have hbl : blB cur2[cur2.size - 1] = true := by unfold blB; simp; omega
                  have hd2 : Hid (R = ⟨((cur2.extract 0 (cur2.size - 1)).data.toList.reverse.dropWhile blB).reverse.toArray⟩) := by
                    unfold Hid
                    rw [hd3.out, last_snoc cur2 h1, rdrop_snoc, if_pos hbl, init_extract]
                  have hz : (cur2.extract 0 (cur2.size - 1)).size = cur2.size - 1 := by simp
                  have hw9 : wrap64 ((cur2.size : Int) - 1) = ((cur2.size - 1 : Nat) : Int) := (wrap64_id (by omega) (by omega)).trans (by omega)
                  have hi1 : ((cur2.size - 1 : Nat) : Int) ≤ (cur2.size : Int) := by omega
                  have hi2 : (0 : Int) ≤ ((cur2.size - 1 : Nat) : Int) := by omega
                  clear hd3 hbl
                  go_wp2_with fail
                  all_goals go_roundg (cur2.size - 1)
                  all_goals first
                    | omega
                    | exact ⟨cur2.extract 0 (cur2.size - 1), rfl, by omega, hz.symm, hd2, rfl⟩
                · have hb9 : ((cur2[cur2.size - 1].toNat : Int) == 9) = false := by simp [h9]
                  have hbl : blB cur2[cur2.size - 1] = false := by unfold blB; simp; omega
                  have hfin : Hid (cur2 = R) := by
                    unfold Hid
                    rw [hd3.out, last_snoc cur2 h1, rdrop_snoc, if_neg (by rw [hbl]; decide), ← last_snoc cur2 h1]
                  clear hd3 hbl
                  go_wp2_with fail
                  all_goals go_ret
                  all_goals exact ⟨by rw [← hfin.out]; rfl, rfl⟩
            · have hz : cur2.size = 0 := by omega
              have hp2 : ¬ (0 : Int) < (cur2.size : Int) := by omega
              have hfin : Hid (cur2 = R) := by
                unfold Hid
                have e : cur2.data.toList = [] := List.length_eq_zero_iff.mp (by have : cur2.data.toList.length = cur2.size := Array.length_toList; omega)
                rw [hd3.out, e]
                exact ByteArray.ext (Array.toList_inj.1 (by rw [e]; rfl))
              clear hd3 hz h1
              go_wp2_with fail
              all_goals go_ret
              all_goals exact ⟨by rw [← hfin.out]; rfl, rfl⟩
    · have hp : ¬ (0 : Int) < (cur.size : Int) := by omega
      have hR2 : Hid (R = ⟨(cur.data.toList.reverse.dropWhile blB).reverse.toArray⟩) := by
        unfold Hid
        have e : cur.data.toList = [] := List.length_eq_zero_iff.mp (by have : cur.data.toList.length = cur.size := Array.length_toList; omega)
        rw [hR.out, hd.out, e]; rfl
      obtain ⟨wq, hwq⟩ : ∃ wq, wq = wr := ⟨_, rfl⟩
      subst hwq
      clear hd
      go_wp2_with fail
      go_loopg [0] cur.size (fun z u0 wr => ∃ cur2 : ByteArray, u0 = .string cur2 ∧ cur2.size ≤ cur.size ∧ z = cur2.size ∧ Hid (R = ⟨(cur2.data.toList.reverse.dropWhile blB).reverse.toArray⟩) ∧ wr = wq)
      case atStart => exact ⟨cur, rfl, Nat.le_refl _, rfl, hR2, rfl⟩
      case round =>
        obtain ⟨cur2, rfl, hle2, rfl, hd3, rfl⟩ := hrel
        clear hR2
        by_cases h1 : 0 < cur2.size
        · have hp2 : (0 : Int) < (cur2.size : Int) := by omega
          have hlst : (cur2.size - 1 : Nat) < cur2.size := by omega
          have hw8 : wrap64 ((cur2.size : Int) - 1) = ((cur2.size - 1 : Nat) : Int) := (wrap64_id (by omega) (by omega)).trans (by omega)
          have hj1 : ((cur2.size - 1 : Nat) : Int) < (cur2.size : Int) := by omega
          have hj0 : (0 : Int) ≤ ((cur2.size - 1 : Nat) : Int) := by omega
          by_cases h32 : (cur2[cur2.size - 1].toNat : Int) = 32
          · have hb32 : ((cur2[cur2.size - 1].toNat : Int) == 32) = true := by simp [h32]
            have hbl : blB cur2[cur2.size - 1] = true := by unfold blB; simp; omega
            have hd2 : Hid (R = ⟨((cur2.extract 0 (cur2.size - 1)).data.toList.reverse.dropWhile blB).reverse.toArray⟩) := by
              unfold Hid
              rw [hd3.out, last_snoc cur2 h1, rdrop_snoc, if_pos hbl, init_extract]
            have hz : (cur2.extract 0 (cur2.size - 1)).size = cur2.size - 1 := by simp
            have hw9 : wrap64 ((cur2.size : Int) - 1) = ((cur2.size - 1 : Nat) : Int) := (wrap64_id (by omega) (by omega)).trans (by omega)
            have hi1 : ((cur2.size - 1 : Nat) : Int) ≤ (cur2.size : Int) := by omega
            have hi2 : (0 : Int) ≤ ((cur2.size - 1 : Nat) : Int) := by omega
            clear hd3 hbl
            go_wp2_with fail
            all_goals go_roundg (cur2.size - 1)
            all_goals first
              | omega
              | exact ⟨cur2.extract 0 (cur2.size - 1), rfl, by omega, hz.symm, hd2, rfl⟩
          · have hb32 : ((cur2[cur2.size - 1].toNat : Int) == 32) = false := by simp [h32]
            by_cases h9 : (cur2[cur2.size - 1].toNat : Int) = 9
            · have hb9 : ((cur2[cur2.size - 1].toNat : Int) == 9) = true := by simp [h9]
              have hbl : blB cur2[cur2.size - 1] = true := by unfold blB; simp; omega
              have hd2 : Hid (R = ⟨((cur2.extract 0 (cur2.size - 1)).data.toList.reverse.dropWhile blB).reverse.toArray⟩) := by
                unfold Hid
                rw [hd3.out, last_snoc cur2 h1, rdrop_snoc, if_pos hbl, init_extract]
              have hz : (cur2.extract 0 (cur2.size - 1)).size = cur2.size - 1 := by simp
              have hw9 : wrap64 ((cur2.size : Int) - 1) = ((cur2.size - 1 : Nat) : Int) := (wrap64_id (by omega) (by omega)).trans (by omega)
              have hi1 : ((cur2.size - 1 : Nat) : Int) ≤ (cur2.size : Int) := by omega
              have hi2 : (0 : Int) ≤ ((cur2.size - 1 : Nat) : Int) := by omega
              clear hd3 hbl
              go_wp2_with fail
              all_goals go_roundg (cur2.size - 1)
              all_goals first
                | omega
                | exact ⟨cur2.extract 0 (cur2.size - 1), rfl, by omega, hz.symm, hd2, rfl⟩
            · have hb9 : ((cur2[cur2.size - 1].toNat : Int) == 9) = false := by simp [h9]
              have hbl : blB cur2[cur2.size - 1] = false := by unfold blB; simp; omega
              have hfin : Hid (cur2 = R) := by
                unfold Hid
                rw [hd3.out, last_snoc cur2 h1, rdrop_snoc, if_neg (by rw [hbl]; decide), ← last_snoc cur2 h1]
              clear hd3 hbl
              go_wp2_with fail
              all_goals go_ret
              all_goals exact ⟨by rw [← hfin.out]; rfl, rfl⟩
        · have hz : cur2.size = 0 := by omega
          have hp2 : ¬ (0 : Int) < (cur2.size : Int) := by omega
          have hfin : Hid (cur2 = R) := by
            unfold Hid
            have e : cur2.data.toList = [] := List.length_eq_zero_iff.mp (by have : cur2.data.toList.length = cur2.size := Array.length_toList; omega)
            rw [hd3.out, e]
            exact ByteArray.ext (Array.toList_inj.1 (by rw [e]; rfl))
          clear hd3 hz h1
          go_wp2_with fail
          all_goals go_ret
          all_goals exact ⟨by rw [← hfin.out]; rfl, rfl⟩
end Go.Proofs.YtdfgnoflohfnmaaGreatDoor.Hx
