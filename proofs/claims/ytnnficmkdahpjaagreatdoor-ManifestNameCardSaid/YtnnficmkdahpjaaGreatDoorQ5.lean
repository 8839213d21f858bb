/- What is a segment's name: the program's walk. -/
import Derived.Test.YtnnficmkdahpjaaGreatDoorQ4
namespace Go.Proofs.YtnnficmkdahpjaaGreatDoor
open Go.RowKit Go.Sort Go.Lib

set_option maxRecDepth 100000 in
theorem refParse_any (s : ByteArray) (w : World) :
    Calls Tryz.prog 8 #[.string s] w fun e w' => e = .returned (.tuple #[.int .u64 (segP s.data.toList).1, .bool (segP s.data.toList).2]) ∧ w' = w := by
  have hF := Lib.hid (number_any s w)
  generalize (segP s.data.toList).1 = x at *
  generalize (segP s.data.toList).2 = b at *
  go_enter Tryz.func8, Tryz.ntmps8
  go_wp2_with (go_at_call 25; refine hF.out.mono ?_; rintro e w1 ⟨rfl, rfl⟩)
  go_ret2
  exact ⟨rfl, rfl⟩

def digs : List UInt8 := [48, 49, 50, 51, 52, 53, 54, 55, 56, 57]
theorem digs_fin : ∀ i : Fin 256, digs.contains (UInt8.ofNat i.val) = isDg (UInt8.ofNat i.val) := by decide +kernel
theorem digs_all (c : UInt8) : digs.contains c = isDg c := by
  have h := digs_fin ⟨c.toNat, UInt8.toNat_lt c⟩
  simpa using h
theorem dropW_nil {p : UInt8 → Bool} : ∀ {l : List UInt8}, l.dropWhile p = [] ↔ l.all p = true
  | [] => by simp
  | c :: r => by
    rw [List.dropWhile_cons, List.all_cons]
    cases h : p c
    · simp
    · simp only [if_true, Bool.true_and]
      exact dropW_nil
theorem dropW_head {p : UInt8 → Bool} : ∀ {l : List UInt8} {c r}, l.dropWhile p = c :: r → p c = false
  | [], _, _, h => by simp at h
  | a :: l, c, r, h => by
    rw [List.dropWhile_cons] at h
    cases ha : p a
    · rw [ha] at h
      simp only [Bool.false_eq_true, if_false, List.cons.injEq] at h
      rw [← h.1]; exact ha
    · rw [ha] at h
      simp only [if_true] at h
      exact dropW_head h
theorem trim_nil (l : List UInt8) : trimS l digs = [] ↔ l.all isDg = true := by
  have hf : (fun c => digs.contains c) = isDg := funext digs_all
  unfold trimS trimLeftS trimRightS
  rw [dropW_nil, hf]
  constructor
  · intro h
    cases hd : l.reverse.dropWhile isDg with
    | nil =>
      have := dropW_nil.1 hd
      rw [List.all_reverse] at this
      exact this
    | cons c r =>
      exfalso
      have hc := dropW_head hd
      rw [hd] at h
      rw [List.all_reverse, List.all_cons, hc] at h
      simp at h
  · intro h
    have : l.reverse.dropWhile isDg = [] := dropW_nil.2 (by rw [List.all_reverse]; exact h)
    rw [this]; rfl
theorem parse_val : ∀ (l : List UInt8) (acc k : Nat), l.all isDg = true → acc < 10 ^ k → k + l.length ≤ 18 → parseUintM 18446744073709551615 acc l = .ok (valD l acc)
  | [], acc, k, _, _, _ => rfl
  | c :: r, acc, k, h, ha, hk => by
    rw [List.all_cons, Bool.and_eq_true] at h
    have hc : 48 ≤ c.toNat ∧ c.toNat ≤ 57 := of_decide_eq_true h.1
    simp only [List.length_cons] at hk
    have h17 : (10 : Nat) ^ k ≤ 10 ^ 17 := Nat.pow_le_pow_right (by decide) (by omega)
    have e : (10 : Nat) ^ 17 = 100000000000000000 := by decide
    unfold parseUintM
    rw [if_pos hc, if_neg (by omega), if_neg (by omega)]
    exact parse_val r _ (k + 1) h.2 (by rw [Nat.pow_succ]; omega) (by omega)

theorem pre_eq (l : List UInt8) : hasPrefix l [109, 97, 110, 105, 102, 101, 115, 116, 45] = decide (l.take 9 = [109, 97, 110, 105, 102, 101, 115, 116, 45]) := by
  unfold hasPrefix
  rw [Bool.eq_iff_iff, List.isPrefixOf_iff_prefix, List.prefix_iff_eq_take, decide_eq_true_eq]
  exact ⟨fun h => h.symm, fun h => h.symm⟩

theorem gb_or {w w' : World} {d : ByteArray} (h : w' = w ∨ w' = Lib.bytesWorld w 5 d) : w.grownBy w' none := by
  rcases h with rfl | rfl
  · exact gb_refl _ _
  · exact ⟨rfl, rfl, rfl, by rw [bytesWorld_size]; omega, fun i hi _ => bytesWorld_at_old _ 5 d i hi⟩
set_option maxRecDepth 100000 in
set_option maxHeartbeats 1600000 in
theorem parse_any (s : ByteArray) (hs : s.size ≤ 300) (w : World) :
    Calls Tryz.prog 7 #[.string s] w fun e w' => e = .returned (.tuple #[.int .u64 (segP s.data.toList).1, .bool (segP s.data.toList).2]) ∧ w.grownBy w' none := by
  have hl : s.data.toList.length = s.size := rfl
  have hC := fun W => Lib.hid (Tryz.strings_CutPrefix s ⟨#[109, 97, 110, 105, 102, 101, 115, 116, 45]⟩ W)
  by_cases hp : s.data.toList.take 9 = [109, 97, 110, 105, 102, 101, 115, 116, 45]
  · have hpb : hasPrefix s.data.toList [109, 97, 110, 105, 102, 101, 115, 116, 45] = true := by rw [pre_eq]; exact decide_eq_true hp
    obtain ⟨d, hd⟩ : ∃ d : ByteArray, (⟨(s.data.toList.drop 9).toArray⟩ : ByteArray) = d := ⟨_, rfl⟩
    have hdl : d.data.toList = s.data.toList.drop 9 := by rw [← hd]
    have hds : d.size = s.size - 9 := by
      rw [← hd, ← hl]
      show (s.data.toList.drop 9).toArray.size = _
      rw [List.size_toArray, List.length_drop]
    have hC2 : ∀ W, Hid (Calls Tryz.prog 22 #[.string s, .string ⟨#[109, 97, 110, 105, 102, 101, 115, 116, 45]⟩] W fun e w' => e = .returned (.tuple #[.string d, .bool true]) ∧ w' = W) := fun W => by
      have h := (hC W).out
      have e1 : (⟨(Lib.trimPrefix s.data.toList [109, 97, 110, 105, 102, 101, 115, 116, 45]).toArray⟩ : ByteArray) = d := by rw [← hd]; unfold Lib.trimPrefix; rw [if_pos hpb]; rfl
      simp only [e1, hpb] at h
      exact h
    have hT := fun W => Tryz.strings_Trim_laid d ⟨#[48, 49, 50, 51, 52, 53, 54, 55, 56, 57]⟩ W (by omega) (by decide) (ascii_of_all (by decide))
    obtain ⟨R, hR⟩ : ∃ R : ByteArray, (⟨(Lib.trimS d.data.toList [48, 49, 50, 51, 52, 53, 54, 55, 56, 57]).toArray⟩ : ByteArray) = R := ⟨_, rfl⟩
    have hT2 : ∀ W, Hid (Calls Tryz.prog 23 #[.string d, .string ⟨#[48, 49, 50, 51, 52, 53, 54, 55, 56, 57]⟩] W fun e w' => e = .returned (.string R) ∧ Below W.heap.size W w') := fun W => by
      have h := hT W
      rw [hR] at h
      exact h
    have hRl : R.toList = trimS (s.data.toList.drop 9) digs := by rw [Lib.toList_data, ← hR, hdl]; rfl
    clear hT hC hR
    by_cases h12 : s.size = 21
    · have hd12 : d.size = 12 := by omega
      by_cases ha : (s.data.toList.drop 9).all isDg = true
      · have hRn : (R.toList == []) = true := by rw [hRl, (trim_nil _).2 ha]; rfl
        have hRe : R.toList.isEmpty = true := by rw [hRl, (trim_nil _).2 ha]; rfl
        have hS : segP s.data.toList = (valD (s.data.toList.drop 9) 0, true) := by unfold segP; rw [if_pos ⟨by omega, hp, ha⟩]
        have hok : Lib.parseUintB 64 d.data.toList = .ok (valD (s.data.toList.drop 9) 0) := by
          rw [hdl]
          unfold parseUintB
          rw [if_neg (fun h => by have := congrArg List.length h; rw [List.length_drop, List.length_nil] at this; omega)]
          exact parse_val _ 0 0 ha (by decide) (by rw [List.length_drop]; omega)
        have hP := fun W => Lib.hid (show Calls Tryz.prog 24 #[.string d, .int .i64 10, .int .i64 64] W (fun e w' => e = .returned (.tuple #[.int .u64 (valD (s.data.toList.drop 9) 0 : Nat), .nilIface]) ∧ W.grownBy w' none) from (Tryz.strconv_ParseUint_10_at64_ok d (by omega) _ hok W).mono (fun e w' h => ⟨h.1, gb_or h.2⟩))
        rw [hS]
        generalize valD (s.data.toList.drop 9) 0 = v at *
        have HC2 := Lib.hid hC2
        have HT2 := Lib.hid hT2
        have HP := Lib.hid hP
        clear hp hl hpb hd hdl hds hC2 hT2 hP hRl hok ha hS
        go_enter Tryz.func7, Tryz.ntmps7
        go_wp2_with (first
          | (go_at_call 24; refine (HP.out _).out.mono ?_; rintro e w3 ⟨rfl, hg3⟩)
          | (go_at_call 23; refine (HT2.out _).out.mono ?_; rintro e w2 ⟨rfl, hB2⟩)
          | (go_at_call 22; refine (HC2.out _).out.mono ?_; rintro e w1 ⟨rfl, rfl⟩))
        go_region
        go_wp2
        go_ret2
        exact ⟨rfl, gb_drew (gb_trans (gb_below hB2 none) hg3)⟩
      · have hne : R.toList ≠ [] := by rw [hRl]; exact fun h => ha ((trim_nil _).1 h)
        have hRn : (R.toList == []) = false := beq_eq_false_iff_ne.2 hne
        have hRe : R.toList.isEmpty = false := by
          cases h : R.toList with
          | nil => exact absurd h hne
          | cons _ _ => rfl
        have hS : segP s.data.toList = (0, false) := by unfold segP; rw [if_neg (fun h => ha h.2.2)]
        rw [hS]
        have HC2 := Lib.hid hC2
        have HT2 := Lib.hid hT2
        clear hp hl hpb hd hdl hds hC2 hT2 hRl ha hS hne
        go_enter Tryz.func7, Tryz.ntmps7
        go_wp2_with (first
          | (go_at_call 23; refine (HT2.out _).out.mono ?_; rintro e w2 ⟨rfl, hB2⟩)
          | (go_at_call 22; refine (HC2.out _).out.mono ?_; rintro e w1 ⟨rfl, rfl⟩))
        go_ret2
        exact ⟨rfl, gb_below hB2 none⟩
    · have hS : segP s.data.toList = (0, false) := by unfold segP; rw [if_neg (fun h => h12 (hl ▸ h.1))]
      have hd12 : ¬ (d.size : Int) = 12 := by
        have : 9 ≤ s.size := by
          rcases Nat.lt_or_ge s.size 9 with h | h
          · exfalso
            have := congrArg List.length hp
            rw [List.length_take] at this
            simp at this
            omega
          · exact h
        omega
      have hdb : ((d.size : Int) != 12) = true := by simpa using hd12
      rw [hS]
      have HC2 := Lib.hid hC2
      clear hp hl hpb hd hdl hds hC2 hT2 hRl hS
      go_enter Tryz.func7, Tryz.ntmps7
      go_wp2_with (go_at_call 22; refine (HC2.out _).out.mono ?_; rintro e w1 ⟨rfl, rfl⟩)
      go_ret2
      exact ⟨rfl, gb_refl _ _⟩
  · have hpb : hasPrefix s.data.toList [109, 97, 110, 105, 102, 101, 115, 116, 45] = false := by rw [pre_eq]; exact decide_eq_false hp
    have hC2 : ∀ W, Hid (Calls Tryz.prog 22 #[.string s, .string ⟨#[109, 97, 110, 105, 102, 101, 115, 116, 45]⟩] W fun e w' => e = .returned (.tuple #[.string s, .bool false]) ∧ w' = W) := fun W => by
      have h := (hC W).out
      have e1 : (⟨(Lib.trimPrefix s.data.toList [109, 97, 110, 105, 102, 101, 115, 116, 45]).toArray⟩ : ByteArray) = s := by unfold Lib.trimPrefix; rw [if_neg (by rw [hpb]; simp)]
      simp only [e1, hpb] at h
      exact h
    have hS : segP s.data.toList = (0, false) := by unfold segP; rw [if_neg (fun h => hp h.2.1)]
    rw [hS]
    have HC2 := Lib.hid hC2
    clear hp hl hpb hC hC2 hS
    go_enter Tryz.func7, Tryz.ntmps7
    go_wp2_with (go_at_call 22; refine (HC2.out _).out.mono ?_; rintro e w1 ⟨rfl, rfl⟩)
    go_ret2
    exact ⟨rfl, gb_refl _ _⟩
end Go.Proofs.YtnnficmkdahpjaaGreatDoor
