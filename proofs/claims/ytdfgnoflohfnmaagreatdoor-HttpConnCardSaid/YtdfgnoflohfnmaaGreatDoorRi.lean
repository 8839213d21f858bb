/- HTTP, the document's side: a header. -/
import Derived.Test.YtdfgnoflohfnmaaGreatDoorRh
namespace Go.Proofs.YtdfgnoflohfnmaaGreatDoor.Hx
open Go.RowKit Go.Maps Go.Shelf

def hdrV (s : Bs) : Value := match headR s with | some (n, v) => .tuple #[.string ⟨n.toArray⟩, .string ⟨v.toArray⟩, .bool true] | none => .tuple #[.string ⟨#[]⟩, .string ⟨#[]⟩, .bool false]
theorem nmB_iff (c : UInt8) : nmB c = true ↔ ((97 : Int) ≤ c.toNat ∧ (c.toNat : Int) ≤ 122) ∨ ((65 : Int) ≤ c.toNat ∧ (c.toNat : Int) ≤ 90) ∨ ((48 : Int) ≤ c.toNat ∧ (c.toNat : Int) ≤ 57) ∨ (c.toNat : Int) = 45 := by
  unfold nmB letB digB; simp; omega
set_option maxRecDepth 100000 in
set_option maxHeartbeats 6400000 in
theorem rheader_any (s : ByteArray) (w : World) (hs : s.size ≤ 1000000) : Calls Tryz.prog 70 #[.string s] w fun e w' => e = .returned (hdrV s.data.toList) ∧ w.grownBy w' none := by
  obtain ⟨R, hR⟩ : ∃ R : Value, R = hdrV s.data.toList := ⟨_, rfl⟩
  rw [← hR]
  unfold hdrV headR at hR
  obtain ⟨N1, hN1⟩ : ∃ N1 : ByteArray, N1 = ⟨(Lib.cut s.data.toList [58]).1.toArray⟩ := ⟨_, rfl⟩
  obtain ⟨V1, hV1⟩ : ∃ V1 : ByteArray, V1 = ⟨(Lib.cut s.data.toList [58]).2.1.toArray⟩ := ⟨_, rfl⟩
  obtain ⟨f1, hf1⟩ : ∃ f1, f1 = (Lib.cut s.data.toList [58]).2.2 := ⟨_, rfl⟩
  have hcut := fun W => Lib.hid (rcut_named s 58 N1 V1 f1 hN1 hV1 hf1 (by omega) W)
  have hNl : N1.data.toList = (Lib.cut s.data.toList [58]).1 := by rw [hN1]
  have hVl : V1.data.toList = (Lib.cut s.data.toList [58]).2.1 := by rw [hV1]
  have hNz : N1.size ≤ 1000000 := by rw [hN1]; exact Nat.le_trans (cut_size1 s 58) hs
  have hVz : V1.size ≤ 1000000 := by rw [hV1]; exact Nat.le_trans (cut_size2 s 58) hs
  have hNL : N1.data.toList.length = N1.size := Array.length_toList
  rw [← hNl, ← hVl, ← hf1, hNL] at hR
  have hN : Hid ((f1 = false ∨ N1.size < 1 ∨ 64 < N1.size ∨ s.data.toList.all lnB = false ∨ N1.data.toList.all nmB = false) → R = .tuple #[.string ⟨#[]⟩, .string ⟨#[]⟩, .bool false]) := fun h => by rw [hR, if_pos h]
  obtain ⟨L, hL⟩ : ∃ L : ByteArray, L = ⟨(Lib.toLowerA N1.data.toList).toArray⟩ := ⟨_, rfl⟩
  obtain ⟨T, hT⟩ : ∃ T : ByteArray, T = ⟨(Lib.trimS V1.data.toList [32, 9]).toArray⟩ := ⟨_, rfl⟩
  have hG : Hid (¬ (f1 = false ∨ N1.size < 1 ∨ 64 < N1.size ∨ s.data.toList.all lnB = false ∨ N1.data.toList.all nmB = false) → R = .tuple #[.string L, .string T, .bool true]) := fun h => by rw [hR, if_neg h, hL, hT]
  have hlo := fun W => Lib.hid (rlower_any N1 W (by omega))
  rw [← hL] at hlo
  have htr := fun W => Lib.hid (rtrim_any V1 W (by omega))
  rw [← hT] at htr
  have hal := fun W => Lib.hid (allowed_any s W (by omega))
  obtain ⟨al, hale⟩ : ∃ al, s.data.toList.all lnB = al := ⟨_, rfl⟩
  rw [hale] at hal
  have hNh := Lib.hid hNz
  clear hR hN1 hV1 hf1 hNl hVl hL hT hNL hs hVz
  cases f1 with
  | false =>
    have hr := Lib.hid (hN.out (.inl rfl))
    clear hN hG hNz hale
    go_enter Tryz.func70, Tryz.ntmps70
    go_wp2_with (first
      | (go_at_call 44; refine ((hcut _).out).mono ?_; rintro e w4 ⟨rfl, g4⟩))
    refine bodyPost_ret (v := .tuple #[.string ⟨#[]⟩, .string ⟨#[]⟩, .bool false]) (by simp [results, Tryz.results70, go_sem]) rfl ?_
    exact ⟨by rw [hr.out], g4⟩
  | true =>
    by_cases h1 : (N1.size : Int) < 1
    · have hr := Lib.hid (hN.out (.inr (.inl (by omega))))
      clear hN hG hNz hale
      go_enter Tryz.func70, Tryz.ntmps70
      go_wp2_with (first
        | (go_at_call 44; refine ((hcut _).out).mono ?_; rintro e w4 ⟨rfl, g4⟩))
      refine bodyPost_ret (v := .tuple #[.string ⟨#[]⟩, .string ⟨#[]⟩, .bool false]) (by simp [results, Tryz.results70, go_sem]) rfl ?_
      exact ⟨by rw [hr.out], g4⟩
    · by_cases h2 : (64 : Int) < (N1.size : Int)
      · have hr := Lib.hid (hN.out (.inr (.inr (.inl (by omega)))))
        clear hN hG hNz hale
        go_enter Tryz.func70, Tryz.ntmps70
        go_wp2_with (first
          | (go_at_call 44; refine ((hcut _).out).mono ?_; rintro e w4 ⟨rfl, g4⟩))
        refine bodyPost_ret (v := .tuple #[.string ⟨#[]⟩, .string ⟨#[]⟩, .bool false]) (by simp [results, Tryz.results70, go_sem]) rfl ?_
        exact ⟨by rw [hr.out], g4⟩
      · cases al with
        | false =>
          have hr := Lib.hid (hN.out (.inr (.inr (.inr (.inl hale)))))
          clear hN hG hNz hale
          go_enter Tryz.func70, Tryz.ntmps70
          go_wp2_with (first
            | (go_at_call 44; refine ((hcut _).out).mono ?_; rintro e w4 ⟨rfl, g4⟩)
            | (go_at_call 96; refine ((hal _).out).mono ?_; rintro e w5 ⟨rfl, hw5⟩; rw [hw5]; clear hw5))
          refine bodyPost_ret (v := .tuple #[.string ⟨#[]⟩, .string ⟨#[]⟩, .bool false]) (by simp [results, Tryz.results70, go_sem]) rfl ?_
          exact ⟨by rw [hr.out], g4⟩
        | true =>
          go_enter Tryz.func70, Tryz.ntmps70
          go_wp2_with (first
            | (go_at_call 44; refine ((hcut _).out).mono ?_; rintro e w4 ⟨rfl, g4⟩)
            | (go_at_call 96; refine ((hal _).out).mono ?_; rintro e w5 ⟨rfl, hw5⟩; rw [hw5]; clear hw5))
          clear hcut hal
          obtain ⟨wq, hwq⟩ : ∃ wq, wq = w4 := ⟨_, rfl⟩
          subst hwq
          go_loopg [8] N1.size (fun z u8 wr => ∃ k : Nat, k ≤ N1.size ∧ z = N1.size - k ∧ u8 = .int .i64 (k : Nat) ∧ Hid ((N1.data.toList.take k).all nmB = true) ∧ wr = wq)
          case atStart => exact ⟨0, Nat.zero_le _, rfl, rfl, rfl, rfl⟩
          case round =>
            obtain ⟨k, hk, rfl, rfl, hp, hwr⟩ := hrel
            subst hwr
            by_cases hlt : k < N1.size
            · have hki : (k : Int) < (N1.size : Int) := by omega
              have hq1 := Lib.hid (show wrap64 ((k : Int) + 1) = ((k + 1 : Nat) : Int) from (wrap64_id (by omega) (by omega)).trans (by omega))
              clear hlo htr hale
              by_cases a1 : (97 : Int) ≤ (N1[k].toNat : Int)
              · by_cases a2 : (N1[k].toNat : Int) ≤ 122
                · have hst2 : Hid ((N1.data.toList.take (k + 1)).all nmB = true) := by unfold Hid; rw [all_succ N1 hlt, hp.out, (nmB_iff _).2 (.inl ⟨a1, a2⟩)]; rfl
                  clear hp hN hG
                  go_wp2_with fail
                  go_roundg (N1.size - (k + 1))
                  case measure => omega
                  case rel => exact ⟨k + 1, hlt, rfl, by first | rw [hq1.out] | go_num, hst2, rfl⟩
                · have b1 : (65 : Int) ≤ (N1[k].toNat : Int) := by omega
                  have b2 : ¬ (N1[k].toNat : Int) ≤ 90 := by omega
                  have c1 : (48 : Int) ≤ (N1[k].toNat : Int) := by omega
                  have c2 : ¬ (N1[k].toNat : Int) ≤ 57 := by omega
                  have d1 : ((N1[k].toNat : Int) == 45) = false := by simp; omega
                  have hr := Lib.hid (hN.out (.inr (.inr (.inr (.inr (all_no N1 hlt (p := nmB) (by rw [Bool.eq_false_iff]; intro e; have := (nmB_iff _).1 e; omega)))))))
                  clear hp hN hG
                  go_wp2_with fail
                  refine bodyPost_ret (v := .tuple #[.string ⟨#[]⟩, .string ⟨#[]⟩, .bool false]) (by simp [results, Tryz.results70, go_sem]) rfl ?_
                  exact ⟨by rw [hr.out], g4⟩
              · by_cases b1 : (65 : Int) ≤ (N1[k].toNat : Int)
                · by_cases b2 : (N1[k].toNat : Int) ≤ 90
                  · have hst2 : Hid ((N1.data.toList.take (k + 1)).all nmB = true) := by unfold Hid; rw [all_succ N1 hlt, hp.out, (nmB_iff _).2 (.inr (.inl ⟨b1, b2⟩))]; rfl
                    clear hp hN hG
                    go_wp2_with fail
                    go_roundg (N1.size - (k + 1))
                    case measure => omega
                    case rel => exact ⟨k + 1, hlt, rfl, by first | rw [hq1.out] | go_num, hst2, rfl⟩
                  · have c1 : (48 : Int) ≤ (N1[k].toNat : Int) := by omega
                    have c2 : ¬ (N1[k].toNat : Int) ≤ 57 := by omega
                    have d1 : ((N1[k].toNat : Int) == 45) = false := by simp; omega
                    have hr := Lib.hid (hN.out (.inr (.inr (.inr (.inr (all_no N1 hlt (p := nmB) (by rw [Bool.eq_false_iff]; intro e; have := (nmB_iff _).1 e; omega)))))))
                    clear hp hN hG
                    go_wp2_with fail
                    refine bodyPost_ret (v := .tuple #[.string ⟨#[]⟩, .string ⟨#[]⟩, .bool false]) (by simp [results, Tryz.results70, go_sem]) rfl ?_
                    exact ⟨by rw [hr.out], g4⟩
                · by_cases c1 : (48 : Int) ≤ (N1[k].toNat : Int)
                  · by_cases c2 : (N1[k].toNat : Int) ≤ 57
                    · have hst2 : Hid ((N1.data.toList.take (k + 1)).all nmB = true) := by unfold Hid; rw [all_succ N1 hlt, hp.out, (nmB_iff _).2 (.inr (.inr (.inl ⟨c1, c2⟩)))]; rfl
                      clear hp hN hG
                      go_wp2_with fail
                      go_roundg (N1.size - (k + 1))
                      case measure => omega
                      case rel => exact ⟨k + 1, hlt, rfl, by first | rw [hq1.out] | go_num, hst2, rfl⟩
                    · have d1 : ((N1[k].toNat : Int) == 45) = false := by simp; omega
                      have hr := Lib.hid (hN.out (.inr (.inr (.inr (.inr (all_no N1 hlt (p := nmB) (by rw [Bool.eq_false_iff]; intro e; have := (nmB_iff _).1 e; omega)))))))
                      clear hp hN hG
                      go_wp2_with fail
                      refine bodyPost_ret (v := .tuple #[.string ⟨#[]⟩, .string ⟨#[]⟩, .bool false]) (by simp [results, Tryz.results70, go_sem]) rfl ?_
                      exact ⟨by rw [hr.out], g4⟩
                  · by_cases d1' : (N1[k].toNat : Int) = 45
                    · have d1 : ((N1[k].toNat : Int) == 45) = true := by simp [d1']
                      have hst2 : Hid ((N1.data.toList.take (k + 1)).all nmB = true) := by unfold Hid; rw [all_succ N1 hlt, hp.out, (nmB_iff _).2 (.inr (.inr (.inr d1')))]; rfl
                      clear hp hN hG
                      go_wp2_with fail
                      go_roundg (N1.size - (k + 1))
                      case measure => omega
                      case rel => exact ⟨k + 1, hlt, rfl, by first | rw [hq1.out] | go_num, hst2, rfl⟩
                    · have d1 : ((N1[k].toNat : Int) == 45) = false := by simp [d1']
                      have hr := Lib.hid (hN.out (.inr (.inr (.inr (.inr (all_no N1 hlt (p := nmB) (by rw [Bool.eq_false_iff]; intro e; have := (nmB_iff _).1 e; omega)))))))
                      clear hp hN hG
                      go_wp2_with fail
                      refine bodyPost_ret (v := .tuple #[.string ⟨#[]⟩, .string ⟨#[]⟩, .bool false]) (by simp [results, Tryz.results70, go_sem]) rfl ?_
                      exact ⟨by rw [hr.out], g4⟩
            · have hke : k = N1.size := by omega
              subst hke
              have hall := hp.out
              rw [show N1.size = N1.data.toList.length from rfl, List.take_length] at hall
              have hr := Lib.hid (hG.out (by rintro (e | e | e | e | e); cases e; omega; omega; rw [hale] at e; cases e; rw [hall] at e; cases e))
              have hni : ¬ ((N1.size : Int) < (N1.size : Int)) := by omega
              clear hp hN hG hall hale
              go_wp2_with (first
                | (go_at_call 72; refine ((hlo _).out).mono ?_; rintro e w6 ⟨rfl, g6⟩)
                | (go_at_call 97; refine ((htr _).out).mono ?_; rintro e w7 ⟨rfl, hw7⟩; rw [hw7]; clear hw7))
              refine bodyPost_ret (v := .tuple #[.string L, .string T, .bool true]) (by simp [results, Tryz.results70, go_sem]) rfl ?_
              exact ⟨by rw [hr.out], gb_trans g4 g6⟩
end Go.Proofs.YtdfgnoflohfnmaaGreatDoor.Hx
