/- Policies, the document's reader: the next token: the walk, on. -/
import Derived.Test.YtnnhkajjifmlfaaDoorDc
namespace Go.Proofs.YtnnhkajjifmlfaaDoor.Pl
open Go.RowKit Go.Maps
theorem rsk_step {s : ByteArray} {i : Nat} (h : chr s i ≠ 34 ∧ 32 ≤ chr s i ∧ chr s i ≤ 126) : rsk s i = rsk s (i + 1) := by
  have hi : i < s.size := by
    by_cases hi : i < s.size
    · exact hi
    · rw [chr_out (by omega)] at h; omega
  unfold rsk
  rw [show s.size - i = (s.size - (i + 1)) + 1 from by omega, rskF, if_pos h]
theorem rsk_stop {s : ByteArray} {i : Nat} (h : ¬ (chr s i ≠ 34 ∧ 32 ≤ chr s i ∧ chr s i ≤ 126)) : rsk s i = i := by
  unfold rsk
  cases s.size - i with
  | zero => rfl
  | succ n => rw [rskF, if_neg h]
set_option maxRecDepth 100000 in
set_option maxHeartbeats 6400000 in
theorem rnext_quote (s : ByteArray) (p : Nat) (w : World) (hp : p ≤ s.size) (hs : s.size ≤ 2000000) (hi : bsk s p < s.size) (hc : chr s (bsk s p) = 34) :
    Calls Tryd.prog 112 #[.string s, .int .i64 p] w (TK s p w) := by
  have hi2 := hi
  have hg0 := gb_alloc (gb_refl w none) (.cells #[.int .i64 0, .string ⟨#[]⟩, .int .i64 0] 99)
  have hB0 := TB.new w 0 ⟨#[]⟩ 0
  go_enter Tryd.func112, Tryd.ntmps112
  go_wp2_with fail
  generalize w.alloc (.cells #[.int .i64 0, .string ⟨#[]⟩, .int .i64 0] 99) = W at *
  obtain ⟨B, hE, hBl⟩ : ∃ B, B = w.heap.size ∧ Hid (w.heap.size ≤ B) := ⟨_, rfl, Nat.le_refl _⟩
  rw [← hE] at hB0 ⊢
  clear hE
  go_loopg [1] (s.size - p) (fun z u1 wr => ∃ q : Nat, q ≤ s.size ∧ z = s.size - q ∧ u1 = .int .i64 q ∧ Hid (bsk s q = bsk s p) ∧ wr = W)
  case atStart => exact ⟨p, hp, rfl, rfl, rfl, rfl⟩
  case round =>
    obtain ⟨q, hq, rfl, rfl, hsk, rfl⟩ := hrel
    have c0 := hB0.c0
    have c1 := hB0.c1
    have c2 := hB0.c2
    have f0 := hB0.f 0
    have f1 := hB0.f 1
    have f2 := hB0.f 2
    by_cases hlt : q < s.size
    · have hltI : (q : Int) < (s.size : Int) := by omega
      by_cases hb : chr s q = 32
      · have Hst := Lib.hid (bsk_step hb)
        rw [chr_in hlt] at hb
        have hbb : ((s[q].toNat : Int) == 32) = true := by simp; omega
        have hq1 := Lib.hid (show wrap64 ((q : Int) + 1) = ((q + 1 : Nat) : Int) from (wrap64_id (by omega) (by omega)).trans (by omega))
        clear hb
        go_wp2_with fail
        go_roundg (s.size - (q + 1))
        case measure => omega
        case rel => exact ⟨q + 1, hlt, rfl, by first | rw [hq1.out] | go_num, Lib.hid (Hst.out.symm.trans hsk.out), rfl⟩
      · have Hq : bsk s p = q := hsk.out.symm.trans (bsk_stop hb)
        rw [Hq] at hc
        have Hi := Lib.hid Hq
        clear hsk hi2 hi
        have hcq := chr_in hlt
        have hbb : ((s[q].toNat : Int) == 32) = false := by rw [← hcq]; simp; omega
        have hqe : ((q : Int) == (s.size : Int)) = false := by simp; omega
        clear Hq hb
        have hle := fun W => Lib.hid (letter_any (chr s q) W)
        have hdi := fun W => Lib.hid (digit_any (chr s q) W)
        rw [hc] at hle hdi
        have hL : Hid (lexR s q = if rsk s (q + 1) < s.size ∧ chr s (rsk s (q + 1)) = 34 then (4, s.extract (q + 1) (rsk s (q + 1)), rsk s (q + 1) + 1, true) else (0, ⟨#[]⟩, q, false)) := by
          unfold Hid lexR
          rw [if_neg (by omega), if_neg (by rw [hc]; decide), if_pos hc]
        have hle2 : letB 34 = false := by decide
        have hdi2 : isDig 34 = false := by decide
        rw [hle2] at hle
        rw [hdi2] at hdi
        have hv : (s[q].toNat : Int) = 34 := by rw [← hcq, hc]; rfl
        have h34 : ((s[q].toNat : Int) == 34) = true := by rw [hv]; rfl
        have hle3 : ∀ W, Hid (Calls Tryd.prog 140 #[.int .u8 s[q].toNat] W fun e w' => e = .returned (.bool false) ∧ w' = W) := by rw [hv]; exact hle
        have hdi3 : ∀ W, Hid (Calls Tryd.prog 141 #[.int .u8 s[q].toNat] W fun e w' => e = .returned (.bool false) ∧ w' = W) := by rw [hv]; exact hdi
        clear hc hcq hv hle hdi hle2 hdi2
        have hq1 := Lib.hid (show wrap64 ((q : Int) + 1) = ((q + 1 : Nat) : Int) from (wrap64_id (by omega) (by omega)).trans (by omega))
        go_wp2_with (first
          | (go_at_call 140; refine ((hle3 _).out).mono ?_; rintro e w1 ⟨rfl, rfl⟩)
          | (go_at_call 141; refine ((hdi3 _).out).mono ?_; rintro e w1 ⟨rfl, rfl⟩))
        go_loopg [7] (s.size - (q + 1)) (fun z u7 W2 => ∃ t : Nat, q + 1 ≤ t ∧ t ≤ s.size ∧ z = s.size - t ∧ u7 = .int .i64 t ∧ Hid (rsk s t = rsk s (q + 1)) ∧ W2 = w1)
        case atStart => exact ⟨q + 1, Nat.le_refl _, hlt, rfl, by first | rw [hq1.out] | go_num, rfl, rfl⟩
        case round =>
          obtain ⟨t, ht0, ht, rfl, rfl, hrk, rfl⟩ := hrel
          have ht1 := Lib.hid (show wrap64 ((t : Int) + 1) = ((t + 1 : Nat) : Int) from (wrap64_id (by omega) (by omega)).trans (by omega))
          by_cases hlt2 : t < s.size
          · have hltI2 : (t : Int) < (s.size : Int) := by omega
            have hte : ((t : Int) == (s.size : Int)) = false := by simp; omega
            have hct := chr_in hlt2
            by_cases h1 : chr s t = 34
            · have hr : rsk s (q + 1) = t := hrk.out.symm.trans (rsk_stop (fun h => h.1 h1))
              have hL2 : Hid (lexR s q = (4, s.extract (q + 1) t, t + 1, true)) := by unfold Hid; rw [hL.out, hr, if_pos ⟨hlt2, h1⟩]
              rw [hct] at h1
              have hb1 : ((s[t].toNat : Int) != 34) = false := by simp; omega
              clear hrk hL hr h1 hct
              go_wp2_with fail
              try rw [ht1.out]
              try rw [hq1.out]
              refine bodyPost_ret (v := .tuple #[.agg #[.int .i64 4, .string (s.extract (q + 1) t), .int .i64 q], .int .i64 (t + 1 : Nat), .bool true]) (by simp [results, Tryd.results112, go_sem, c0, c1, c2]) rfl ?_
              exact ⟨by rw [Hi.out, hL2.out], gb_setN (gb_setN (gb_setN hg0 hBl.out _ _) hBl.out _ _) hBl.out _ _⟩
            · by_cases h2 : 32 ≤ chr s t ∧ chr s t ≤ 126
              · have hr := Lib.hid ((rsk_step ⟨h1, h2.1, h2.2⟩).symm.trans hrk.out)
                rw [hct] at h1 h2
                have hb1 : ((s[t].toNat : Int) != 34) = true := by simp; omega
                have hb2 : (32 : Int) ≤ (s[t].toNat : Int) := by omega
                have hb3 : (s[t].toNat : Int) ≤ 126 := by omega
                clear hrk hL h1 h2 hct
                go_wp2_with fail
                go_roundg (s.size - (t + 1))
                case measure => omega
                case rel => exact ⟨t + 1, by omega, hlt2, rfl, by first | rw [ht1.out] | go_num, hr, rfl⟩
              · have hr : rsk s (q + 1) = t := hrk.out.symm.trans (rsk_stop (fun h => h2 h.2))
                have hL2 : Hid (lexR s q = (0, ⟨#[]⟩, q, false)) := by unfold Hid; rw [hL.out, hr, if_neg (fun h => h1 h.2)]
                rw [hct] at h1 h2
                have hb1 : ((s[t].toNat : Int) != 34) = true := by simp; omega
                clear hrk hL hr hct
                by_cases h3 : 32 ≤ s[t].toNat
                · have hb2 : (32 : Int) ≤ (s[t].toNat : Int) := by omega
                  have hb3 : ¬ (s[t].toNat : Int) ≤ 126 := by omega
                  clear h1 h2 h3
                  go_wp2_with fail
                  refine bodyPost_ret (v := .tuple #[.agg #[.int .i64 0, .string ⟨#[]⟩, .int .i64 q], .int .i64 q, .bool false]) (by simp [results, Tryd.results112, go_sem, c0, c1, c2]) rfl ?_
                  exact ⟨by rw [Hi.out, hL2.out], gb_setN (gb_setN (gb_setN hg0 hBl.out _ _) hBl.out _ _) hBl.out _ _⟩
                · have hb2 : ¬ (32 : Int) ≤ (s[t].toNat : Int) := by omega
                  clear h1 h2 h3
                  go_wp2_with fail
                  refine bodyPost_ret (v := .tuple #[.agg #[.int .i64 0, .string ⟨#[]⟩, .int .i64 q], .int .i64 q, .bool false]) (by simp [results, Tryd.results112, go_sem, c0, c1, c2]) rfl ?_
                  exact ⟨by rw [Hi.out, hL2.out], gb_setN (gb_setN (gb_setN hg0 hBl.out _ _) hBl.out _ _) hBl.out _ _⟩
          · obtain rfl : t = s.size := by omega
            have hte : ((s.size : Int) == (s.size : Int)) = true := by simp
            have hltd : decide ((s.size : Int) < (s.size : Int)) = false := by simp
            have hr : rsk s (q + 1) = s.size := hrk.out.symm.trans (rsk_stop (by rw [chr_out (Nat.le_refl _)]; omega))
            have hL2 : Hid (lexR s q = (0, ⟨#[]⟩, q, false)) := by unfold Hid; rw [hL.out, hr, if_neg (fun h => absurd h.1 (Nat.lt_irrefl _))]
            clear hrk hL hr
            go_wp2_with fail
            refine bodyPost_ret (v := .tuple #[.agg #[.int .i64 0, .string ⟨#[]⟩, .int .i64 q], .int .i64 q, .bool false]) (by simp [results, Tryd.results112, go_sem, c0, c1, c2]) rfl ?_
            exact ⟨by rw [Hi.out, hL2.out], gb_setN (gb_setN (gb_setN hg0 hBl.out _ _) hBl.out _ _) hBl.out _ _⟩
    · exfalso
      obtain rfl : q = s.size := by omega
      have h1 := hsk.out
      rw [bsk_stop (by rw [chr_out (Nat.le_refl _)]; decide)] at h1
      omega
end Go.Proofs.YtnnhkajjifmlfaaDoor.Pl
