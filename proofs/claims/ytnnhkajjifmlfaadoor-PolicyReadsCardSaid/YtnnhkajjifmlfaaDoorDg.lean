/- Policies, the document's reader: the next token: the walk, on. -/
import Derived.Test.YtnnhkajjifmlfaaDoorDf
namespace Go.Proofs.YtnnhkajjifmlfaaDoor.Pl
open Go.RowKit Go.Maps
set_option maxRecDepth 100000 in
set_option maxHeartbeats 6400000 in
theorem rnext_num (s : ByteArray) (p : Nat) (w : World) (hp : p ≤ s.size) (hs : s.size ≤ 2000000) (hi : bsk s p < s.size) (hc : letB (chr s (bsk s p)) = false ∧ isDig (chr s (bsk s p)) = true) :
    Calls Tryd.prog 112 #[.string s, .int .i64 p] w (TK s p w) := by
  have hi2 := hi
  have hg0 := gb_alloc (gb_refl w none) (.cells #[.int .i64 0, .string ⟨#[]⟩, .int .i64 0] 99)
  have hB0 := TB.new w 0 ⟨#[]⟩ 0
  go_enter Tryd.func112, Tryd.ntmps112
  go_wp2_with fail
  generalize w.alloc (.cells #[.int .i64 0, .string ⟨#[]⟩, .int .i64 0] 99) = W at *
  obtain ⟨B, hE, hBl⟩ : ∃ B, B = w.heap.size ∧ Hid (w.heap.size ≤ B) := ⟨_, rfl, Nat.le_refl _⟩
  rw [← hE] at hB0 ⊢
  clear hE
  go_loopg [1] (s.size - p) (fun z u1 wr => ∃ q : Nat, q ≤ s.size ∧ z = s.size - q ∧ u1 = .int .i64 q ∧ Hid (bsk s q = bsk s p) ∧ wr = W)
  case atStart => exact ⟨p, hp, rfl, rfl, rfl, rfl⟩
  case round =>
    obtain ⟨q, hq, rfl, rfl, hsk, rfl⟩ := hrel
    have c0 := hB0.c0
    have c1 := hB0.c1
    have c2 := hB0.c2
    have f0 := hB0.f 0
    have f1 := hB0.f 1
    have f2 := hB0.f 2
    by_cases hlt : q < s.size
    · have hltI : (q : Int) < (s.size : Int) := by omega
      by_cases hb : chr s q = 32
      · have Hst := Lib.hid (bsk_step hb)
        rw [chr_in hlt] at hb
        have hbb : ((s[q].toNat : Int) == 32) = true := by simp; omega
        have hq1 := Lib.hid (show wrap64 ((q : Int) + 1) = ((q + 1 : Nat) : Int) from (wrap64_id (by omega) (by omega)).trans (by omega))
        clear hb
        go_wp2_with fail
        go_roundg (s.size - (q + 1))
        case measure => omega
        case rel => exact ⟨q + 1, hlt, rfl, by first | rw [hq1.out] | go_num, Lib.hid (Hst.out.symm.trans hsk.out), rfl⟩
      · have Hq : bsk s p = q := hsk.out.symm.trans (bsk_stop hb)
        rw [Hq] at hc
        have Hi := Lib.hid Hq
        clear hsk hi2 hi
        have hcq := chr_in hlt
        have hbb : ((s[q].toNat : Int) == 32) = false := by rw [← hcq]; simp; omega
        have hqe : ((q : Int) == (s.size : Int)) = false := by simp; omega
        clear Hq hb
        have hle := fun W => Lib.hid (letter_any (chr s q) W)
        have hdi := fun W => Lib.hid (digit_any (chr s q) W)
        have hw1 : inW (chr s q) = true := by rw [inW_or, hc.1, hc.2]; rfl
        rw [hc.1] at hle
        rw [hc.2] at hdi
        have hL : Hid (lexR s q = (3, s.extract q (wsk s q), wsk s q, numOk (s.extract q (wsk s q)))) := by
          unfold Hid lexR
          rw [if_neg (by omega), if_pos hw1, if_pos hc.2]
        rw [hcq] at hle hdi
        have hwp := wsk_pos hw1
        clear hc hcq hw1
        go_wp2_with (first
          | (go_at_call 140; refine ((hle _).out).mono ?_; rintro e w1 ⟨rfl, rfl⟩)
          | (go_at_call 141; refine ((hdi _).out).mono ?_; rintro e w1 ⟨rfl, rfl⟩))
        go_loopg [7] (s.size - q) (fun z u7 W2 => ∃ t : Nat, q ≤ t ∧ t ≤ s.size ∧ z = s.size - t ∧ u7 = .int .i64 t ∧ Hid (wsk s t = wsk s q) ∧ W2 = w1)
        case atStart => exact ⟨q, Nat.le_refl _, hq, rfl, rfl, rfl, rfl⟩
        case round =>
          obtain ⟨t, ht0, ht, rfl, rfl, hrk, rfl⟩ := hrel
          have ht1 := Lib.hid (show wrap64 ((t : Int) + 1) = ((t + 1 : Nat) : Int) from (wrap64_id (by omega) (by omega)).trans (by omega))
          by_cases hin : t < s.size ∧ inW (chr s t) = true
          · obtain ⟨hlt2, hin⟩ := hin
            have hltI2 : (t : Int) < (s.size : Int) := by omega
            have hr := Lib.hid ((wsk_step hin).symm.trans hrk.out)
            rw [inW_or] at hin
            have hle3 := fun W => Lib.hid (letter_any (chr s t) W)
            have hdi3 := fun W => Lib.hid (digit_any (chr s t) W)
            rw [chr_in hlt2] at hin hle3 hdi3
            cases hlb : letB s[t].toNat with
            | true =>
              rw [hlb] at hle3
              clear hin hdi3 hrk hL hlb
              go_wp2_with (first
                | (go_at_call 140; refine ((hle3 _).out).mono ?_; rintro e w1 ⟨rfl, rfl⟩))
              go_roundg (s.size - (t + 1))
              case measure => omega
              case rel => exact ⟨t + 1, by omega, hlt2, rfl, by first | rw [ht1.out] | go_num, hr, rfl⟩
            | false =>
              rw [hlb, Bool.false_or] at hin
              rw [hlb] at hle3
              rw [hin] at hdi3
              clear hin hrk hL hlb
              go_wp2_with (first
                | (go_at_call 140; refine ((hle3 _).out).mono ?_; rintro e w1 ⟨rfl, rfl⟩)
                | (go_at_call 141; refine ((hdi3 _).out).mono ?_; rintro e w1 ⟨rfl, rfl⟩))
              go_roundg (s.size - (t + 1))
              case measure => omega
              case rel => exact ⟨t + 1, by omega, hlt2, rfl, by first | rw [ht1.out] | go_num, hr, rfl⟩
          · have hr : wsk s q = t := hrk.out.symm.trans (wsk_stop (by
              by_cases h : t < s.size
              · rw [Bool.eq_false_iff]; exact fun h2 => hin ⟨h, h2⟩
              · rw [chr_out (by omega)]; decide))
            have hL2 : Hid (lexR s q = (3, s.extract q t, t, numOk (s.extract q t))) := by unfold Hid; rw [hL.out, hr]
            have hx0 : 0 < (s.extract q t).size := by rw [sub_size ht]; rw [hr] at hwp; omega
            have hxz : (s.extract q t).size ≤ 2000000 := by rw [sub_size ht]; omega
            clear hrk hL hr hwp
            obtain ⟨x, hx⟩ : ∃ x : ByteArray, Hid (s.extract q t = x) := ⟨_, rfl⟩
            rw [hx.out] at hx0 hxz
            have hN := TB.new wr 1 x q
            have hgn := gb_alloc (gb_refl wr none) (.cells #[.int .i64 1, .string x, .int .i64 q] 99)
            have hBo := hB0.kept hgn (by simp)
            have hgo := gb_trans hg0 hgn
            have hne : Hid (B < wr.heap.size) := hB0.lt
            have hst := fun W => Lib.hid (hdi W).out
            by_cases hlt2 : t < s.size
            · have hltI2 : (t : Int) < (s.size : Int) := by omega
              have hni : inW (chr s t) = false := by rw [Bool.eq_false_iff]; exact fun h2 => hin ⟨hlt2, h2⟩
              rw [inW_or, Bool.or_eq_false_iff] at hni
              have hle3 := fun W => Lib.hid (letter_any (chr s t) W)
              have hdi3 := fun W => Lib.hid (digit_any (chr s t) W)
              rw [hni.1] at hle3
              rw [hni.2] at hdi3
              rw [chr_in hlt2] at hle3 hdi3
              clear hin hni
              go_wp2_with (first
                | (go_at_call 140; refine ((hle3 _).out).mono ?_; rintro e w1 ⟨rfl, rfl⟩; have hmk := hlt2)
                | (go_at_call 141; clear hmk; refine ((hdi3 _).out).mono ?_; rintro e w1 ⟨rfl, rfl⟩; clear hdi3))
              rw [hx.out]
              refine name_calls (p := fun W => TB W B 0 ⟨#[]⟩ 0 ∧ TB W w1.heap.size 1 x q ∧ w.grownBy W none) ⟨hBo, hN, hgo⟩ ?_
              rintro W ⟨hb, hn, hgw⟩
              clear hBo hN hgo hgn hB0 c0 c1 c2 f0 f1 f2 hg0
              generalize w1.heap.size = B2 at *
              have b0 := hb.c0
              have b1 := hb.c1
              have b2 := hb.c2
              have f0 := hb.f 0
              have f1 := hb.f 1
              have f2 := hb.f 2
              have n0 := hn.c0
              have n1 := hn.c1
              have n2 := hn.c2
              refine ((hdi W).out).mono ?_
              rintro e w3 ⟨rfl, hw3⟩
              subst hw3
              have m0 := hn.f 0
              have hx0I : (0 : Int) < (x.size : Int) := by omega
              have hcx := chr_in hx0
              obtain ⟨b, hb0, hF⟩ : ∃ b : Bool, Hid ((decide (x.size = 1) || !(chr x 0 == 48)) = b) ∧ ((x.size = 1 ∧ b = true) ∨ (x.size ≠ 1 ∧ chr x 0 ≠ 48 ∧ b = true) ∨ (x.size ≠ 1 ∧ chr x 0 = 48 ∧ b = false)) := by
                refine ⟨_, rfl, ?_⟩
                by_cases h1 : x.size = 1
                · left; exact ⟨h1, by rw [decide_eq_true h1]; rfl⟩
                · by_cases h2 : chr x 0 = 48
                  · right; right; exact ⟨h1, h2, by rw [decide_eq_false h1, h2]; rfl⟩
                  · right; left; exact ⟨h1, h2, by rw [beq_eq_false_iff_ne.2 h2]; simp⟩
              have hNO : Hid (numOk x = (b && digTo x x.size)) := by unfold Hid numOk; rw [hb0.out]
              rw [hcx] at hF
              clear hb0 hcx
              have hn3 := hn.set0 3
              have hb3 : TB (w3.setCell ⟨B2, 0, none⟩ (.int .i64 3)) B 0 ⟨#[]⟩ 0 := (Below.heap_setCell w3 ⟨B2, 0, none⟩ (.int .i64 3) B (by simpa using Nat.ne_of_lt hne.out)).trans hb
              have hgw3 := gb_setN hgw (Nat.le_trans hBl.out (Nat.le_of_lt hne.out)) 0 (.int .i64 3)
              rcases hF with ⟨h1, rfl⟩ | ⟨h1, h2, rfl⟩ | ⟨h1, h2, rfl⟩
              · have hsb : ((x.size : Int) == 1) = true := by simp; omega
                go_wp2_with fail
                generalize w3.setCell ⟨B2, 0, none⟩ (.int .i64 3) = W3 at *
                go_loopg [10, 11] x.size (fun z u10 u11 W2 => ∃ k : Nat, k ≤ x.size ∧ z = x.size - k ∧ u10 = .bool (true && digTo x k) ∧ u11 = .int .i64 k ∧ W2 = W3)
                case atStart => exact ⟨0, Nat.zero_le _, rfl, rfl, rfl, rfl⟩
                case round =>
                  obtain ⟨k, hk, rfl, rfl, rfl, rfl⟩ := hrel
                  have p0 := hn3.c0
                  have p1 := hn3.c1
                  have p2 := hn3.c2
                  have q0 := hb3.f 0
                  have q1 := hb3.f 1
                  have q2 := hb3.f 2
                  have r0 := hb3.c0
                  have r1 := hb3.c1
                  have r2 := hb3.c2
                  have hk1 := Lib.hid (show wrap64 ((k : Int) + 1) = ((k + 1 : Nat) : Int) from (wrap64_id (by omega) (by omega)).trans (by omega))
                  by_cases hlk : k < x.size
                  · have hkI : (k : Int) < (x.size : Int) := by omega
                    have hst : Hid (digTo x (k + 1) = (digTo x k && isDig x[k].toNat)) := by unfold Hid; rw [digTo, chr_in hlk]; rfl
                    have hdx := fun W => Lib.hid (digit_any x[k].toNat W)
                    cases hE : (true && digTo x k) with
                    | true =>
                      have hv : Hid ((true && digTo x (k + 1)) = isDig x[k].toNat) := by unfold Hid; rw [hst.out, ← Bool.and_assoc, hE, Bool.true_and]
                      clear hE hst
                      go_wp2_with (first
                        | (go_at_call 141; refine ((hdx _).out).mono ?_; rintro e w5 ⟨rfl, rfl⟩))
                      go_roundg (x.size - (k + 1))
                      case measure => omega
                      case rel => exact ⟨k + 1, hlk, rfl, by rw [hv.out], by first | rw [hk1.out] | go_num, rfl⟩
                    | false =>
                      have hv : Hid ((true && digTo x (k + 1)) = false) := by unfold Hid; rw [hst.out, ← Bool.and_assoc, hE, Bool.false_and]
                      clear hE hst hdx
                      go_wp2_with fail
                      go_roundg (x.size - (k + 1))
                      case measure => omega
                      case rel => exact ⟨k + 1, hlk, rfl, by rw [hv.out], by first | rw [hk1.out] | go_num, rfl⟩
                  · obtain rfl : k = x.size := by omega
                    have hltx : decide ((x.size : Int) < (x.size : Int)) = false := by simp
                    clear hlk
                    go_wp2_with fail
                    refine bodyPost_ret (v := .tuple #[.agg #[.int .i64 3, .string x, .int .i64 q], .int .i64 t, .bool (true && digTo x x.size)]) (by simp [results, Tryd.results112, go_sem, r0, r1, r2]) rfl ?_
                    exact ⟨by rw [Hi.out, hL2.out, hx.out, hNO.out], gb_setN (gb_setN (gb_setN hgw3 hBl.out _ _) hBl.out _ _) hBl.out _ _⟩
              · have hsb : ((x.size : Int) == 1) = false := by simp; omega
                have hfb : ((x[0].toNat : Int) != 48) = true := by simp; omega
                clear h2
                go_wp2_with fail
                generalize w3.setCell ⟨B2, 0, none⟩ (.int .i64 3) = W3 at *
                go_loopg [10, 11] x.size (fun z u10 u11 W2 => ∃ k : Nat, k ≤ x.size ∧ z = x.size - k ∧ u10 = .bool (true && digTo x k) ∧ u11 = .int .i64 k ∧ W2 = W3)
                case atStart => exact ⟨0, Nat.zero_le _, rfl, rfl, rfl, rfl⟩
                case round =>
                  obtain ⟨k, hk, rfl, rfl, rfl, rfl⟩ := hrel
                  have p0 := hn3.c0
                  have p1 := hn3.c1
                  have p2 := hn3.c2
                  have q0 := hb3.f 0
                  have q1 := hb3.f 1
                  have q2 := hb3.f 2
                  have r0 := hb3.c0
                  have r1 := hb3.c1
                  have r2 := hb3.c2
                  have hk1 := Lib.hid (show wrap64 ((k : Int) + 1) = ((k + 1 : Nat) : Int) from (wrap64_id (by omega) (by omega)).trans (by omega))
                  by_cases hlk : k < x.size
                  · have hkI : (k : Int) < (x.size : Int) := by omega
                    have hst : Hid (digTo x (k + 1) = (digTo x k && isDig x[k].toNat)) := by unfold Hid; rw [digTo, chr_in hlk]; rfl
                    have hdx := fun W => Lib.hid (digit_any x[k].toNat W)
                    cases hE : (true && digTo x k) with
                    | true =>
                      have hv : Hid ((true && digTo x (k + 1)) = isDig x[k].toNat) := by unfold Hid; rw [hst.out, ← Bool.and_assoc, hE, Bool.true_and]
                      clear hE hst
                      go_wp2_with (first
                        | (go_at_call 141; refine ((hdx _).out).mono ?_; rintro e w5 ⟨rfl, rfl⟩))
                      go_roundg (x.size - (k + 1))
                      case measure => omega
                      case rel => exact ⟨k + 1, hlk, rfl, by rw [hv.out], by first | rw [hk1.out] | go_num, rfl⟩
                    | false =>
                      have hv : Hid ((true && digTo x (k + 1)) = false) := by unfold Hid; rw [hst.out, ← Bool.and_assoc, hE, Bool.false_and]
                      clear hE hst hdx
                      go_wp2_with fail
                      go_roundg (x.size - (k + 1))
                      case measure => omega
                      case rel => exact ⟨k + 1, hlk, rfl, by rw [hv.out], by first | rw [hk1.out] | go_num, rfl⟩
                  · obtain rfl : k = x.size := by omega
                    have hltx : decide ((x.size : Int) < (x.size : Int)) = false := by simp
                    clear hlk
                    go_wp2_with fail
                    refine bodyPost_ret (v := .tuple #[.agg #[.int .i64 3, .string x, .int .i64 q], .int .i64 t, .bool (true && digTo x x.size)]) (by simp [results, Tryd.results112, go_sem, r0, r1, r2]) rfl ?_
                    exact ⟨by rw [Hi.out, hL2.out, hx.out, hNO.out], gb_setN (gb_setN (gb_setN hgw3 hBl.out _ _) hBl.out _ _) hBl.out _ _⟩
              · have hsb : ((x.size : Int) == 1) = false := by simp; omega
                have hfb : ((x[0].toNat : Int) != 48) = false := by simp; omega
                clear h2
                go_wp2_with fail
                generalize w3.setCell ⟨B2, 0, none⟩ (.int .i64 3) = W3 at *
                go_loopg [10, 11] x.size (fun z u10 u11 W2 => ∃ k : Nat, k ≤ x.size ∧ z = x.size - k ∧ u10 = .bool (false && digTo x k) ∧ u11 = .int .i64 k ∧ W2 = W3)
                case atStart => exact ⟨0, Nat.zero_le _, rfl, rfl, rfl, rfl⟩
                case round =>
                  obtain ⟨k, hk, rfl, rfl, rfl, rfl⟩ := hrel
                  have p0 := hn3.c0
                  have p1 := hn3.c1
                  have p2 := hn3.c2
                  have q0 := hb3.f 0
                  have q1 := hb3.f 1
                  have q2 := hb3.f 2
                  have r0 := hb3.c0
                  have r1 := hb3.c1
                  have r2 := hb3.c2
                  have hk1 := Lib.hid (show wrap64 ((k : Int) + 1) = ((k + 1 : Nat) : Int) from (wrap64_id (by omega) (by omega)).trans (by omega))
                  by_cases hlk : k < x.size
                  · have hkI : (k : Int) < (x.size : Int) := by omega
                    have hst : Hid (digTo x (k + 1) = (digTo x k && isDig x[k].toNat)) := by unfold Hid; rw [digTo, chr_in hlk]; rfl
                    have hdx := fun W => Lib.hid (digit_any x[k].toNat W)
                    cases hE : (false && digTo x k) with
                    | true =>
                      have hv : Hid ((false && digTo x (k + 1)) = isDig x[k].toNat) := by unfold Hid; rw [hst.out, ← Bool.and_assoc, hE, Bool.true_and]
                      clear hE hst
                      go_wp2_with (first
                        | (go_at_call 141; refine ((hdx _).out).mono ?_; rintro e w5 ⟨rfl, rfl⟩))
                      go_roundg (x.size - (k + 1))
                      case measure => omega
                      case rel => exact ⟨k + 1, hlk, rfl, by rw [hv.out], by first | rw [hk1.out] | go_num, rfl⟩
                    | false =>
                      have hv : Hid ((false && digTo x (k + 1)) = false) := by unfold Hid; rw [hst.out, ← Bool.and_assoc, hE, Bool.false_and]
                      clear hE hst hdx
                      go_wp2_with fail
                      go_roundg (x.size - (k + 1))
                      case measure => omega
                      case rel => exact ⟨k + 1, hlk, rfl, by rw [hv.out], by first | rw [hk1.out] | go_num, rfl⟩
                  · obtain rfl : k = x.size := by omega
                    have hltx : decide ((x.size : Int) < (x.size : Int)) = false := by simp
                    clear hlk
                    go_wp2_with fail
                    refine bodyPost_ret (v := .tuple #[.agg #[.int .i64 3, .string x, .int .i64 q], .int .i64 t, .bool (false && digTo x x.size)]) (by simp [results, Tryd.results112, go_sem, r0, r1, r2]) rfl ?_
                    exact ⟨by rw [Hi.out, hL2.out, hx.out, hNO.out], gb_setN (gb_setN (gb_setN hgw3 hBl.out _ _) hBl.out _ _) hBl.out _ _⟩
            · obtain rfl : t = s.size := by omega
              have hltd : decide ((s.size : Int) < (s.size : Int)) = false := by simp
              clear hin hlt2
              go_wp2_with fail
              rw [hx.out]
              refine name_calls (p := fun W => TB W B 0 ⟨#[]⟩ 0 ∧ TB W wr.heap.size 1 x q ∧ w.grownBy W none) ⟨hBo, hN, hgo⟩ ?_
              rintro W ⟨hb, hn, hgw⟩
              clear hBo hN hgo hgn hB0 c0 c1 c2 f0 f1 f2 hg0
              generalize wr.heap.size = B2 at *
              have b0 := hb.c0
              have b1 := hb.c1
              have b2 := hb.c2
              have f0 := hb.f 0
              have f1 := hb.f 1
              have f2 := hb.f 2
              have n0 := hn.c0
              have n1 := hn.c1
              have n2 := hn.c2
              refine ((hdi W).out).mono ?_
              rintro e w3 ⟨rfl, hw3⟩
              subst hw3
              have m0 := hn.f 0
              have hx0I : (0 : Int) < (x.size : Int) := by omega
              have hcx := chr_in hx0
              obtain ⟨b, hb0, hF⟩ : ∃ b : Bool, Hid ((decide (x.size = 1) || !(chr x 0 == 48)) = b) ∧ ((x.size = 1 ∧ b = true) ∨ (x.size ≠ 1 ∧ chr x 0 ≠ 48 ∧ b = true) ∨ (x.size ≠ 1 ∧ chr x 0 = 48 ∧ b = false)) := by
                refine ⟨_, rfl, ?_⟩
                by_cases h1 : x.size = 1
                · left; exact ⟨h1, by rw [decide_eq_true h1]; rfl⟩
                · by_cases h2 : chr x 0 = 48
                  · right; right; exact ⟨h1, h2, by rw [decide_eq_false h1, h2]; rfl⟩
                  · right; left; exact ⟨h1, h2, by rw [beq_eq_false_iff_ne.2 h2]; simp⟩
              have hNO : Hid (numOk x = (b && digTo x x.size)) := by unfold Hid numOk; rw [hb0.out]
              rw [hcx] at hF
              clear hb0 hcx
              have hn3 := hn.set0 3
              have hb3 : TB (w3.setCell ⟨B2, 0, none⟩ (.int .i64 3)) B 0 ⟨#[]⟩ 0 := (Below.heap_setCell w3 ⟨B2, 0, none⟩ (.int .i64 3) B (by simpa using Nat.ne_of_lt hne.out)).trans hb
              have hgw3 := gb_setN hgw (Nat.le_trans hBl.out (Nat.le_of_lt hne.out)) 0 (.int .i64 3)
              rcases hF with ⟨h1, rfl⟩ | ⟨h1, h2, rfl⟩ | ⟨h1, h2, rfl⟩
              · have hsb : ((x.size : Int) == 1) = true := by simp; omega
                go_wp2_with fail
                generalize w3.setCell ⟨B2, 0, none⟩ (.int .i64 3) = W3 at *
                go_loopg [10, 11] x.size (fun z u10 u11 W2 => ∃ k : Nat, k ≤ x.size ∧ z = x.size - k ∧ u10 = .bool (true && digTo x k) ∧ u11 = .int .i64 k ∧ W2 = W3)
                case atStart => exact ⟨0, Nat.zero_le _, rfl, rfl, rfl, rfl⟩
                case round =>
                  obtain ⟨k, hk, rfl, rfl, rfl, rfl⟩ := hrel
                  have p0 := hn3.c0
                  have p1 := hn3.c1
                  have p2 := hn3.c2
                  have q0 := hb3.f 0
                  have q1 := hb3.f 1
                  have q2 := hb3.f 2
                  have r0 := hb3.c0
                  have r1 := hb3.c1
                  have r2 := hb3.c2
                  have hk1 := Lib.hid (show wrap64 ((k : Int) + 1) = ((k + 1 : Nat) : Int) from (wrap64_id (by omega) (by omega)).trans (by omega))
                  by_cases hlk : k < x.size
                  · have hkI : (k : Int) < (x.size : Int) := by omega
                    have hst : Hid (digTo x (k + 1) = (digTo x k && isDig x[k].toNat)) := by unfold Hid; rw [digTo, chr_in hlk]; rfl
                    have hdx := fun W => Lib.hid (digit_any x[k].toNat W)
                    cases hE : (true && digTo x k) with
                    | true =>
                      have hv : Hid ((true && digTo x (k + 1)) = isDig x[k].toNat) := by unfold Hid; rw [hst.out, ← Bool.and_assoc, hE, Bool.true_and]
                      clear hE hst
                      go_wp2_with (first
                        | (go_at_call 141; refine ((hdx _).out).mono ?_; rintro e w5 ⟨rfl, rfl⟩))
                      go_roundg (x.size - (k + 1))
                      case measure => omega
                      case rel => exact ⟨k + 1, hlk, rfl, by rw [hv.out], by first | rw [hk1.out] | go_num, rfl⟩
                    | false =>
                      have hv : Hid ((true && digTo x (k + 1)) = false) := by unfold Hid; rw [hst.out, ← Bool.and_assoc, hE, Bool.false_and]
                      clear hE hst hdx
                      go_wp2_with fail
                      go_roundg (x.size - (k + 1))
                      case measure => omega
                      case rel => exact ⟨k + 1, hlk, rfl, by rw [hv.out], by first | rw [hk1.out] | go_num, rfl⟩
                  · obtain rfl : k = x.size := by omega
                    have hltx : decide ((x.size : Int) < (x.size : Int)) = false := by simp
                    clear hlk
                    go_wp2_with fail
                    refine bodyPost_ret (v := .tuple #[.agg #[.int .i64 3, .string x, .int .i64 q], .int .i64 s.size, .bool (true && digTo x x.size)]) (by simp [results, Tryd.results112, go_sem, r0, r1, r2]) rfl ?_
                    exact ⟨by rw [Hi.out, hL2.out, hx.out, hNO.out], gb_setN (gb_setN (gb_setN hgw3 hBl.out _ _) hBl.out _ _) hBl.out _ _⟩
              · have hsb : ((x.size : Int) == 1) = false := by simp; omega
                have hfb : ((x[0].toNat : Int) != 48) = true := by simp; omega
                clear h2
                go_wp2_with fail
                generalize w3.setCell ⟨B2, 0, none⟩ (.int .i64 3) = W3 at *
                go_loopg [10, 11] x.size (fun z u10 u11 W2 => ∃ k : Nat, k ≤ x.size ∧ z = x.size - k ∧ u10 = .bool (true && digTo x k) ∧ u11 = .int .i64 k ∧ W2 = W3)
                case atStart => exact ⟨0, Nat.zero_le _, rfl, rfl, rfl, rfl⟩
                case round =>
                  obtain ⟨k, hk, rfl, rfl, rfl, rfl⟩ := hrel
                  have p0 := hn3.c0
                  have p1 := hn3.c1
                  have p2 := hn3.c2
                  have q0 := hb3.f 0
                  have q1 := hb3.f 1
                  have q2 := hb3.f 2
                  have r0 := hb3.c0
                  have r1 := hb3.c1
                  have r2 := hb3.c2
                  have hk1 := Lib.hid (show wrap64 ((k : Int) + 1) = ((k + 1 : Nat) : Int) from (wrap64_id (by omega) (by omega)).trans (by omega))
                  by_cases hlk : k < x.size
                  · have hkI : (k : Int) < (x.size : Int) := by omega
                    have hst : Hid (digTo x (k + 1) = (digTo x k && isDig x[k].toNat)) := by unfold Hid; rw [digTo, chr_in hlk]; rfl
                    have hdx := fun W => Lib.hid (digit_any x[k].toNat W)
                    cases hE : (true && digTo x k) with
                    | true =>
                      have hv : Hid ((true && digTo x (k + 1)) = isDig x[k].toNat) := by unfold Hid; rw [hst.out, ← Bool.and_assoc, hE, Bool.true_and]
                      clear hE hst
                      go_wp2_with (first
                        | (go_at_call 141; refine ((hdx _).out).mono ?_; rintro e w5 ⟨rfl, rfl⟩))
                      go_roundg (x.size - (k + 1))
                      case measure => omega
                      case rel => exact ⟨k + 1, hlk, rfl, by rw [hv.out], by first | rw [hk1.out] | go_num, rfl⟩
                    | false =>
                      have hv : Hid ((true && digTo x (k + 1)) = false) := by unfold Hid; rw [hst.out, ← Bool.and_assoc, hE, Bool.false_and]
                      clear hE hst hdx
                      go_wp2_with fail
                      go_roundg (x.size - (k + 1))
                      case measure => omega
                      case rel => exact ⟨k + 1, hlk, rfl, by rw [hv.out], by first | rw [hk1.out] | go_num, rfl⟩
                  · obtain rfl : k = x.size := by omega
                    have hltx : decide ((x.size : Int) < (x.size : Int)) = false := by simp
                    clear hlk
                    go_wp2_with fail
                    refine bodyPost_ret (v := .tuple #[.agg #[.int .i64 3, .string x, .int .i64 q], .int .i64 s.size, .bool (true && digTo x x.size)]) (by simp [results, Tryd.results112, go_sem, r0, r1, r2]) rfl ?_
                    exact ⟨by rw [Hi.out, hL2.out, hx.out, hNO.out], gb_setN (gb_setN (gb_setN hgw3 hBl.out _ _) hBl.out _ _) hBl.out _ _⟩
              · have hsb : ((x.size : Int) == 1) = false := by simp; omega
                have hfb : ((x[0].toNat : Int) != 48) = false := by simp; omega
                clear h2
                go_wp2_with fail
                generalize w3.setCell ⟨B2, 0, none⟩ (.int .i64 3) = W3 at *
                go_loopg [10, 11] x.size (fun z u10 u11 W2 => ∃ k : Nat, k ≤ x.size ∧ z = x.size - k ∧ u10 = .bool (false && digTo x k) ∧ u11 = .int .i64 k ∧ W2 = W3)
                case atStart => exact ⟨0, Nat.zero_le _, rfl, rfl, rfl, rfl⟩
                case round =>
                  obtain ⟨k, hk, rfl, rfl, rfl, rfl⟩ := hrel
                  have p0 := hn3.c0
                  have p1 := hn3.c1
                  have p2 := hn3.c2
                  have q0 := hb3.f 0
                  have q1 := hb3.f 1
                  have q2 := hb3.f 2
                  have r0 := hb3.c0
                  have r1 := hb3.c1
                  have r2 := hb3.c2
                  have hk1 := Lib.hid (show wrap64 ((k : Int) + 1) = ((k + 1 : Nat) : Int) from (wrap64_id (by omega) (by omega)).trans (by omega))
                  by_cases hlk : k < x.size
                  · have hkI : (k : Int) < (x.size : Int) := by omega
                    have hst : Hid (digTo x (k + 1) = (digTo x k && isDig x[k].toNat)) := by unfold Hid; rw [digTo, chr_in hlk]; rfl
                    have hdx := fun W => Lib.hid (digit_any x[k].toNat W)
                    cases hE : (false && digTo x k) with
                    | true =>
                      have hv : Hid ((false && digTo x (k + 1)) = isDig x[k].toNat) := by unfold Hid; rw [hst.out, ← Bool.and_assoc, hE, Bool.true_and]
                      clear hE hst
                      go_wp2_with (first
                        | (go_at_call 141; refine ((hdx _).out).mono ?_; rintro e w5 ⟨rfl, rfl⟩))
                      go_roundg (x.size - (k + 1))
                      case measure => omega
                      case rel => exact ⟨k + 1, hlk, rfl, by rw [hv.out], by first | rw [hk1.out] | go_num, rfl⟩
                    | false =>
                      have hv : Hid ((false && digTo x (k + 1)) = false) := by unfold Hid; rw [hst.out, ← Bool.and_assoc, hE, Bool.false_and]
                      clear hE hst hdx
                      go_wp2_with fail
                      go_roundg (x.size - (k + 1))
                      case measure => omega
                      case rel => exact ⟨k + 1, hlk, rfl, by rw [hv.out], by first | rw [hk1.out] | go_num, rfl⟩
                  · obtain rfl : k = x.size := by omega
                    have hltx : decide ((x.size : Int) < (x.size : Int)) = false := by simp
                    clear hlk
                    go_wp2_with fail
                    refine bodyPost_ret (v := .tuple #[.agg #[.int .i64 3, .string x, .int .i64 q], .int .i64 s.size, .bool (false && digTo x x.size)]) (by simp [results, Tryd.results112, go_sem, r0, r1, r2]) rfl ?_
                    exact ⟨by rw [Hi.out, hL2.out, hx.out, hNO.out], gb_setN (gb_setN (gb_setN hgw3 hBl.out _ _) hBl.out _ _) hBl.out _ _⟩
    · exfalso
      obtain rfl : q = s.size := by omega
      have h1 := hsk.out
      rw [bsk_stop (by rw [chr_out (Nat.le_refl _)]; decide)] at h1
      omega
end Go.Proofs.YtnnhkajjifmlfaaDoor.Pl
