/- Policies, the document's reader: the next token: the walk, on. -/
import Derived.Test.YtnnhkajjifmlfaaDoorDc
namespace Go.Proofs.YtnnhkajjifmlfaaDoor.Pl
open Go.RowKit Go.Maps
theorem TB.drewT {w : World} {B : Nat} {k a : Int} {x : ByteArray} (h : TB w B k x a) : TB w.drew B k x a := h
set_option maxRecDepth 100000 in
set_option maxHeartbeats 6400000 in
theorem rnext_word (s : ByteArray) (p : Nat) (w : World) (hp : p ≤ s.size) (hs : s.size ≤ 2000000) (hi : bsk s p < s.size) (hc : letB (chr s (bsk s p)) = true ∧ isDig (chr s (bsk s p)) = false) :
    Calls Tryd.prog 112 #[.string s, .int .i64 p] w (TK s p w) := by
  have hi2 := hi
  have hg0 := gb_alloc (gb_refl w none) (.cells #[.int .i64 0, .string ⟨#[]⟩, .int .i64 0] 99)
  have hB0 := TB.new w 0 ⟨#[]⟩ 0
  go_enter Tryd.func112, Tryd.ntmps112
  go_wp2_with fail
  generalize w.alloc (.cells #[.int .i64 0, .string ⟨#[]⟩, .int .i64 0] 99) = W at *
  obtain ⟨B, hE, hBl⟩ : ∃ B, B = w.heap.size ∧ Hid (w.heap.size ≤ B) := ⟨_, rfl, Nat.le_refl _⟩
  rw [← hE] at hB0 ⊢
  clear hE
  go_loopg [1] (s.size - p) (fun z u1 wr => ∃ q : Nat, q ≤ s.size ∧ z = s.size - q ∧ u1 = .int .i64 q ∧ Hid (bsk s q = bsk s p) ∧ wr = W)
  case atStart => exact ⟨p, hp, rfl, rfl, rfl, rfl⟩
  case round =>
    obtain ⟨q, hq, rfl, rfl, hsk, rfl⟩ := hrel
    have c0 := hB0.c0
    have c1 := hB0.c1
    have c2 := hB0.c2
    have f0 := hB0.f 0
    have f1 := hB0.f 1
    have f2 := hB0.f 2
    by_cases hlt : q < s.size
    · have hltI : (q : Int) < (s.size : Int) := by omega
      by_cases hb : chr s q = 32
      · have Hst := Lib.hid (bsk_step hb)
        rw [chr_in hlt] at hb
        have hbb : ((s[q].toNat : Int) == 32) = true := by simp; omega
        have hq1 := Lib.hid (show wrap64 ((q : Int) + 1) = ((q + 1 : Nat) : Int) from (wrap64_id (by omega) (by omega)).trans (by omega))
        clear hb
        go_wp2_with fail
        go_roundg (s.size - (q + 1))
        case measure => omega
        case rel => exact ⟨q + 1, hlt, rfl, by first | rw [hq1.out] | go_num, Lib.hid (Hst.out.symm.trans hsk.out), rfl⟩
      · have Hq : bsk s p = q := hsk.out.symm.trans (bsk_stop hb)
        rw [Hq] at hc
        have Hi := Lib.hid Hq
        clear hsk hi2 hi
        have hcq := chr_in hlt
        have hbb : ((s[q].toNat : Int) == 32) = false := by rw [← hcq]; simp; omega
        have hqe : ((q : Int) == (s.size : Int)) = false := by simp; omega
        clear Hq hb
        have hle := fun W => Lib.hid (letter_any (chr s q) W)
        have hdi := fun W => Lib.hid (digit_any (chr s q) W)
        have hw1 : inW (chr s q) = true := by rw [inW_or, hc.1]; rfl
        rw [hc.1] at hle
        rw [hc.2] at hdi
        have hL : Hid (lexR s q = (1, s.extract q (wsk s q), wsk s q, wordB (s.extract q (wsk s q)))) := by
          unfold Hid lexR
          rw [if_neg (by omega), if_pos hw1, if_neg (by rw [hc.2]; decide)]
        rw [hcq] at hle hdi
        clear hc hcq hw1
        go_wp2_with (first
          | (go_at_call 140; refine ((hle _).out).mono ?_; rintro e w1 ⟨rfl, rfl⟩)
          | (go_at_call 141; refine ((hdi _).out).mono ?_; rintro e w1 ⟨rfl, rfl⟩))
        go_loopg [7] (s.size - q) (fun z u7 W2 => ∃ t : Nat, q ≤ t ∧ t ≤ s.size ∧ z = s.size - t ∧ u7 = .int .i64 t ∧ Hid (wsk s t = wsk s q) ∧ W2 = w1)
        case atStart => exact ⟨q, Nat.le_refl _, hq, rfl, rfl, rfl, rfl⟩
        case round =>
          obtain ⟨t, ht0, ht, rfl, rfl, hrk, rfl⟩ := hrel
          have ht1 := Lib.hid (show wrap64 ((t : Int) + 1) = ((t + 1 : Nat) : Int) from (wrap64_id (by omega) (by omega)).trans (by omega))
          by_cases hin : t < s.size ∧ inW (chr s t) = true
          · obtain ⟨hlt2, hin⟩ := hin
            have hltI2 : (t : Int) < (s.size : Int) := by omega
            have hr := Lib.hid ((wsk_step hin).symm.trans hrk.out)
            rw [inW_or] at hin
            have hle3 := fun W => Lib.hid (letter_any (chr s t) W)
            have hdi3 := fun W => Lib.hid (digit_any (chr s t) W)
            rw [chr_in hlt2] at hin hle3 hdi3
            cases hlb : letB s[t].toNat with
            | true =>
              rw [hlb] at hle3
              clear hin hdi3 hrk hL hlb
              go_wp2_with (first
                | (go_at_call 140; refine ((hle3 _).out).mono ?_; rintro e w1 ⟨rfl, rfl⟩))
              go_roundg (s.size - (t + 1))
              case measure => omega
              case rel => exact ⟨t + 1, by omega, hlt2, rfl, by first | rw [ht1.out] | go_num, hr, rfl⟩
            | false =>
              rw [hlb, Bool.false_or] at hin
              rw [hlb] at hle3
              rw [hin] at hdi3
              clear hin hrk hL hlb
              go_wp2_with (first
                | (go_at_call 140; refine ((hle3 _).out).mono ?_; rintro e w1 ⟨rfl, rfl⟩)
                | (go_at_call 141; refine ((hdi3 _).out).mono ?_; rintro e w1 ⟨rfl, rfl⟩))
              go_roundg (s.size - (t + 1))
              case measure => omega
              case rel => exact ⟨t + 1, by omega, hlt2, rfl, by first | rw [ht1.out] | go_num, hr, rfl⟩
          · have hr : wsk s q = t := hrk.out.symm.trans (wsk_stop (by
              by_cases h : t < s.size
              · rw [Bool.eq_false_iff]; exact fun h2 => hin ⟨h, h2⟩
              · rw [chr_out (by omega)]; decide))
            have hL2 : Hid (lexR s q = (1, s.extract q t, t, wordB (s.extract q t))) := by unfold Hid; rw [hL.out, hr]
            clear hrk hL hr
            obtain ⟨x, hx⟩ : ∃ x : ByteArray, Hid (s.extract q t = x) := ⟨_, rfl⟩
            have hwd := fun W => Lib.hid (word_any x W)
            have hN := TB.new wr 1 x q
            have hgn := gb_alloc (gb_refl wr none) (.cells #[.int .i64 1, .string x, .int .i64 q] 99)
            have hBo := hB0.kept hgn (by simp)
            have hgo := gb_trans hg0 hgn
            have hne : Hid (B < wr.heap.size) := hB0.lt
            have hst := fun W => Lib.hid (hdi W).out
            by_cases hlt2 : t < s.size
            · have hltI2 : (t : Int) < (s.size : Int) := by omega
              have hni : inW (chr s t) = false := by rw [Bool.eq_false_iff]; exact fun h2 => hin ⟨hlt2, h2⟩
              rw [inW_or, Bool.or_eq_false_iff] at hni
              have hle3 := fun W => Lib.hid (letter_any (chr s t) W)
              have hdi3 := fun W => Lib.hid (digit_any (chr s t) W)
              rw [hni.1] at hle3
              rw [hni.2] at hdi3
              rw [chr_in hlt2] at hle3 hdi3
              clear hin hni
              go_wp2_with (first
                | (go_at_call 140; refine ((hle3 _).out).mono ?_; rintro e w1 ⟨rfl, rfl⟩; have hmk := hlt2)
                | (go_at_call 141; clear hmk; refine ((hdi3 _).out).mono ?_; rintro e w1 ⟨rfl, rfl⟩; clear hdi3))
              rw [hx.out]
              refine name_calls (p := fun W => TB W B 0 ⟨#[]⟩ 0 ∧ TB W w1.heap.size 1 x q ∧ w.grownBy W none) ⟨hBo, hN, hgo⟩ ?_
              rintro W ⟨hb, hn, hgw⟩
              clear hBo hN hgo hgn hB0 c0 c1 c2 f0 f1 f2 hg0
              generalize w1.heap.size = B2 at *
              have b0 := hb.c0
              have b1 := hb.c1
              have b2 := hb.c2
              have f0 := hb.f 0
              have f1 := hb.f 1
              have f2 := hb.f 2
              have n0 := hn.c0
              have n1 := hn.c1
              have n2 := hn.c2
              refine ((hdi W).out).mono ?_
              rintro e w3 ⟨rfl, hw3⟩
              subst hw3
              go_wp2_with fail
              go_region_law (first
                | (go_simp; go_at_call 142; refine ((hwd _).out).mono ?_; rintro e w4 ⟨rfl, hg4⟩; have hb4 := (hb.drewT).kept hg4 (by simp); have hn4 := (hn.drewT).kept hg4 (by simp); have e0 := hb4.c0; have e1 := hb4.c1; have e2 := hb4.c2; have g0 := hb4.f 0; have g1 := hb4.f 1; have g2 := hb4.f 2; have d0 := hn4.c0; have d1 := hn4.c1; have d2 := hn4.c2; have hgt := gb_trans (gb_drew hgw) hg4))
              all_goals go_wp2_with fail
              all_goals refine bodyPost_ret (v := .tuple #[.agg #[.int .i64 1, .string x, .int .i64 q], .int .i64 t, .bool (wordB x)]) (by simp [results, Tryd.results112, go_sem, e0, e1, e2]) rfl ?_
              all_goals exact ⟨by rw [Hi.out, hL2.out, hx.out], gb_setN (gb_setN (gb_setN hgt hBl.out _ _) hBl.out _ _) hBl.out _ _⟩
            · obtain rfl : t = s.size := by omega
              have hltd : decide ((s.size : Int) < (s.size : Int)) = false := by simp
              clear hin hlt2
              go_wp2_with fail
              rw [hx.out]
              refine name_calls (p := fun W => TB W B 0 ⟨#[]⟩ 0 ∧ TB W wr.heap.size 1 x q ∧ w.grownBy W none) ⟨hBo, hN, hgo⟩ ?_
              rintro W ⟨hb, hn, hgw⟩
              clear hBo hN hgo hgn hB0 c0 c1 c2 f0 f1 f2 hg0
              generalize wr.heap.size = B2 at *
              have b0 := hb.c0
              have b1 := hb.c1
              have b2 := hb.c2
              have f0 := hb.f 0
              have f1 := hb.f 1
              have f2 := hb.f 2
              have n0 := hn.c0
              have n1 := hn.c1
              have n2 := hn.c2
              refine ((hdi W).out).mono ?_
              rintro e w3 ⟨rfl, hw3⟩
              subst hw3
              go_wp2_with fail
              go_region_law (first
                | (go_simp; go_at_call 142; refine ((hwd _).out).mono ?_; rintro e w4 ⟨rfl, hg4⟩; have hb4 := (hb.drewT).kept hg4 (by simp); have hn4 := (hn.drewT).kept hg4 (by simp); have e0 := hb4.c0; have e1 := hb4.c1; have e2 := hb4.c2; have g0 := hb4.f 0; have g1 := hb4.f 1; have g2 := hb4.f 2; have d0 := hn4.c0; have d1 := hn4.c1; have d2 := hn4.c2; have hgt := gb_trans (gb_drew hgw) hg4))
              all_goals go_wp2_with fail
              all_goals refine bodyPost_ret (v := .tuple #[.agg #[.int .i64 1, .string x, .int .i64 q], .int .i64 s.size, .bool (wordB x)]) (by simp [results, Tryd.results112, go_sem, e0, e1, e2]) rfl ?_
              all_goals exact ⟨by rw [Hi.out, hL2.out, hx.out], gb_setN (gb_setN (gb_setN hgt hBl.out _ _) hBl.out _ _) hBl.out _ _⟩
    · exfalso
      obtain rfl : q = s.size := by omega
      have h1 := hsk.out
      rw [bsk_stop (by rw [chr_out (Nat.le_refl _)]; decide)] at h1
      omega
end Go.Proofs.YtnnhkajjifmlfaaDoor.Pl
