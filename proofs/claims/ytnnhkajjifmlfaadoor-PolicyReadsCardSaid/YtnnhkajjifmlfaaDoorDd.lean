/- Policies, the document's reader: the next token: the walk, on. -/
import Derived.Test.YtnnhkajjifmlfaaDoorDc
namespace Go.Proofs.YtnnhkajjifmlfaaDoor.Pl
open Go.RowKit Go.Maps
set_option maxRecDepth 100000 in
set_option maxHeartbeats 6400000 in
theorem rnext_sign (s : ByteArray) (p : Nat) (w : World) (hp : p ≤ s.size) (hs : s.size ≤ 2000000) (hi : bsk s p < s.size) (hc : inW (chr s (bsk s p)) = false ∧ chr s (bsk s p) ≠ 34) :
    Calls Tryd.prog 112 #[.string s, .int .i64 p] w (TK s p w) := by
  have hi2 := hi
  have hg0 := gb_alloc (gb_refl w none) (.cells #[.int .i64 0, .string ⟨#[]⟩, .int .i64 0] 99)
  have hB0 := TB.new w 0 ⟨#[]⟩ 0
  go_enter Tryd.func112, Tryd.ntmps112
  go_wp2_with fail
  generalize w.alloc (.cells #[.int .i64 0, .string ⟨#[]⟩, .int .i64 0] 99) = W at *
  obtain ⟨B, hE, hBl⟩ : ∃ B, B = w.heap.size ∧ Hid (w.heap.size ≤ B) := ⟨_, rfl, Nat.le_refl _⟩
  rw [← hE] at hB0 ⊢
  clear hE
  go_loopg [1] (s.size - p) (fun z u1 wr => ∃ q : Nat, q ≤ s.size ∧ z = s.size - q ∧ u1 = .int .i64 q ∧ Hid (bsk s q = bsk s p) ∧ wr = W)
  case atStart => exact ⟨p, hp, rfl, rfl, rfl, rfl⟩
  case round =>
    obtain ⟨q, hq, rfl, rfl, hsk, rfl⟩ := hrel
    have c0 := hB0.c0
    have c1 := hB0.c1
    have c2 := hB0.c2
    have f0 := hB0.f 0
    have f1 := hB0.f 1
    have f2 := hB0.f 2
    by_cases hlt : q < s.size
    · have hltI : (q : Int) < (s.size : Int) := by omega
      by_cases hb : chr s q = 32
      · have Hst := Lib.hid (bsk_step hb)
        rw [chr_in hlt] at hb
        have hbb : ((s[q].toNat : Int) == 32) = true := by simp; omega
        have hq1 := Lib.hid (show wrap64 ((q : Int) + 1) = ((q + 1 : Nat) : Int) from (wrap64_id (by omega) (by omega)).trans (by omega))
        clear hb
        go_wp2_with fail
        go_roundg (s.size - (q + 1))
        case measure => omega
        case rel => exact ⟨q + 1, hlt, rfl, by first | rw [hq1.out] | go_num, Lib.hid (Hst.out.symm.trans hsk.out), rfl⟩
      · have Hq : bsk s p = q := hsk.out.symm.trans (bsk_stop hb)
        rw [Hq] at hc
        have Hi := Lib.hid Hq
        clear hsk hi2 hi
        have hcq := chr_in hlt
        have hbb : ((s[q].toNat : Int) == 32) = false := by rw [← hcq]; simp; omega
        have hqe : ((q : Int) == (s.size : Int)) = false := by simp; omega
        clear Hq hb
        have hle := fun W => Lib.hid (letter_any (chr s q) W)
        have hdi := fun W => Lib.hid (digit_any (chr s q) W)
        have hw0 : inW (chr s q) = false := hc.1
        rw [inW_or, Bool.or_eq_false_iff] at hw0
        rw [hw0.1] at hle
        rw [hw0.2] at hdi
        have hL : Hid (lexR s q = if signC (chr s q) then (2, s.extract q (q + 1), q + 1, true) else (0, ⟨#[]⟩, q, false)) := by
          unfold Hid lexR
          rw [if_neg (by omega), if_neg (by rw [hc.1]; decide), if_neg hc.2]
        rw [hcq] at hle hdi hL
        have h34 : ((s[q].toNat : Int) == 34) = false := by rw [← hcq]; simp; exact_mod_cast hc.2
        clear hw0 hc hcq
        have hq1 := Lib.hid (show wrap64 ((q : Int) + 1) = ((q + 1 : Nat) : Int) from (wrap64_id (by omega) (by omega)).trans (by omega))
        by_cases hsg : signC s[q].toNat = true
        · rw [hsg] at hL
          simp only [if_true] at hL
          have hz : s[q].toNat = 33 ∨ s[q].toNat = 38 ∨ s[q].toNat = 124 ∨ s[q].toNat = 40 ∨ s[q].toNat = 41 ∨ s[q].toNat = 61 := by
            unfold signC at hsg; simp at hsg; omega
          have hsz : q + 1 ≤ s.size := hlt
          clear hsg
          rcases hz with h | h | h | h | h | h
          · have e1 : ((s[q].toNat : Int) == 33) = true := by simp; omega
            clear h
            go_wp2_with (first
              | (go_at_call 140; refine ((hle _).out).mono ?_; rintro e w1 ⟨rfl, rfl⟩)
              | (go_at_call 141; refine ((hdi _).out).mono ?_; rintro e w1 ⟨rfl, rfl⟩))
            try rw [hq1.out]
            refine bodyPost_ret (v := .tuple #[.agg #[.int .i64 2, .string (s.extract q (q + 1)), .int .i64 q], .int .i64 (q + 1 : Nat), .bool true]) (by simp [results, Tryd.results112, go_sem, c0, c1, c2]) rfl ?_
            exact ⟨by rw [Hi.out, hL.out], gb_setN (gb_setN (gb_setN hg0 hBl.out _ _) hBl.out _ _) hBl.out _ _⟩
          · have e1 : ((s[q].toNat : Int) == 33) = false := by simp; omega
            have e2 : ((s[q].toNat : Int) == 38) = true := by simp; omega
            clear h
            go_wp2_with (first
              | (go_at_call 140; refine ((hle _).out).mono ?_; rintro e w1 ⟨rfl, rfl⟩)
              | (go_at_call 141; refine ((hdi _).out).mono ?_; rintro e w1 ⟨rfl, rfl⟩))
            try rw [hq1.out]
            refine bodyPost_ret (v := .tuple #[.agg #[.int .i64 2, .string (s.extract q (q + 1)), .int .i64 q], .int .i64 (q + 1 : Nat), .bool true]) (by simp [results, Tryd.results112, go_sem, c0, c1, c2]) rfl ?_
            exact ⟨by rw [Hi.out, hL.out], gb_setN (gb_setN (gb_setN hg0 hBl.out _ _) hBl.out _ _) hBl.out _ _⟩
          · have e1 : ((s[q].toNat : Int) == 33) = false := by simp; omega
            have e2 : ((s[q].toNat : Int) == 38) = false := by simp; omega
            have e3 : ((s[q].toNat : Int) == 124) = true := by simp; omega
            clear h
            go_wp2_with (first
              | (go_at_call 140; refine ((hle _).out).mono ?_; rintro e w1 ⟨rfl, rfl⟩)
              | (go_at_call 141; refine ((hdi _).out).mono ?_; rintro e w1 ⟨rfl, rfl⟩))
            try rw [hq1.out]
            refine bodyPost_ret (v := .tuple #[.agg #[.int .i64 2, .string (s.extract q (q + 1)), .int .i64 q], .int .i64 (q + 1 : Nat), .bool true]) (by simp [results, Tryd.results112, go_sem, c0, c1, c2]) rfl ?_
            exact ⟨by rw [Hi.out, hL.out], gb_setN (gb_setN (gb_setN hg0 hBl.out _ _) hBl.out _ _) hBl.out _ _⟩
          · have e1 : ((s[q].toNat : Int) == 33) = false := by simp; omega
            have e2 : ((s[q].toNat : Int) == 38) = false := by simp; omega
            have e3 : ((s[q].toNat : Int) == 124) = false := by simp; omega
            have e4 : ((s[q].toNat : Int) == 40) = true := by simp; omega
            clear h
            go_wp2_with (first
              | (go_at_call 140; refine ((hle _).out).mono ?_; rintro e w1 ⟨rfl, rfl⟩)
              | (go_at_call 141; refine ((hdi _).out).mono ?_; rintro e w1 ⟨rfl, rfl⟩))
            try rw [hq1.out]
            refine bodyPost_ret (v := .tuple #[.agg #[.int .i64 2, .string (s.extract q (q + 1)), .int .i64 q], .int .i64 (q + 1 : Nat), .bool true]) (by simp [results, Tryd.results112, go_sem, c0, c1, c2]) rfl ?_
            exact ⟨by rw [Hi.out, hL.out], gb_setN (gb_setN (gb_setN hg0 hBl.out _ _) hBl.out _ _) hBl.out _ _⟩
          · have e1 : ((s[q].toNat : Int) == 33) = false := by simp; omega
            have e2 : ((s[q].toNat : Int) == 38) = false := by simp; omega
            have e3 : ((s[q].toNat : Int) == 124) = false := by simp; omega
            have e4 : ((s[q].toNat : Int) == 40) = false := by simp; omega
            have e5 : ((s[q].toNat : Int) == 41) = true := by simp; omega
            clear h
            go_wp2_with (first
              | (go_at_call 140; refine ((hle _).out).mono ?_; rintro e w1 ⟨rfl, rfl⟩)
              | (go_at_call 141; refine ((hdi _).out).mono ?_; rintro e w1 ⟨rfl, rfl⟩))
            try rw [hq1.out]
            refine bodyPost_ret (v := .tuple #[.agg #[.int .i64 2, .string (s.extract q (q + 1)), .int .i64 q], .int .i64 (q + 1 : Nat), .bool true]) (by simp [results, Tryd.results112, go_sem, c0, c1, c2]) rfl ?_
            exact ⟨by rw [Hi.out, hL.out], gb_setN (gb_setN (gb_setN hg0 hBl.out _ _) hBl.out _ _) hBl.out _ _⟩
          · have e1 : ((s[q].toNat : Int) == 33) = false := by simp; omega
            have e2 : ((s[q].toNat : Int) == 38) = false := by simp; omega
            have e3 : ((s[q].toNat : Int) == 124) = false := by simp; omega
            have e4 : ((s[q].toNat : Int) == 40) = false := by simp; omega
            have e5 : ((s[q].toNat : Int) == 41) = false := by simp; omega
            have e6 : ((s[q].toNat : Int) == 61) = true := by simp; omega
            clear h
            go_wp2_with (first
              | (go_at_call 140; refine ((hle _).out).mono ?_; rintro e w1 ⟨rfl, rfl⟩)
              | (go_at_call 141; refine ((hdi _).out).mono ?_; rintro e w1 ⟨rfl, rfl⟩))
            try rw [hq1.out]
            refine bodyPost_ret (v := .tuple #[.agg #[.int .i64 2, .string (s.extract q (q + 1)), .int .i64 q], .int .i64 (q + 1 : Nat), .bool true]) (by simp [results, Tryd.results112, go_sem, c0, c1, c2]) rfl ?_
            exact ⟨by rw [Hi.out, hL.out], gb_setN (gb_setN (gb_setN hg0 hBl.out _ _) hBl.out _ _) hBl.out _ _⟩
        · rw [Bool.not_eq_true] at hsg
          rw [hsg] at hL
          simp only [Bool.false_eq_true, if_false] at hL
          have hz : s[q].toNat ≠ 33 ∧ s[q].toNat ≠ 38 ∧ s[q].toNat ≠ 124 ∧ s[q].toNat ≠ 40 ∧ s[q].toNat ≠ 41 ∧ s[q].toNat ≠ 61 := by
            unfold signC at hsg; simp at hsg; omega
          obtain ⟨z1, z2, z3, z4, z5, z6⟩ := hz
          have e1 : ((s[q].toNat : Int) == 33) = false := by simp; omega
          have e2 : ((s[q].toNat : Int) == 38) = false := by simp; omega
          have e3 : ((s[q].toNat : Int) == 124) = false := by simp; omega
          have e4 : ((s[q].toNat : Int) == 40) = false := by simp; omega
          have e5 : ((s[q].toNat : Int) == 41) = false := by simp; omega
          have e6 : ((s[q].toNat : Int) == 61) = false := by simp; omega
          clear z1 z2 z3 z4 z5 z6 hsg
          go_wp2_with (first
            | (go_at_call 140; refine ((hle _).out).mono ?_; rintro e w1 ⟨rfl, rfl⟩)
            | (go_at_call 141; refine ((hdi _).out).mono ?_; rintro e w1 ⟨rfl, rfl⟩))
          refine bodyPost_ret (v := .tuple #[.agg #[.int .i64 0, .string ⟨#[]⟩, .int .i64 q], .int .i64 q, .bool false]) (by simp [results, Tryd.results112, go_sem, c0, c1, c2]) rfl ?_
          exact ⟨by rw [Hi.out, hL.out], gb_setN (gb_setN (gb_setN hg0 hBl.out _ _) hBl.out _ _) hBl.out _ _⟩
    · exfalso
      obtain rfl : q = s.size := by omega
      have h1 := hsk.out
      rw [bsk_stop (by rw [chr_out (Nat.le_refl _)]; decide)] at h1
      omega
end Go.Proofs.YtnnhkajjifmlfaaDoor.Pl
