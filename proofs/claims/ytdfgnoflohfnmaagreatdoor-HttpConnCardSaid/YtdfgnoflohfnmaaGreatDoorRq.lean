/- HTTP: whatever bytes come, in whatever pieces: the statement's own walk. -/
import Derived.Test.YtdfgnoflohfnmaaGreatDoorRp
import Derived.Deep.RegionHeld3
namespace Go.Proofs.YtdfgnoflohfnmaaGreatDoor.Hx
open Go.RowKit Go.Maps

theorem QS.init {w w1 w2 : World} {C D : Nat} (g : w.grownBy w2 none) (hC : w.heap.size ≤ C) (hD : w.heap.size ≤ D) (hCD : C ≠ D) (c : CN w1 C none [] false) (g2 : w1.grownBy w2 none) (d : RN w2 D none [] false) : QS w w2 C D none none [] (wt false []) false false :=
  ⟨g, hC, hD, hCD, c.grown g2, d, fun k h => (by cases h), fun k h => (by cases h)⟩
theorem sum_room {i t l : Nat} (hi : i ≤ 60) (h1 : t ≤ i * 281474976710656) (h2 : l ≤ 281474976710656) : wrap64 ((t : Int) + (l : Int)) = ((t + l : Nat) : Int) := (wrap64_id (by omega) (by omega)).trans (by omega)
theorem tot_room (ls : List Bs) (h : ∀ i (h : i < ls.length), ls[i].length ≤ 281474976710656) : ∀ i, i ≤ ls.length → tot (ls.take i) ≤ i * 281474976710656
  | 0, _ => by simp [tot]
  | i + 1, hi => by
    rw [tot_take (show i < ls.length by omega)]
    have := tot_room ls h i (by omega)
    have := h i (by omega)
    omega
theorem idx_wrap {i : Nat} (h : i ≤ 60) : wrap64 ((i : Int) + 1) = ((i + 1 : Nat) : Int) := (wrap64_id (by omega) (by omega)).trans (by omega)
set_option maxRecDepth 100000 in
set_option maxHeartbeats 800000 in
theorem conn_go (lv : Value) (ls : List Bs) (m : Int) (w : World) (hL : LV w lv ls) (hm : MX w m) (hlv : Calls Tryz.prog 7 #[] w fun e w' => e = .returned (.bool true) ∧ w.grownBy w' none) :
    Calls Tryz.prog 4 #[lv] w fun e w' => e = .returned (.bool true) ∧ w.grownBy w' none := by
  obtain ⟨A, c, rfl, hel⟩ := hL
  have htr := tot_room ls (fun i hi => by obtain ⟨_, _, _, _, _, _, _, h⟩ := hel i hi; omega)
  replace hel := Lib.hid hel
  replace htr := Lib.hid htr
  replace hlv := Lib.hid hlv
  have hmh := Lib.hid hm
  clear hm
  go_enter Tryz.func4, Tryz.ntmps4
  go_wp2_with (first
    | (go_at_call 7; refine (hlv.out).mono ?_; rintro e w0 ⟨rfl, g0⟩))
  have hC0 := Lib.hid g0.size
  go_loopg [3, 4] 61 (fun gk u3 u4 wr => ∃ i : Nat, i ≤ 61 ∧ i ≤ ls.length ∧ u4 = .int .i64 (i : Nat) ∧ u3 = .int .i64 (tot (ls.take i) : Nat) ∧ wr = w0 ∧ gk = 61 - i)
  case atStart => exact ⟨0, by omega, by omega, rfl, rfl, rfl, rfl⟩
  case round =>
    obtain ⟨i, hi61, hil, rfl, rfl, hwr, rfl⟩ := hrel
    rw [hwr]
    clear hwr
    by_cases hgo : i < ls.length ∧ i ≤ 60
    · obtain ⟨hgi, hg6⟩ := hgo
      obtain ⟨g, o, rfl, u, k, hcell, hbv, hlen⟩ := hel.out i hgi
      have hcell0 := cell_grown hcell g0 (by simp)
      have htt := htr.out i (by omega)
      have hsum := Lib.hid (sum_room hg6 htt (Nat.le_trans hlen (by decide)))
      have htk := Lib.hid (tot_take hgi)
      have hnI : (i : Int) < (ls.length : Int) := by omega
      have h6I : (i : Int) ≤ 60 := by omega
      have h0I : (0 : Int) ≤ (i : Int) := by omega
      obtain ⟨T, hT⟩ : ∃ T, tot (ls.take i) = T := ⟨_, rfl⟩
      obtain ⟨N, hN⟩ : ∃ N, ls[i].length = N := ⟨_, rfl⟩
      rw [hT, hN] at hsum
      rw [hT, hN] at htk
      rw [hN] at hcell0
      rw [hT]
      clear hT hN
      have hgih := Lib.hid hgi
      have h6h := Lib.hid hg6
      clear hbv hcell hlen htt hgi hg6 hi61 hil
      go_wp2_with fail
      go_roundg (61 - (i + 1))
      case measure => have := h6h.out; omega
      case rel => exact ⟨i + 1, Nat.succ_le_succ h6h.out, hgih.out, exact_i (Int.natCast_add i 1).symm, by rw [htk.out]; exact exact_i hsum.out, rfl, rfl⟩
    · have hni : ¬ ((i : Int) < (ls.length : Int) ∧ (i : Int) ≤ 60) := by omega
      by_cases hbig : 20000 < tot (ls.take i) ∨ 60 < ls.length
      · have hbI : (20000 : Int) < (tot (ls.take i) : Int) ∨ (60 : Int) < (ls.length : Int) := by omega
        obtain ⟨T, hT⟩ : ∃ T, tot (ls.take i) = T := ⟨_, rfl⟩
        rw [hT] at hbI
        rw [hT]
        obtain ⟨L, hL⟩ : ∃ L, ls.length = L := ⟨_, rfl⟩
        rw [hL] at hbI hni
        rw [hL]
        replace hT := Lib.hid hT
        replace hL := Lib.hid hL
        have h6I := Lib.hid hi61
        clear hgo hbig hil hi61
        by_cases h1 : (i : Int) < (L : Int)
        · have h2 : ¬ (i : Int) ≤ 60 := fun h => hni ⟨h1, h⟩
          clear hni
          by_cases h3 : (20000 : Int) < (T : Int)
          · clear hbI
            go_wp2_with fail
            go_ret
            exact ⟨rfl, g0⟩
          · have h4 : (60 : Int) < (L : Int) := hbI.resolve_left h3
            clear hbI
            go_wp2_with fail
            go_ret
            exact ⟨rfl, g0⟩
        · clear hni
          by_cases h3 : (20000 : Int) < (T : Int)
          · clear hbI
            go_wp2_with fail
            go_ret
            exact ⟨rfl, g0⟩
          · have h4 : (60 : Int) < (L : Int) := hbI.resolve_left h3
            clear hbI
            go_wp2_with fail
            go_ret
            exact ⟨rfl, g0⟩
      · have hT0 : ¬ (20000 : Int) < (tot (ls.take i) : Int) := by omega
        have hL0 : ¬ (60 : Int) < (ls.length : Int) := by omega
        have hie : i = ls.length := by omega
        have hL60 := Lib.hid (show ls.length ≤ 60 by omega)
        have hall := Lib.hid (show tot ls ≤ 20000 by
          have := hbig
          rw [hie, List.take_length] at this
          omega)
        have hiI : ¬ (i : Int) < (ls.length : Int) := by omega
        obtain ⟨T, hT⟩ : ∃ T, tot (ls.take i) = T := ⟨_, rfl⟩
        rw [hT] at hT0
        rw [hT]
        clear hT hie hbig hni hgo hil hi61
        go_wp2_with (first
          | (go_at_call 14; refine (rnew_cn _).mono ?_; rintro e w2 ⟨rfl, d2, g2, z2⟩)
          | (go_at_call 8; refine (new_cn _).mono ?_; rintro e w1 ⟨rfl, c1, g1, z1⟩))
        rw [z1] at d2
        have hq0 := Lib.hid (QS.init (gb_trans (gb_trans g0 g1) g2) hC0.out (Nat.le_trans hC0.out (Nat.le_succ _)) (Nat.ne_of_lt (Nat.lt_succ_self _)) c1 g2 d2)
        clear c1 d2 g1 g2 z2 hT0 hL0 hiI
        go_loopg [7] ls.length (fun gk u7 wr => ∃ (i : Nat) (bo bp : Option Nat) (bc : Bs) (ov : Bool), i ≤ ls.length ∧ u7 = .int .i64 (i : Nat) ∧ QS w wr w0.heap.size (w0.heap.size + 1) bo bp bc (wt ov bc) ov ov ∧ bc.length ≤ tot (ls.take i) ∧ gk = ls.length - i)
        case atStart => exact ⟨0, none, none, [], false, Nat.zero_le _, rfl, hq0.out, Nat.zero_le _, rfl⟩
        case round =>
          clear hq0
          obtain ⟨i, bo, bp, bc, ov, hil, rfl, hq, hbl, rfl⟩ := hrel
          by_cases hgi : i < ls.length
          · obtain ⟨g, o, rfl, u, k, hcell, hbv, hlen⟩ := hel.out i hgi
            have htk := tot_take hgi
            have htl := tot_le ls (i + 1)
            have hall' := hall.out
            have hnl : ls[i].length ≤ 20000 := by omega
            have hbl2 : bc.length ≤ 20000 := by omega
            have hnI : (i : Int) < (ls.length : Int) := by omega
            have h0I : (0 : Int) ≤ (i : Int) := by omega
            have hcr := cell_grown hcell hq.gb (by simp)
            have hf1 : ∀ W, wr.grownBy W none → Hid (Calls Tryz.prog 9 #[.pointer (some ⟨w0.heap.size, 0, none⟩), .slice u ls[i].length k] W fun e w' => e = .returned (.int .i64 (fcd ov)) ∧ ∃ bo', QS w w' w0.heap.size (w0.heap.size + 1) bo' bp (fed ov bc ls[i]) (wt ov bc) ov ov ∧ w'.cell? ⟨g, o + i, none⟩ = some (.slice u ls[i].length k)) := fun W hW => by
              have hqW := hq.grown hW
              exact Lib.hid ((feedC_qs _ _ hqW (hbv.grown hqW.gb) hbl2 hnl).mono (fun e w' ⟨h1, bo', h2⟩ => ⟨h1, bo', h2, cell_grown hcell h2.gb (by simp)⟩))
            have hf2 : ∀ bo' W, QS w W w0.heap.size (w0.heap.size + 1) bo' bp (fed ov bc ls[i]) (wt ov bc) ov ov → Hid (Calls Tryz.prog 15 #[.pointer (some ⟨w0.heap.size + 1, 0, none⟩), .slice u ls[i].length k] W fun e w' => e = .returned (.int .i64 (fcd ov)) ∧ ∃ bp', QS w w' w0.heap.size (w0.heap.size + 1) bo' bp' (fed ov bc ls[i]) (wt ov (fed ov bc ls[i])) ov ov ∧ w'.cell? ⟨g, o + i, none⟩ = some (.slice u ls[i].length k)) := fun bo' W hqW => by
              exact Lib.hid ((feedD_qs _ _ hqW (hbv.grown hqW.gb) (Nat.le_trans (wt_len _ _) hbl2) hnl).mono (fun e w' ⟨h1, bp', h2⟩ => ⟨h1, bp', by rw [← wt_fed]; exact h2, cell_grown hcell h2.gb (by simp)⟩))
            have hfl := Lib.hid (Nat.le_trans (fed_len ov bc ls[i]) (show bc.length + ls[i].length ≤ tot (ls.take (i + 1)) by omega))
            have htl2 := Lib.hid (Nat.le_trans htl hall')
            obtain ⟨N, hN⟩ : ∃ N, ls[i].length = N := ⟨_, rfl⟩
            rw [hN] at hcr
            simp only [hN] at hf1 hf2
            obtain ⟨F, hF⟩ : ∃ F, fcd ov = F := ⟨_, rfl⟩
            simp only [hF] at hf1 hf2
            obtain ⟨news, hnews⟩ : ∃ news, fed ov bc ls[i] = news := ⟨_, rfl⟩
            rw [hnews] at hfl
            simp only [hnews] at hf1 hf2
            have hgih := Lib.hid hgi
            have hqh := Lib.hid hq
            clear hN hF hnews hlen hcell hbv htk htl hall' hnl hbl hbl2 hil hq
            clear hgi
            go_upto_region 14 with fail
            go_cut [60] from 42 to 100 (fun u60 wx => u60 = .bool false ∧ ∃ bo' bp', QS w wx w0.heap.size (w0.heap.size + 1) bo' bp' news (wt ov news) ov ov)
            case first =>
              go_region_held3 (fun W' => W'.cell? ⟨g, o + i, none⟩ = some (.slice u N k)) (first | assumption | go_keep)
                (first
                  | (go_at_call 15; have hh := qq1; clear hh; refine ((hf2 _ _ qq1.out).out).mono ?_; rintro e w5 ⟨rfl, bp', qq2, hcr5⟩)
                  | (go_at_call 9; refine ((hf1 _ (by repeat (first | assumption | (with_reducible exact gb_refl _ _) | (with_reducible refine gb_drew ?_)))).out).mono ?_; rintro e w4 ⟨rfl, bo', qq1, hcr4⟩; replace qq1 := Lib.hid qq1))
              all_goals
                go_wp2_with fail
                go_meet
                exact ⟨rfl, _, _, qq2⟩
            case rest =>
              clear hf1 hf2 hcr hqh
              obtain ⟨rfl, bo1, bp1, hq1⟩ := hcut
              have hq1h := Lib.hid hq1
              clear hq1 hnI h0I
              go_wp2_with fail
              go_loopg [] (lft ov news) (fun gk wr => ∃ (bo bp : Option Nat) (bc : Bs) (ov : Bool), QS w wr w0.heap.size (w0.heap.size + 1) bo bp bc (wt ov bc) ov ov ∧ bc.length ≤ tot (ls.take (i + 1)) ∧ gk = lft ov bc)
              case atStart => exact ⟨bo1, bp1, news, ov, hq1h.out, hfl.out, rfl⟩
              case round =>
                clear hq1h hfl
                obtain ⟨bo2, bp2, bc2, ov2, hq2, hbl2, rfl⟩ := hrel
                have hb20 : bc2.length ≤ 20000 := Nat.le_trans hbl2 htl2.out
                have hmr := hmh.out.grown hq2.gb (by simp)
                by_cases hstop : ov2 = true ∨ nextP bc2 = .more
                · have hsC := Lib.hid (stopC_qs m hq2 hmr hb20 hstop)
                  have hsD := fun W (hq : QS w W w0.heap.size (w0.heap.size + 1) bo2 bp2 bc2 (wt ov2 bc2) ov2 ov2) => Lib.hid (stopD_qs hq hb20 hstop)
                  have hsr := fun W => Lib.hid (show Calls Tryz.prog 13 #[req0, req0] W _ from same_req rq0 x0 x0 W (RA.zero _ _) (RA.zero _ _))
                  have hblh := Lib.hid hbl2
                  clear hq2 hmr hstop hbl2 hb20
                  go_wp2_with (first
                    | (go_at_call 16; refine ((hsD _ q4.out).out).mono ?_; rintro e w5 ⟨rfl, q5, g5⟩; have q6 := Lib.hid (q5.grown (gb_alloc (gb_refl w5 none) (.cells #[.string ⟨#[]⟩, .string ⟨#[]⟩, .slice none 0 0, .bool false, .slice none 0 0] 32))); have hbX : ZF (w5.alloc (.cells #[.string ⟨#[]⟩, .string ⟨#[]⟩, .slice none 0 0, .bool false, .slice none 0 0] 32)) w4.heap.size (.string ⟨#[]⟩) (.string ⟨#[]⟩) (.slice none 0 0) (.bool false) (.slice none 0 0) := ZF.kept (heap_alloc_new w4 (.cells #[.string ⟨#[]⟩, .string ⟨#[]⟩, .slice none 0 0, .bool false, .slice none 0 0] 32)) (gb_alloc g5 (.cells #[.string ⟨#[]⟩, .string ⟨#[]⟩, .slice none 0 0, .bool false, .slice none 0 0] 32)) (by simp); have x0 := hbX.c0; have x1 := hbX.c1; have x2 := hbX.c2; have x3 := hbX.c3; have x4 := hbX.c4; clear hbX q5 g5)
                    | (go_at_call 10; refine (hsC.out).mono ?_; rintro e w4 ⟨rfl, q4⟩; replace q4 := Lib.hid (q4.grown (gb_alloc (gb_refl w4 none) (.cells #[.string ⟨#[]⟩, .string ⟨#[]⟩, .slice none 0 0, .bool false, .slice none 0 0] 32))))
                    | (go_at_call 13; refine ((hsr _).out).mono ?_; rintro e w7 ⟨rfl, g7⟩; have q7 := q6.out.grown g7; have hoC := Lib.hid (over_cn _ _ _ _ _ q7.c); have hoD := Lib.hid (rover_cn _ _ _ _ _ q7.d); have hlC := Lib.hid (left_cn _ _ _ _ _ q7.c); have hlD := Lib.hid (rleft_cn _ _ _ _ _ q7.d); replace q7 := Lib.hid q7)
                    | (go_at_call 11; refine (hoC.out).mono ?_; rintro e w8 ⟨rfl, hw8⟩; rw [hw8]; clear hw8)
                    | (go_at_call 17; refine (hoD.out).mono ?_; rintro e w8 ⟨rfl, hw8⟩; rw [hw8]; clear hw8)
                    | (go_at_call 18; refine (hlC.out).mono ?_; rintro e w8 ⟨rfl, hw8⟩; rw [hw8]; clear hw8)
                    | (go_at_call 19; refine (hlD.out).mono ?_; rintro e w8 ⟨rfl, hw8⟩; rw [hw8]; clear hw8))
                  go_roundg (ls.length - (i + 1))
                  case measure => have := hgih.out; omega
                  case rel => exact ⟨i + 1, bo2, bp2, bc2, ov2, hgih.out, exact_i (idx_wrap (Nat.le_trans (Nat.le_of_lt hgih.out) hL60.out)), q7.out, hblh.out, rfl⟩
                · have hov : ov2 = false := by cases ov2; rfl; exact absurd (.inl rfl) hstop
                  subst hov
                  have hs : nextP bc2 ≠ .more := fun h => hstop (.inr h)
                  have htd := told_lft hs
                  have hsC := tellC_qs m hq2 hmr hb20 hs
                  have hsD := fun W bc' oc' (hq : QS w W w0.heap.size (w0.heap.size + 1) bo2 bp2 bc' bc2 oc' false) => tellD_qs hq hb20 hs
                  obtain ⟨R, hR⟩ : ∃ R, told bc2 = R := ⟨_, rfl⟩
                  rw [hR] at hsC htd
                  simp only [hR] at hsD
                  obtain ⟨r, st, bc3, ov3⟩ := R
                  dsimp only at hsC hsD htd
                  have hDl := Lib.hid hq2.d.lt
                  have hsCh := Lib.hid hsC
                  have hsDh := fun W bc' oc' hq => Lib.hid (hsD W bc' oc' hq)
                  have htdh := Lib.hid htd
                  have hblh := Lib.hid hbl2
                  clear hsC hsD htd hR hs hq2 hmr hstop hbl2 hb20
                  go_wp2_with (first
                    | (go_at_call 16; refine ((hsDh _ _ _ q4.out).out).mono ?_; rintro e w5 ⟨ym, yp, B1, m1, j1, yc, B2, m2, j2, bp3, rfl, hy5, q5, g5⟩; have gY := gb_alloc (gb_refl w5 none) (.cells #[.string ym, .string yp, .slice B1 m1 j1, .bool yc, .slice B2 m2 j2] 32); have q6 := Lib.hid (q5.grown gY); have hDw : w0.heap.size + 1 < w4.heap.size := (Nat.lt_of_lt_of_le hDl.out hx4.out.1); have hx5 := (hx4.out.2.gt (GT.of_some (T := fun k => k = w0.heap.size + 1) g5 rfl) (fun b h1 h2 => by have := hDl.out; omega)).grown gY; have hbX : ZF (w5.alloc (.cells #[.string ym, .string yp, .slice B1 m1 j1, .bool yc, .slice B2 m2 j2] 32)) w4.heap.size (.string xm) (.string xp) (.slice A1 n1 k1) (.bool xc) (.slice A2 n2 k2) := ZF.kept (ZF.kept (heap_alloc_new w4 (.cells #[.string xm, .string xp, .slice A1 n1 k1, .bool xc, .slice A2 n2 k2] 32)) g5 (by intro h; have := Option.some.inj h; omega)) gY (by simp); have x0 := hbX.c0; have x1 := hbX.c1; have x2 := hbX.c2; have x3 := hbX.c3; have x4 := hbX.c4; have hsr := Lib.hid (same_req r ⟨xm, xp, .slice A1 n1 k1, xc, .slice A2 n2 k2⟩ ⟨ym, yp, .slice B1 m1 j1, yc, .slice B2 m2 j2⟩ (w5.alloc (.cells #[.string ym, .string yp, .slice B1 m1 j1, .bool yc, .slice B2 m2 j2] 32)) (hx5.mono (fun _ _ _ => trivial)) ((hy5.grown gY).mono (fun _ _ _ => trivial))); clear hbX q5 g5 hy5 hx5 hDw gY)
                    | (go_at_call 10; refine (hsCh.out).mono ?_; rintro e w4 ⟨xm, xp, A1, n1, k1, xc, A2, n2, k2, rfl, hx4, q4, hsz4⟩; have gX := gb_alloc (gb_refl w4 none) (.cells #[.string xm, .string xp, .slice A1 n1 k1, .bool xc, .slice A2 n2 k2] 32); replace hx4 := Lib.hid (show wr.heap.size ≤ w4.heap.size ∧ _ from ⟨hsz4, hx4.grown gX⟩); replace q4 := Lib.hid (q4.grown gX); clear gX)
                    | (go_at_call 13; refine (hsr.out).mono ?_; rintro e w7 ⟨rfl, g7⟩; have q7 := Lib.hid (q6.out.grown g7)))
                  go_roundg (lft ov3 bc3)
                  case measure => exact htdh.out.1
                  case rel => exact ⟨bo2, bp3, bc3, ov3, q7.out, Nat.le_trans htdh.out.2 hblh.out, rfl⟩
          · have hnI : ¬ (i : Int) < (ls.length : Int) := by omega
            have hqg := Lib.hid hq.gb
            clear hq hbl hgi
            go_wp2_with fail
            go_ret
            exact ⟨rfl, hqg.out⟩
end Go.Proofs.YtdfgnoflohfnmaaGreatDoor.Hx
