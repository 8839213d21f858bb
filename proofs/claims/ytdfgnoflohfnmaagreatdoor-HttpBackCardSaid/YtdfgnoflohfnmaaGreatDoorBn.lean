/- HTTP: a connection hears what was sent: the law's hears, walked. -/
import Derived.Test.YtdfgnoflohfnmaaGreatDoorBm
import Derived.Test.YtdfgnoflohfnmaaGreatDoorHs
import Derived.Test.YtdfgnoflohfnmaaGreatDoorG1
namespace Go.Proofs.YtdfgnoflohfnmaaGreatDoor.Hx
open Go.RowKit Go.Maps

/-- the outer loop's relation -/
def E1 (w : World) (S : List Rq) (C : Nat) (gk : Nat) (v0 v8 v9 : Value) (wr : World) : Prop :=
  ∃ (t bs : Bs) (bo : Option Nat) (ov : Bool) (k n : Nat), BV w v0 t ∧ v8 = .int .i64 (k : Nat) ∧ v9 = .int .i64 (n : Nat) ∧ HC w wr C S t bs bo ov k ∧ (ov = true ∨ nextP bs = .more) ∧ bs.length ≤ 1000000 ∧ n + t.length ≤ 1000000 ∧ gk = t.length
/-- the inner loop's -/
def E2 (w : World) (S : List Rq) (C : Nat) (t : Bs) (gk : Nat) (v8 : Value) (wr : World) : Prop :=
  ∃ (bs : Bs) (bo : Option Nat) (ov : Bool) (k : Nat), v8 = .int .i64 (k : Nat) ∧ HC w wr C S t bs bo ov k ∧ bs.length ≤ 1000000 ∧ gk = lft ov bs
set_option maxRecDepth 100000 in
set_option maxHeartbeats 3200000 in
theorem hears_any (av sv cv : Value) (S : List Rq) (cuts : List Int) (m : Int) (w : World) (ha : BV w av (strm S)) (hsv : LQ w sv S) (hcv : IV w cv cuts) (hm : MX w m) (hok : ∀ r ∈ S, mayS r = 0) (hS : (strm S).length ≤ 1000000) (hS2 : S.length ≤ 12) :
    Calls Tryz.prog 32 #[av, sv, cv] w fun e w' => e = .returned (.bool true) ∧ w.grownBy w' none := by
  have hmh := Lib.hid hm
  have hah := Lib.hid ha
  obtain ⟨Ac, cc, rfl, hcv2⟩ := hcv
  replace hcv2 := Lib.hid hcv2
  obtain ⟨As, cs, rfl, hsq⟩ := hsv
  replace hsq := Lib.hid hsq
  obtain ⟨A, c, rfl, _⟩ := ha
  replace hok := Lib.hid hok
  replace hS := Lib.hid hS
  replace hS2 := Lib.hid hS2
  clear hm
  go_enter Tryz.func32, Tryz.ntmps32
  go_wp2_with (first
    | (go_at_call 8; refine (new_cn _).mono ?_; rintro e w1 ⟨rfl, c1, g1, z1⟩))
  have h0 : Hid (HC w w1 w.heap.size S (strm S) [] none false 0) := Lib.hid ⟨g1, Nat.le_refl _, c1, (fun b h => by cases h), HS.start S⟩
  clear c1 g1 z1
  go_loopg [0, 8, 9] (strm S).length (fun gk v0 v8 v9 wr => E1 w S w.heap.size gk v0 v8 v9 wr)
  case atStart => exact ⟨strm S, [], none, false, 0, 0, hah.out, rfl, rfl, h0.out, .inr rfl, Nat.zero_le _, by have := hS.out; omega, rfl⟩
  case round =>
    clear h0
    obtain ⟨t, bs, bo, ov, k, n, hv0, rfl, rfl, hc, hst, hbl, hnt, rfl⟩ := hrel
    obtain ⟨A0, c0, rfl, hc0, ha0⟩ := hv0
    have hov := Lib.hid (over_cn w.heap.size bo bs ov wr hc.c)
    have hkS := hc.hs.le
    by_cases ht0 : t = []
    · subst ht0
      have hgb := Lib.hid hc.gb
      rcases hc.hs.stop hok.out hst with hk | ⟨hk, rfl⟩
      · replace hc := Lib.hid hc
        have hkI : (k : Int) = (S.length : Int) := by omega
        clear ha0 hc0 hst hk
        go_wp2_with fail
        go_ret
        exact ⟨rfl, hgb.out⟩
      · obtain ⟨hk0, hkl, hcl⟩ := hc.hs.cl
        replace hc := Lib.hid hc
        obtain ⟨j, rfl⟩ : ∃ j, k = j + 1 := ⟨k - 1, by omega⟩
        rw [Nat.add_sub_cancel] at hkl
        have hcl' : S[j].cl = true := by simpa using hcl
        obtain ⟨gs, os, x, rfl, hx, a0, a1, a2, a3, a4⟩ := hsq.out j hkl
        rw [hx.cl, hcl'] at a3
        have a3' := cell_grown a3 hgb.out (by simp)
        have hkI : ¬ (((j + 1 : Nat) : Int) = (S.length : Int)) := by omega
        have hkI' : ¬ ((j : Int) + 1 = (S.length : Int)) := by omega
        have hjI : (j : Int) < (S.length : Int) := by omega
        have hj0 : (0 : Int) ≤ (j : Int) := Int.natCast_nonneg j
        have hw1 : wrap64 (((j + 1 : Nat) : Int) - 1) = (j : Int) := (wrap64_id (by omega) (by have := hS2.out; omega)).trans (by omega)
        have hw2 : wrap64 ((j : Int)) = (j : Int) := wrap64_id (by omega) (by have := hS2.out; omega)
        clear ha0 hc0 hst hk a0 a1 a2 a3 a4 hx hcl hcl'
        go_wp2_with (first
          | (go_at_call 11; refine (hov.out).mono ?_; rintro e w4 ⟨rfl, hw4⟩; rw [hw4]; clear hw4))
        go_ret
        exact ⟨rfl, hgb.out⟩
    · have htp : 0 < t.length := List.length_pos_iff.mpr ht0
      obtain ⟨b0, o0, rfl, hba0⟩ := ha0 ht0
      have htI : (0 : Int) < (t.length : Int) := by omega
      have htc : (t.length : Int) ≤ (c0 : Int) := by omega
      have hnI : (0 : Int) ≤ (n : Int) := by omega
      have hgbw := hc.gb
      replace hc := Lib.hid hc
      replace hc0 := Lib.hid hc0
      replace hba0 := Lib.hid hba0
      have hnth := Lib.hid hnt
      replace hbl := Lib.hid hbl
      replace htp := Lib.hid htp
      replace ht0 := Lib.hid ht0
      clear ha0
      go_upto_if 25 with fail
      go_cut [10] from 15 to 81 (fun u10 wx => ∃ k : Nat, 1 ≤ k ∧ k ≤ t.length ∧ u10 = .int .i64 (k : Nat) ∧ wx = wr)
      case first =>
        by_cases hin : n < cuts.length
        · obtain ⟨⟨gc, oc2, rfl, hcell⟩, _, _⟩ := hcv2.out n hin
          have hcell2 := cell_grown hcell hgbw (by simp)
          have hinI : (n : Int) < (cuts.length : Int) := by omega
          have htz : (t.length : Int) ≤ 1000000 := by omega
          have hpk := fun W => Lib.hid (pick_any (cuts[n]) (t.length : Int) W (by omega) htz)
          generalize cuts[n] = cn at *
          clear hcell htz hnt
          go_wp2_with (first
            | (go_at_call 12; refine ((hpk _).out).mono ?_; rintro e w5 ⟨⟨k0, rfl, hk0, hk1⟩, hw5⟩; rw [hw5]; clear hw5; obtain ⟨kn, rfl⟩ := Int.eq_ofNat_of_zero_le hk0; have hkn : kn < t.length := (by omega); have hw8 : wrap64 ((kn : Int) + 1) = ((kn + 1 : Nat) : Int) := ((wrap64_id (by omega) (by have := hnth.out; omega)).trans (by omega))))
          go_meet
          exact ⟨kn + 1, Nat.le_add_left 1 kn, hkn, exact_i hw8, rfl⟩
        · have hinI : ¬ (n : Int) < (cuts.length : Int) := by omega
          clear hnt
          go_wp2_with fail
          go_meet
          exact ⟨t.length, htp.out, Nat.le_refl _, rfl, rfl⟩
      case rest =>
        obtain ⟨kn, hk1, hk2, rfl, hwx⟩ := hcut
        replace hwx := hwx.symm
        subst hwx
        cases ov with
        | true =>
          obtain ⟨hk0, hkl, hcl⟩ := hc.out.hs.cl
          obtain ⟨j, rfl⟩ : ∃ j, k = j + 1 := ⟨k - 1, by omega⟩
          rw [Nat.add_sub_cancel] at hkl
          have hcl' : S[j].cl = true := by simpa using hcl
          obtain ⟨gs, os, x, rfl, hx, a0, a1, a2, a3, a4⟩ := hsq.out j hkl
          rw [hx.cl, hcl'] at a3
          have a3' := cell_grown a3 hgbw (by simp)
          have hjI : (j : Int) < (S.length : Int) := by omega
          have hj0 : (0 : Int) ≤ (j : Int) := Int.natCast_nonneg j
          have hw1 : wrap64 (((j + 1 : Nat) : Int) - 1) = (j : Int) := (wrap64_id (by omega) (by have := hS2.out; omega)).trans (by omega)
          have hw2 : wrap64 ((j : Int)) = (j : Int) := wrap64_id (by omega) (by have := hS2.out; omega)
          clear a0 a1 a2 a3 a4 hx hcl hcl' hst
          go_wp2_with (first
            | (go_at_call 11; refine (hov.out).mono ?_; rintro e w4 ⟨rfl, hw4⟩; rw [hw4]; clear hw4))
          go_ret
          exact ⟨rfl, hgbw⟩
        | false =>
        have htk : (t.take kn).length = kn := List.length_take_of_le hk2
        have hlen := hc.out.hs.len
        have hbt : BV w (.slice (some ⟨b0, o0, none⟩) kn c0) (t.take kn) := ⟨_, c0, by rw [htk], by rw [htk]; exact Nat.le_trans hk2 hc0.out, fun _ => ⟨b0, o0, rfl, hba0.out.take kn⟩⟩
        have hbl2 := Lib.hid (show (bs ++ t.take kn).length ≤ 1000000 from by rw [List.length_append, htk]; have := hS.out; omega)
        have hfd2 := Lib.hid (feed_cn w.heap.size bo bs (t.take kn) false _ wr hc.out.c (hbt.grown hgbw) (by have := hbl.out; omega) (by rw [htk]; have := hS.out; omega))
        have hbig := Lib.hid (show ¬ 1048576 < bs.length + (t.take kn).length from by rw [htk]; have := hS.out; omega)
        have hw9 := Lib.hid (show wrap64 ((n : Int) + 1) = ((n + 1 : Nat) : Int) from (wrap64_id (by omega) (by omega)).trans (by omega))
        have hkI : (kn : Int) ≤ (c0 : Int) := Int.ofNat_le.mpr (Nat.le_trans hk2 hc0.out)
        have hkT : (kn : Int) ≤ (t.length : Int) := Int.ofNat_le.mpr hk2
        have hk0 : (0 : Int) ≤ (kn : Int) := Int.natCast_nonneg kn
        replace hk1 := Lib.hid hk1
        replace hk2 := Lib.hid hk2
        clear htk hbt htI hst hnt hlen hgbw
        by_cases hck : c0 = kn
        · have e1 : t.length - kn = 0 := by have := hc0.out; omega
          have e2 : kn - kn = 0 := by omega
          replace hck := hck.symm
          subst hck
          have hdn : Hid (t.drop kn = []) := List.drop_eq_nil_of_le (Nat.le_of_sub_eq_zero e1)

          go_wp2_with (first
            | (go_at_call 9; refine (hfd2.out).mono ?_; clear hfd2; intro e w5 hf; unfold FcK at hf; rw [if_neg (by decide), if_neg hbig.out] at hf; obtain ⟨rfl, bo5, c5, g5, hb5⟩ := hf; have hp5 := Lib.hid (hc.out.feed c5 g5 hb5 (hc.out.hs.piece kn)); clear c5 g5 hb5)
            | (go_at_call 11; refine (hov.out).mono ?_; rintro e w4 ⟨rfl, hw4⟩; rw [hw4]; clear hw4))
          go_loopg [8] (lft false (bs ++ t.take kn)) (fun gk v8 wr => E2 w S w.heap.size (t.drop kn) gk v8 wr)
          case atStart => exact ⟨bs ++ t.take kn, bo5, false, k, rfl, hp5.out, hbl2.out, rfl⟩
          case round =>
            clear hp5 hov
            obtain ⟨bs3, bo3, ov3, k3, rfl, hp3, hl3, rfl⟩ := hrel
            by_cases hstop : ov3 = true ∨ nextP bs3 = .more
            · have hnx := Lib.hid (stop_hc m hp3 hmh.out (by omega) hstop)
              replace hstop := Lib.hid hstop
              replace hl3 := Lib.hid hl3
              clear hp3
              go_wp2_with (first
                | (go_at_call 10; refine (hnx.out).mono ?_; rintro e w6 ⟨rfl, hp6, g6⟩))
              go_roundg (t.length - kn)
              case measure => have := hk1.out; have := hk2.out; omega
              case rel =>
                refine ⟨t.drop kn, bs3, bo3, ov3, k3, n + 1, (by rw [hdn.out]; exact ⟨_, _, rfl, Nat.le_refl _, fun h => absurd rfl h⟩), rfl, exact_i hw9.out, (hp6.grown (gb_alloc (gb_refl w6 none) _)), hstop.out, hl3.out, ?_, by rw [List.length_drop]⟩
                rw [List.length_drop]; have := hk1.out; have := hk2.out; have := hnth.out; omega
            · have hoc : ov3 = false := by cases ov3; rfl; exact absurd (.inl rfl) hstop
              subst hoc
              obtain ⟨hkl, hnx⟩ := tell_hc m hp3 hmh.out (by omega) hok.out (fun e => hstop (.inr e))
              replace hnx := Lib.hid hnx
              obtain ⟨gs, os, y, rfl, hy, b0, b1, b2, b3, b4⟩ := hsq.out k3 hkl
              obtain ⟨ym, yp, A4, n4, k4, yc, A5, n5, k5, rfl⟩ := hy.shape
              dsimp only at b0 b1 b2 b3 b4
              replace hl3 := Lib.hid hl3
              have hgb3 := hp3.gb
              have hkI : decide (S.length ≤ k3) = false := decide_eq_false (by omega)
              have hkI2 : (k3 : Int) < (S.length : Int) := by omega
              have hk0I : (0 : Int) ≤ (k3 : Int) := Int.natCast_nonneg k3
              have hq1 := Lib.hid (show wrap64 ((k3 : Int) + 1) = ((k3 + 1 : Nat) : Int) from (wrap64_id (by omega) (by have := hS2.out; omega)).trans (by omega))
              clear hp3 hstop
              go_upto_region 16 with (first
                | (go_at_call 10; refine (hnx.out).mono ?_; clear hnx; rintro e w6 ⟨xm, xp, A2, n2, k2, xc, A3, n3, q3, bs6, ov6, rfl, hx, hp6, hm6, hl6⟩; have hgb6 := hp6.gb; have hn6 := heap_alloc_new w6 (.cells #[.string xm, .string xp, .slice A2 n2 k2, .bool xc, .slice A3 n3 q3] 32); replace hp6 := Lib.hid hp6; replace hx := Lib.hid hx; replace hm6 := Lib.hid hm6; replace hl6 := Lib.hid hl6))
              obtain ⟨wq, hwq⟩ : ∃ wq, w6.alloc (.cells #[.string xm, .string xp, .slice A2 n2 k2, .bool xc, .slice A3 n3 q3] 32) = wq := ⟨_, rfl⟩
              rw [hwq] at hn6
              try rw [hwq]
              have g6q : w6.grownBy wq none := hwq ▸ gb_alloc (gb_refl _ _) _
              have gwq := gb_trans hgb6 g6q
              replace hwq := Lib.hid hwq
              have a0 : wq.cell? ⟨w6.heap.size, 0, none⟩ = some (.string xm) := by rw [cell_of_row _ _ _ _ _ _ hn6]; rfl
              have a1 : wq.cell? ⟨w6.heap.size, 1, none⟩ = some (.string xp) := by rw [cell_of_row _ _ _ _ _ _ hn6]; rfl
              have a2 : wq.cell? ⟨w6.heap.size, 2, none⟩ = some (.slice A2 n2 k2) := by rw [cell_of_row _ _ _ _ _ _ hn6]; rfl
              have a3 : wq.cell? ⟨w6.heap.size, 3, none⟩ = some (.bool xc) := by rw [cell_of_row _ _ _ _ _ _ hn6]; rfl
              have a4 : wq.cell? ⟨w6.heap.size, 4, none⟩ = some (.slice A3 n3 q3) := by rw [cell_of_row _ _ _ _ _ _ hn6]; rfl
              have q1 : Hid (QC Tryz.prog wq 13 #[.agg #[.string xm, .string xp, .slice A2 n2 k2, .bool xc, .slice A3 n3 q3], .agg #[.string ym, .string yp, .slice A4 n4 k4, .bool yc, .slice A5 n5 k5]] (.bool true)) := fun G =>
                (same_req (S[k3]) _ _ G.W (hx.out.grown (gb_trans g6q G.h)) (hy.grown (gb_trans gwq G.h))).mono fun e w' h => ⟨h.1, gb_trans G.h h.2⟩
              have P0 : ∀ G : Grown wq, G.W.cell? ⟨w6.heap.size, 0, none⟩ = some (.string xm) := fun G => cell_grown a0 G.h (by simp)
              have P1 : ∀ G : Grown wq, G.W.cell? ⟨w6.heap.size, 1, none⟩ = some (.string xp) := fun G => cell_grown a1 G.h (by simp)
              have P2 : ∀ G : Grown wq, G.W.cell? ⟨w6.heap.size, 2, none⟩ = some (.slice A2 n2 k2) := fun G => cell_grown a2 G.h (by simp)
              have P3 : ∀ G : Grown wq, G.W.cell? ⟨w6.heap.size, 3, none⟩ = some (.bool xc) := fun G => cell_grown a3 G.h (by simp)
              have P4 : ∀ G : Grown wq, G.W.cell? ⟨w6.heap.size, 4, none⟩ = some (.slice A3 n3 q3) := fun G => cell_grown a4 G.h (by simp)
              have R0 : ∀ G : Grown wq, G.W.cell? ⟨gs, os + k3 * 5, none⟩ = some (.string ym) := fun G => cell_grown b0 (gb_trans gwq G.h) (by simp)
              have R1 : ∀ G : Grown wq, G.W.cell? ⟨gs, os + k3 * 5 + 1, none⟩ = some (.string yp) := fun G => cell_grown b1 (gb_trans gwq G.h) (by simp)
              have R2 : ∀ G : Grown wq, G.W.cell? ⟨gs, os + k3 * 5 + 2, none⟩ = some (.slice A4 n4 k4) := fun G => cell_grown b2 (gb_trans gwq G.h) (by simp)
              have R3 : ∀ G : Grown wq, G.W.cell? ⟨gs, os + k3 * 5 + 3, none⟩ = some (.bool yc) := fun G => cell_grown b3 (gb_trans gwq G.h) (by simp)
              have R4 : ∀ G : Grown wq, G.W.cell? ⟨gs, os + k3 * 5 + 4, none⟩ = some (.slice A5 n5 k5) := fun G => cell_grown b4 (gb_trans gwq G.h) (by simp)
              clear a0 a1 a2 a3 a4 b0 b1 b2 b3 b4 hn6 hy
              refine wp_region_grown 17 0 (by simp only [List.take_succ_cons, List.take_zero]; rfl) (by kernel_rfl) (gb_drew (gb_refl _ _)) (by kernel_rfl) (by kernel_rfl) (by kernel_rfl) (by kernel_rfl) ?_
              repeat go_big_quiet_step (first
                | (rename_i G; with_reducible exact q1.out.at G))
              refine wpQuiet_nil ?_
              intro G
              refine wpAny_done (by kernel_rfl) ?_ _
              go_wp2_with fail
              go_roundg (lft ov6 bs6)
              case measure => have := hm6.out; exact this
              case rel => exact ⟨bs6, bo3, ov6, k3 + 1, exact_i hq1.out, hp6.out.grown (gb_trans g6q G.h), Nat.le_trans hl6.out hl3.out, rfl⟩

        · have hrest : Hid (BV w (.slice (some ⟨b0, o0 + kn, none⟩) (t.length - kn) (c0 - kn)) (t.drop kn)) := ⟨_, c0 - kn, by rw [List.length_drop], by rw [List.length_drop]; exact Nat.sub_le_sub_right hc0.out kn, fun _ => ⟨b0, o0 + kn, rfl, hba0.out.drop kn⟩⟩

          go_wp2_with (first
            | (go_at_call 9; refine (hfd2.out).mono ?_; clear hfd2; intro e w5 hf; unfold FcK at hf; rw [if_neg (by decide), if_neg hbig.out] at hf; obtain ⟨rfl, bo5, c5, g5, hb5⟩ := hf; have hp5 := Lib.hid (hc.out.feed c5 g5 hb5 (hc.out.hs.piece kn)); clear c5 g5 hb5)
            | (go_at_call 11; refine (hov.out).mono ?_; rintro e w4 ⟨rfl, hw4⟩; rw [hw4]; clear hw4))
          go_loopg [8] (lft false (bs ++ t.take kn)) (fun gk v8 wr => E2 w S w.heap.size (t.drop kn) gk v8 wr)
          case atStart => exact ⟨bs ++ t.take kn, bo5, false, k, rfl, hp5.out, hbl2.out, rfl⟩
          case round =>
            clear hp5 hov
            obtain ⟨bs3, bo3, ov3, k3, rfl, hp3, hl3, rfl⟩ := hrel
            by_cases hstop : ov3 = true ∨ nextP bs3 = .more
            · have hnx := Lib.hid (stop_hc m hp3 hmh.out (by omega) hstop)
              replace hstop := Lib.hid hstop
              replace hl3 := Lib.hid hl3
              clear hp3
              go_wp2_with (first
                | (go_at_call 10; refine (hnx.out).mono ?_; rintro e w6 ⟨rfl, hp6, g6⟩))
              go_roundg (t.length - kn)
              case measure => have := hk1.out; have := hk2.out; omega
              case rel =>
                refine ⟨t.drop kn, bs3, bo3, ov3, k3, n + 1, hrest.out, rfl, exact_i hw9.out, (hp6.grown (gb_alloc (gb_refl w6 none) _)), hstop.out, hl3.out, ?_, by rw [List.length_drop]⟩
                rw [List.length_drop]; have := hk1.out; have := hk2.out; have := hnth.out; omega
            · have hoc : ov3 = false := by cases ov3; rfl; exact absurd (.inl rfl) hstop
              subst hoc
              obtain ⟨hkl, hnx⟩ := tell_hc m hp3 hmh.out (by omega) hok.out (fun e => hstop (.inr e))
              replace hnx := Lib.hid hnx
              obtain ⟨gs, os, y, rfl, hy, b0, b1, b2, b3, b4⟩ := hsq.out k3 hkl
              obtain ⟨ym, yp, A4, n4, k4, yc, A5, n5, k5, rfl⟩ := hy.shape
              dsimp only at b0 b1 b2 b3 b4
              replace hl3 := Lib.hid hl3
              have hgb3 := hp3.gb
              have hkI : decide (S.length ≤ k3) = false := decide_eq_false (by omega)
              have hkI2 : (k3 : Int) < (S.length : Int) := by omega
              have hk0I : (0 : Int) ≤ (k3 : Int) := Int.natCast_nonneg k3
              have hq1 := Lib.hid (show wrap64 ((k3 : Int) + 1) = ((k3 + 1 : Nat) : Int) from (wrap64_id (by omega) (by have := hS2.out; omega)).trans (by omega))
              clear hp3 hstop
              go_upto_region 16 with (first
                | (go_at_call 10; refine (hnx.out).mono ?_; clear hnx; rintro e w6 ⟨xm, xp, A2, n2, k2, xc, A3, n3, q3, bs6, ov6, rfl, hx, hp6, hm6, hl6⟩; have hgb6 := hp6.gb; have hn6 := heap_alloc_new w6 (.cells #[.string xm, .string xp, .slice A2 n2 k2, .bool xc, .slice A3 n3 q3] 32); replace hp6 := Lib.hid hp6; replace hx := Lib.hid hx; replace hm6 := Lib.hid hm6; replace hl6 := Lib.hid hl6))
              obtain ⟨wq, hwq⟩ : ∃ wq, w6.alloc (.cells #[.string xm, .string xp, .slice A2 n2 k2, .bool xc, .slice A3 n3 q3] 32) = wq := ⟨_, rfl⟩
              rw [hwq] at hn6
              try rw [hwq]
              have g6q : w6.grownBy wq none := hwq ▸ gb_alloc (gb_refl _ _) _
              have gwq := gb_trans hgb6 g6q
              replace hwq := Lib.hid hwq
              have a0 : wq.cell? ⟨w6.heap.size, 0, none⟩ = some (.string xm) := by rw [cell_of_row _ _ _ _ _ _ hn6]; rfl
              have a1 : wq.cell? ⟨w6.heap.size, 1, none⟩ = some (.string xp) := by rw [cell_of_row _ _ _ _ _ _ hn6]; rfl
              have a2 : wq.cell? ⟨w6.heap.size, 2, none⟩ = some (.slice A2 n2 k2) := by rw [cell_of_row _ _ _ _ _ _ hn6]; rfl
              have a3 : wq.cell? ⟨w6.heap.size, 3, none⟩ = some (.bool xc) := by rw [cell_of_row _ _ _ _ _ _ hn6]; rfl
              have a4 : wq.cell? ⟨w6.heap.size, 4, none⟩ = some (.slice A3 n3 q3) := by rw [cell_of_row _ _ _ _ _ _ hn6]; rfl
              have q1 : Hid (QC Tryz.prog wq 13 #[.agg #[.string xm, .string xp, .slice A2 n2 k2, .bool xc, .slice A3 n3 q3], .agg #[.string ym, .string yp, .slice A4 n4 k4, .bool yc, .slice A5 n5 k5]] (.bool true)) := fun G =>
                (same_req (S[k3]) _ _ G.W (hx.out.grown (gb_trans g6q G.h)) (hy.grown (gb_trans gwq G.h))).mono fun e w' h => ⟨h.1, gb_trans G.h h.2⟩
              have P0 : ∀ G : Grown wq, G.W.cell? ⟨w6.heap.size, 0, none⟩ = some (.string xm) := fun G => cell_grown a0 G.h (by simp)
              have P1 : ∀ G : Grown wq, G.W.cell? ⟨w6.heap.size, 1, none⟩ = some (.string xp) := fun G => cell_grown a1 G.h (by simp)
              have P2 : ∀ G : Grown wq, G.W.cell? ⟨w6.heap.size, 2, none⟩ = some (.slice A2 n2 k2) := fun G => cell_grown a2 G.h (by simp)
              have P3 : ∀ G : Grown wq, G.W.cell? ⟨w6.heap.size, 3, none⟩ = some (.bool xc) := fun G => cell_grown a3 G.h (by simp)
              have P4 : ∀ G : Grown wq, G.W.cell? ⟨w6.heap.size, 4, none⟩ = some (.slice A3 n3 q3) := fun G => cell_grown a4 G.h (by simp)
              have R0 : ∀ G : Grown wq, G.W.cell? ⟨gs, os + k3 * 5, none⟩ = some (.string ym) := fun G => cell_grown b0 (gb_trans gwq G.h) (by simp)
              have R1 : ∀ G : Grown wq, G.W.cell? ⟨gs, os + k3 * 5 + 1, none⟩ = some (.string yp) := fun G => cell_grown b1 (gb_trans gwq G.h) (by simp)
              have R2 : ∀ G : Grown wq, G.W.cell? ⟨gs, os + k3 * 5 + 2, none⟩ = some (.slice A4 n4 k4) := fun G => cell_grown b2 (gb_trans gwq G.h) (by simp)
              have R3 : ∀ G : Grown wq, G.W.cell? ⟨gs, os + k3 * 5 + 3, none⟩ = some (.bool yc) := fun G => cell_grown b3 (gb_trans gwq G.h) (by simp)
              have R4 : ∀ G : Grown wq, G.W.cell? ⟨gs, os + k3 * 5 + 4, none⟩ = some (.slice A5 n5 k5) := fun G => cell_grown b4 (gb_trans gwq G.h) (by simp)
              clear a0 a1 a2 a3 a4 b0 b1 b2 b3 b4 hn6 hy
              refine wp_region_grown 17 0 (by simp only [List.take_succ_cons, List.take_zero]; rfl) (by kernel_rfl) (gb_drew (gb_refl _ _)) (by kernel_rfl) (by kernel_rfl) (by kernel_rfl) (by kernel_rfl) ?_
              repeat go_big_quiet_step (first
                | (rename_i G; with_reducible exact q1.out.at G))
              refine wpQuiet_nil ?_
              intro G
              refine wpAny_done (by kernel_rfl) ?_ _
              go_wp2_with fail
              go_roundg (lft ov6 bs6)
              case measure => have := hm6.out; exact this
              case rel => exact ⟨bs6, bo3, ov6, k3 + 1, exact_i hq1.out, hp6.out.grown (gb_trans g6q G.h), Nat.le_trans hl6.out hl3.out, rfl⟩

end Go.Proofs.YtdfgnoflohfnmaaGreatDoor.Hx
