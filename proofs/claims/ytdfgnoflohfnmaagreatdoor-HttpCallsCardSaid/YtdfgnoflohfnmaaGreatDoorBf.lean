/- HTTP: a response is read: the taker's number. -/
import Derived.Test.YtdfgnoflohfnmaaGreatDoorBe
namespace Go.Proofs.YtdfgnoflohfnmaaGreatDoor.Hx
open Go.RowKit Go.Maps

/-- the taker's block; where there is an error, the place does not matter -/
def KX (w : World) (R : Nat) (bw : Value) (bs : Bs) (x : Ps) : Prop := ∃ j, (x.1 = 0 → j = x.2) ∧ KD w R bw bs (x.1, j)
theorem KD.x {w : World} {R : Nat} {bw : Value} {bs : Bs} {x : Ps} (h : KD w R bw bs x) : KX w R bw bs x := ⟨x.2, fun _ => rfl, h⟩
theorem KX.ok {w : World} {R : Nat} {bw : Value} {bs : Bs} {x : Ps} (h : KX w R bw bs x) (h0 : x.1 = 0) : KD w R bw bs x := by
  obtain ⟨j, hj, hk⟩ := h
  obtain ⟨e, i⟩ := x
  have := hj h0
  dsimp only at this hk
  rw [← this]; exact hk
theorem KX.gb {w w' : World} {R : Nat} {bw : Value} {bs : Bs} {x : Ps} (h : KX w R bw bs x) (hg : w.grownBy w' none) : KX w' R bw bs x := by
  obtain ⟨j, hj, hk⟩ := h
  exact ⟨j, hj, hk.gb hg⟩
/-- what number leaves -/
def NmK (R : Nat) (bw : Value) (bs : Bs) (x : Ps) (w : World) (e : Ending) (w' : World) : Prop :=
  ∃ v : Int, e = .returned (.int .i64 v) ∧ ((numP bs 1048576 x).1.1 = 0 → v = (numP bs 1048576 x).2) ∧ KX w' R bw bs (numP bs 1048576 x).1 ∧ w.grownBy w' (some R)
theorem num_of {bs : Bs} {i : Nat} {e : Int} (h : numL 1048576 false 0 0 (bs.drop i) = .inl e) : numP bs 1048576 (0, i) = ((e, i), 0) := by unfold numP; rw [if_neg (by simp), h]
theorem num_good {bs : Bs} {i : Nat} {n : Int} {k : Nat} (h : numL 1048576 false 0 0 (bs.drop i) = .inr (n, k)) : numP bs 1048576 (0, i) = ((0, i + k), n) := by unfold numP; rw [if_neg (by simp), h]
theorem NmK.bad {R : Nat} {bw : Value} {bs : Bs} {i j : Nat} {w w' : World} {v e : Int} (h : numL 1048576 false 0 0 (bs.drop i) = .inl e) (he : e ≠ 0) (hk : KD w' R bw bs (e, j)) (hg : w.grownBy w' (some R)) : NmK R bw bs (0, i) w (.returned (.int .i64 v)) w' := by
  unfold NmK
  rw [num_of h]
  exact ⟨v, rfl, fun h => absurd h he, ⟨j, fun h => absurd h he, hk⟩, hg⟩
theorem NmK.good {R : Nat} {bw : Value} {bs : Bs} {i k : Nat} {w w' : World} {n : Int} (h : numL 1048576 false 0 0 (bs.drop i) = .inr (n, k)) (hk : KD w' R bw bs (0, i + k)) (hg : w.grownBy w' (some R)) : NmK R bw bs (0, i) w (.returned (.int .i64 n)) w' := by
  unfold NmK
  rw [num_good h]
  exact ⟨n, rfl, fun _ => rfl, hk.x, hg⟩
/-- the loop: so much is read -/
structure NI (bs : Bs) (i : Nat) (k : Nat) (n : Int) (z : Bool) : Prop where
  eq : numL 1048576 false 0 0 (bs.drop i) = numL 1048576 z k n (bs.drop (i + k))
  le : i + k ≤ bs.length
  n0 : 0 ≤ n
  n1 : n ≤ 1048576
  z : ∀ h : i < bs.length, 0 < k → z = decide (bs[i].toNat = 48)
theorem NI.cons {bs : Bs} {i k : Nat} {n : Int} {z : Bool} (h : NI bs i k n z) (hl : i + k < bs.length) : numL 1048576 false 0 0 (bs.drop i) = numL 1048576 z k n (bs[i + k] :: bs.drop (i + k + 1)) := by
  rw [h.eq, List.drop_eq_getElem_cons hl]
theorem NI.done {bs : Bs} {i k : Nat} {n : Int} {z : Bool} (h : NI bs i k n z) (hl : i + k = bs.length) : numL 1048576 false 0 0 (bs.drop i) = .inl 12 := by
  rw [h.eq, List.drop_eq_nil_of_le (by omega)]; rfl
theorem NI.stop {bs : Bs} {i k : Nat} {n : Int} {z : Bool} (h : NI bs i k n z) (hl : i + k < bs.length) (hd : digB bs[i + k] = false) : numL 1048576 false 0 0 (bs.drop i) = if k = 0 then .inl 4 else .inr (n, k) := by
  rw [h.cons hl]; unfold numL; rw [if_neg (by rw [hd]; decide)]
theorem NI.wrong {bs : Bs} {i k : Nat} {n : Int} {z : Bool} (h : NI bs i k n z) (hl : i + k < bs.length) (hd : digB bs[i + k] = true) (hb : 1048576 < n * 10 + ((bs[i + k].toNat : Int) - 48) ∨ (0 < k ∧ z = true)) : numL 1048576 false 0 0 (bs.drop i) = .inl 4 := by
  rw [h.cons hl]; unfold numL; rw [if_pos hd, if_pos hb]
theorem NI.step {bs : Bs} {i k : Nat} {n : Int} {z : Bool} (h : NI bs i k n z) (hl : i + k < bs.length) (hd : digB bs[i + k] = true) (hb : ¬ (1048576 < n * 10 + ((bs[i + k].toNat : Int) - 48) ∨ (0 < k ∧ z = true))) : NI bs i (k + 1) (n * 10 + ((bs[i + k].toNat : Int) - 48)) (if k = 0 then decide (bs[i + k].toNat = 48) else z) := by
  have hd2 : 48 ≤ bs[i + k].toNat ∧ bs[i + k].toNat ≤ 57 := by simpa [digB] using hd
  have h0 := h.n0
  refine ⟨?_, by omega, by omega, by omega, fun hi _ => ?_⟩
  · rw [h.cons hl]
    conv => lhs; unfold numL
    rw [if_pos hd, if_neg hb]
    rfl
  · split
    · next e => subst e; rfl
    · next e => exact h.z hi (by omega)
set_option maxRecDepth 100000 in
set_option maxHeartbeats 1600000 in
theorem number_any (R : Nat) (bw : Value) (bs : Bs) (x : Ps) (w : World) (h : KD w R bw bs x) (hl : bs.length ≤ 2000000) :
    Calls Tryz.prog 53 #[.pointer (some ⟨R, 0, none⟩), .int .i64 0, .int .i64 1048576] w (NmK R bw bs x w) := by
  obtain ⟨xe, i⟩ := x
  have c2 := h.k.c2
  dsimp only at c2
  by_cases h0 : xe = 0
  · subst h0
    have hi := h.i
    have c1 := h.k.c1
    dsimp only at hi c1
    have hh := Lib.hid h
    clear h
    go_enter Tryz.func53, Tryz.ntmps53
    go_wp2_with fail
    go_loopg [8] (bs.length - i) (fun g u8 wr => ∃ (k : Nat) (n : Int) (z : Bool), g = bs.length - (i + k) ∧ u8 = .int .i64 n ∧ NI bs i k n z ∧ KD wr R bw bs (0, i + k) ∧ w.grownBy wr (some R))
    case atStart => exact ⟨0, 0, false, rfl, rfl, ⟨rfl, hi, Int.le_refl _, by omega, fun _ h => absurd h (Nat.lt_irrefl _)⟩, hh.out, gb_refl _ _⟩
    case round =>
      obtain ⟨k, n, z, rfl, rfl, hn, hr, hgr⟩ := hrel
      have d0 := hr.k.c0
      have d1 := hr.k.c1
      dsimp only at d1
      obtain ⟨j, hj⟩ : ∃ j : Nat, i + k = j := ⟨_, rfl⟩
      rw [hj] at d1
      have hle := hn.le
      have hrh := Lib.hid hr
      have hgh := Lib.hid hgr
      by_cases hs : j < bs.length
      · have hbs : bs ≠ [] := by intro e; have : bs.length = 0 := (by rw [e]; rfl); omega
        obtain ⟨b, o, c, rfl, hc, hbR, hba⟩ : ∃ b o c, bw = .slice (some ⟨b, o, none⟩) bs.length c ∧ bs.length ≤ c ∧ b ≠ R ∧ BA wr b o bs := by
          rcases hr.b with ⟨_, _, _, e⟩ | ⟨b, o, c, e, h1, h2, _, h3⟩
          · exact absurd e hbs
          · exact ⟨b, o, c, e, h1, h2, h3⟩
        have hsI : decide (j < bs.length) = true := decide_eq_true hs
        have hje : ((j : Int) == (bs.length : Int)) = false := by simp; omega
        have j0 : (0 : Int) ≤ (j : Int) := by omega
        have j1 : (j : Int) < (bs.length : Int) := by omega
        have i0 : (0 : Int) ≤ (i : Int) := by omega
        have i1 : (i : Int) < (bs.length : Int) := by omega
        have hcj := hba j hs
        have hci := hba i (by omega)
        have hs' : i + k < bs.length := by omega
        have ej : bs[i + k] = bs[j] := by simp only [hj]
        obtain ⟨C, hC⟩ : ∃ C, bs[j] = C := ⟨_, rfl⟩
        rw [hC] at hcj ej
        obtain ⟨I, hI⟩ : ∃ I, bs[i] = I := ⟨_, rfl⟩
        rw [hI] at hci
        have hz := hn.z (by omega)
        rw [hI] at hz
        have hstop := hn.stop hs'
        have hwrong := hn.wrong hs'
        have hstep := hn.step hs'
        simp only [ej] at hstop hwrong hstep
        have hn0 := hn.n0
        have hn1 := hn.n1
        have hdg := fun W => Lib.hid (digit_any C W)
        clear hn hr hgr hba hbs hs' ej hC hI hle
        cases hd : digB C with
        | false =>
          rw [hd] at hdg
          have hst := Lib.hid (hstop hd)
          clear hd hstop hwrong hstep hz
          go_wp2_with fail
          go_quiet (first
            | (go_at_call 78; with_reducible exact Calls.quiet_of_same (hdg _).out))
          go_wp2_with fail
          obtain ⟨wq, hwq⟩ : ∃ W, wr.drewN nq = W := ⟨_, rfl⟩
          have gq : wr.grownBy wq none := by rw [← hwq]; exact gb_drewN (gb_refl _ _) _
          have hrq := hrh.out.gb gq
          have d0 := hrq.k.c0
          have d1 := hrq.k.c1
          dsimp only at d1
          rw [hj] at d1
          replace hcj := cell_grown hcj gq (by simp)
          replace hci := cell_grown hci gq (by simp)
          replace gq := Lib.hid gq
          rw [hwq]
          clear hwq
          replace hrq := Lib.hid hrq
          by_cases hk0 : k = 0
          · have hji : ((j : Int) == (i : Int)) = true := by simp; omega
            have hst2 := Lib.hid (hst.out.trans (if_pos hk0))
            have hfl := fun q => Lib.hid (fail_any R (.slice (some ⟨b, o, none⟩) bs.length c) (0, i + k) 4 (wq.drewN q) (hrq.out.k.kept (row := none) (gb_drewN (gb_refl _ _) q) (by simp)))
            clear hst hk0
            go_quiet (fail)
            go_wp2_with (first
              | (go_at_call 55; refine ((hfl _).out).mono ?_; rintro e w2 ⟨rfl, k2, g2⟩))
            go_ret
            have g3 := gb_trans (gb_row (gb_drewN gq.out _) (some R)) g2
            exact NmK.bad hst2.out (by decide) (hrh.out.kept k2 g3 (by have := hrh.out.i; exact this)) (gb_trans hgh.out g3)
          · have hji : ((j : Int) == (i : Int)) = false := by simp; omega
            have hst2 := Lib.hid (hst.out.trans (if_neg hk0))
            have hnn : ¬ n < 0 := by omega
            clear hst hk0
            go_quiet (fail)
            go_wp2_with fail
            go_ret
            exact NmK.good hst2.out (hrq.out.gb (gb_drewN (gb_refl _ _) _)) (gb_trans hgh.out (gb_row (gb_drewN gq.out _) _))
        | true =>
          rw [hd] at hdg
          have hC2 : 48 ≤ C.toNat ∧ C.toNat ≤ 57 := by simpa [digB] using hd
          obtain ⟨N, hN⟩ : ∃ N : Int, n * 10 + ((C.toNat : Int) - 48) = N := ⟨_, rfl⟩
          have m1 : IntKind.i64.wrap (n * 10) = n * 10 := wrap_id (by omega) (by omega)
          have m2 : IntKind.u8.wrap ((C.toNat : Int) - 48) = (C.toNat : Int) - 48 := wrap_u8 (by omega) (by omega)
          have m3 : IntKind.i64.wrap (n * 10 + ((C.toNat : Int) - 48)) = N := (wrap_id (by omega) (by omega)).trans hN
          have m4h := Lib.hid (show wrap64 (n * 10 + wrap64 ((C.toNat : Int) - 48)) = N from by rw [wrap64_id (x := (C.toNat : Int) - 48) (by omega) (by omega), wrap64_id (by omega) (by omega)]; exact hN)
          have hstepd := hstep hd
          have hwrongd := hwrong hd
          rw [hN] at hstepd hwrongd
          have w1 := Lib.hid (show wrap64 ((j : Int) + 1) = ((i + (k + 1) : Nat) : Int) from (wrap64_id (by omega) (by omega)).trans (by omega))
          have hlt2 := Lib.hid (show i + (k + 1) ≤ bs.length by omega)
          have hms := Lib.hid (show bs.length - (i + (k + 1)) < bs.length - (i + k) by omega)
          clear hd hstop hwrong hstep hN hC2
          go_wp2_with fail
          go_quiet (first
            | (go_at_call 78; with_reducible exact Calls.quiet_of_same (hdg _).out))
          go_wp2_with fail
          obtain ⟨wq, hwq⟩ : ∃ W, wr.drewN nq = W := ⟨_, rfl⟩
          have gq : wr.grownBy wq none := by rw [← hwq]; exact gb_drewN (gb_refl _ _) _
          have hrq := hrh.out.gb gq
          have d0 := hrq.k.c0
          have d1 := hrq.k.c1
          dsimp only at d1
          rw [hj] at d1
          replace hcj := cell_grown hcj gq (by simp)
          replace hci := cell_grown hci gq (by simp)
          replace gq := Lib.hid gq
          rw [hwq]
          clear hwq
          replace hrq := Lib.hid hrq
          have m4 : wrap64 (n * 10 + wrap64 ((C.toNat : Int) - 48)) = N := m4h.out
          go_quiet (fail)
          rw [m4]
          clear m1 m2 m3 m4
          by_cases hbig : 1048576 < N
          · skip
            have hst := Lib.hid (hwrongd (.inl hbig))
            have hfl := fun q => Lib.hid (fail_any R (.slice (some ⟨b, o, none⟩) bs.length c) (0, i + k) 4 (wq.drewN q) (hrq.out.k.kept (row := none) (gb_drewN (gb_refl _ _) q) (by simp)))
            clear hwrongd hstepd hz
            go_wp2_with (first
              | (go_at_call 55; refine ((hfl _).out).mono ?_; rintro e w2 ⟨rfl, k2, g2⟩))
            go_ret
            have g3 := gb_trans (gb_row (gb_drewN gq.out _) (some R)) g2
            exact NmK.bad hst.out (by decide) (hrh.out.kept k2 g3 (by have := hrh.out.i; exact this)) (gb_trans hgh.out g3)
          · by_cases hk0 : k = 0
            · have hij : ¬ (i : Int) < (j : Int) := by omega
              have hst := Lib.hid (hstepd (by intro e; rcases e with e | e; exact hbig e; omega))
              have f1 := hrq.out.k.f 1
              clear hwrongd hstepd hz
              go_wp2_with fail
              go_roundg (bs.length - (i + (k + 1)))
              case measure => have := hms.out; omega
              case rel =>
                have hq2 := hrq.out.gb (gb_drewN (gb_refl wq none) nq)
                rw [show ((j : Int) + 1) = ((i + (k + 1) : Nat) : Int) from by omega]
                exact ⟨k + 1, N, _, rfl, rfl, hst.out, hq2.kept (hq2.k.set1 (i + (k + 1))) (gb_setR (gb_refl _ _) _ _) hlt2.out, gb_trans hgh.out (gb_trans (gb_row (gb_drewN gq.out _) _) (gb_setR (gb_refl _ _) _ _))⟩
            · have hij : (i : Int) < (j : Int) := by omega
              have hzz := hz (by omega)
              by_cases hI48 : I.toNat = 48
              · have e48 : ((I.toNat : Int) == 48) = true := by rw [hI48]; rfl
                have hz1 : z = true := by rw [hzz]; exact decide_eq_true hI48
                have hst := Lib.hid (hwrongd (.inr ⟨by omega, hz1⟩))
                have hfl := fun q => Lib.hid (fail_any R (.slice (some ⟨b, o, none⟩) bs.length c) (0, i + k) 4 (wq.drewN q) (hrq.out.k.kept (row := none) (gb_drewN (gb_refl _ _) q) (by simp)))
                clear hwrongd hstepd hz
                go_wp2_with (first
                  | (go_at_call 55; refine ((hfl _).out).mono ?_; rintro e w2 ⟨rfl, k2, g2⟩))
                go_ret
                have g3 := gb_trans (gb_row (gb_drewN gq.out _) (some R)) g2
                exact NmK.bad hst.out (by decide) (hrh.out.kept k2 g3 (by have := hrh.out.i; exact this)) (gb_trans hgh.out g3)
              · have e48 : ((I.toNat : Int) == 48) = false := by simp; omega
                have hz1 : z = false := by rw [hzz]; exact decide_eq_false hI48
                have hst := Lib.hid (hstepd (by intro e; rcases e with e | e; exact hbig e; rw [hz1] at e; cases e.2))
                have f1 := hrq.out.k.f 1
                clear hwrongd hstepd hz
                go_wp2_with fail
                go_roundg (bs.length - (i + (k + 1)))
                case measure => have := hms.out; omega
                case rel =>
                  have hq2 := hrq.out.gb (gb_drewN (gb_refl wq none) nq)
                  rw [show ((j : Int) + 1) = ((i + (k + 1) : Nat) : Int) from by omega]
                  exact ⟨k + 1, N, _, rfl, rfl, hst.out, hq2.kept (hq2.k.set1 (i + (k + 1))) (gb_setR (gb_refl _ _) _ _) hlt2.out, gb_trans hgh.out (gb_trans (gb_row (gb_drewN gq.out _) _) (gb_setR (gb_refl _ _) _ _))⟩
      · have hsI : decide (j < bs.length) = false := decide_eq_false (by omega)
        have hje : ((j : Int) == (bs.length : Int)) = true := by simp; omega
        have hje2 : j = bs.length := by omega
        have hdn := Lib.hid (hn.done (by omega))
        obtain ⟨A, c, rfl⟩ := KB.shape hr.b
        clear hn hr hgr hs hle
        go_wp2_with fail
        go_quiet (fail)
        go_wp2_with fail
        obtain ⟨wq, hwq⟩ : ∃ W, wr.drewN nq = W := ⟨_, rfl⟩
        have gq : wr.grownBy wq none := by rw [← hwq]; exact gb_drewN (gb_refl _ _) _
        have hrq := hrh.out.gb gq
        have d0 := hrq.k.c0
        have d1 := hrq.k.c1
        dsimp only at d1
        rw [hj] at d1
        replace gq := Lib.hid gq
        rw [hwq]
        clear hwq
        replace hrq := Lib.hid hrq
        have hfl := fun q => Lib.hid (fail_any R (.slice A bs.length c) (0, i + k) 12 (wq.drewN q) (hrq.out.k.kept (row := none) (gb_drewN (gb_refl _ _) q) (by simp)))
        go_quiet (fail)
        go_wp2_with (first
          | (go_at_call 55; refine ((hfl _).out).mono ?_; rintro e w2 ⟨rfl, k2, g2⟩))
        go_ret
        have g3 := gb_trans (gb_row (gb_drewN gq.out _) (some R)) g2
        exact NmK.bad hdn.out (by decide) (hrh.out.kept k2 g3 (by have := hrh.out.i; exact this)) (gb_trans hgh.out g3)
  · have hs := Lib.hid (show numP bs 1048576 (xe, i) = ((xe, i), 0) from by unfold numP; rw [if_pos h0])
    have e0 : (xe != 0) = true := by simpa using h0
    have hh := Lib.hid h
    have h0h := Lib.hid h0
    clear h0 h
    go_enter Tryz.func53, Tryz.ntmps53
    go_wp2_with fail
    go_ret
    unfold NmK
    rw [hs.out]
    exact ⟨0, rfl, fun h => rfl, hh.out.x, gb_refl _ _⟩
end Go.Proofs.YtdfgnoflohfnmaaGreatDoor.Hx
