/- HTTP: a response is read: the taker's status. -/
import Derived.Test.YtdfgnoflohfnmaaGreatDoorBd
import Derived.Test.YtdfgnoflohfnmaaGreatDoorHb
import Derived.Test.YtdfgnoflohfnmaaGreatDoorG1
import Derived.Deep.RegionHeld3
import Derived.BigQuiet
namespace Go.Proofs.YtdfgnoflohfnmaaGreatDoor.Hx
open Go.RowKit Go.Maps

/-- may a byte be a status' digit of that place? -/
def stB (k : Nat) (c : UInt8) : Bool := digB c && !(decide (k = 0) && (decide (c.toNat < 49) || decide (53 < c.toNat)))
theorem st_more {D : Bs} {k : Nat} (hk : k < 3) (hl : D.length ≤ k) (h : ∀ j (hj : j < D.length), j < k → stB j D[j] = true) : statL D = .inl 12 := by
  match D, hl, h with
  | [], _, _ => rfl
  | [a], hl, h =>
    have h0 := h 0 (by simp) (by simp at hl; omega)
    simp [stB] at h0
    unfold statL
    dsimp only
    rw [if_neg (by omega)]
  | [a, c], hl, h =>
    have h0 := h 0 (by simp) (by simp at hl; omega)
    have h1 := h 1 (by simp) (by simp at hl; omega)
    simp [stB] at h0 h1
    unfold statL
    dsimp only
    rw [if_neg (by omega)]
    try dsimp only
    rw [if_neg (by rw [h1]; decide)]
  | a :: c :: d :: t, hl, h => simp at hl; omega
theorem st_bad {D : Bs} {k : Nat} (hk : k < 3) (hl : k < D.length) (h : ∀ j (hj : j < D.length), j < k → stB j D[j] = true) (hb : stB k D[k] = false) : statL D = .inl 4 := by
  match k, D, hl, h, hb with
  | 0, a :: t, _, _, hb =>
    unfold statL
    dsimp only
    rw [if_pos ?_]
    simp [stB, digB] at hb
    omega
  | 1, a :: c :: t, _, h, hb =>
    have h0 := h 0 (by simp) (by omega)
    simp [stB] at h0 hb
    unfold statL
    dsimp only
    rw [if_neg (by omega)]
    try dsimp only
    rw [if_pos hb]
  | 2, a :: c :: d :: t, _, h, hb =>
    have h0 := h 0 (by simp) (by omega)
    have h1 := h 1 (by simp) (by omega)
    simp [stB] at h0 h1 hb
    unfold statL
    dsimp only
    rw [if_neg (by omega)]
    try dsimp only
    rw [if_neg (by rw [h1]; decide)]
    try dsimp only
    rw [if_pos hb]
theorem st_good {D : Bs} (hl : 3 ≤ D.length) (h : ∀ j (hj : j < D.length), j < 3 → stB j D[j] = true) : statL D = .inr (decV (D.take 3)) ∧ (D.take 3).all digB = true ∧ 0 ≤ decV (D.take 3) ∧ decV (D.take 3) ≤ 999 := by
  match D, hl, h with
  | a :: c :: d :: t, _, h =>
    have h0 := h 0 (by simp) (by omega)
    have h1 := h 1 (by simp) (by omega)
    have h2 := h 2 (by simp) (by omega)
    simp [stB] at h0 h1 h2
    have ha : (([a, c, d] : Bs).all digB) = true := by simp [h0.1, h1, h2]
    have b0 : 48 ≤ a.toNat ∧ a.toNat ≤ 57 := by have := h0.1; simpa [digB] using this
    have b1 : 48 ≤ c.toNat ∧ c.toNat ≤ 57 := by simpa [digB] using h1
    have b2 : 48 ≤ d.toNat ∧ d.toNat ≤ 57 := by simpa [digB] using h2
    have ed : decV [a, c, d] = 100 * ((a.toNat : Int) - 48) + 10 * ((c.toNat : Int) - 48) + ((d.toNat : Int) - 48) := by
      unfold decV
      simp only [List.foldl_cons, List.foldl_nil]
      omega
    refine ⟨?_, ha, by show 0 ≤ decV [a, c, d]; omega, by show decV [a, c, d] ≤ 999; omega⟩
    unfold statL
    dsimp only
    rw [if_neg (by omega)]
    try dsimp only
    rw [if_neg (by rw [h1]; decide)]
    try dsimp only
    rw [if_neg (by rw [h2]; decide)]
    show _ = Sum.inr (decV [a, c, d])
    rw [ed]
theorem stat_of {bs : Bs} {i : Nat} {e : Int} (h : statL (bs.drop i) = .inl e) : statP bs (0, i) = ((e, i), 0) := by unfold statP; rw [if_neg (by simp), h]
theorem stat_good {bs : Bs} {i : Nat} {n : Int} (h : statL (bs.drop i) = .inr n) : statP bs (0, i) = ((0, i + 3), n) := by unfold statP; rw [if_neg (by simp), h]
theorem exact_k {a b : Int} (h : a = b) : Value.int .i64 b = .int .i64 a := by rw [h]
theorem KB.shape {w : World} {R : Nat} {bw : Value} {bs : Bs} (h : KB w R bw bs) : ∃ A c, bw = .slice A bs.length c := by
  rcases h with ⟨A, c, e, h0⟩ | ⟨b, o, c, e, _⟩
  · subst h0; exact ⟨A, c, e⟩
  · exact ⟨_, c, e⟩
set_option maxRecDepth 100000 in
set_option maxHeartbeats 1600000 in
theorem status_any (R : Nat) (bw : Value) (bs : Bs) (x : Ps) (w : World) (h : KD w R bw bs x) (hl : bs.length ≤ 2000000) :
    Calls Tryz.prog 51 #[.pointer (some ⟨R, 0, none⟩)] w fun e w' => e = .returned (.int .i64 (statP bs x).2) ∧ KD w' R bw bs (statP bs x).1 ∧ w.grownBy w' (some R) := by
  obtain ⟨xe, i⟩ := x
  have c2 := h.k.c2
  dsimp only at c2
  by_cases h0 : xe = 0
  · subst h0
    have hi := h.i
    dsimp only at hi
    have hh := Lib.hid h
    clear h
    go_enter Tryz.func51, Tryz.ntmps51
    go_wp2_with fail
    go_loopg [11] 3 (fun z u11 wr => ∃ k : Nat, k ≤ 3 ∧ i + k ≤ bs.length ∧ z = 3 - k ∧ u11 = .int .i64 (k : Nat) ∧ Hid (∀ j (hj : j < (bs.drop i).length), j < k → stB j (bs.drop i)[j] = true) ∧ w.grownBy wr none)
    case atStart => exact ⟨0, Nat.zero_le _, hi, rfl, rfl, fun j _ hj => absurd hj (Nat.not_lt_zero _), gb_refl _ _⟩
    case round =>
      obtain ⟨k, hk, hkl, rfl, rfl, hp, hgr⟩ := hrel
      have hr := hh.out.gb hgr
      have d0 := hr.k.c0
      have d1 := hr.k.c1
      dsimp only at d1
      obtain ⟨D, hD⟩ : ∃ D, bs.drop i = D := ⟨_, rfl⟩
      have hDl : D.length = bs.length - i := by rw [← hD, List.length_drop]
      rw [hD] at hp
      by_cases hk3 : k < 3
      · have k3I : (k : Int) < 3 := by omega
        obtain ⟨j, hj⟩ : ∃ j : Nat, j = i + k := ⟨_, rfl⟩
        have w1 : IntKind.i64.wrap ((i : Int) + (k : Int)) = (j : Int) := (wrap_id (by omega) (by omega)).trans (by omega)
        have hjh := Lib.hid hj
        have hDh := Lib.hid hD
        by_cases hs : j < bs.length
        · have hkD : k < D.length := by omega
          have hbs : bs ≠ [] := by rintro rfl; simp at hs
          obtain ⟨b, o, c, rfl, hc, hbR, hba⟩ : ∃ b o c, bw = .slice (some ⟨b, o, none⟩) bs.length c ∧ bs.length ≤ c ∧ b ≠ R ∧ BA wr b o bs := by
            rcases hr.b with ⟨_, _, _, e⟩ | ⟨b, o, c, e, h1, h2, _, h3⟩
            · exact absurd e hbs
            · exact ⟨b, o, c, e, h1, h2, h3⟩
          have hsI : ¬ (bs.length : Int) ≤ (j : Int) := by omega
          have j0 : (0 : Int) ≤ (j : Int) := by omega
          have j1 : (j : Int) < (bs.length : Int) := by omega
          have hcj := hba j hs
          have hci := hba i (by omega)
          have i0 : (0 : Int) ≤ (i : Int) := by omega
          have i1 : (i : Int) < (bs.length : Int) := by omega
          have ej : bs[j] = D[k] := by simp only [← hD, List.getElem_drop, hj]
          obtain ⟨C, hC⟩ : ∃ C, D[k] = C := ⟨_, rfl⟩
          rw [ej, hC] at hcj
          obtain ⟨I, hI⟩ : ∃ I, bs[i] = I := ⟨_, rfl⟩
          rw [hI] at hci
          have hdg := fun W => Lib.hid (digit_any C W)
          have hrh := Lib.hid hr
          have hgh := Lib.hid hgr
          have hkl2 := Lib.hid (show i + (k + 1) ≤ bs.length by omega)
          have hbad := fun (e : stB k C = false) => Lib.hid (show statP bs (0, i) = ((4, i), 0) from stat_of (by rw [hD]; exact st_bad hk3 hkD hp.out (by rw [hC]; exact e)))
          have hgood := fun (e : stB k C = true) => Lib.hid (show ∀ q (hq : q < D.length), q < k + 1 → stB q D[q] = true from fun q hq hlt => by
            rcases Nat.lt_succ_iff_lt_or_eq.mp hlt with h | h
            · exact hp.out q hq h
            · subst h; rw [hC]; exact e)
          have hIC : k = 0 → I = C := by
            intro e
            subst e
            have e2 : j = i := by omega
            subst e2
            rw [← hI, ← hC, ← ej]
          have hfl := fun W (hW : wr.grownBy W none) => Lib.hid (fail_any R (.slice (some ⟨b, o, none⟩) bs.length c) (0, i) 4 W (hr.k.kept hW (by simp)))
          clear hp hj hD hDl hr hgr hba hI hC ej hkD hbs hs
          cases hd : digB C with
          | false =>
            have hB : stB k C = false := by unfold stB; rw [hd]; rfl
            rw [hd] at hdg
            clear hd hIC
            have hst := hbad hB
            clear hbad hgood hB
            go_wp2_with fail
            go_quiet (fail)
            go_wp2_with fail
            obtain ⟨wq, hwq⟩ : ∃ W, wr.drewN nq = W := ⟨_, rfl⟩
            have gq : wr.grownBy wq none := by rw [← hwq]; exact gb_drewN (gb_refl _ _) _
            have hrq := hrh.out.gb gq
            have d0 := hrq.k.c0
            have d1 := hrq.k.c1
            dsimp only at d1
            replace hcj := cell_grown hcj gq (by simp)
            replace hci := cell_grown hci gq (by simp)
            replace gq := Lib.hid gq
            rw [hwq]
            clear hwq hrq
            go_quiet (first
              | (go_at_call 78; with_reducible exact Calls.quiet_of_same (hdg _).out))
            go_wp2_with (first
              | (go_at_call 55; refine ((hfl _ (gb_drewN gq.out _)).out).mono ?_; rintro e w2 ⟨rfl, k2, g2⟩))
            go_ret
            rw [hst.out]
            have g3 := gb_trans (gb_row (gb_drewN gq.out _) (some R)) g2
            exact ⟨rfl, hrh.out.kept k2 g3 hi, gb_trans (gb_row hgh.out _) g3⟩
          | true =>
            rw [hd] at hdg
            by_cases hk0 : k = 0
            · have hCI := hIC hk0
              subst hCI
              have k0 : ((k : Int) == 0) = true := by rw [hk0]; rfl
              by_cases l1 : (I.toNat : Int) < 49
              · have hB : stB k I = false := by unfold stB; rw [hd, decide_eq_true hk0, decide_eq_true (show I.toNat < 49 by omega)]; rfl
                have dl1 := decide_eq_true l1
                clear hd hIC hk0 l1
                have hst := hbad hB
                clear hbad hgood hB
                go_wp2_with fail
                go_quiet (fail)
                go_wp2_with fail
                obtain ⟨wq, hwq⟩ : ∃ W, wr.drewN nq = W := ⟨_, rfl⟩
                have gq : wr.grownBy wq none := by rw [← hwq]; exact gb_drewN (gb_refl _ _) _
                have hrq := hrh.out.gb gq
                have d0 := hrq.k.c0
                have d1 := hrq.k.c1
                dsimp only at d1
                replace hcj := cell_grown hcj gq (by simp)
                replace hci := cell_grown hci gq (by simp)
                replace gq := Lib.hid gq
                rw [hwq]
                clear hwq hrq
                go_quiet (first
                  | (go_at_call 78; with_reducible exact Calls.quiet_of_same (hdg _).out))
                go_wp2_with (first
                  | (go_at_call 55; refine ((hfl _ (gb_drewN gq.out _)).out).mono ?_; rintro e w2 ⟨rfl, k2, g2⟩))
                go_ret
                rw [hst.out]
                have g3 := gb_trans (gb_row (gb_drewN gq.out _) (some R)) g2
                exact ⟨rfl, hrh.out.kept k2 g3 hi, gb_trans (gb_row hgh.out _) g3⟩
              · by_cases l2 : (53 : Int) < (I.toNat : Int)
                · have hB : stB k I = false := by unfold stB; rw [hd, decide_eq_true hk0, decide_eq_true (show 53 < I.toNat by omega), Bool.or_true]; rfl
                  have dl1 := decide_eq_false l1
                  have dl2 := decide_eq_true l2
                  clear hd hIC hk0 l1 l2
                  have hst := hbad hB
                  clear hbad hgood hB
                  go_wp2_with fail
                  go_quiet (fail)
                  go_wp2_with fail
                  obtain ⟨wq, hwq⟩ : ∃ W, wr.drewN nq = W := ⟨_, rfl⟩
                  have gq : wr.grownBy wq none := by rw [← hwq]; exact gb_drewN (gb_refl _ _) _
                  have hrq := hrh.out.gb gq
                  have d0 := hrq.k.c0
                  have d1 := hrq.k.c1
                  dsimp only at d1
                  replace hcj := cell_grown hcj gq (by simp)
                  replace hci := cell_grown hci gq (by simp)
                  replace gq := Lib.hid gq
                  rw [hwq]
                  clear hwq hrq
                  go_quiet (first
                    | (go_at_call 78; with_reducible exact Calls.quiet_of_same (hdg _).out))
                  go_wp2_with (first
                    | (go_at_call 55; refine ((hfl _ (gb_drewN gq.out _)).out).mono ?_; rintro e w2 ⟨rfl, k2, g2⟩))
                  go_ret
                  rw [hst.out]
                  have g3 := gb_trans (gb_row (gb_drewN gq.out _) (some R)) g2
                  exact ⟨rfl, hrh.out.kept k2 g3 hi, gb_trans (gb_row hgh.out _) g3⟩
                · have hB : stB k I = true := by unfold stB; rw [hd, decide_eq_true hk0, decide_eq_false (show ¬ 53 < I.toNat by omega), decide_eq_false (show ¬ I.toNat < 49 by omega)]; rfl
                  have dl1 := decide_eq_false l1
                  have dl2 := decide_eq_false l2
                  clear hd hIC hk0 l1 l2
                  have hst := hgood hB
                  clear hbad hgood hB hfl
                  go_wp2_with fail
                  go_quiet (fail)
                  go_wp2_with fail
                  obtain ⟨wq, hwq⟩ : ∃ W, wr.drewN nq = W := ⟨_, rfl⟩
                  have gq : wr.grownBy wq none := by rw [← hwq]; exact gb_drewN (gb_refl _ _) _
                  have hrq := hrh.out.gb gq
                  have d0 := hrq.k.c0
                  have d1 := hrq.k.c1
                  dsimp only at d1
                  replace hcj := cell_grown hcj gq (by simp)
                  replace hci := cell_grown hci gq (by simp)
                  replace gq := Lib.hid gq
                  rw [hwq]
                  clear hwq hrq
                  go_quiet (first
                    | (go_at_call 78; with_reducible exact Calls.quiet_of_same (hdg _).out))
                  go_wp2_with fail
                  go_roundg (3 - (k + 1))
                  case measure => omega
                  case rel => exact ⟨k + 1, hk3, hkl2.out, rfl, by first | exact exact_k (Int.natCast_add k 1) | rfl, by rw [hDh.out]; exact hst.out, gb_trans hgh.out (gb_drewN gq.out _)⟩
            · have k0 : ((k : Int) == 0) = false := by simpa using hk0
              have hB : stB k C = true := by unfold stB; rw [hd, decide_eq_false hk0]; rfl
              clear hd hIC hk0
              have hst := hgood hB
              clear hbad hgood hB hfl
              go_wp2_with fail
              go_quiet (fail)
              go_wp2_with fail
              obtain ⟨wq, hwq⟩ : ∃ W, wr.drewN nq = W := ⟨_, rfl⟩
              have gq : wr.grownBy wq none := by rw [← hwq]; exact gb_drewN (gb_refl _ _) _
              have hrq := hrh.out.gb gq
              have d0 := hrq.k.c0
              have d1 := hrq.k.c1
              dsimp only at d1
              replace hcj := cell_grown hcj gq (by simp)
              replace hci := cell_grown hci gq (by simp)
              replace gq := Lib.hid gq
              rw [hwq]
              clear hwq hrq
              go_quiet (first
                | (go_at_call 78; with_reducible exact Calls.quiet_of_same (hdg _).out))
              go_wp2_with fail
              go_roundg (3 - (k + 1))
              case measure => omega
              case rel => exact ⟨k + 1, hk3, hkl2.out, rfl, by first | exact exact_k (Int.natCast_add k 1) | rfl, by rw [hDh.out]; exact hst.out, gb_trans hgh.out (gb_drewN gq.out _)⟩
        · have hsI : (bs.length : Int) ≤ (j : Int) := by omega
          have hst := Lib.hid (show statP bs (0, i) = ((12, i), 0) from stat_of (by rw [hD]; exact st_more hk3 (by omega) hp.out))
          have hfl := fun W (hW : wr.grownBy W none) => Lib.hid (fail_any R bw (0, i) 12 W (hr.k.kept hW (by simp)))
          have hrh := Lib.hid hr
          have hgh := Lib.hid hgr
          have shp := KB.shape hr.b
          obtain ⟨A, c, rfl⟩ := shp
          clear hp hj hD hDl hr hgr
          go_wp2_with fail
          go_quiet (fail)
          go_wp2_with (first
            | (go_at_call 55; refine ((hfl _ (gb_drewN (gb_refl _ _) _)).out).mono ?_; rintro e w2 ⟨rfl, k2, g2⟩))
          go_ret
          rw [hst.out]
          have g3 := gb_trans (gb_row (gb_drewN (gb_refl wr none) _) (some R)) g2
          exact ⟨rfl, hrh.out.kept k2 g3 hi, gb_trans (gb_row hgh.out _) g3⟩
      · have hk3e : k = 3 := by omega
        subst hk3e
        have hDl3 : 3 ≤ D.length ∨ D.length < 3 := by omega
        by_cases hD3 : 3 ≤ D.length
        · obtain ⟨s1, s2, s3, s4⟩ := st_good hD3 (fun q hq hlt => hp.out q hq hlt)
          have hst := Lib.hid (show statP bs (0, i) = ((0, i + 3), decV (D.take 3)) from stat_good (by rw [hD]; exact s1))
          have hbs : bs ≠ [] := by intro e; have : bs.length = 0 := (by rw [e]; rfl); omega
          obtain ⟨b, o, c, rfl, hc, hbR, hba⟩ : ∃ b o c, bw = .slice (some ⟨b, o, none⟩) bs.length c ∧ bs.length ≤ c ∧ b ≠ R ∧ BA wr b o bs := by
            rcases hr.b with ⟨_, _, _, e⟩ | ⟨b, o, c, e, h1, h2, _, h3⟩
            · exact absurd e hbs
            · exact ⟨b, o, c, e, h1, h2, h3⟩
          obtain ⟨N, hN⟩ : ∃ N, decV (D.take 3) = N := ⟨_, rfl⟩
          rw [hN] at hst s3 s4
          obtain ⟨V, hV⟩ : ∃ V : ByteArray, (⟨(D.take 3).toArray⟩ : ByteArray) = V := ⟨_, rfl⟩
          have hVl : V.data.toList = D.take 3 := by rw [← hV]
          have hl3 : (D.take 3).length = 3 := by rw [List.length_take]; omega
          have hat := fun W => Lib.hid (show Calls Tryz.prog 79 #[.string V] W _ from Tryz.strconv_Atoi V N (by rw [ba_size, hVl, hl3]; omega) (by rw [hVl, ← hN]; exact atoi_dig s2 (by omega)) W)
          have hbD : BA wr b (o + i) D := by rw [← hD]; exact hba.drop i
          have hcv : ∀ W, wr.grownBy W none → (convert 22 9 (.slice (some ⟨b, o + i, none⟩) 3 (c - i))).run Tryz.prog W = .ok (.string V) W := fun W hW => by
            rw [← hV]
            exact BV.str (w := W) (bs := D.take 3) ⟨_, c - i, by rw [hl3], by rw [hl3]; omega, fun _ => ⟨b, o + i, rfl, (hbD.grown hW (by simp)).take 3⟩⟩
          have hcvh := Lib.hid hcv
          have i0 : (0 : Int) ≤ (i : Int) := by omega
          have i3 : (i : Int) ≤ (i : Int) + 3 := by omega
          have ic : (i : Int) + 3 ≤ (c : Int) := by omega
          have w3 : IntKind.i64.wrap ((i : Int) + 3) = (i : Int) + 3 := wrap_id (by omega) (by omega)
          have nci : ¬ c = i := by omega
          have sub3 : ((i : Int) + 3).toNat - i = 3 := by omega
          have hi3 : i + 3 ≤ bs.length := by omega
          have hw64 := Lib.hid (show wrap64 ((i : Int) + 3) = ((i + 3 : Nat) : Int) from (wrap64_id (by omega) (by omega)).trans (by omega))
          have hrh := Lib.hid hr
          have hgh := Lib.hid hgr
          have hi3h := Lib.hid hi3
          clear hp hD hDl hr hgr hba hN hV hVl hl3 hbD s1 s2 hbs hD3 hDl3 hcv hk hk3 hc hi3
          have kS : ∀ W, wr.grownBy W none → W.cell? ⟨R, 0, none⟩ = some (.slice (some ⟨b, o, none⟩) bs.length c) ∧ W.cell? ⟨R, 1, none⟩ = some (.int .i64 (i : Nat)) := fun W hW => ⟨(hrh.out.gb hW).k.c0, (hrh.out.gb hW).k.c1⟩
          go_upto_region 13 with fail
          go_cut [4] from 77 to 95 (fun u4 wx => u4 = .int .i64 N ∧ wr.grownBy wx none)
          case first =>
            have P0 : ∀ G : Grown wr, G.W.cell? ⟨R, 0, none⟩ = some (.slice (some ⟨b, o, none⟩) bs.length c) := fun G => (kS G.W G.h).1
            have P1 : ∀ G : Grown wr, G.W.cell? ⟨R, 1, none⟩ = some (.int .i64 (i : Nat)) := fun G => (kS G.W G.h).2
            have cG : ∀ G : Grown wr, (convert 22 9 (.slice (some ⟨b, o + i, none⟩) 3 (c - i))).run Tryz.prog G.W = .ok (.string V) G.W := fun G => hcvh.out G.W G.h
            have q1 : Hid (QC Tryz.prog wr 79 #[.string V] (.tuple #[.int .i64 N, .nilIface])) := fun G => (hat G.W).out.mono fun e w' h => ⟨h.1, by obtain ⟨_, t, hw2⟩ := h; rw [hw2]; exact gb_trans G.h (gb_of_below (Lib.bytesWorld_below _ _ _))⟩
            refine wp_region_grown 21 0 (by simp only [List.take_succ_cons, List.take_zero]; rfl) (by kernel_rfl) (gb_drew (gb_refl _ _)) (by kernel_rfl) (by kernel_rfl) (by kernel_rfl) (by kernel_rfl) ?_
            repeat go_big_quiet_step (first
              | (rename_i G; with_reducible exact q1.out.at G))
            refine wpQuiet_nil ?_
            intro G
            refine wpAny_done (by kernel_rfl) ?_ _
            go_wp2_with fail
            go_meet
            exact ⟨rfl, G.h⟩
          case rest =>
            obtain ⟨rfl, g2⟩ := hcut
            have h2 := hrh.out.gb g2
            have y1 := h2.k.c1
            have yf := h2.k.f 1
            dsimp only at y1
            have g2h := Lib.hid g2
            replace h2 := Lib.hid h2
            have hw := hw64.out
            clear hcvh kS hat g2
            go_wp2_with fail
            go_ret
            rw [hst.out]
            exact ⟨rfl, h2.out.kept (h2.out.k.set1 (i + 3)) (gb_setR (gb_refl _ _) _ _) hi3h.out, gb_trans (gb_row (gb_trans hgh.out g2h.out) _) (gb_setR (gb_refl _ _) _ _)⟩
        · exfalso
          omega
  · have hs := Lib.hid (show statP bs (xe, i) = ((xe, i), 0) from by unfold statP; rw [if_pos h0])
    have e0 : (xe != 0) = true := by simpa using h0
    have hh := Lib.hid h
    clear h0 h
    go_enter Tryz.func51, Tryz.ntmps51
    go_wp2_with fail
    go_ret
    rw [hs.out]
    exact ⟨rfl, hh.out, gb_refl _ _⟩
end Go.Proofs.YtdfgnoflohfnmaaGreatDoor.Hx
