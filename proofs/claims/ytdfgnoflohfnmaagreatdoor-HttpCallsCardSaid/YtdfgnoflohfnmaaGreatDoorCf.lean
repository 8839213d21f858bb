/- HTTP: a request is sent, as the document has it: the walk. -/
import Derived.Test.YtdfgnoflohfnmaaGreatDoorCe
namespace Go.Proofs.YtdfgnoflohfnmaaGreatDoor.Hx
open Go.RowKit Go.Maps

set_option maxRecDepth 100000 in
set_option maxHeartbeats 6400000 in
theorem rsend_any (r : Rq) (x : R5) (w : World) (hx : RA w (fun _ => True) r x) (hsm : SmR r) :
    Calls Tryz.prog 28 #[x.val] w (SdK r w) := by
  obtain ⟨rm, rp, q, body, cl⟩ := r
  obtain ⟨M, P, qv, cl1, bv⟩ := x
  have hm1 := hx.m
  have hp1 := hx.p
  have hc1 := hx.cl
  dsimp only at hm1 hp1 hc1
  obtain ⟨A, c, b, o, hA0, hl, hA, hcl⟩ := hx.q
  unfold maxLen at hl
  dsimp only at hA0 hA hcl hl
  subst hA0 hc1
  obtain ⟨A2, c2, hb0, hb1, hb2⟩ := hx.b.bv
  dsimp only at hb0 hb1 hb2
  subst hb0
  have hbv : BV w (.slice A2 body.length c2) body := ⟨A2, c2, rfl, hb1, hb2⟩
  obtain ⟨s1, s2, s3, s4, s5⟩ := hsm
  dsimp only at s1 s2 s3 s4 s5
  have hMs : M.size = rm.length := by rw [hm1]; show rm.toArray.size = _; simp
  have hPs : P.size = rp.length := by rw [hp1]; show rp.toArray.size = _; simp
  have hMd : M.data.toList = rm := by rw [hm1]
  have hPd : P.data.toList = rp := by rw [hp1]
  clear hm1 hp1 hx
  obtain ⟨W1, hW1⟩ : ∃ W1, w.alloc (.cells #[.string M, .string P, .slice A q.length c, .bool cl1, .slice A2 body.length c2] 32) = W1 := ⟨_, rfl⟩
  have hgw : w.grownBy W1 none := hW1 ▸ gb_alloc (gb_refl w none) _
  have e0 : W1.heap[w.heap.size]? = some (.cells #[.string M, .string P, .slice A q.length c, .bool cl1, .slice A2 body.length c2] 32 (0, 0)) := hW1 ▸ heap_alloc_new w _
  have kF : ∀ W, W1.grownBy W none → ZF W w.heap.size (.string M) (.string P) (.slice A q.length c) (.bool cl1) (.slice A2 body.length c2) := fun W hW => (hW.block _ (Array.getElem?_eq_some_iff.1 e0).1 (by simp)).trans e0
  have z1 := kF W1 (gb_refl _ _)
  have z0 := z1.c0
  have zp := z1.c1
  have zq := z1.c2
  clear e0 z1
  have kFh := Lib.hid kF
  clear kF
  show Calls Tryz.prog 28 #[.agg #[.string M, .string P, .slice A q.length c, .bool cl1, .slice A2 body.length c2]] w _
  go_enter Tryz.func28, Tryz.ntmps28
  go_upto_region 1 with fail
  try rw [hW1]
  go_cut [38] from 11 (fun u38 wx => u38 = .bool (!fine0 rm rp) ∧ wx = W1)
  case first =>
    have hpl := fun W => Lib.hid (rplain_any 32 P W (by omega))
    rw [rgB_pr, hPd] at hpl
    have hf0 : fine0 rm rp = (decide (1 ≤ rm.length) && decide (rm.length ≤ 16) && Lib.hasPrefix rp [47] && rp.all prB) := rfl
    by_cases c1 : (M.size : Int) < 1
    · have hF : Hid (fine0 rm rp = false) := Lib.hid (by rw [hf0, decide_eq_false (by omega : ¬ 1 ≤ rm.length)]; rfl)
      clear hf0
      go_wp2_with fail
      go_meet
      exact ⟨by rw [hF.out]; first | rfl | (simp; omega), rfl⟩
    by_cases c2' : (16 : Int) < (M.size : Int)
    · have hF : Hid (fine0 rm rp = false) := Lib.hid (by rw [hf0, decide_eq_false (by omega : ¬ rm.length ≤ 16), Bool.and_false]; rfl)
      clear hf0
      go_wp2_with fail
      go_meet
      exact ⟨by rw [hF.out]; first | rfl | (simp; omega), rfl⟩
    by_cases c3 : (P.size : Int) < 1
    · have hF : Hid (fine0 rm rp = false) := Lib.hid (by
        have e : rp = [] := List.length_eq_zero_iff.1 (by omega)
        rw [hf0, e]
        simp [Lib.hasPrefix])
      clear hf0
      go_wp2_with fail
      go_meet
      exact ⟨by rw [hF.out]; first | rfl | (simp; omega), rfl⟩
    have hP0 : 0 < P.size := by omega
    have hh := hp_ba P hP0
    rw [hPd] at hh
    have i0 : (0 : Int) < (P.size : Int) := by omega
    by_cases c4 : P[0].toNat = 47
    · have c4' : ((P[0].toNat : Int) == 47) = true := by simp; omega
      have c4n : ((P[0].toNat : Int) != 47) = false := by simp; omega
      rw [decide_eq_true c4] at hh
      have hf1 : fine0 rm rp = rp.all prB := by rw [hf0, hh, decide_eq_true (by omega : 1 ≤ rm.length), decide_eq_true (by omega : rm.length ≤ 16)]; rfl
      cases h5 : rp.all prB with
      | true =>
        rw [h5] at hpl hf1
        replace hf1 := Lib.hid hf1
        clear hf0 hh c4
        go_wp2_with (first
          | (go_at_call 43; refine ((hpl _).out).mono ?_; rintro e w2 ⟨rfl, hw2⟩; rw [hw2]; clear hw2))
        go_meet
        exact ⟨by rw [hf1.out]; first | rfl | (simp; omega), rfl⟩
      | false =>
        rw [h5] at hpl hf1
        replace hf1 := Lib.hid hf1
        clear hf0 hh c4
        go_wp2_with (first
          | (go_at_call 43; refine ((hpl _).out).mono ?_; rintro e w2 ⟨rfl, hw2⟩; rw [hw2]; clear hw2))
        go_meet
        exact ⟨by rw [hf1.out]; first | rfl | (simp; omega), rfl⟩
    · have c4' : ((P[0].toNat : Int) == 47) = false := by simp; omega
      have c4n : ((P[0].toNat : Int) != 47) = true := by simp; omega
      rw [decide_eq_false c4] at hh
      have hF : Hid (fine0 rm rp = false) := Lib.hid (by rw [hf0, hh, Bool.and_false]; rfl)
      clear hf0 hh c4
      go_wp2_with fail
      go_meet
      exact ⟨by rw [hF.out]; first | rfl | (simp; omega), rfl⟩
  case rest =>
  obtain ⟨rfl, rfl⟩ := hcut
  replace hW1 := Lib.hid hW1
  replace hgw := Lib.hid hgw
  replace hcl := Lib.hid hcl
  replace hA := Lib.hid hA
  cases hf : fine0 rm rp with
  | false =>
    have hr := Lib.hid (may_no0 ⟨rm, rp, q, body, cl1⟩ hf)
    clear hf
    go_wp2_with fail
    refine bodyPost_ret (v := .tuple #[.slice none 0 0, .int .i64 2]) (by simp [results, Tryz.results28, go_sem]) rfl ?_
    exact ⟨hgw.out, fun _ => by rw [hr.out], fun h => absurd (hr.out.symm.trans h) (by decide)⟩
  | true =>
  replace hf := Lib.hid hf
  replace s5 := Lib.hid s5
  replace hbv := Lib.hid hbv
  clear hb2 hb1
  go_wp2_with fail
  go_loopg [4] M.size (fun z u4 wr => ∃ k : Nat, k ≤ M.size ∧ z = M.size - k ∧ u4 = .int .i64 (k : Nat) ∧ Hid ((M.data.toList.take k).all capB = true) ∧ wr = wc)
  case atStart => exact ⟨0, Nat.zero_le _, rfl, rfl, rfl, rfl⟩
  case round =>
    obtain ⟨k, hk, rfl, rfl, hp, hwr⟩ := hrel
    rw [hwr]
    clear hwr
    by_cases hlt : k < M.size
    · have hki : (k : Int) < (M.size : Int) := by omega
      have hk0 : (0 : Int) ≤ (k : Int) := Int.natCast_nonneg k
      have hq1 := Lib.hid (show wrap64 ((k : Int) + 1) = ((k + 1 : Nat) : Int) from (wrap64_id (by omega) (by omega)).trans (by omega))
      by_cases h1 : (M[k].toNat : Int) < 65
      · have hno : M.data.toList.all capB = false := all_no M hlt (p := capB) (by unfold capB; simp; omega)
        rw [hMd] at hno
        have hr := Lib.hid (may_no1 ⟨rm, rp, q, body, cl1⟩ hno)
        clear hno hp
        go_wp2_with fail
        refine bodyPost_ret (v := .tuple #[.slice none 0 0, .int .i64 2]) (by simp [results, Tryz.results28, go_sem]) rfl ?_
        exact ⟨hgw.out, fun _ => by rw [hr.out], fun h => absurd (hr.out.symm.trans h) (by decide)⟩
      · by_cases h2 : (90 : Int) < (M[k].toNat : Int)
        · have hno : M.data.toList.all capB = false := all_no M hlt (p := capB) (by unfold capB; simp; omega)
          rw [hMd] at hno
          have hr := Lib.hid (may_no1 ⟨rm, rp, q, body, cl1⟩ hno)
          clear hno hp
          go_wp2_with fail
          refine bodyPost_ret (v := .tuple #[.slice none 0 0, .int .i64 2]) (by simp [results, Tryz.results28, go_sem]) rfl ?_
          exact ⟨hgw.out, fun _ => by rw [hr.out], fun h => absurd (hr.out.symm.trans h) (by decide)⟩
        · have hst2 : Hid ((M.data.toList.take (k + 1)).all capB = true) := by unfold Hid; rw [all_succ M hlt, hp.out, show capB M[k] = true from (by unfold capB; simp; omega)]; rfl
          clear hp
          go_wp2_with fail
          go_roundg (M.size - (k + 1))
          case measure => omega
          case rel => exact ⟨k + 1, hlt, rfl, by first | rw [hq1.out] | go_num, hst2, rfl⟩
    · have hke : k = M.size := by omega
      subst hke
      have hcap : Hid (rm.all capB = true) := Lib.hid (by
        have := hp.out
        rw [ba_size, List.take_length, hMd] at this
        exact this)
      have hni : ¬ ((M.size : Int) < (M.size : Int)) := by omega
      clear hp hk
      go_wp2_with fail
      go_loopg [5] q.length (fun z u5 wr => ∃ k : Nat, k ≤ q.length ∧ z = q.length - k ∧ u5 = .int .i64 (k : Nat) ∧ Hid ((q.take k).all parOK = true) ∧ Hid (wc.grownBy wr none))
      case atStart => exact ⟨0, Nat.zero_le _, rfl, rfl, Lib.hid rfl, Lib.hid (gb_refl _ _)⟩
      case round =>
        obtain ⟨k, hk, rfl, rfl, hp, hg⟩ := hrel
        have hgr := gb_trans hgw.out hg.out
        have zq := (kFh.out _ hg.out).c2
        by_cases hlt : k < q.length
        · obtain ⟨rfl, _⟩ := hA.out (by omega)
          have hki : (k : Int) < (q.length : Int) := by omega
          have hk0 : (0 : Int) ≤ (k : Int) := Int.natCast_nonneg k
          have k0 := cell_grown (hcl.out k hlt).1 hgr (by simp)
          have k1 := cell_grown (hcl.out k hlt).2 hgr (by simp)
          obtain ⟨N, hN⟩ : ∃ N : ByteArray, (⟨q[k].1.toArray⟩ : ByteArray) = N := ⟨_, rfl⟩
          obtain ⟨V, hV⟩ : ∃ N : ByteArray, (⟨q[k].2.toArray⟩ : ByteArray) = N := ⟨_, rfl⟩
          rw [hN] at k0
          rw [hV] at k1
          obtain ⟨n1, hn1⟩ : ∃ n, q[k].1 = n := ⟨_, rfl⟩
          obtain ⟨n2, hn2⟩ : ∃ n, q[k].2 = n := ⟨_, rfl⟩
          have hNl : n1.length ≤ 20000 := by rw [← hn1]; exact (s5.out k hlt).1
          have hVl : n2.length ≤ 20000 := by rw [← hn2]; exact (s5.out k hlt).2
          have hNd : N.data.toList = n1 := by rw [← hN, ← hn1]
          have hVd : V.data.toList = n2 := by rw [← hV, ← hn2]
          have hNs : N.size = n1.length := by rw [ba_size, hNd]
          have hVs : V.size = n2.length := by rw [ba_size, hVd]
          have htk : q.take (k + 1) = q.take k ++ [(n1, n2)] := by rw [List.take_succ_eq_append_getElem hlt, ← hn1, ← hn2]
          have hal : (q.take (k + 1)).all parOK = parOK (n1, n2) := by rw [htk, List.all_append, hp.out]; simp
          have hall : parOK (n1, n2) = false → q.all parOK = false := fun h => by
            rw [← hal] at h
            have e : q = q.take (k + 1) ++ q.drop (k + 1) := (List.take_append_drop _ _).symm
            rw [e, List.all_append, h]; rfl
          have hq1 := Lib.hid (show wrap64 ((k : Int) + 1) = ((k + 1 : Nat) : Int) from (wrap64_id (by omega) (by omega)).trans (by omega))
          replace hal := Lib.hid hal
          replace hall := Lib.hid hall
          clear hN hV hn1 hn2 htk
          go_upto_region 12 with fail
          obtain ⟨W2, hW2⟩ : ∃ W2, wr.alloc (.cells #[.string N, .string V] 60) = W2 := ⟨_, rfl⟩
          have g2 : wr.grownBy W2 none := hW2 ▸ gb_alloc (gb_refl _ _) _
          have b2 : W2.heap[wr.heap.size]? = some (.cells #[.string N, .string V] 60 (0, 0)) := hW2 ▸ heap_alloc_new _ _
          have x0 : W2.cell? ⟨wr.heap.size, 0, none⟩ = some (.string N) := by rw [cell_of_row _ _ _ _ _ _ b2]; rfl
          have x1 : W2.cell? ⟨wr.heap.size, 1, none⟩ = some (.string V) := by rw [cell_of_row _ _ _ _ _ _ b2]; rfl
          rw [hW2]
          replace hW2 := Lib.hid hW2
          clear b2 k0 k1
          go_cut [89] from 58 to 89 (fun u89 wx => u89 = .bool (!parOK (n1, n2)) ∧ wx = W2)
          case first =>
            have hcn := Lib.hid (rplain_any 32 N W2 (by omega))
            have hcv := Lib.hid (rplain_any 32 V W2 (by omega))
            rw [rgB_pr, hNd] at hcn
            rw [rgB_pr, hVd] at hcv
            have hpo : parOK (n1, n2) = (n1.all prB && n2.all prB && (decide (n1 ≠ []) || decide (n2 ≠ []))) := rfl
            cases h1 : n1.all prB with
            | false =>
              rw [h1] at hcn
              have hF : Hid (parOK (n1, n2) = false) := Lib.hid (by rw [hpo, h1]; rfl)
              clear hpo
              go_wp2_with (first
                | (go_at_call 43; with_reducible refine (hcn.out).mono ?_; rintro e w2 ⟨rfl, hw2⟩; rw [hw2]; clear hw2)
                | (go_at_call 43; with_reducible refine (hcv.out).mono ?_; rintro e w2 ⟨rfl, hw2⟩; rw [hw2]; clear hw2))
              go_meet
              exact ⟨by rw [hF.out]; first | rfl | (simp; omega), rfl⟩
            | true =>
              rw [h1] at hcn
              cases h2 : n2.all prB with
              | false =>
                rw [h2] at hcv
                have hF : Hid (parOK (n1, n2) = false) := Lib.hid (by rw [hpo, h2, Bool.and_false]; rfl)
                clear hpo
                go_wp2_with (first
                  | (have hh := hcn; clear hh; go_at_call 43; refine (hcn.out).mono ?_; rintro e w2 ⟨rfl, hw2⟩; rw [hw2]; clear hw2 hcn)
                  | (go_at_call 43; refine (hcv.out).mono ?_; rintro e w2 ⟨rfl, hw2⟩; rw [hw2]; clear hw2))
                go_meet
                exact ⟨by rw [hF.out]; first | rfl | (simp; omega), rfl⟩
              | true =>
                rw [h2] at hcv
                rw [h1, h2] at hpo
                cases e1 : N.toList.isEmpty with
                | true =>
                  have f1 := ba_nil_of e1
                  rw [hNd] at f1
                  cases e2 : V.toList.isEmpty with
                  | true =>
                    have f2 := ba_nil_of e2
                    rw [hVd] at f2
                    have hF : Hid (parOK (n1, n2) = false) := Lib.hid (by rw [hpo, f1, f2]; rfl)
                    clear hpo f1 f2
                    go_wp2_with (first
                      | (have hh := hcn; clear hh; go_at_call 43; refine (hcn.out).mono ?_; rintro e w2 ⟨rfl, hw2⟩; rw [hw2]; clear hw2 hcn)
                      | (go_at_call 43; refine (hcv.out).mono ?_; rintro e w2 ⟨rfl, hw2⟩; rw [hw2]; clear hw2))
                    go_meet
                    exact ⟨by rw [hF.out]; first | rfl | (rw [e1, e2]; rfl), rfl⟩
                  | false =>
                    have f2 := ba_not_nil e2
                    rw [hVd] at f2
                    have hF : Hid (parOK (n1, n2) = true) := Lib.hid (by rw [hpo, decide_eq_true f2, Bool.or_true]; rfl)
                    clear hpo f1 f2
                    go_wp2_with (first
                      | (have hh := hcn; clear hh; go_at_call 43; refine (hcn.out).mono ?_; rintro e w2 ⟨rfl, hw2⟩; rw [hw2]; clear hw2 hcn)
                      | (go_at_call 43; refine (hcv.out).mono ?_; rintro e w2 ⟨rfl, hw2⟩; rw [hw2]; clear hw2))
                    go_meet
                    exact ⟨by rw [hF.out]; first | rfl | (rw [e1, e2]; rfl) | (rw [e2]; rfl), rfl⟩
                | false =>
                  have f1 := ba_not_nil e1
                  rw [hNd] at f1
                  have hF : Hid (parOK (n1, n2) = true) := Lib.hid (by rw [hpo, decide_eq_true f1]; rfl)
                  clear hpo f1
                  go_wp2_with (first
                    | (have hh := hcn; clear hh; go_at_call 43; refine (hcn.out).mono ?_; rintro e w2 ⟨rfl, hw2⟩; rw [hw2]; clear hw2 hcn)
                    | (go_at_call 43; refine (hcv.out).mono ?_; rintro e w2 ⟨rfl, hw2⟩; rw [hw2]; clear hw2))
                  go_meet
                  exact ⟨by rw [hF.out]; first | rfl | (rw [e1]; rfl), rfl⟩
          case rest =>
          obtain ⟨rfl, hwx⟩ := hcut
          rw [hwx]
          clear hwx x0 x1
          cases hpk : parOK (n1, n2) with
          | false =>
            have hr := Lib.hid (may_no2 ⟨rm, rp, q, body, cl1⟩ (hall.out hpk))
            clear hpk
            go_wp2_with fail
            refine bodyPost_ret (v := .tuple #[.slice none 0 0, .int .i64 2]) (by simp [results, Tryz.results28, go_sem]) rfl ?_
            exact ⟨gb_trans hgr g2, fun _ => by rw [hr.out], fun h => absurd (hr.out.symm.trans h) (by decide)⟩
          | true =>
            have hst := Lib.hid (hal.out.trans hpk)
            clear hpk
            go_wp2_with fail
            go_roundg (q.length - (k + 1))
            case measure => omega
            case rel => exact ⟨k + 1, hlt, rfl, by first | rw [hq1.out] | go_num, hst, Lib.hid (gb_trans hg.out g2)⟩
        · have hke : k = q.length := by omega
          subst hke
          have hpq := hp.out
          rw [List.take_length] at hpq
          have hok := may_yes ⟨rm, rp, q, body, cl1⟩ hf.out hcap.out hpq
          dsimp only at hok
          have hover := fun k h => sd_over (r := ⟨rm, rp, q, body, cl1⟩) (k := k) hok h
          dsimp only at hover
          have hni : ¬ ((q.length : Int) < (q.length : Int)) := by omega
          have kz := kFh.out wr hg.out
          have y0 := kz.c0
          have y1 := kz.c1
          have y4 := kz.c4
          have nb : ¬ (262144 : Int) < (body.length : Int) := by omega
          replace hover := Lib.hid hover
          replace hok := Lib.hid hok
          clear hp hpq kz hk
          by_cases h1 : (32 : Int) < (q.length : Int)
          · have hr := Lib.hid (hover.out 0 (.inl (by omega)))
            go_wp2_with fail
            refine bodyPost_ret (v := .tuple #[.slice none 0 0, .int .i64 3]) (by simp [results, Tryz.results28, go_sem]) rfl ?_
            exact ⟨hgr, fun _ => by rw [hr.out], fun h => absurd (hr.out.symm.trans h) (by decide)⟩
          · by_cases h2 : (2048 : Int) < (P.size : Int)
            · have hr := Lib.hid (hover.out 0 (.inr (.inl (by omega))))
              go_wp2_with fail
              refine bodyPost_ret (v := .tuple #[.slice none 0 0, .int .i64 3]) (by simp [results, Tryz.results28, go_sem]) rfl ?_
              exact ⟨hgr, fun _ => by rw [hr.out], fun h => absurd (hr.out.symm.trans h) (by decide)⟩
            · have hes := Lib.hid (resc_any true P wr (by omega))
              rw [hPd] at hes
              obtain ⟨T0, hT0⟩ : ∃ T, btx (escP true rp) = T := ⟨_, rfl⟩
              rw [hT0] at hes
              have hT0d : Hid (T0.data.toList = escP true rp) := Lib.hid (by rw [← hT0, btx_list])
              clear hT0
              go_upto_region 18 with (first
                | (go_at_call 62; refine (hes.out).mono ?_; rintro e w5 ⟨rfl, g5⟩))
              have hpl := Lib.hid (pars_len (q := q) s5.out)
              have hg5 := Lib.hid (gb_trans hg.out g5)
              have hgr5 := Lib.hid (gb_trans hgr g5)
              have hq32 := Lib.hid (show q.length ≤ 32 by omega)
              clear y0 y1 y4 zq nb h1 h2 hes hgr
              go_loopg [7, 8] q.length (fun z u7 u8 wv => ∃ (k : Nat) (T : ByteArray), k ≤ q.length ∧ z = q.length - k ∧ u8 = .int .i64 (k : Nat) ∧ u7 = .string T ∧ Hid (T.data.toList = escP true rp ++ parsO true (q.take k)) ∧ Hid (w5.grownBy wv none))
              case atStart => exact ⟨0, T0, Nat.zero_le _, rfl, rfl, rfl, Lib.hid (by rw [hT0d.out]; simp [parsO]), Lib.hid (gb_refl _ _)⟩
              case round =>
                obtain ⟨k, T, hk, rfl, rfl, rfl, hTd, hv⟩ := hrel
                have hgv := gb_trans hgr5.out hv.out
                have zv := kFh.out wr (gb_trans hg5.out hv.out)
                have hTl : T.data.toList.length ≤ 10000000 := by
                  have e1 := esc_len true rp
                  have e2 := hpl.out k hk
                  rw [hTd.out, List.length_append]
                  omega
                by_cases hlt : k < q.length
                · obtain ⟨rfl, _⟩ := hA.out (by omega)
                  have zq := zv.c2
                  have hki : (k : Int) < (q.length : Int) := by omega
                  have hk0 : (0 : Int) ≤ (k : Int) := Int.natCast_nonneg k
                  have k0 := cell_grown (hcl.out k hlt).1 hgv (by simp)
                  have k1 := cell_grown (hcl.out k hlt).2 hgv (by simp)
                  obtain ⟨N, hN⟩ : ∃ N : ByteArray, (⟨q[k].1.toArray⟩ : ByteArray) = N := ⟨_, rfl⟩
                  obtain ⟨V, hV⟩ : ∃ N : ByteArray, (⟨q[k].2.toArray⟩ : ByteArray) = N := ⟨_, rfl⟩
                  rw [hN] at k0
                  rw [hV] at k1
                  obtain ⟨n1, hn1⟩ : ∃ n, q[k].1 = n := ⟨_, rfl⟩
                  obtain ⟨n2, hn2⟩ : ∃ n, q[k].2 = n := ⟨_, rfl⟩
                  have hNl : n1.length ≤ 20000 := by rw [← hn1]; exact (s5.out k hlt).1
                  have hVl : n2.length ≤ 20000 := by rw [← hn2]; exact (s5.out k hlt).2
                  have hNd : N.data.toList = n1 := by rw [← hN, ← hn1]
                  have hVd : V.data.toList = n2 := by rw [← hV, ← hn2]
                  have hNs : N.size = n1.length := by rw [ba_size, hNd]
                  have hVs : V.size = n2.length := by rw [ba_size, hVd]
                  have hpa := pars_at hlt
                  rw [hn1, hn2] at hpa
                  have hov : 2048 < n1.length ∨ 2048 < n2.length → mayS ⟨rm, rp, q, body, cl1⟩ = 3 := fun h => hover.out k (.inr (.inr (.inl ⟨hlt, by rw [hn1, hn2]; exact h⟩)))
                  have hq1 := Lib.hid (show wrap64 ((k : Int) + 1) = ((k + 1 : Nat) : Int) from (wrap64_id (by omega) (by omega)).trans (by omega))
                  have e1 := esc_len false n1
                  have e2 := esc_len false n2
                  have hmk : ∃ MK : ByteArray, Hid (MK.data.toList = [if k = 0 then 63 else 38]) ∧ ((((k : Int) == 0) = true ∧ MK = ⟨#[63]⟩) ∨ (((k : Int) == 0) = false ∧ MK = ⟨#[38]⟩)) := by
                    by_cases h : k = 0
                    · exact ⟨⟨#[63]⟩, Lib.hid (by rw [if_pos h]), .inl ⟨by simp [h], rfl⟩⟩
                    · exact ⟨⟨#[38]⟩, Lib.hid (by rw [if_neg h]), .inr ⟨by simp; omega, rfl⟩⟩
                  obtain ⟨MK, hMK, hmk⟩ := hmk
                  have hqn := fun W => Lib.hid (resc_any false N W (by omega))
                  have hqv := fun W => Lib.hid (resc_any false V W (by omega))
                  rw [hNd] at hqn
                  rw [hVd] at hqv
                  obtain ⟨EN, hEN⟩ : ∃ E, btx (escP false n1) = E := ⟨_, rfl⟩
                  obtain ⟨EV, hEV⟩ : ∃ E, btx (escP false n2) = E := ⟨_, rfl⟩
                  have dEN : EN.data.toList = escP false n1 := by rw [← hEN, btx_list]
                  have dEV : EV.data.toList = escP false n2 := by rw [← hEV, btx_list]
                  rw [hEN] at hqn
                  rw [hEV] at hqv
                  obtain ⟨S1, q1, f1⟩ := add_exx T MK (by omega) (by rw [hMK.out]; show 1 ≤ 100000000; decide)
                  have l1 : S1.data.toList.length ≤ 10000001 := by rw [f1, List.length_append, hMK.out]; show _ + 1 ≤ _; omega
                  obtain ⟨S2, q2, f2⟩ := add_exx S1 EN (by omega) (by rw [dEN]; omega)
                  have l2 : S2.data.toList.length ≤ 10060001 := by rw [f2, List.length_append, dEN]; omega
                  obtain ⟨S3, q3, f3⟩ := add_exx S2 ⟨#[61]⟩ (by omega) (by decide)
                  have l3 : S3.data.toList.length ≤ 10060002 := by rw [f3, List.length_append]; show _ + 1 ≤ _; omega
                  obtain ⟨S4, q4, f4⟩ := add_exx S3 EV (by omega) (by rw [dEV]; omega)
                  have hS4 : Hid (S4.data.toList = escP true rp ++ parsO true (q.take (k + 1))) := Lib.hid (by rw [f4, f3, f2, f1, dEV, dEN, hMK.out, hTd.out, hpa]; simp)
                  replace hTl := Lib.hid hTl
                  clear hEN hEV dEN dEV f1 f2 f3 f4 l1 l2 l3 hpa hN hV hn1 hn2 hTd e1 e2 hMK
                  by_cases hbig : 2048 < n1.length ∨ 2048 < n2.length
                  · have hr := Lib.hid (hov hbig)
                    clear hov q1 q2 q3 q4 hqn hqv
                    by_cases b1 : (2048 : Int) < (N.size : Int)
                    · clear hbig
                      rcases hmk with ⟨hz, rfl⟩ | ⟨hz, rfl⟩
                      · go_wp2_with fail
                        refine bodyPost_ret (v := .tuple #[.slice none 0 0, .int .i64 3]) (by simp [results, Tryz.results28, go_sem]) rfl ?_
                        exact ⟨hgv, fun _ => by rw [hr.out], fun h => absurd (hr.out.symm.trans h) (by decide)⟩
                      · go_wp2_with fail
                        refine bodyPost_ret (v := .tuple #[.slice none 0 0, .int .i64 3]) (by simp [results, Tryz.results28, go_sem]) rfl ?_
                        exact ⟨hgv, fun _ => by rw [hr.out], fun h => absurd (hr.out.symm.trans h) (by decide)⟩
                    · have b2 : (2048 : Int) < (V.size : Int) := by omega
                      clear hbig
                      rcases hmk with ⟨hz, rfl⟩ | ⟨hz, rfl⟩
                      · go_wp2_with fail
                        refine bodyPost_ret (v := .tuple #[.slice none 0 0, .int .i64 3]) (by simp [results, Tryz.results28, go_sem]) rfl ?_
                        exact ⟨hgv, fun _ => by rw [hr.out], fun h => absurd (hr.out.symm.trans h) (by decide)⟩
                      · go_wp2_with fail
                        refine bodyPost_ret (v := .tuple #[.slice none 0 0, .int .i64 3]) (by simp [results, Tryz.results28, go_sem]) rfl ?_
                        exact ⟨hgv, fun _ => by rw [hr.out], fun h => absurd (hr.out.symm.trans h) (by decide)⟩
                  · have b1 : ¬ (2048 : Int) < (N.size : Int) := by omega
                    have b2 : ¬ (2048 : Int) < (V.size : Int) := by omega
                    clear hbig hov
                    go_upto_if 117 with fail
                    go_cut [9] from 109 to 155 (fun u9 wx => u9 = .string MK ∧ wx = wr)
                    case first =>
                      rcases hmk with ⟨hz, rfl⟩ | ⟨hz, rfl⟩
                      · go_wp2_with fail
                        go_meet
                        exact ⟨rfl, rfl⟩
                      · go_wp2_with fail
                        go_meet
                        exact ⟨rfl, rfl⟩
                    case rest =>
                    obtain ⟨rfl, hwx⟩ := hcut
                    rw [hwx]
                    clear hwx hmk
                    have P0 : ∀ G : Grown wr, G.W.cell? ⟨w.heap.size, 2, none⟩ = some (.slice (some ⟨b, o, none⟩) q.length c) := fun G => cell_grown zq G.h (by simp)
                    have P1 : ∀ G : Grown wr, G.W.cell? ⟨b, o + k * 2, none⟩ = some (.string N) := fun G => cell_grown k0 G.h (by simp)
                    have P2 : ∀ G : Grown wr, G.W.cell? ⟨b, o + k * 2 + 1, none⟩ = some (.string V) := fun G => cell_grown k1 G.h (by simp)
                    have qn : Hid (QC Tryz.prog wr 62 #[.string N, .bool false] (.string EN)) := fun G => (hqn G.W).out.mono fun e w' h => ⟨h.1, gb_trans G.h h.2⟩
                    have qv : Hid (QC Tryz.prog wr 62 #[.string V, .bool false] (.string EV)) := fun G => (hqv G.W).out.mono fun e w' h => ⟨h.1, gb_trans G.h h.2⟩
                    clear hqn hqv
                    go_upto_region 25 with fail
                    refine wp_region_grown 21 0 (by simp only [List.take_succ_cons, List.take_zero]; rfl) (by kernel_rfl) (gb_drew (gb_refl _ _)) (by kernel_rfl) (by kernel_rfl) (by kernel_rfl) (by kernel_rfl) ?_
                    repeat go_big_quiet_step (first
                      | (rename_i G; with_reducible exact qn.out.at G)
                      | (rename_i G; with_reducible exact qv.out.at G))
                    refine wpQuiet_nil ?_
                    intro G
                    refine wpAny_done (by kernel_rfl) ?_ _
                    go_wp2_with fail
                    go_roundg (q.length - (k + 1))
                    case measure => omega
                    case rel => exact ⟨k + 1, S4, hlt, rfl, by first | rw [hq1.out] | go_num, rfl, hS4, Lib.hid (gb_trans hv.out G.h)⟩
                · have hke : k = q.length := by omega
                  subst hke
                  rw [List.take_length] at hTd
                  have hTt : T.data.toList = tgtO rp q := hTd.out
                  have hTs : T.size = (tgtO rp q).length := by rw [ba_size, hTt]
                  have hni : ¬ ((q.length : Int) < (q.length : Int)) := by omega
                  have zq := zv.c2
                  have z0 := zv.c0
                  have z3 := zv.c3
                  have z4 := zv.c4
                  by_cases h1 : (2048 : Int) < (T.size : Int)
                  · have hr := Lib.hid (hover.out 0 (.inr (.inr (.inr (by omega)))))
                    clear hTd hk
                    go_wp2_with fail
                    refine bodyPost_ret (v := .tuple #[.slice none 0 0, .int .i64 3]) (by simp [results, Tryz.results28, go_sem]) rfl ?_
                    exact ⟨hgv, fun _ => by rw [hr.out], fun h => absurd (hr.out.symm.trans h) (by decide)⟩
                  · have hr := Lib.hid (hok.out.trans (if_neg (by have := hq32.out; omega)))
                    have hMz : M.data.toList.length ≤ 20000 := by rw [← ba_size]; omega
                    have hTz : T.data.toList.length ≤ 2048 := by rw [← ba_size]; omega
                    obtain ⟨L1, q1, f1⟩ := add_exx M ⟨#[32]⟩ (by omega) (by decide)
                    have l1 : L1.data.toList.length ≤ 20001 := by rw [f1, List.length_append]; show _ + 1 ≤ _; omega
                    obtain ⟨L2, q2, f2⟩ := add_exx L1 T (by omega) (by omega)
                    have l2 : L2.data.toList.length ≤ 22049 := by rw [f2, List.length_append]; omega
                    obtain ⟨L5, q5, f5⟩ := add_exx L2 ⟨#[32, 72, 84, 84, 80, 47, 49, 46, 49, 13, 10]⟩ (by omega) (by decide)
                    have l5 : L5.data.toList.length ≤ 22060 := by rw [f5, List.length_append]; show _ + 11 ≤ _; omega
                    have hL5d : Hid (L5.data.toList = rm ++ 32 :: (tgtO rp q ++ sSpVers)) := Lib.hid (by rw [f5, f2, f1, hMd, hTt]; simp [sSpVers, vers, crlf])
                    obtain ⟨J, hJ⟩ : ∃ J, btx (Lib.itoa (body.length : Nat)) = J := ⟨_, rfl⟩
                    have hJd : J.data.toList = Lib.itoa (body.length : Nat) := by rw [← hJ, btx_list]
                    have hJl := itoa_len (body.length : Nat) (by omega) (by omega)
                    have hdl := fun W => Lib.hid (dec_any (body.length : Nat) (by omega) (by omega) W)
                    rw [hJ] at hdl
                    obtain ⟨K1, k1, g1⟩ := add_exx L5 ⟨#[67, 111, 110, 116, 101, 110, 116, 45, 76, 101, 110, 103, 116, 104, 58, 32]⟩ (by omega) (by decide)
                    have m1 : K1.data.toList.length ≤ 22076 := by rw [g1, List.length_append]; show _ + 16 ≤ _; omega
                    obtain ⟨K2, k2, g2⟩ := add_exx K1 J (by omega) (by rw [hJd]; omega)
                    have m2 : K2.data.toList.length ≤ 22086 := by rw [g2, List.length_append, hJd]; omega
                    obtain ⟨K3, k3, g3⟩ := add_exx K2 ⟨#[13, 10]⟩ (by omega) (by decide)
                    have m3 : K3.data.toList.length ≤ 22088 := by rw [g3, List.length_append]; show _ + 2 ≤ _; omega
                    have hK3d : Hid (K3.data.toList = L5.data.toList ++ (sLen ++ Lib.itoa (body.length : Nat) ++ crlf)) := Lib.hid (by rw [g3, g2, g1, hJd]; simp [sLen, crlf])
                    have kz := fun W (hW : wr.grownBy W none) => Lib.hid (kFh.out W (gb_trans (gb_trans hg5.out hv.out) hW))
                    have hbvw := fun W (hW : wr.grownBy W none) => Lib.hid (hbv.out.kp (gb_trans hgv hW))
                    have hgvh := Lib.hid hgv
                    replace hv := Lib.hid hv
                    clear f1 f2 f5 l1 l2 g1 g2 g3 m1 m2 hJ hJd hJl hTt hTd hTl hTs hMz hTz zv hgv hpl hk hMd hPd hMs hPs s1 s2
                    go_upto_if 168 with fail
                    go_cut [10] from 168 (fun u10 wx => ∃ L6 : ByteArray, u10 = .string L6 ∧ Hid (L6.data.toList = L5.data.toList ++ (if body = [] then [] else sLen ++ Lib.itoa (body.length : Nat) ++ crlf)) ∧ L6.data.toList.length ≤ 22088 ∧ Hid (wr.grownBy wx none))
                    case first =>
                      by_cases hbe : body = []
                      · have j0 : ¬ (0 : Int) < (body.length : Int) := by rw [hbe]; simp
                        have hres := Lib.hid (show L5.data.toList = L5.data.toList ++ (if body = [] then [] else sLen ++ Lib.itoa (body.length : Nat) ++ crlf) by rw [if_pos hbe, List.append_nil])
                        clear hbe
                        go_wp2_with fail
                        go_meet
                        exact ⟨L5, rfl, hres, by omega, Lib.hid (gb_refl _ _)⟩
                      · have j0 : (0 : Int) < (body.length : Int) := by have := List.length_pos_iff.mpr hbe; omega
                        have hres := Lib.hid (show K3.data.toList = L5.data.toList ++ (if body = [] then [] else sLen ++ Lib.itoa (body.length : Nat) ++ crlf) by rw [if_neg hbe, hK3d.out])
                        clear hbe
                        go_wp2_with (first
                          | (go_at_call 49; refine ((hdl _).out).mono ?_; rintro e w6 ⟨rfl, g6⟩))
                        go_meet
                        exact ⟨K3, rfl, hres, by omega, Lib.hid g6⟩
                    case rest =>
                    obtain ⟨L6, rfl, hL6, n6, hx6⟩ := hcut
                    have y3 := (kz wc hx6.out).out.c3
                    have y4 := (kz wc hx6.out).out.c4
                    clear k1 k2 k3 hdl q1 q2 q5 hK3d m3 l5 z0 z3 z4
                    obtain ⟨L7', q7, f7⟩ := add_exx L6 ⟨#[67, 111, 110, 110, 101, 99, 116, 105, 111, 110, 58, 32, 99, 108, 111, 115, 101, 13, 10]⟩ (by omega) (by decide)
                    have l7 : L7'.data.toList.length ≤ 22107 := by rw [f7, List.length_append]; show _ + 19 ≤ _; omega
                    have hL7 : Hid (L7'.data.toList = L6.data.toList ++ sClose) := Lib.hid (by rw [f7]; rfl)
                    clear f7
                    go_upto_if 178 with fail
                    go_cut [10] from 178 (fun u10 wx => ∃ L7 : ByteArray, u10 = .string L7 ∧ Hid (L7.data.toList = L6.data.toList ++ (if cl1 then sClose else [])) ∧ L7.data.toList.length ≤ 22107 ∧ wx = wc)
                    case first =>
                      cases cl1 with
                      | true =>
                        go_wp2_with fail
                        go_meet
                        exact ⟨L7', rfl, Lib.hid (by rw [hL7.out]; simp), l7, rfl⟩
                      | false =>
                        go_wp2_with fail
                        go_meet
                        exact ⟨L6, rfl, Lib.hid (by simp), by omega, rfl⟩
                    case rest =>
                    obtain ⟨L7, rfl, hL7d, n7, hwx⟩ := hcut
                    rw [hwx]
                    clear hwx q7 hL7 l7
                    obtain ⟨L8, q8, f8⟩ := add_exx L7 ⟨#[13, 10]⟩ (by omega) (by decide)
                    have n10 : Hid (L8.data.toList.length ≤ 22109) := Lib.hid (by rw [f8, List.length_append]; show _ + 2 ≤ _; omega)
                    have hcv := fun W => Lib.run_convert_string_bytes (P := Tryz.prog) W 9 22 5 L8 Tryz.underlying9 Tryz.underlying22 Tryz.underlying5
                    have hfd : Hid (L8.data.toList ++ body = sendP ⟨rm, rp, q, body, cl1⟩) := Lib.hid (by
                      rw [f8, hL7d.out, hL6.out, hL5d.out]
                      unfold sendP
                      dsimp only
                      simp [crlf])
                    have z4b := cell_grown y4 (gb_of_below (Lib.bytesWorld_below _ 5 L8)) (by simp)
                    have hbX := hbvw _ hx6.out
                    have hgX := Lib.hid (gb_trans hgvh.out hx6.out)
                    have hLs : Hid (L8.size = L8.data.toList.length) := Lib.hid (ba_size L8)
                    clear f8 y3
                    go_wp2_with (first
                      | (at_builtin; refine wpList_append_conv rfl _ _ rfl rfl rfl rfl hbX.out (by have := n10.out; have := hLs.out; omega) ?_; intro A9 c9 w10 hbs9 g10; replace hbs9 := Lib.hid hbs9; replace g10 := Lib.hid g10))
                    refine bodyPost_ret (v := .tuple #[.slice A9 (L8.data.toList ++ body).length c9, .int .i64 0]) (by simp [results, Tryz.results28, go_sem]) rfl ?_
                    refine ⟨gb_trans hgX.out g10.out, fun h => absurd hr.out h, fun _ => ⟨_, rfl, ?_⟩⟩
                    rw [← hfd.out]
                    exact hbs9.out.mono (fun k _ h => Nat.le_trans hgX.out.size h)
end Go.Proofs.YtdfgnoflohfnmaaGreatDoor.Hx
