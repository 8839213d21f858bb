/- HTTP: a response is read, as the document has it: Read, walked. -/
import Derived.Test.YtdfgnoflohfnmaaGreatDoorCn
namespace Go.Proofs.YtdfgnoflohfnmaaGreatDoor.Hx
open Go.RowKit Go.Maps

set_option maxRecDepth 100000 in
set_option maxHeartbeats 12800000 in
theorem rread_any (bw : Value) (bs : Bs) (w : World) (hb : BV w bw bs) (hl : bs.length ≤ 2000000) :
    Calls Tryz.prog 26 #[bw] w (RdR bs w) := by
  obtain ⟨Ab, cb, rfl, hb⟩ : ∃ Ab cb, bw = .slice Ab bs.length cb ∧ BV w (.slice Ab bs.length cb) bs := by obtain ⟨A, c, e, h1, h2⟩ := hb; subst e; exact ⟨A, c, rfl, A, c, rfl, h1, h2⟩
  have hbh := Lib.hid hb
  have hr0 := RX.start hb
  have hm1 := must_q hr0 hl ⟨#[72, 84, 84, 80, 47, 49, 46, 49, 32]⟩ (by decide)
  rw [show needP bs (⟨#[72, 84, 84, 80, 47, 49, 46, 49, 32]⟩ : ByteArray).data.toList (0, 0) = X1 bs from rfl] at hm1
  replace hm1 := Lib.hid hm1
  obtain ⟨x1, hx1⟩ : ∃ x, X1 bs = x := ⟨_, rfl⟩
  rw [hx1] at hm1
  clear hb hr0
  go_enter Tryz.func26, Tryz.ntmps26
  go_upto_block 0 with (first
    | (go_at_call 56; refine (hm1.out).mono ?_; rintro e w1 ⟨rfl, q1⟩; replace q1 := Lib.hid q1))
  clear hm1
  go_cut [7, 8] from 16 (fun u7 u8 wx => ∃ (y : Ps) (v : Int), RX w (.slice Ab bs.length cb) bs wx y v ⟨#[]⟩ false ∧ StR bs x1 y v)
  case first =>
    as_aux_lemma =>
      obtain ⟨e1, i⟩ := x1
      have hk1 := q1.out.d.k
      have kc2 := hk1.c2
      dsimp only at kc2
      clear hk1
      by_cases h0 : e1 = 0
      · subst h0
        have hi := q1.out.d.i
        dsimp only at hi
        go_wp2_with fail
        go_loopg [7, 8] 3 (fun z u7 u8 wr => ∃ (k : Nat) (v : Int), z = 3 - k ∧ u7 = .int .i64 (k : Nat) ∧ Hid (SI bs i k v) ∧ RX w (.slice Ab bs.length cb) bs wr (0, i + k) v ⟨#[]⟩ false)
        case atStart => exact ⟨0, 0, rfl, rfl, Lib.hid (SI.start hi), q1.out⟩
        case round =>
          obtain ⟨k, v, rfl, rfl, hsi, hr⟩ := hrel
          have d0 := hr.d.k.c0
          have d1 := hr.d.k.c1
          have d2 := hr.d.k.c2
          have df1 := hr.d.k.f 1
          have df2 := hr.d.k.f 2
          have o0 := hr.o.c0
          have of0 := hr.o.f 0
          dsimp only at d1 d2
          have hk3 := hsi.out.k3
          have hkl := hsi.out.kl
          obtain ⟨j, hj⟩ : ∃ j : Nat, i + k = j := ⟨_, rfl⟩
          rw [hj] at d1
          by_cases hk : k < 3
          · have k3I : (k : Int) < 3 := by omega
            have k3D : decide (k < 3) = true := decide_eq_true hk
            by_cases hs : j < bs.length
            · have hs2 : i + k < bs.length := by omega
              have hbs : bs ≠ [] := by rintro rfl; simp at hs
              obtain ⟨b, o, c, hbw2, hc, hbR, hba⟩ : ∃ b o c, Value.slice Ab bs.length cb = .slice (some ⟨b, o, none⟩) bs.length c ∧ bs.length ≤ c ∧ b ≠ w.heap.size + 1 ∧ BA wr b o bs := by
                rcases hr.d.b with ⟨_, _, _, e⟩ | ⟨b, o, c, e, h1, h2, _, h3⟩
                · exact absurd e hbs
                · exact ⟨b, o, c, e, h1, h2, h3⟩
              obtain ⟨rfl, rfl⟩ : Ab = some ⟨b, o, none⟩ ∧ cb = c := by cases hbw2; exact ⟨rfl, rfl⟩
              clear hbw2 hc
              have hcj := hba j hs
              obtain ⟨C, hC⟩ : ∃ C, bs[j] = C := ⟨_, rfl⟩
              rw [hC] at hcj
              have sI : ((j : Int) == (bs.length : Int)) = false := by simp; omega
              have j0 : (0 : Int) ≤ (j : Int) := by omega
              have j1 : (j : Int) < (bs.length : Int) := by omega
              have hrh := Lib.hid hr
              subst hj
              by_cases c48 : (C.toNat : Int) < 48
              · have hB : stB k C = false := by unfold stB; rw [show digB C = false by rw [Bool.eq_false_iff]; intro e; have := (digB_iff' C).1 e; omega]; rfl
                have d48 := decide_eq_true c48
                have hst := Lib.hid (hsi.out.bad hk hs2 (by rw [hC]; exact hB))
                clear hr hsi hba hB hk hs hs2 hC hbs
                go_wp2_with fail
                go_meet
                exact ⟨_, _, hrh.out.err 4, StR.of hst.out (.err rfl (by simp)) (fun h => by cases h)⟩
              · have d48 := decide_eq_false c48
                by_cases c57 : (57 : Int) < (C.toNat : Int)
                · have hB : stB k C = false := by unfold stB; rw [show digB C = false by rw [Bool.eq_false_iff]; intro e; have := (digB_iff' C).1 e; omega]; rfl
                  have d57 := decide_eq_true c57
                  have hst := Lib.hid (hsi.out.bad hk hs2 (by rw [hC]; exact hB))
                  clear hr hsi hba hB hk hs hs2 hC hbs
                  go_wp2_with fail
                  go_meet
                  exact ⟨_, _, hrh.out.err 4, StR.of hst.out (.err rfl (by simp)) (fun h => by cases h)⟩
                · have d57 := decide_eq_false c57
                  have hd : digB C = true := (digB_iff' C).2 (by omega)
                  by_cases hk0 : k = 0
                  · have k0 : ((k : Int) == 0) = true := by rw [hk0]; rfl
                    by_cases c49 : (C.toNat : Int) < 49
                    · have hB : stB k C = false := by unfold stB; rw [hd, decide_eq_true hk0, decide_eq_true (show C.toNat < 49 by omega)]; rfl
                      have d49 := decide_eq_true c49
                      clear hk0
                      have hst := Lib.hid (hsi.out.bad hk hs2 (by rw [hC]; exact hB))
                      clear hr hsi hba hB hk hs hs2 hC hbs
                      go_wp2_with fail
                      go_meet
                      exact ⟨_, _, hrh.out.err 4, StR.of hst.out (.err rfl (by simp)) (fun h => by cases h)⟩
                    · have d49 := decide_eq_false c49
                      by_cases c53 : (53 : Int) < (C.toNat : Int)
                      · have hB : stB k C = false := by unfold stB; rw [hd, decide_eq_true hk0, decide_eq_true (show 53 < C.toNat by omega), Bool.or_true]; rfl
                        have d53 := decide_eq_true c53
                        clear hk0
                        have hst := Lib.hid (hsi.out.bad hk hs2 (by rw [hC]; exact hB))
                        clear hr hsi hba hB hk hs hs2 hC hbs
                        go_wp2_with fail
                        go_meet
                        exact ⟨_, _, hrh.out.err 4, StR.of hst.out (.err rfl (by simp)) (fun h => by cases h)⟩
                      · have d53 := decide_eq_false c53
                        have hB : stB k C = true := by unfold stB; rw [hd, decide_eq_true hk0, decide_eq_false (show ¬ 53 < C.toNat by omega), decide_eq_false (show ¬ C.toNat < 49 by omega)]; rfl
                        clear hk0
                        have hst := Lib.hid (hsi.out.next hk hs2 (by rw [hC]; exact hB))
                        rw [hC] at hst
                        have hx := hst.out.h3
                        have hy := hst.out.lo
                        have hq := hrh.out.set0 hbh.out (10 * v + ((C.toNat : Int) - 48))
                        have y1 := hq.d.k.c1
                        have yf1 := hq.d.k.f 1
                        dsimp only at y1
                        have hqe := Lib.hid (hq.at_ (i + (k + 1)) (by omega))
                        have hk4 := Lib.hid (show 3 - (k + 1) < 3 - k by omega)
                        have wz := Lib.hid (show wrap64 (wrap64 (10 * v) + ((C.toNat : Int) - 48)) = 10 * v + ((C.toNat : Int) - 48) from by rw [wrap64_id (x := 10 * v) (by have := hsi.out.lo; omega) (by have := hsi.out.h2; omega), wrap64_id (by omega) (by omega)])
                        have wj := Lib.hid (show (i : Int) + (k : Int) + 1 = ((i + (k + 1) : Nat) : Int) by omega)
                        replace hq := Lib.hid hq
                        clear hr hsi hba hB hk hs hs2 hC hx hy hd hbs
                        go_wp2_with fail
                        go_roundg (3 - (k + 1))
                        case measure => exact hk4.out
                        case rel =>
                          refine ⟨k + 1, _, rfl, by first | exact exact_k (Int.natCast_add k 1) | rfl, hst, ?_⟩
                          rw [wz.out, wj.out]
                          exact hqe.out
                  · have k0 : ((k : Int) == 0) = false := by simpa using hk0
                    have hB : stB k C = true := by unfold stB; rw [hd, decide_eq_false hk0]; rfl
                    clear hk0
                    have hst := Lib.hid (hsi.out.next hk hs2 (by rw [hC]; exact hB))
                    rw [hC] at hst
                    have hx := hst.out.h3
                    have hy := hst.out.lo
                    have hq := hrh.out.set0 hbh.out (10 * v + ((C.toNat : Int) - 48))
                    have y1 := hq.d.k.c1
                    have yf1 := hq.d.k.f 1
                    dsimp only at y1
                    have hqe := Lib.hid (hq.at_ (i + (k + 1)) (by omega))
                    have hk4 := Lib.hid (show 3 - (k + 1) < 3 - k by omega)
                    have wz := Lib.hid (show wrap64 (wrap64 (10 * v) + ((C.toNat : Int) - 48)) = 10 * v + ((C.toNat : Int) - 48) from by rw [wrap64_id (x := 10 * v) (by have := hsi.out.lo; omega) (by have := hsi.out.h2; omega), wrap64_id (by omega) (by omega)])
                    have wj := Lib.hid (show (i : Int) + (k : Int) + 1 = ((i + (k + 1) : Nat) : Int) by omega)
                    replace hq := Lib.hid hq
                    clear hr hsi hba hB hk hs hs2 hC hx hy hd hbs
                    go_wp2_with fail
                    go_roundg (3 - (k + 1))
                    case measure => exact hk4.out
                    case rel =>
                      refine ⟨k + 1, _, rfl, by first | exact exact_k (Int.natCast_add k 1) | rfl, hst, ?_⟩
                      rw [wz.out, wj.out]
                      exact hqe.out
            · have sI : ((j : Int) == (bs.length : Int)) = true := by simp; omega
              have hst := Lib.hid (hsi.out.more hk (by omega))
              have hrh := Lib.hid hr
              subst hj
              clear hr hsi hs hk
              go_wp2_with fail
              go_meet
              exact ⟨_, _, hrh.out.err 12, StR.of hst.out (.err rfl (by simp)) (fun h => by cases h)⟩
          · have hk3e : k = 3 := by omega
            subst hk3e
            have hfin := Lib.hid hsi.out.fin
            have hrh := Lib.hid hr
            clear hr hsi
            go_wp2_with fail
            go_meet
            exact ⟨_, _, hrh.out, StR.of hfin.out .rfl (fun _ => rfl)⟩
      · have e0 : (e1 == 0) = false := by simpa using h0
        have h0h := Lib.hid h0
        clear h0
        go_wp2_with fail
        go_loopg [7, 8] 0 (fun z u7 u8 wr => u7 = .int .i64 0 ∧ wr = w1)
        case atStart => exact ⟨rfl, rfl⟩
        case round =>
          obtain ⟨rfl, rfl⟩ := hrel
          go_wp2_with fail
          go_meet
          exact ⟨_, _, q1.out, StR.of (if_pos h0h.out) .rfl (fun h => absurd h h0h.out)⟩
  case rest =>
  obtain ⟨y2, v, hr2, hst⟩ := hcut
  obtain ⟨RS, T1, T2, hRS, q1, q2, hT2, hTs⟩ := need_text2 v
  have hag := reas_ag hr2.d.i (by rw [hx1]; exact hst)
  obtain ⟨y3, hy3⟩ : ∃ y, needP bs ([32] ++ reasonP v ++ (crlf ++ sCont)) y2 = y := ⟨_, rfl⟩
  rw [hy3] at hag
  have n3 := fun W => Lib.hid (rreason_any v W)
  rw [← hRS] at n3
  have n4 := must_q hr2 hl T2 hTs
  rw [hT2, hy3] at n4
  replace n4 := Lib.hid n4
  have oc0 := hr2.o.c0
  replace hr2 := Lib.hid hr2
  replace hag := Lib.hid hag
  replace hst := Lib.hid hst
  replace hx1 := Lib.hid hx1
  clear hy3 hT2 hTs hRS
  go_upto_region 15 with (first
    | (go_at_call 31; refine ((n3 _).out).mono ?_; rintro e w2 ⟨rfl, rfl⟩)
    | (go_at_call 56; refine ((n4).out).mono ?_; rintro e w3 ⟨rfl, q3⟩; replace q3 := Lib.hid q3))
  clear n3 n4 q1 q2 oc0
  obtain ⟨B, hB⟩ : ∃ B : Bool, B = true ↔ nextB bs y3 84 := by
    by_cases h : nextB bs y3 84
    · exact ⟨true, ⟨fun _ => h, fun _ => rfl⟩⟩
    · exact ⟨false, ⟨(fun h => Bool.noConfusion h), fun e => absurd e h⟩⟩
  replace hB := Lib.hid hB
  go_cut [110] from 87 to 110 (fun u110 wx => u110 = .bool B ∧ wx = w3)
  case first =>
    as_aux_lemma =>
      obtain ⟨eN, iN⟩ := y3
      have hrN := q3.out
      have d0 := hrN.d.k.c0
      have d1 := hrN.d.k.c1
      have d2 := hrN.d.k.c2
      dsimp only at d1 d2
      have hKB := hrN.d.b
      have hiN := hrN.d.i
      dsimp only at hiN
      clear hrN
      by_cases h0 : eN = 0
      · subst h0
        by_cases hs : iN < bs.length
        · have hbs : bs ≠ [] := by rintro rfl; simp at hs
          obtain ⟨b, o, c, hbw2, hc, hbR, hba⟩ : ∃ b o c, Value.slice Ab bs.length cb = .slice (some ⟨b, o, none⟩) bs.length c ∧ bs.length ≤ c ∧ b ≠ w.heap.size + 1 ∧ BA w3 b o bs := by
            rcases hKB with ⟨_, _, _, e⟩ | ⟨b, o, c, e, h1, h2, _, h3⟩
            · exact absurd e hbs
            · exact ⟨b, o, c, e, h1, h2, h3⟩
          obtain ⟨rfl, rfl⟩ : Ab = some ⟨b, o, none⟩ ∧ cb = c := by cases hbw2; exact ⟨rfl, rfl⟩
          clear hbw2 hc
          have hcj := hba iN hs
          obtain ⟨C, hC⟩ : ∃ C, bs[iN] = C := ⟨_, rfl⟩
          rw [hC] at hcj
          have sD : decide (iN < bs.length) = true := decide_eq_true hs
          have j0 : (0 : Int) ≤ (iN : Int) := by omega
          have j1 : (iN : Int) < (bs.length : Int) := by omega
          cases hcc : ((C.toNat : Int) == 84) with
          | true =>
            have hCc : (C.toNat : Int) = 84 := by simpa using hcc
            have hCn : bs[iN].toNat = 84 := by rw [hC]; omega
            have hBt : B = true := hB.out.2 ⟨rfl, hs, hCn⟩
            clear hCc hCn
            subst hBt
            clear hba hs hbs hKB hC
            go_wp2_with fail
            go_meet
            exact ⟨rfl, rfl⟩
          | false =>
            have hBf : B = false := by
              rw [Bool.eq_false_iff]; intro e; obtain ⟨_, _, h⟩ := hB.out.1 e
              dsimp only at h
              rw [hC] at h
              have : ¬ (C.toNat : Int) = 84 := by simpa using hcc
              omega
            subst hBf
            clear hba hs hbs hKB hC
            go_wp2_with fail
            go_meet
            exact ⟨rfl, rfl⟩
        · have sD : decide (iN < bs.length) = false := decide_eq_false hs
          have j1 : ¬ (iN : Int) < (bs.length : Int) := by omega
          have hBf : B = false := by rw [Bool.eq_false_iff]; intro e; obtain ⟨_, h, _⟩ := hB.out.1 e; exact hs h
          subst hBf
          clear hs hKB
          go_wp2_with fail
          go_meet
          exact ⟨rfl, rfl⟩
      · have e0 : (eN == 0) = false := by simpa using h0
        have hBf : B = false := by rw [Bool.eq_false_iff]; intro e; obtain ⟨h, _⟩ := hB.out.1 e; exact h0 h
        subst hBf
        clear h0 hKB
        go_wp2_with fail
        go_meet
        exact ⟨rfl, rfl⟩
  case rest =>
  obtain ⟨rfl, rfl⟩ := hcut
  go_upto_if 110 with fail
  go_cut [110] from 111 to 139 (fun _u110 wx => ∃ (y : Ps) (S : ByteArray), RX w (.slice Ab bs.length cb) bs wx y v S false ∧ TyR bs (X3 bs) (needP bs sLe8 y) S.data.toList)
  case first =>
    as_aux_lemma =>
      cases B with
      | false =>
        have hT : ¬ nextB bs y3 84 := fun h => by have := hB.out.2 h; cases this
        obtain ⟨t1, t2⟩ := type_no hag.out.2 hag.out.1 hT
        have hres := Lib.hid (show TyR bs (X3 bs) (needP bs sLe8 y3) (⟨#[]⟩ : ByteArray).data.toList from ⟨t1, fun h => (t2 h).symm⟩)
        clear hT t1 t2
        go_wp2_with fail
        go_meet
        exact ⟨_, _, q3.out, hres.out⟩
      | true =>
        have hT : nextB bs y3 84 := hB.out.1 rfl
        have hbs : bs ≠ [] := by rintro rfl; obtain ⟨_, h, _⟩ := hT; simp at h
        have n5 := must_q q3.out hl ⟨#[84, 121, 112, 101, 58, 32]⟩ (by decide)
        rw [show (⟨#[84, 121, 112, 101, 58, 32]⟩ : ByteArray).data.toList = sTy6 from rfl] at n5
        replace n5 := Lib.hid n5
        have hTh := Lib.hid hT
        have hbsh := Lib.hid hbs
        clear hT hbs
        go_upto_region 18 with (first
          | (go_at_call 56; refine ((n5).out).mono ?_; rintro e w4 ⟨rfl, q4⟩; replace q4 := Lib.hid q4)
          | (go_at_call 57; refine (until_q q4.out hl (fun _ => hbsh.out)).mono ?_; rintro e w5 ⟨V, z, rfl, q5, u1, u2⟩; have o1 := q5.o.c1; have of1 := q5.o.f 1; have hmid := Lib.hid (type_mid hag.out.2 hag.out.1 hTh.out u1 u2); clear u1 u2; have q6 := Lib.hid (q5.set1 hbh.out V); replace q5 := Lib.hid q5))
        obtain ⟨eZ, iZ⟩ := z
        have d1 := q6.out.d.k.c1
        have d2 := q6.out.d.k.c2
        have df2 := q6.out.d.k.f 2
        have oV := q6.out.o.c1
        dsimp only at d1 d2
        clear n5 o1 of1 hTh hag hB
        rcases hmid.out with ⟨hz, ht⟩ | ⟨hz, hV, hzl, ht⟩ | ⟨hz, hV, ht⟩
        · dsimp only at hz
          have e0 : (eZ == 0) = false := by simpa using hz
          have n6 := must_q q6.out hl ⟨#[13, 10, 67, 111, 110, 116, 101, 110, 116, 45]⟩ (by decide)
          rw [show (⟨#[13, 10, 67, 111, 110, 116, 101, 110, 116, 45]⟩ : ByteArray).data.toList = crlf ++ sCont from rfl] at n6
          replace n6 := Lib.hid n6
          replace ht := Lib.hid ht
          clear hz hmid
          go_wp2_with (first
            | (go_at_call 56; refine ((n6).out).mono ?_; rintro e w7 ⟨rfl, q7⟩; replace q7 := Lib.hid q7))
          go_meet
          exact ⟨_, _, q7.out, ht.out⟩
        · dsimp only at hz hzl
          subst hz hV
          have sD : decide (iZ < bs.length) = true := decide_eq_true hzl
          have j1 : (iZ : Int) < (bs.length : Int) := by omega
          have n6 := must_q (q6.out.err 4) hl ⟨#[13, 10, 67, 111, 110, 116, 101, 110, 116, 45]⟩ (by decide)
          rw [show (⟨#[13, 10, 67, 111, 110, 116, 101, 110, 116, 45]⟩ : ByteArray).data.toList = crlf ++ sCont from rfl] at n6
          replace n6 := Lib.hid n6
          replace ht := Lib.hid ht
          clear hzl hmid
          go_wp2_with (first
            | (go_at_call 56; refine ((n6).out).mono ?_; rintro e w7 ⟨rfl, q7⟩; replace q7 := Lib.hid q7))
          go_meet
          exact ⟨_, _, q7.out, ht.out⟩
        · dsimp only at hz hV
          subst hz
          have n6 := must_q q6.out hl ⟨#[13, 10, 67, 111, 110, 116, 101, 110, 116, 45]⟩ (by decide)
          rw [show (⟨#[13, 10, 67, 111, 110, 116, 101, 110, 116, 45]⟩ : ByteArray).data.toList = crlf ++ sCont from rfl] at n6
          replace n6 := Lib.hid n6
          replace ht := Lib.hid ht
          by_cases hve : V.data.toList = []
          · have hVe := ba_nil hve
            subst hVe
            have hzl := hV rfl
            have sD : decide (iZ < bs.length) = false := decide_eq_false (by omega)
            have j1 : ¬ (iZ : Int) < (bs.length : Int) := by omega
            clear hV hve hzl hmid
            go_wp2_with (first
              | (go_at_call 56; refine ((n6).out).mono ?_; rintro e w7 ⟨rfl, q7⟩; replace q7 := Lib.hid q7))
            go_meet
            exact ⟨_, _, q7.out, ht.out⟩
          · have en : V.toList.isEmpty = false := by rw [Lib.toList_data]; cases h : V.data.toList with | nil => exact absurd h hve | cons _ _ => rfl
            have en2 : (V.toList == []) = false := by rw [ba_beq_nil]; cases h : V.data.toList with | nil => exact absurd h hve | cons _ _ => rfl
            clear hV hve hmid
            go_wp2_with (first
              | (go_at_call 56; refine ((n6).out).mono ?_; rintro e w7 ⟨rfl, q7⟩; replace q7 := Lib.hid q7))
            go_meet
            exact ⟨_, _, q7.out, ht.out⟩
  case rest =>
  obtain ⟨yT, S, hr5, hty⟩ := hcut
  clear hB hag q3
  have n7 := must_q hr5 hl ⟨#[76, 101, 110, 103, 116, 104, 58, 32]⟩ (by decide)
  rw [show (⟨#[76, 101, 110, 103, 116, 104, 58, 32]⟩ : ByteArray).data.toList = sLe8 from rfl] at n7
  have hne7 : (needP bs sLe8 yT).1 = 0 → bs ≠ [] := fun h e => by subst e; exact need_nil (by decide) h
  obtain ⟨y7, hy7⟩ : ∃ y, needP bs sLe8 yT = y := ⟨_, rfl⟩
  rw [hy7] at n7 hty hne7
  replace n7 := Lib.hid n7
  replace hty := Lib.hid hty
  replace hne7 := Lib.hid hne7
  clear hy7 hr5
  go_upto_region 24 with (first
    | (go_at_call 56; have hh := n8c; clear hh; refine (n8c.out).mono ?_; rintro e w9 ⟨rfl, q9⟩; replace q9 := Lib.hid q9)
    | (go_at_call 56; refine (n7.out).mono ?_; rintro e w7 ⟨rfl, q7⟩; replace q7 := Lib.hid q7)
    | (go_at_call 58; refine (number_q q7.out hl hne7.out).mono ?_; rintro e w8 ⟨n, y8, rfl, q8, hnn⟩; have n8c := Lib.hid (must_q q8 hl ⟨#[13, 10]⟩ (by decide)); have hag9 := Lib.hid (num_ag q7.out.d.i hty.out.1 hnn); replace hnn := Lib.hid hnn; replace q8 := Lib.hid q8))
  replace q9 : Hid (RX w (.slice Ab bs.length cb) bs w9 (needP bs crlf y8) v S false) := q9
  clear n8c n7
  have h7i := Lib.hid q7.out.d.i
  obtain ⟨y9, hy9⟩ : ∃ y, needP bs crlf y8 = y := ⟨_, rfl⟩
  rw [hy9] at q9 hag9
  replace hag9 := Lib.hid (show Ag y9 (X7 bs) from hag9.out.1)
  clear hy9
  obtain ⟨B, hB⟩ : ∃ B : Bool, B = true ↔ nextB bs y9 67 := by
    by_cases h : nextB bs y9 67
    · exact ⟨true, ⟨fun _ => h, fun _ => rfl⟩⟩
    · exact ⟨false, ⟨(fun h => Bool.noConfusion h), fun e => absurd e h⟩⟩
  replace hB := Lib.hid hB
  go_cut [169] from 146 to 169 (fun u169 wx => u169 = .bool B ∧ wx = w9)
  case first =>
    as_aux_lemma =>
      obtain ⟨eN, iN⟩ := y9
      have hrN := q9.out
      have d0 := hrN.d.k.c0
      have d1 := hrN.d.k.c1
      have d2 := hrN.d.k.c2
      dsimp only at d1 d2
      have hKB := hrN.d.b
      have hiN := hrN.d.i
      dsimp only at hiN
      clear hrN
      by_cases h0 : eN = 0
      · subst h0
        by_cases hs : iN < bs.length
        · have hbs : bs ≠ [] := by rintro rfl; simp at hs
          obtain ⟨b, o, c, hbw2, hc, hbR, hba⟩ : ∃ b o c, Value.slice Ab bs.length cb = .slice (some ⟨b, o, none⟩) bs.length c ∧ bs.length ≤ c ∧ b ≠ w.heap.size + 1 ∧ BA w9 b o bs := by
            rcases hKB with ⟨_, _, _, e⟩ | ⟨b, o, c, e, h1, h2, _, h3⟩
            · exact absurd e hbs
            · exact ⟨b, o, c, e, h1, h2, h3⟩
          obtain ⟨rfl, rfl⟩ : Ab = some ⟨b, o, none⟩ ∧ cb = c := by cases hbw2; exact ⟨rfl, rfl⟩
          clear hbw2 hc
          have hcj := hba iN hs
          obtain ⟨C, hC⟩ : ∃ C, bs[iN] = C := ⟨_, rfl⟩
          rw [hC] at hcj
          have sD : decide (iN < bs.length) = true := decide_eq_true hs
          have j0 : (0 : Int) ≤ (iN : Int) := by omega
          have j1 : (iN : Int) < (bs.length : Int) := by omega
          cases hcc : ((C.toNat : Int) == 67) with
          | true =>
            have hCc : (C.toNat : Int) = 67 := by simpa using hcc
            have hCn : bs[iN].toNat = 67 := by rw [hC]; omega
            have hBt : B = true := hB.out.2 ⟨rfl, hs, hCn⟩
            clear hCc hCn
            subst hBt
            clear hba hs hbs hKB hC
            go_wp2_with fail
            go_meet
            exact ⟨rfl, rfl⟩
          | false =>
            have hBf : B = false := by
              rw [Bool.eq_false_iff]; intro e; obtain ⟨_, _, h⟩ := hB.out.1 e
              dsimp only at h
              rw [hC] at h
              have : ¬ (C.toNat : Int) = 67 := by simpa using hcc
              omega
            subst hBf
            clear hba hs hbs hKB hC
            go_wp2_with fail
            go_meet
            exact ⟨rfl, rfl⟩
        · have sD : decide (iN < bs.length) = false := decide_eq_false hs
          have j1 : ¬ (iN : Int) < (bs.length : Int) := by omega
          have hBf : B = false := by rw [Bool.eq_false_iff]; intro e; obtain ⟨_, h, _⟩ := hB.out.1 e; exact hs h
          subst hBf
          clear hs hKB
          go_wp2_with fail
          go_meet
          exact ⟨rfl, rfl⟩
      · have e0 : (eN == 0) = false := by simpa using h0
        have hBf : B = false := by rw [Bool.eq_false_iff]; intro e; obtain ⟨h, _⟩ := hB.out.1 e; exact h0 h
        subst hBf
        clear h0 hKB
        go_wp2_with fail
        go_meet
        exact ⟨rfl, rfl⟩
  case rest =>
  obtain ⟨rfl, rfl⟩ := hcut
  go_upto_if 169 with fail
  go_cut [169] from 170 to 172 (fun _u169 wx => ∃ (y : Ps) (cl : Bool), RX w (.slice Ab bs.length cb) bs wx y v S cl ∧ ClR bs (X7 bs) (needP bs crlf y) cl)
  case first =>
    as_aux_lemma =>
      cases B with
      | false =>
        have hC : ¬ nextB bs y9 67 := fun h => by have := hB.out.2 h; cases this
        obtain ⟨t1, t2⟩ := close_no q9.out.d.i hag9.out hC
        have hres := Lib.hid (show ClR bs (X7 bs) (needP bs crlf y9) false from ⟨t1, fun h => (t2 h).symm⟩)
        clear hC t1 t2
        go_wp2_with fail
        go_meet
        exact ⟨_, _, q9.out, hres.out⟩
      | true =>
        have hC : nextB bs y9 67 := hB.out.1 rfl
        obtain ⟨t1, t2⟩ := close_yes hag9.out hC
        have hres := Lib.hid (show ClR bs (X7 bs) (needP bs crlf (needP bs sClose y9)) true from ⟨t1, fun h => (t2 h).symm⟩)
        have n9 := must_q q9.out hl ⟨#[67, 111, 110, 110, 101, 99, 116, 105, 111, 110, 58, 32, 99, 108, 111, 115, 101, 13, 10]⟩ (by decide)
        rw [show (⟨#[67, 111, 110, 110, 101, 99, 116, 105, 111, 110, 58, 32, 99, 108, 111, 115, 101, 13, 10]⟩ : ByteArray).data.toList = sClose from rfl] at n9
        replace n9 := Lib.hid n9
        clear hC t1 t2
        go_wp2_with (first
          | (go_at_call 56; refine (n9.out).mono ?_; rintro e w10 ⟨rfl, q10⟩; have o2 := q10.o.c2; have of2 := q10.o.f 2; replace q10 := Lib.hid q10))
        go_meet
        exact ⟨_, _, q10.out.set2 hbh.out true, hres.out⟩
  case rest =>
  obtain ⟨yC, cl, hr9, hcl⟩ := hcut
  clear hB hag9 q9
  have n10 := must_q hr9 hl ⟨#[13, 10]⟩ (by decide)
  rw [show (⟨#[13, 10]⟩ : ByteArray).data.toList = crlf from rfl] at n10
  obtain ⟨y11, hy11⟩ : ∃ y, needP bs crlf yC = y := ⟨_, rfl⟩
  rw [hy11] at n10 hcl
  replace n10 := Lib.hid n10
  obtain ⟨hfin, hnum⟩ := rd_fin (by rw [hx1.out]; exact hst.out) hty.out h7i.out hnn.out hcl
  replace hfin := Lib.hid hfin
  replace hnum := Lib.hid hnum
  clear hcl hy11 hr9 hst hty hnn h7i hne7 hx1
  go_upto_region 28 with (first
    | (go_at_call 56; refine (n10.out).mono ?_; rintro e w11 ⟨rfl, q11⟩; replace q11 := Lib.hid q11))
  clear n10 q8 q7
  obtain ⟨e9, i9⟩ := y11
  dsimp only at hfin hnum
  have d1 := q11.out.d.k.c1
  have d2 := q11.out.d.k.c2
  have hi9 := q11.out.d.i
  dsimp only at d1 d2 hi9
  by_cases he : e9 = 0
  · subst he
    obtain ⟨hv0, hv1, hbn⟩ := hnum.out rfl
    obtain ⟨n6, rfl⟩ : ∃ m : Nat, n = (m : Int) := ⟨n.toNat, by omega⟩
    rw [Int.toNat_natCast, if_neg (fun h => h rfl)] at hfin
    have hw : wrap64 ((bs.length : Int) - (i9 : Int)) = (bs.length : Int) - (i9 : Int) := wrap64_id (by omega) (by omega)
    by_cases hs : bs.length < i9 + n6
    · have hr : readP bs = .inl 12 := by rw [hfin.out, if_pos hs]
      replace hr := Lib.hid hr
      have hsI : (bs.length : Int) - (i9 : Int) < (n6 : Int) := by omega
      have qF := q11.out.err 12
      have df2 := q11.out.d.k.f 2
      have kc := qF.d.k.c2
      have zf := fun i => qF.z.f i
      have z0 := qF.z.c0
      have z1 := qF.z.c1
      have z2 := qF.z.c2
      have z3 := qF.z.c3
      dsimp only at kc
      replace qF := Lib.hid qF
      clear hfin hnum hv0 hbn hs
      go_upto_region 31 with fail
      go_region
      all_goals
        go_wp2_with fail
        have hz4 := (qF.out.z.set4 0 ⟨#[]⟩ false (.slice none 0 0)).drewL
        have y0 := hz4.c0
        have y1 := hz4.c1
        have y2 := hz4.c2
        have y3 := hz4.c3
        refine bodyPost_ret (v := .tuple #[resp0, .int .i64 0, .int .i64 12]) (by simp [results, Tryz.results26, go_sem, y0, y1, y2, y3]) rfl ?_
        unfold RdR
        rw [hr.out]
        exact ⟨rfl, gb_drew (gb_set4 qF.out.gb)⟩
    · have hr : readP bs = .inr (⟨v, S.data.toList, cl, (bs.drop i9).take n6⟩, i9 + n6) := by rw [hfin.out, if_neg hs]
      replace hr := Lib.hid hr
      obtain ⟨A', c', e', hcb, hbx⟩ := hbh.out
      cases e'
      obtain ⟨b, o, rfl, hba⟩ := hbx hbn
      have hsI : ¬ (bs.length : Int) - (i9 : Int) < (n6 : Int) := by omega
      have hba9 : BA w11 b o bs := hba.grown q11.out.gb (by simp)
      have hkn : ((bs.drop i9).take n6).length = n6 := by rw [List.length_take, List.length_drop]; omega
      have hsub : ((i9 : Int) + (n6 : Int)).toNat - i9 = n6 := by omega
      have i0 : (0 : Int) ≤ (i9 : Int) := by omega
      have i1 : (i9 : Int) ≤ (i9 : Int) + (n6 : Int) := by omega
      have i2 : (i9 : Int) + (n6 : Int) ≤ (cb : Int) := by omega
      have w3 : IntKind.i64.wrap ((i9 : Int) + (n6 : Int)) = (i9 : Int) + (n6 : Int) := wrap_id (by omega) (by omega)
      have w4 : ((i9 : Int) + (n6 : Int)).toNat = i9 + n6 := by omega
      have w5 : i9 + n6 - i9 = n6 := by omega
      have q12 := q11.out.same (gb_alloc (gb_refl w11 none) (.cells #[] 5))
      have d1a := q12.d.k.c1
      have d0a := q12.d.k.c0
      dsimp only at d1a
      have hbf := Lib.hid (BF.emp w11)
      have hlt := q11.out.o.lt
      have hK : Hid (w.heap.size + 1 + 1 < w11.heap.size) := Lib.hid hlt
      have hn6 : Hid (n6 ≤ 1048576) := Lib.hid (by omega)
      replace q12 := Lib.hid q12
      replace hba9 := Lib.hid hba9
      replace hkn := Lib.hid hkn
      have hcbh := Lib.hid hcb
      have hsh := Lib.hid hs
      clear hfin hnum hv0 hbn hs hbx hba hcb hlt
      by_cases hci : cb = i9
      · have hn0 : n6 = 0 := by have := hsh.out; have := hcbh.out; omega
        replace hn0 := Lib.hid hn0
        have hsrc : Hid (∀ W : World, w11.grownBy W none → BV W (.slice (some ⟨b, o, none⟩) n6 0) ((bs.drop i9).take n6)) := Lib.hid (fun W hW => ⟨_, _, by rw [hkn.out], by rw [hkn.out, hn0.out]; exact Nat.le_refl _, fun h => absurd (List.eq_nil_of_length_eq_zero (by rw [hkn.out]; exact hn0.out)) h⟩)
        subst hci
        go_upto_region 32 with fail
        clear hw
        go_cut [] from 204 to 218 (fun wx => ∃ A2 c2 b2, RB2 w (.slice (some ⟨b, o, none⟩) bs.length cb) wx cb v S cl A2 n6 c2 b2 ((bs.drop cb).take n6))
        case first =>
          go_region_law (refine step_append_bfg rfl _ _ _ (by rfl) (by rfl) (by rfl) (hbf.out.grown (gb_drew (gb_refl _ none)) (by simp)) (BV.src (hsrc.out _ (gb_drew (gb_alloc (gb_refl w11 none) _)))) (by rw [hkn.out]; have := hn6.out; show 0 + n6 ≤ 1000000000; omega) ?_; intro A2 c2 wx b2 hbx gx hbx2; rw [List.nil_append, hkn.out] at hbx; rw [List.nil_append, hkn.out]; have hqx := (q12.out.same (gb_drew (gb_refl _ none))).far hbh.out gx hK.out; have ox := hqx.o.c3; have ofx := hqx.o.f 3; replace hqx := Lib.hid hqx; replace hbx := Lib.hid hbx)
          all_goals
            go_wp2_with fail
            go_meet
            have hb2 : w.heap.size + 1 + 1 < b2 := by
              have h1 := hK.out
              have h2 : (w11.alloc (.cells #[] 5)).drew.heap.size = w11.heap.size + 1 := by simp [World.drew]
              rcases hbx2 with h | h <;> omega
            exact ⟨_, _, _, .of hqx.out hbx.out hb2⟩
        case rest =>
        obtain ⟨A2, c2, b2, hq⟩ := hcut
        clear d1 d2 d0a d1a hbf q12 q11 hsrc
        have kc1 := hq.d.c1
        have zf := fun i => hq.z.f i
        have z0 := hq.z.c0
        have z1 := hq.z.c1
        have z2 := hq.z.c2
        have z3 := hq.z.c3
        have o0 := hq.o.c0
        have o1 := hq.o.c1
        have o2 := hq.o.c2
        have o3 := hq.o.c3
        dsimp only at kc1
        replace hq := Lib.hid hq
        go_wp2_with fail
        go_region
        all_goals
          go_wp2_with fail
          have hz4 := (hq.out.z.set4 v S cl (.slice A2 n6 c2)).drewL
          have y0 := hz4.c0
          have y1 := hz4.c1
          have y2 := hz4.c2
          have y3 := hz4.c3
          refine bodyPost_ret (v := .tuple #[.agg #[.int .i64 v, .string S, .bool cl, .slice A2 n6 c2], .int .i64 ((cb : Int) + (n6 : Int)), .int .i64 0]) (by simp [results, Tryz.results26, go_sem, y0, y1, y2, y3]) rfl ?_
          unfold RdR
          rw [hr.out]
          have hb2 := hq.out.b2
          refine ⟨S, _, by rw [Int.natCast_add], rfl, BF.bs (b := b2) ?_ (fun _ => by omega), gb_drew (gb_set4 hq.out.gb)⟩
          exact hq.out.bf.grown (gb_drew (gb_setR (gb_setR (gb_setR (gb_setR (gb_refl _ (some w.heap.size)) _ _) _ _) _ _) _ _)) (by intro e; have := Option.some.inj e; omega)
      · have hsrc : Hid (∀ W : World, w11.grownBy W none → BV W (.slice (some ⟨b, o + i9, none⟩) n6 (cb - i9)) ((bs.drop i9).take n6)) := Lib.hid (fun W hW => ⟨_, _, by rw [hkn.out], by rw [hkn.out]; have := hsh.out; have := hcbh.out; omega, fun _ => ⟨b, o + i9, rfl, ((hba9.out.grown hW (by simp)).drop i9).take n6⟩⟩)
        go_upto_region 32 with fail
        clear hw
        go_cut [] from 204 to 218 (fun wx => ∃ A2 c2 b2, RB2 w (.slice (some ⟨b, o, none⟩) bs.length cb) wx i9 v S cl A2 n6 c2 b2 ((bs.drop i9).take n6))
        case first =>
          go_region_law (refine step_append_bfg rfl _ _ _ (by rfl) (by rfl) (by rfl) (hbf.out.grown (gb_drew (gb_refl _ none)) (by simp)) (BV.src (hsrc.out _ (gb_drew (gb_alloc (gb_refl w11 none) _)))) (by rw [hkn.out]; have := hn6.out; show 0 + n6 ≤ 1000000000; omega) ?_; intro A2 c2 wx b2 hbx gx hbx2; rw [List.nil_append, hkn.out] at hbx; rw [List.nil_append, hkn.out]; have hqx := (q12.out.same (gb_drew (gb_refl _ none))).far hbh.out gx hK.out; have ox := hqx.o.c3; have ofx := hqx.o.f 3; replace hqx := Lib.hid hqx; replace hbx := Lib.hid hbx)
          all_goals
            go_wp2_with fail
            go_meet
            have hb2 : w.heap.size + 1 + 1 < b2 := by
              have h1 := hK.out
              have h2 : (w11.alloc (.cells #[] 5)).drew.heap.size = w11.heap.size + 1 := by simp [World.drew]
              rcases hbx2 with h | h <;> omega
            exact ⟨_, _, _, .of hqx.out hbx.out hb2⟩
        case rest =>
        obtain ⟨A2, c2, b2, hq⟩ := hcut
        clear d1 d2 d0a d1a hbf q12 q11 hsrc
        have kc1 := hq.d.c1
        have zf := fun i => hq.z.f i
        have z0 := hq.z.c0
        have z1 := hq.z.c1
        have z2 := hq.z.c2
        have z3 := hq.z.c3
        have o0 := hq.o.c0
        have o1 := hq.o.c1
        have o2 := hq.o.c2
        have o3 := hq.o.c3
        dsimp only at kc1
        replace hq := Lib.hid hq
        go_wp2_with fail
        go_region
        all_goals
          go_wp2_with fail
          have hz4 := (hq.out.z.set4 v S cl (.slice A2 n6 c2)).drewL
          have y0 := hz4.c0
          have y1 := hz4.c1
          have y2 := hz4.c2
          have y3 := hz4.c3
          refine bodyPost_ret (v := .tuple #[.agg #[.int .i64 v, .string S, .bool cl, .slice A2 n6 c2], .int .i64 ((i9 : Int) + (n6 : Int)), .int .i64 0]) (by simp [results, Tryz.results26, go_sem, y0, y1, y2, y3]) rfl ?_
          unfold RdR
          rw [hr.out]
          have hb2 := hq.out.b2
          refine ⟨S, _, by rw [Int.natCast_add], rfl, BF.bs (b := b2) ?_ (fun _ => by omega), gb_drew (gb_set4 hq.out.gb)⟩
          exact hq.out.bf.grown (gb_drew (gb_setR (gb_setR (gb_setR (gb_setR (gb_refl _ (some w.heap.size)) _ _) _ _) _ _) _ _)) (by intro e; have := Option.some.inj e; omega)
  · have hr : readP bs = .inl e9 := by rw [hfin.out, if_pos he]
    replace hr := Lib.hid hr
    have e0 : (e9 == 0) = false := by simpa using he
    have e1 : (e9 != 0) = true := by simpa using he
    have zf := fun i => q11.out.z.f i
    have z0 := q11.out.z.c0
    have z1 := q11.out.z.c1
    have z2 := q11.out.z.c2
    have z3 := q11.out.z.c3
    clear hfin hnum he
    go_upto_region 31 with fail
    go_region
    all_goals
      go_wp2_with fail
      have hz4 := (q11.out.z.set4 0 ⟨#[]⟩ false (.slice none 0 0)).drewL
      have y0 := hz4.c0
      have y1 := hz4.c1
      have y2 := hz4.c2
      have y3 := hz4.c3
      refine bodyPost_ret (v := .tuple #[resp0, .int .i64 0, .int .i64 e9]) (by simp [results, Tryz.results26, go_sem, y0, y1, y2, y3]) rfl ?_
      unfold RdR
      rw [hr.out]
      exact ⟨rfl, gb_drew (gb_set4 q11.out.gb)⟩
end Go.Proofs.YtdfgnoflohfnmaaGreatDoor.Hx
