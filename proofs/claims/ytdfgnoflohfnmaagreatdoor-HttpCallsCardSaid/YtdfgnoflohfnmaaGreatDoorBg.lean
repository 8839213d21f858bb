/- HTTP: a response is read: the taker's kind. -/
import Derived.Test.YtdfgnoflohfnmaaGreatDoorBf
namespace Go.Proofs.YtdfgnoflohfnmaaGreatDoor.Hx
open Go.RowKit Go.Maps

/-- what kind leaves -/
def KdK (R : Nat) (bw : Value) (bs : Bs) (x : Ps) (w : World) (e : Ending) (w' : World) : Prop :=
  ∃ S : ByteArray, e = .returned (.string S) ∧ ((kindP bs x).1.1 = 0 → S.data.toList = (kindP bs x).2) ∧ KX w' R bw bs (kindP bs x).1 ∧ w.grownBy w' (some R)
theorem kind_skip {bs : Bs} {e : Int} {i : Nat} (h : e ≠ 0) : kindP bs (e, i) = ((e, i), []) := by unfold kindP; rw [if_pos h]
theorem kind_no {bs : Bs} {i : Nat} (h1 : isP sType (bs.drop i) = false) : kindP bs (0, i) = if moreP sType (bs.drop i) then ((12, i), []) else ((0, i), []) := by
  unfold kindP
  rw [if_neg (by simp), if_neg (by unfold isP at h1; rw [h1]; decide)]
  unfold moreP
  by_cases h : (bs.drop i).length < sType.length ∧ (bs.drop i).isPrefixOf sType = true
  · rw [if_pos h, if_pos (by simpa using h)]
  · rw [if_neg h, if_neg (by simpa using h)]
theorem kind_yes {bs : Bs} {i : Nat} (h1 : isP sType (bs.drop i) = true) {s : Bs} (hs : lead prB 4097 (bs.drop (i + 14)) = s) : kindP bs (0, i) = if 4096 < s.length ∨ (s.length = 0 ∧ i + 14 < bs.length) then ((4, i + 14 + s.length), s) else (needP bs crlf (0, i + 14 + s.length), s) := by
  unfold kindP
  rw [if_neg (by simp), if_pos (by unfold isP at h1; exact h1)]
  dsimp only
  rw [hs]
theorem need_err {bs s : Bs} {e : Int} {i : Nat} (h : e ≠ 0) : needP bs s (e, i) = (e, i) := by unfold needP; rw [if_pos h]
theorem gt_drewN {w W : World} {T : Nat → Prop} (h : GT w W T) (q : Nat) : GT w (W.drewN q) T := h.gbn (gb_drewN (gb_refl _ _) q)
/-- the loop: so many may be -/
structure LI (bs : Bs) (f k : Nat) : Prop where
  eq : lead prB 4097 (bs.drop f) = (bs.drop f).take k ++ lead prB (4097 - k) (bs.drop (f + k))
  le : f + k ≤ bs.length
  k : k ≤ 4097
theorem LI.start {bs : Bs} {f : Nat} (h : f ≤ bs.length) : LI bs f 0 := ⟨by simp, h, by omega⟩
theorem LI.stop {bs : Bs} {f k : Nat} (h : LI bs f k) (hs : k = 4097 ∨ f + k = bs.length ∨ ∃ hl : f + k < bs.length, prB bs[f + k] = false) : lead prB 4097 (bs.drop f) = (bs.drop f).take k := by
  rw [h.eq]
  have : lead prB (4097 - k) (bs.drop (f + k)) = [] := by
    rcases hs with e | e | ⟨hl, e⟩
    · rw [e]; rfl
    · rw [List.drop_eq_nil_of_le (by omega)]; cases 4097 - k <;> rfl
    · rw [List.drop_eq_getElem_cons hl]
      cases 4097 - k with
      | zero => rfl
      | succ n => unfold lead; rw [if_neg (by rw [e]; decide)]
  rw [this, List.append_nil]
theorem LI.step {bs : Bs} {f k : Nat} (h : LI bs f k) (hl : f + k < bs.length) (hp : prB bs[f + k] = true) (hk : k ≤ 4096) : LI bs f (k + 1) := by
  refine ⟨?_, by omega, by omega⟩
  rw [h.eq, List.drop_eq_getElem_cons hl, show 4097 - k = (4097 - (k + 1)) + 1 from by omega]
  conv => lhs; unfold lead
  rw [if_pos hp]
  rw [List.take_add_one, show (bs.drop f)[k]? = some bs[f + k] from by rw [List.getElem?_drop, List.getElem?_eq_getElem hl]]
  simp [Nat.add_assoc]
set_option maxRecDepth 100000 in
set_option maxHeartbeats 1600000 in
theorem kind_easy (R : Nat) (bw : Value) (bs : Bs) (x : Ps) (w : World) (h : KD w R bw bs x) (hl : bs.length ≤ 2000000) (hn : x.1 ≠ 0 ∨ isP sType (bs.drop x.2) = false) :
    Calls Tryz.prog 52 #[.pointer (some ⟨R, 0, none⟩)] w (KdK R bw bs x w) := by
  obtain ⟨xe, i⟩ := x
  have c2 := h.k.c2
  dsimp only at c2 hn
  by_cases h0 : xe = 0
  · subst h0
    have hp : isP sType (bs.drop i) = false := hn.resolve_left (fun h => h rfl)
    have hbg := Lib.hid (begins_any R bw bs (0, i) ⟨#[67, 111, 110, 116, 101, 110, 116, 45, 84, 121, 112, 101, 58, 32]⟩ w h hl (by decide) (by decide))
    have hkn := Lib.hid (kind_no hp)
    dsimp only at hbg
    rw [show ([67, 111, 110, 116, 101, 110, 116, 45, 84, 121, 112, 101, 58, 32] : Bs) = sType from rfl, hp] at hbg
    have hh := Lib.hid h
    cases hq : moreP sType (bs.drop i) with
    | true =>
      rw [hq] at hbg hkn
      have hkn2 := Lib.hid (show kindP bs (0, i) = ((12, i), []) from by rw [hkn.out]; simp)
      clear h hp hq hn hkn
      go_enter Tryz.func52, Tryz.ntmps52
      go_wp2_with (first
        | (go_at_call 54; refine (hbg.out).mono ?_; rintro e w1 ⟨rfl, g1⟩; have h1 := hh.out.gb g1; have hfl := Lib.hid (fail_any R bw (0, i) 12 w1 h1.k); replace h1 := Lib.hid h1; have g1h := Lib.hid g1; clear g1)
        | (go_at_call 55; refine (hfl.out).mono ?_; rintro e w2 ⟨rfl, k2, g2⟩; have h2 := Lib.hid (h1.out.kept k2 g2 h1.out.i); have g2h := Lib.hid g2; clear k2 g2))
      go_ret
      unfold KdK
      rw [hkn2.out]
      exact ⟨_, rfl, fun h => absurd h (by simp), KD.x h2.out, gb_trans (gb_row g1h.out _) g2h.out⟩
    | false =>
      rw [hq] at hbg hkn
      have hkn2 := Lib.hid (show kindP bs (0, i) = ((0, i), []) from by rw [hkn.out]; simp)
      clear h hp hq hn hkn
      go_enter Tryz.func52, Tryz.ntmps52
      go_wp2_with (first
        | (go_at_call 54; refine (hbg.out).mono ?_; rintro e w1 ⟨rfl, g1⟩; have g1h := Lib.hid g1; clear g1))
      go_ret
      unfold KdK
      rw [hkn2.out]
      exact ⟨_, rfl, fun _ => rfl, (hh.out.gb g1h.out).x, gb_row g1h.out _⟩
  · have hs := Lib.hid (kind_skip (bs := bs) (i := i) h0)
    have e0 : (xe != 0) = true := by simpa using h0
    have hh := Lib.hid h
    have h0h := Lib.hid h0
    clear h0 h hn
    go_enter Tryz.func52, Tryz.ntmps52
    go_wp2_with fail
    go_ret
    unfold KdK
    rw [hs.out]
    exact ⟨_, rfl, fun _ => rfl, hh.out.x, gb_refl _ _⟩
set_option maxRecDepth 100000 in
set_option maxHeartbeats 3200000 in
theorem kind_go (R : Nat) (bw : Value) (bs : Bs) (i : Nat) (w : World) (h : KD w R bw bs (0, i)) (hl : bs.length ≤ 2000000) (hp : isP sType (bs.drop i) = true) :
    Calls Tryz.prog 52 #[.pointer (some ⟨R, 0, none⟩)] w (KdK R bw bs (0, i) w) := by
  have c2 := h.k.c2
  have hi := h.i
  dsimp only at c2 hi
  have hpl := pre_len (show sType.isPrefixOf (bs.drop i) = true from hp)
  rw [List.length_drop, show sType.length = 14 from rfl] at hpl
  have hbg := Lib.hid (begins_any R bw bs (0, i) ⟨#[67, 111, 110, 116, 101, 110, 116, 45, 84, 121, 112, 101, 58, 32]⟩ w h hl (by decide) (by decide))
  dsimp only at hbg
  rw [show ([67, 111, 110, 116, 101, 110, 116, 45, 84, 121, 112, 101, 58, 32] : Bs) = sType from rfl, hp, show moreP sType (bs.drop i) = false from by unfold moreP; rw [decide_eq_false (by rw [List.length_drop]; show ¬ _ < 14; omega)]; rfl] at hbg
  have hbs : bs ≠ [] := by intro e; have : bs.length = 0 := (by rw [e]; rfl); omega
  obtain ⟨b, o, c, rfl, hc, hbR, hba⟩ : ∃ b o c, bw = .slice (some ⟨b, o, none⟩) bs.length c ∧ bs.length ≤ c ∧ b ≠ R ∧ BA w b o bs := by
    rcases h.b with ⟨_, _, _, e⟩ | ⟨b, o, c, e, h1, h2, _, h3⟩
    · exact absurd e hbs
    · exact ⟨b, o, c, e, h1, h2, h3⟩
  have hh := Lib.hid h
  obtain ⟨f, hf⟩ : ∃ f : Nat, i + 14 = f := ⟨_, rfl⟩
  have w14 : wrap64 ((i : Int) + 14) = (f : Int) := (wrap64_id (by omega) (by omega)).trans (by omega)
  have hfl : f ≤ bs.length := by omega
  have hkdh := Lib.hid (show ∀ s : Bs, lead prB 4097 (bs.drop f) = s → kindP bs (0, i) = if 4096 < s.length ∨ (s.length = 0 ∧ f < bs.length) then ((4, f + s.length), s) else (needP bs crlf (0, f + s.length), s) from fun s hs => by
    have := kind_yes (bs := bs) (i := i) hp (s := s) (by rw [hf]; exact hs)
    rw [hf] at this
    exact this)
  have hbah := Lib.hid hba
  have hch := Lib.hid hc
  clear h hp hbs hpl hba hc
  go_enter Tryz.func52, Tryz.ntmps52
  go_wp2_with (first
    | (go_at_call 54; refine (hbg.out).mono ?_; rintro e w1 ⟨rfl, g1⟩; have h1 := hh.out.gb g1; have x1 := h1.k.c1; have f1 := h1.k.f 1; dsimp only at x1; replace h1 := Lib.hid h1; have g1h := Lib.hid g1; clear g1))
  rw [show ((i : Int) + 14) = (f : Int) from by omega]
  have hq1 := h1.out.kept (h1.out.k.set1 f) (gb_setR (gb_refl w1 (some R)) 1 (.int .i64 (f : Nat))) hfl
  have gq1 := gb_trans (gb_row g1h.out (some R)) (gb_setR (gb_refl w1 (some R)) 1 (.int .i64 (f : Nat)))
  obtain ⟨wa, hwa⟩ : ∃ W, w1.setCell ⟨R, 1, none⟩ (.int .i64 (f : Nat)) = W := ⟨_, rfl⟩
  rw [hwa] at hq1 gq1
  rw [hwa]
  have hq1h := Lib.hid hq1
  have gq1h := Lib.hid gq1
  clear x1 f1 h1 hbg w14 c2 hwa hq1 gq1 g1h
  go_loopg [] (bs.length - f) (fun g wr => ∃ k : Nat, g = bs.length - (f + k) ∧ LI bs f k ∧ KD wr R (.slice (some ⟨b, o, none⟩) bs.length c) bs (0, f + k) ∧ w.grownBy wr (some R))
  case atStart => exact ⟨0, rfl, .start hfl, hq1h.out, gq1h.out⟩
  case round =>
    clear hq1h gq1h
    obtain ⟨k, rfl, hn, hr, hgr⟩ := hrel
    have d0 := hr.k.c0
    have d1 := hr.k.c1
    dsimp only at d1
    obtain ⟨j, hj⟩ : ∃ j : Nat, f + k = j := ⟨_, rfl⟩
    rw [hj] at d1
    have hle := hn.le
    have hk := hn.k
    have hrh := Lib.hid hr
    have hgh := Lib.hid hgr
    have hnh := Lib.hid hn
    have hjh := Lib.hid hj
    have wjf : IntKind.i64.wrap ((j : Int) - (f : Int)) = (k : Int) := (wrap_id (by omega) (by omega)).trans (by omega)
    have hba2 := hbah.out.gt (T := fun k => k = R) (.of_some hgr rfl) hbR
    obtain ⟨B, hB⟩ : ∃ B : Bool, B = (if hl : f + k < bs.length then (prB bs[f + k] && decide (k ≤ 4096)) else false) := ⟨_, rfl⟩
    go_upto_region 10 with fail
    go_cut [64] from 33 to 71 (fun u64 wx => u64 = .bool B ∧ wr.grownBy wx none)
    case first =>
      by_cases hs : j < bs.length
      · have hcj := hba2 j hs
        have hB2 : B = (prB bs[j] && decide (k ≤ 4096)) := by rw [hB, dif_pos (by omega)]; simp only [hj]
        obtain ⟨C, hC⟩ : ∃ C, bs[j] = C := ⟨_, rfl⟩
        rw [hC] at hcj hB2
        have hpr := fun W => Lib.hid (print_any C W)
        have hsI : decide (j < bs.length) = true := decide_eq_true hs
        have j0 : (0 : Int) ≤ (j : Int) := by omega
        have j1 : (j : Int) < (bs.length : Int) := by omega
        cases hd : prB C with
        | false =>
          rw [hd] at hpr hB2
          clear hB hC hba2 hn hr hgr hd
          go_quiet (first
            | (go_at_call 46; with_reducible exact Calls.quiet_of_same (hpr _).out))
          go_wp2_with fail
          go_meet
          exact ⟨by rw [hB2]; rfl, gb_drewN (gb_refl _ _) _⟩
        | true =>
          rw [hd] at hpr hB2
          clear hB hC hba2 hn hr hgr hd
          go_quiet (first
            | (go_at_call 46; with_reducible exact Calls.quiet_of_same (hpr _).out))
          go_wp2_with fail
          go_meet
          exact ⟨by rw [hB2, Bool.true_and]; exact congrArg Value.bool (by rw [decide_eq_decide]; omega), gb_drewN (gb_refl _ _) _⟩
      · have hsI : decide (j < bs.length) = false := decide_eq_false hs
        have hB2 : B = false := by rw [hB, dif_neg (by omega)]
        clear hB hba2 hn hr hgr
        go_quiet (fail)
        go_wp2_with fail
        go_meet
        exact ⟨by rw [hB2], gb_drewN (gb_refl _ _) _⟩
    case rest =>
      obtain ⟨rfl, gx⟩ := hcut
      have hrx := hrh.out.gb gx
      have d0 := hrx.k.c0
      have d1 := hrx.k.c1
      have f1 := hrx.k.f 1
      dsimp only at d1
      rw [hj] at d1
      have gxh := Lib.hid gx
      have hrxh := Lib.hid hrx
      cases B with
      | true =>
        have hgo : ∃ hl : f + k < bs.length, prB bs[f + k] = true ∧ k ≤ 4096 := by
          by_cases hl2 : f + k < bs.length
          · rw [dif_pos hl2] at hB
            have h2 := hB.symm
            rw [Bool.and_eq_true, decide_eq_true_eq] at h2
            exact ⟨hl2, h2⟩
          · rw [dif_neg hl2] at hB; cases hB
        obtain ⟨hl2, hp2, hk2⟩ := hgo
        have hst := Lib.hid (hn.step hl2 hp2 hk2)
        have hms := Lib.hid (show bs.length - (f + (k + 1)) < bs.length - (f + k) by omega)
        have hlt2 := Lib.hid (show f + (k + 1) ≤ bs.length by omega)
        have hjb : (j : Int) ≤ 2000000 := by omega
        clear hB hn hr hgr hba2 hp2 hrx gx
        go_wp2_with fail
        go_roundg (bs.length - (f + (k + 1)))
        case measure => have := hms.out; omega
        case rel =>
          rw [show ((j : Int) + 1) = ((f + (k + 1) : Nat) : Int) from by omega]
          exact ⟨k + 1, rfl, hst.out, hrxh.out.kept (hrxh.out.k.set1 (f + (k + 1))) (gb_setR (gb_refl _ _) _ _) hlt2.out, gb_trans hgh.out (gb_trans (gb_row gxh.out _) (gb_setR (gb_refl _ _) _ _))⟩
      | false =>
        have hstop : k = 4097 ∨ f + k = bs.length ∨ ∃ hl : f + k < bs.length, prB bs[f + k] = false := by
          by_cases hl2 : f + k < bs.length
          · rw [dif_pos hl2] at hB
            by_cases hk2 : k ≤ 4096
            · rw [decide_eq_true hk2, Bool.and_true] at hB
              exact .inr (.inr ⟨hl2, hB.symm⟩)
            · exact .inl (by omega)
          · exact .inr (.inl (by omega))
        have hS := hn.stop hstop
        obtain ⟨S, hSe⟩ : ∃ S : Bs, (bs.drop f).take k = S := ⟨_, rfl⟩
        have hSl : S.length = k := by rw [← hSe, List.length_take, List.length_drop]; omega
        rw [hSe] at hS
        have hkd := hkdh.out S hS
        rw [hSl] at hkd
        obtain ⟨V, hV⟩ : ∃ V : ByteArray, (⟨S.toArray⟩ : ByteArray) = V := ⟨_, rfl⟩
        have hVl := Lib.hid (show V.data.toList = S from by rw [← hV])
        have hbD : BA wr b (o + f) S := by rw [← hSe]; exact (hba2.drop f).take k
        have hBD := Lib.hid hbD
        have hcf2 := Lib.hid (show c = f → k = 0 ∧ f = bs.length from fun e => by have := hch.out; omega)
        have hjc := Lib.hid (show (j : Int) ≤ (c : Int) by have := hch.out; omega)
        have wjf64 : wrap64 ((j : Int) - (f : Int)) = (k : Int) := (wrap64_id (by omega) (by omega)).trans (by omega)
        clear hB hn hr hgr hba2 hrx gx hstop hS hSe hbD f1
        go_upto_region 12 with fail
        go_cut [99] from 72 to 99 (fun u99 wy => u99 = .bool (decide (4096 < k ∨ (k = 0 ∧ f < bs.length))) ∧ wr.grownBy wy none)
        case first =>
          by_cases hb1 : 4096 < k
          · have dl1 : decide ((4096 : Int) < (k : Int)) = true := decide_eq_true (by omega)
            have hbad : decide (4096 < k ∨ (k = 0 ∧ f < bs.length)) = true := decide_eq_true (.inl hb1)
            replace hbad := Lib.hid hbad
            clear hb1
            go_quiet (fail)
            go_wp2_with fail
            go_meet
            exact ⟨by rw [hbad.out], gb_trans gxh.out (gb_drewN (gb_refl _ _) _)⟩
          · have dl1 : decide ((4096 : Int) < (k : Int)) = false := decide_eq_false (by omega)
            by_cases hk0 : k = 0
            · have e0 : ((k : Int) == 0) = true := by rw [hk0]; rfl
              by_cases hs : j < bs.length
              · have dl2 : decide (j < bs.length) = true := decide_eq_true hs
                have hbad : decide (4096 < k ∨ (k = 0 ∧ f < bs.length)) = true := decide_eq_true (.inr ⟨hk0, by omega⟩)
                replace hbad := Lib.hid hbad
                clear hb1 hk0 hs
                go_quiet (fail)
                go_wp2_with fail
                go_meet
                exact ⟨by rw [hbad.out], gb_trans gxh.out (gb_drewN (gb_refl _ _) _)⟩
              · have dl2 : decide (j < bs.length) = false := decide_eq_false hs
                have hbad : decide (4096 < k ∨ (k = 0 ∧ f < bs.length)) = false := decide_eq_false (by omega)
                replace hbad := Lib.hid hbad
                clear hb1 hk0 hs
                go_quiet (fail)
                go_wp2_with fail
                go_meet
                exact ⟨by rw [hbad.out], gb_trans gxh.out (gb_drewN (gb_refl _ _) _)⟩
            · have e0 : ((k : Int) == 0) = false := by simpa using hk0
              have hbad : decide (4096 < k ∨ (k = 0 ∧ f < bs.length)) = false := decide_eq_false (by omega)
              replace hbad := Lib.hid hbad
              clear hb1 hk0
              go_quiet (fail)
              go_wp2_with fail
              go_meet
              exact ⟨by rw [hbad.out], gb_trans gxh.out (gb_drewN (gb_refl _ _) _)⟩
        case rest =>
          obtain ⟨rfl, gy⟩ := hcut
          have hry := Lib.hid (hrh.out.gb gy)
          have gyh := Lib.hid gy
          have hsub : j - f = k := by omega
          have j0 : (0 : Int) ≤ (f : Int) := by omega
          have j1 : (f : Int) ≤ (j : Int) := by omega
          have j2 := hjc.out
          by_cases hb : 4096 < k ∨ (k = 0 ∧ f < bs.length)
          · rw [decide_eq_true hb]
            have hkd2 := Lib.hid (hkd.trans (if_pos hb))
            have hcf : ¬ c = f := fun e => by have := hcf2.out e; omega
            have hcv : ∀ W, GT wr W (fun k => k = R) → (convert 22 9 (.slice (some ⟨b, o + f, none⟩) k (c - f))).run Tryz.prog W = .ok (.string V) W := fun W hW => by
              rw [← hV]
              exact BV.str (w := W) (bs := S) ⟨_, c - f, by rw [hSl], by rw [hSl]; have := hjc.out; omega, fun _ => ⟨b, o + f, rfl, hBD.out.gt hW hbR⟩⟩
            have hfa := fun W (hW : KD W R (.slice (some ⟨b, o, none⟩) bs.length c) bs (0, f + k)) => Lib.hid (fail_any R (.slice (some ⟨b, o, none⟩) bs.length c) (0, f + k) 4 W hW.k)
            clear hb hkd hV gy hnh
            go_upto_region 14 with (first
              | (go_at_call 55; refine ((hfa _ hry.out).out).mono ?_; rintro e w2 ⟨rfl, k2, g2⟩; have hK := Lib.hid (hry.out.kept (y := (4, f + k)) k2 g2 hry.out.i); have hgt := Lib.hid (GT.gb (T := fun k => k = R) (.of_none gyh.out) g2 (fun _ _ h => (Option.some.inj h).symm)); have hGW := Lib.hid (gb_trans hgh.out (gb_trans (gb_row gyh.out _) g2)); clear k2 g2))
            have hcvq := fun q => hcv _ (gt_drewN hgt.out q)
            have hnd := fun q => Lib.hid (need_any R (.slice (some ⟨b, o, none⟩) bs.length c) bs (4, f + k) ⟨#[13, 10]⟩ _ (hK.out.gb (gb_drewN (gb_refl _ none) q)) hl (by decide) (by decide))
            have d0 := hK.out.k.c0
            have d1 := hK.out.k.c1
            dsimp only at d1
            rw [hj] at d1
            clear hcv
            go_quiet (fail)
            go_wp2_with (first
              | (go_at_call 50; refine ((hnd _).out).mono ?_; rintro e w9 ⟨rfl, hk9, g9⟩))
            go_ret
            unfold KdK
            rw [hkd2.out]
            exact ⟨V, rfl, fun _ => hVl.out, KD.x (by rw [need_err (by decide)] at hk9; exact hk9), gb_trans hGW.out (gb_trans (gb_row (gb_drewN (gb_refl _ none) _) _) g9)⟩
          · rw [decide_eq_false hb]
            have hkd2 := Lib.hid (hkd.trans (if_neg hb))
            have hK := hry
            have hgt := Lib.hid (GT.of_none (T := fun k => k = R) gy)
            have hGW := Lib.hid (gb_trans hgh.out (gb_row gy _))
            by_cases hcf : c = f
            · have hk0 := (hcf2.out hcf).1
              subst hk0
              have hjf : j = f := by omega
              have hS0 : S = [] := List.length_eq_zero_iff.mp hSl
              have hcv : ∀ W, GT wr W (fun k => k = R) → (convert 22 9 (.slice (some ⟨b, o, none⟩) 0 0)).run Tryz.prog W = .ok (.string V) W := fun W hW => by
                rw [← hV, hS0]
                exact BV.str (w := W) (bs := []) ⟨_, 0, rfl, Nat.le_refl _, fun h => absurd rfl h⟩
              clear hb hkd hV gy hnh
              replace hcf := hcf.symm
              subst hcf
              replace hjf := hjf.symm
              subst hjf
              go_upto_region 14 with fail
              have hcvq := fun q => hcv _ (gt_drewN hgt.out q)
              have hnd := fun q => Lib.hid (need_any R (.slice (some ⟨b, o, none⟩) bs.length f) bs (0, f + 0) ⟨#[13, 10]⟩ _ (hK.out.gb (gb_drewN (gb_refl _ none) q)) hl (by decide) (by decide))
              have d0 := hK.out.k.c0
              have d1 := hK.out.k.c1
              dsimp only at d1
              rw [hj] at d1
              clear hcv
              go_quiet (fail)
              go_wp2_with (first
                | (go_at_call 50; refine ((hnd _).out).mono ?_; rintro e w9 ⟨rfl, hk9, g9⟩))
              go_ret
              unfold KdK
              rw [hkd2.out]
              exact ⟨V, rfl, fun _ => hVl.out, KD.x hk9, gb_trans hGW.out (gb_trans (gb_row (gb_drewN (gb_refl _ none) _) _) g9)⟩
            · have hcv : ∀ W, GT wr W (fun k => k = R) → (convert 22 9 (.slice (some ⟨b, o + f, none⟩) k (c - f))).run Tryz.prog W = .ok (.string V) W := fun W hW => by
                rw [← hV]
                exact BV.str (w := W) (bs := S) ⟨_, c - f, by rw [hSl], by rw [hSl]; have := hjc.out; omega, fun _ => ⟨b, o + f, rfl, hBD.out.gt hW hbR⟩⟩
              clear hb hkd hV gy hnh
              go_upto_region 14 with fail
              have hcvq := fun q => hcv _ (gt_drewN hgt.out q)
              have hnd := fun q => Lib.hid (need_any R (.slice (some ⟨b, o, none⟩) bs.length c) bs (0, f + k) ⟨#[13, 10]⟩ _ (hK.out.gb (gb_drewN (gb_refl _ none) q)) hl (by decide) (by decide))
              have d0 := hK.out.k.c0
              have d1 := hK.out.k.c1
              dsimp only at d1
              rw [hj] at d1
              clear hcv
              go_quiet (fail)
              go_wp2_with (first
                | (go_at_call 50; refine ((hnd _).out).mono ?_; rintro e w9 ⟨rfl, hk9, g9⟩))
              go_ret
              unfold KdK
              rw [hkd2.out]
              exact ⟨V, rfl, fun _ => hVl.out, KD.x hk9, gb_trans hGW.out (gb_trans (gb_row (gb_drewN (gb_refl _ none) _) _) g9)⟩
theorem kind_any (R : Nat) (bw : Value) (bs : Bs) (x : Ps) (w : World) (h : KD w R bw bs x) (hl : bs.length ≤ 2000000) :
    Calls Tryz.prog 52 #[.pointer (some ⟨R, 0, none⟩)] w (KdK R bw bs x w) := by
  by_cases h0 : x.1 = 0
  · cases hp : isP sType (bs.drop x.2) with
    | false => exact kind_easy R bw bs x w h hl (.inr hp)
    | true =>
      obtain ⟨e, i⟩ := x
      dsimp only at h0
      subst h0
      exact kind_go R bw bs i w h hl hp
  · exact kind_easy R bw bs x w h hl (.inl h0)
end Go.Proofs.YtdfgnoflohfnmaaGreatDoor.Hx
