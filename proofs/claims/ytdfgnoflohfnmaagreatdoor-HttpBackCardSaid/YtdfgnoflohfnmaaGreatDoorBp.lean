/- HTTP: what is sent is told, and what is answered is read: the statement's own walk, joined. -/
import Derived.Test.YtdfgnoflohfnmaaGreatDoorBo
import Derived.Test.YtdfgnoflohfnmaaGreatDoorBk
namespace Go.Proofs.YtdfgnoflohfnmaaGreatDoor.Hx
open Go.RowKit Go.Maps

theorem info_rq2 : (Tryz.prog.info? 32).map (fun i => (i.zero, i.size, i.bytes)) = some (some req0, 5, 88) := by kernel_rfl
/-- the loop's relation -/
def F2 (w : World) (L : List Rq) (gk : Nat) (v18 v19 v20 : Value) (wr : World) : Prop :=
  ∃ i : Nat, i ≤ L.length ∧ v20 = .int .i64 (i : Nat) ∧ AL w wr v18 v19 (okS (L.take i)) ∧ gk = L.length - i
set_option maxRecDepth 100000 in
set_option maxHeartbeats 3200000 in
theorem back_go (lv cv hv : Value) (L : List Rq) (cuts : List Int) (st : Int) (ty : Bs) (cl : Bool) (body : Bs) (T : ByteArray) (bv : Value) (behind : Bs) (m : Int) (w : World) (hlv : LQ w lv L) (hlb : ∀ r ∈ L, r.m.length ≤ 1000000000000000 ∧ r.p.length ≤ 1000000000000000 ∧ r.body.length ≤ 1000000000000000)
    (hcv : IV w cv cuts) (hT : T.data.toList = ty) (hbv : BV w bv body) (hhv : BV w hv behind) (hm : MX w m) (hPT : PTw w) (hL : ∀ W, w.grownBy W none → Calls Tryz.prog 7 #[] W fun e w' => e = .returned (.bool true) ∧ W.grownBy w' none)
    (h1 : L.length ≤ 12) (h2 : ty.length ≤ 20000) (h3 : body.length ≤ 20000) (h4 : behind.length ≤ 20000) (h5 : cuts.length ≤ 60) :
    Calls Tryz.prog 6 #[lv, cv, .agg #[.int .i64 st, .string T, .bool cl, bv], hv] w fun e w' => e = .returned (.bool true) ∧ w.grownBy w' none := by
  have hTs : T.size = ty.length := by rw [ba_size, hT]
  have hlvh := Lib.hid hlv
  obtain ⟨Al, kl, rfl, hlq⟩ := hlv
  have hcvh := Lib.hid hcv
  obtain ⟨Ac, kc, rfl, hci⟩ := hcv
  have hhvh := Lib.hid hhv
  obtain ⟨Ah, kh, rfl, _, _⟩ := hhv
  have hbvh := Lib.hid hbv
  obtain ⟨Ab, cb, rfl, _, _⟩ := hbv
  replace hlq := Lib.hid hlq
  replace hci := Lib.hid hci
  have hP : PF (w.alloc (.cells #[.int .i64 st, .string T, .bool cl, .slice Ab body.length cb] 44)) w.heap.size st T cl (.slice Ab body.length cb) := heap_alloc_new _ _
  have gw1 : w.grownBy (w.alloc (.cells #[.int .i64 st, .string T, .bool cl, .slice Ab body.length cb] 44)) none := gb_alloc (gb_refl _ _) _
  obtain ⟨w1, hw1⟩ : ∃ W, w.alloc (.cells #[.int .i64 st, .string T, .bool cl, .slice Ab body.length cb] 44) = W := ⟨_, rfl⟩
  rw [hw1] at hP gw1
  have hPh := fun W (hg : w1.grownBy W none) => Lib.hid (hP.kept hg (by simp))
  have i1 : ¬ (12 : Int) < (L.length : Int) := by omega
  have i2 : ¬ (20000 : Int) < (T.size : Int) := by omega
  have i3 : ¬ (20000 : Int) < (body.length : Int) := by omega
  have i4 : ¬ (20000 : Int) < (behind.length : Int) := by omega
  have i5 : ¬ (60 : Int) < (cuts.length : Int) := by omega
  have hL1 := Lib.hid (hL w1 gw1)
  have hap := fun W (hg : w.grownBy W none) => Lib.hid (app_ex ⟨st, ty, cl, body⟩ T (.slice Ab body.length cb) W hT (hbvh.out.kp hg) (by show ty.length ≤ _; omega) (by show body.length ≤ _; omega) (hPT.grown hg))
  replace h1 := Lib.hid h1
  replace h2 := Lib.hid h2
  replace h3 := Lib.hid h3
  replace h4 := Lib.hid h4
  replace h5 := Lib.hid h5
  replace hTs := Lib.hid hTs
  replace hT := Lib.hid hT
  replace hlb := Lib.hid hlb
  replace hPT := Lib.hid hPT
  replace hm := Lib.hid hm
  clear hL hP
  go_enter Tryz.func6, Tryz.ntmps6
  go_upto_region 1 with fail
  try rw [hw1]
  replace hw1 := Lib.hid hw1
  go_upto_if 56 with (first
    | (go_at_call 7; refine (hL1.out).mono ?_; rintro e w0 ⟨rfl, g0⟩; have gw0 := gb_trans gw1 g0; have x0 := (hPh w0 g0).out.c0; have x1 := (hPh w0 g0).out.c1; have x2 := (hPh w0 g0).out.c2; have x3 := (hPh w0 g0).out.c3)
    | (go_at_call 23; refine ((hap _ gw0).out).mono ?_; rintro e w2 ⟨A2, n2, c2, eI, rfl, g2, hb2⟩; have gw2 := gb_trans gw0 g2; replace hb2 := Lib.hid hb2))
  go_cut [8] from 9 (fun _u8 wx => w.grownBy wx none)
  case first =>
    by_cases he : eI = 0
    · subst he
      obtain ⟨hmay, rfl, hbv2⟩ := hb2.out rfl
      obtain ⟨ho1, ho2⟩ := out_len ⟨st, ty, cl, body⟩ h2.out h3.out hmay
      have hrg := fun bw W (hb : BV W bw (([] ++ outP ⟨st, ty, cl, body⟩) ++ behind)) => Lib.hid (read_good ⟨st, ty, cl, body⟩ T hT.out hmay behind bw W hb (by have := h4.out; omega))
      have hrl := fun k (hk : k < (outP ⟨st, ty, cl, body⟩).length) bw W (hb : BV W bw ((outP ⟨st, ty, cl, body⟩).take k)) => Lib.hid (read_less ⟨st, ty, cl, body⟩ hmay k hk bw W hb (by omega))
      dsimp only at hrg
      obtain ⟨O, hO⟩ : ∃ O, outP ⟨st, ty, cl, body⟩ = O := ⟨_, rfl⟩
      rw [hO] at hrg hrl hbv2 ho1 ho2
      rw [hO]
      clear hO hb2
      have hO0 : O ≠ [] := by intro e; rw [e] at ho1; simp at ho1
      obtain ⟨A9, k9, e9, hk9, hx9⟩ := hbv2
      injection e9 with e9 _ e9'
      subst e9 e9'
      obtain ⟨b2, o2, rfl, hba2⟩ := hx9 hO0
      have hbO : BV w2 (.slice (some ⟨b2, o2, none⟩) O.length c2) O := ⟨_, _, rfl, hk9, hx9⟩
      have gal : w2.grownBy (w2.alloc (.cells #[] 5 (0, 0))) none := gb_alloc (gb_refl _ _) _
      have hb0 : Hid (BG w2 0 (w2.alloc (.cells #[] 5 (0, 0))) (.slice (some ⟨w2.heap.size, 0, none⟩) 0 0) []) := Lib.hid ⟨⟨w2.heap.size, .inr ⟨0, 0, #[], rfl, Nat.le_refl _, by unfold maxLen; omega, heap_alloc_new _ _, Nat.le_refl _, rfl⟩, Nat.le_refl _⟩, gal, Nat.le_refl _⟩
      have hs1 := Lib.hid (BV.src (hbO.kp gal))
      have hs2 := fun W (hg : w2.grownBy W none) => Lib.hid (BV.src (hhvh.out.kp (gb_trans gw2 hg)))
      have hOl : Hid (O.length ≤ 100000) := ho2
      replace hk9 := Lib.hid hk9
      replace hba2 := Lib.hid hba2
      replace hbO := Lib.hid hbO
      replace hx9 := Lib.hid hx9
      have hO0' : ¬ O = [] := hO0
      clear hO0
      go_wp2_with (first
        | (have hh := hmk; clear hh; at_builtin; refine wpList_append_bg rfl _ _ _ rfl rfl rfl hB8.out (hs2 _ hB8.out.gb).out h4.out (by decide) ?_; clear hmk; intro A9 N9 c9 w9 hB9; have hbv9 : BV w9 (.slice A9 N9 c9) (([] ++ O) ++ behind) := (by obtain ⟨b, h, _⟩ := hB9.ex; exact (h.bs (S := fun _ => True) (fun _ => trivial)).bv); have g9 := hB9.gb; clear hB9)
        | (at_builtin; refine wpList_append_bg rfl _ _ _ rfl rfl rfl hb0.out hs1.out hOl.out (by decide) ?_; clear hb0; intro A8 N8 c8 w8 hB8; replace hB8 := Lib.hid hB8; have hmk : True := trivial)
        | (go_at_call 25; refine ((hrg _ _ hbv9).out).mono ?_; rintro e w10 ⟨bA, bc, rfl, hbv10, g10⟩; have g2a := gb_trans (gb_trans g9 g10) (gb_alloc (gb_refl w10 none) (.cells #[.int .i64 st, .string T, .bool cl, .slice bA body.length bc] 44)); have y := (hPh _ (gb_trans (gb_trans g0 g2) g2a)).out; have y0 := y.c0; have y1 := y.c1; have y2 := y.c2; have y3 := y.c3; clear y; have hbva := Lib.hid (hbv10.kp (gb_alloc (gb_refl w10 none) (.cells #[.int .i64 st, .string T, .bool cl, .slice bA body.length bc] 44))); clear hbv10; have hbvb := Lib.hid (hbvh.out.kp (gb_trans gw2 g2a)))
        | (go_at_call 29; refine (same_resp st T cl _ _ _ _ body _ hbva.out hbvb.out).mono ?_; rintro e w11 ⟨rfl, g11⟩; have gw11 := gb_trans g2a g11))
      have hkI2 : (c2 : Int) ≥ (O.length : Int) := Int.ofNat_le.mpr hk9.out
      go_loopg [14] cuts.length (fun gk v14 wr => ∃ i : Nat, i ≤ cuts.length ∧ v14 = .int .i64 (i : Nat) ∧ w2.grownBy wr none ∧ gk = cuts.length - i)
      case atStart => exact ⟨0, Nat.zero_le _, rfl, gw11, rfl⟩
      case round =>
        obtain ⟨i, hi, rfl, gr, rfl⟩ := hrel
        by_cases hlt : i < cuts.length
        · obtain ⟨⟨gc, oc, rfl, hcell⟩, _, _⟩ := hci.out i hlt
          have hcell2 := cell_grown hcell (gb_trans gw2 gr) (by simp)
          have hinI : (i : Int) < (cuts.length : Int) := by omega
          have hi0 : (0 : Int) ≤ (i : Int) := Int.natCast_nonneg i
          have hpk := fun W => Lib.hid (pick_any (cuts[i]) (O.length : Int) W (by omega) (by have := hOl.out; omega))
          have hqi := Lib.hid (show wrap64 ((i : Int) + 1) = ((i + 1 : Nat) : Int) from (wrap64_id (by omega) (by have := h5.out; omega)).trans (by omega))
          generalize cuts[i] = cn at *
          have hlth := Lib.hid hlt
          clear hcell hlt hi
          go_wp2_with (first
            | (go_at_call 12; refine ((hpk _).out).mono ?_; rintro e w5 ⟨⟨k0, rfl, hk0, hk1⟩, hw5⟩; rw [hw5]; clear hw5; obtain ⟨kn, rfl⟩ := Int.eq_ofNat_of_zero_le hk0; have hkn : kn < O.length := (by omega); have hkc : (kn : Int) ≤ (c2 : Int) := (by omega); have htk : (O.take kn).length = kn := List.length_take_of_le (Nat.le_of_lt hkn); have hbt : BV wr (.slice (some ⟨b2, o2, none⟩) kn c2) (O.take kn) := (⟨_, c2, by rw [htk], by rw [htk]; have := hk9.out; omega, fun _ => ⟨b2, o2, rfl, (hba2.out.grown gr (by simp)).take kn⟩⟩); have hrl2 := Lib.hid ((hrl kn hkn _ wr hbt).out); clear htk hbt)
            | (go_at_call 25; refine (hrl2.out).mono ?_; rintro e w6 ⟨rfl, g6⟩))
          go_roundg (cuts.length - (i + 1))
          case measure => have := hlth.out; omega
          case rel => exact ⟨i + 1, hlth.out, (by first | exact exact_i hqi.out | exact exact_i (Int.natCast_add i 1).symm), gb_trans (gb_trans gr g6) (gb_alloc (gb_refl _ _) _), rfl⟩
        · have hinI : ¬ (i : Int) < (cuts.length : Int) := by omega
          go_wp2_with fail
          go_meet
          exact gb_trans gw2 gr
    · go_wp2_with fail
      go_meet
      exact gw2
  case rest =>
    have gc := hcut
    clear hb2 hap hL1 x0 x1 x2 x3 gw2 g2 gw0 g0 hPh
    obtain ⟨i0, hi0, hi1, hi2, hi3⟩ := info_parts info_rq2
    go_wp2_with fail
    go_loopg [18, 19, 20] L.length (fun gk v18 v19 v20 wr => F2 w L gk v18 v19 v20 wr)
    case atStart => exact ⟨0, Nat.zero_le _, rfl, AL.start gc, rfl⟩
    case round =>
      obtain ⟨i, hi, rfl, hal, rfl⟩ := hrel
      have gr := hal.gb
      by_cases hlt : i < L.length
      · obtain ⟨gl, ol, x, rfl, hx, c0, c1, c2, c3, c4⟩ := hlq.out i hlt
        have hxh := Lib.hid hx
        obtain ⟨xm, xp, A2, n2, k2, xc, A3, n3, k3, rfl⟩ := hx.shape
        dsimp only at c0 c1 c2 c3 c4
        have C0 := Lib.hid c0
        have C1 := Lib.hid c1
        have C2 := Lib.hid c2
        have C3 := Lib.hid c3
        have C4 := Lib.hid c4
        replace c0 := cell_grown c0 gr (by simp)
        replace c1 := cell_grown c1 gr (by simp)
        replace c2 := cell_grown c2 gr (by simp)
        replace c3 := cell_grown c3 gr (by simp)
        replace c4 := cell_grown c4 gr (by simp)
        have hinI : (i : Int) < (L.length : Int) := by omega
        have hi0' : (0 : Int) ≤ (i : Int) := Int.natCast_nonneg i
        have hsmr := Lib.hid (small_any L[i] _ wr (hx.grown gr) (hlb.out _ (List.getElem_mem hlt)).1 (hlb.out _ (List.getElem_mem hlt)).2.1 (hlb.out _ (List.getElem_mem hlt)).2.2)
        have hqi := Lib.hid (show wrap64 ((i : Int) + 1) = ((i + 1 : Nat) : Int) from (wrap64_id (by omega) (by have := h1.out; omega)).trans (by omega))
        have hlth := Lib.hid hlt
        replace hal := Lib.hid hal
        clear hx hi
        go_upto_if 114 with (first
          | (go_at_call 20; refine (hsmr.out).mono ?_; rintro e w3 ⟨B, rfl, hB, g3⟩))
        have g3r := gb_trans gr g3
        cases B with
        | false =>
          go_wp2_with fail
          go_ret
          exact ⟨rfl, g3r⟩
        | true =>
          have hSm := Lib.hid (hB rfl)
          replace c0 := cell_grown c0 g3 (by simp)
          replace c1 := cell_grown c1 g3 (by simp)
          replace c2 := cell_grown c2 g3 (by simp)
          replace c3 := cell_grown c3 g3 (by simp)
          replace c4 := cell_grown c4 g3 (by simp)
          have hsd := Lib.hid (send_any L[i] _ w3 (hxh.out.grown g3r) hSm.out (hPT.out.grown g3r))
          clear hsmr hB
          by_cases hmy : mayS L[i] = 0
          · have hyes := Lib.hid (okS_yes hlt hmy)
            have hmy0 := hmy
            clear hmy
            have hmy := Lib.hid hmy0
            clear hmy0
            obtain ⟨bo, xs, hbw, hbo, ho, hl, ha⟩ := (hal.out.grown g3).ex
            have hlen : Hid ((strm (okS (L.take i))).length + (sendP L[i]).length ≤ 1000000000) := Lib.hid (by
              have h1' := strm_len hal.out.ok
              have h2' := sent_len hmy.out hSm.out
              have h3' := okS_len (L.take i)
              have h4' := List.length_take_le i L
              have := h1.out
              omega)
            have hLL : Hid ((okS (L.take i)).length ≤ 12) := Lib.hid (Nat.le_trans (okS_len _) (Nat.le_trans (List.length_take_le' _ _) h1.out))
            replace hbw := Lib.hid hbw
            replace hbo := Lib.hid hbo
            replace ho := Lib.hid ho
            replace hl := Lib.hid hl
            replace ha := Lib.hid ha
            go_wp2_with (first
              | (go_at_call 27; refine (hsd.out).mono ?_; clear hsd; rintro e w4 ⟨g4, _, hk⟩; obtain ⟨v4, rfl, hv4⟩ := hk hmy.out; clear hk; obtain ⟨A4, k4, rfl, h41, h42⟩ := hv4.bv; have hs4 : Hid (Src Tryz.prog 1 22 (.slice A4 (sendP L[i]).length k4) (sendP L[i]).length (Lib.byteCells (sendP L[i])) w4) := Lib.hid (BV.src ⟨A4, k4, rfl, h41, h42⟩); clear hv4 h41 h42; have gw4 := gb_trans g3r g4; have hbw4 := Lib.hid (hbw.out.grown g4 (fun _ _ h => by cases h)); have ho4 := Lib.hid (ho.out.kept g4 (own_bo (fun _ h => by cases h))))
              | (have hh := hmk; clear hh; at_builtin; refine wpList_append_own_at _ rfl _ _ 29 rfl w.heap.size 32 i0 req0 5 88 Tryz.underlying29 hi0 hi1 hi2 hi3 rfl (by decide) _ _ _ rfl ho9.out ⟨_, 0, none⟩ 1 1 [.string xm, .string xp, .slice A2 n2 k2, .bool xc, .slice A3 n3 k3] rfl rfl (news_new _ _ (by simp)) (by simp [Value.oneCell']) (by have := hLL.out; unfold maxLen; omega) (by have := hLL.out; omega) (gb_trans gw8 (gb_alloc (gb_refl w8 none) _)).size ?_; clear hmk; intro v9 w9 o9 g9 _ at9; have o9' := Lib.hid o9; obtain ⟨gg, cap2, rfl⟩ := ownsRow_succ o9; clear o9)
              | (at_builtin; refine wpList_append_bw rfl _ _ _ rfl rfl rfl hbw4.out hs4.out hlen.out ?_; intro A8 k8 w8 bo8 hbw8 g8 hb8; have hbo8 := Lib.hid (bo_step gw4 (fun k e => (ho4.out.lt k e).2) hbo.out hb8); have gw8 := gb_more gw4 g8 (fun g e => .inr (hbo.out g e).1); replace hbw8 := Lib.hid hbw8; have ho9 : Hid ((w8.alloc (.cells #[.string xm, .string xp, .slice A2 n2 k2, .bool xc, .slice A3 n3 k3] 32)).ownsRow _ _ _ _ _ _) := Lib.hid ((ho4.out.kept g8 (own_bo (fun b e => (hbo.out b e).2))).kept (gb_alloc (gb_refl w8 none) _) (own_bo (fun _ h => by cases h))); have e0 := cell_grown C0.out gw8 (by simp); have e1 := cell_grown C1.out gw8 (by simp); have e2 := cell_grown C2.out gw8 (by simp); have e3 := cell_grown C3.out gw8 (by simp); have e4 := cell_grown C4.out gw8 (by simp); have hmk : True := trivial))
            go_roundg (L.length - (i + 1))
            case measure => have := hlth.out; omega
            case rel =>
              refine ⟨i + 1, hlth.out, (by first | exact exact_i hqi.out | exact exact_i (Int.natCast_add i 1).symm), ?_, rfl⟩
              rw [hyes.out]
              exact AL.put hl.out ha.out hal.out.ok hmy.out hSm.out hxh.out (gb_trans gw8 (gb_alloc (gb_refl w8 none) _)) (by rw [List.length_append] at hbw8; exact hbw8.out.grown (gb_alloc (gb_refl w8 none) _) (fun _ _ h => by cases h)) hbo8.out g9 o9'.out at9 (fun k e => (ho9.out.lt k e).1)
          · have hno := Lib.hid (okS_no hlt hmy)
            go_wp2_with (first
              | (go_at_call 27; refine (hsd.out).mono ?_; clear hsd; rintro e w4 ⟨g4, hk, _⟩; obtain rfl := hk hmy; clear hk))
            go_roundg (L.length - (i + 1))
            case measure => have := hlth.out; omega
            case rel => exact ⟨i + 1, hlth.out, (by first | exact exact_i hqi.out | exact exact_i (Int.natCast_add i 1).symm), (by rw [hno.out]; exact hal.out.grown (gb_trans g3 g4)), rfl⟩
      · have hinI : ¬ (i : Int) < (L.length : Int) := by omega
        have hie : i = L.length := by omega
        subst hie
        rw [List.take_length] at hal
        have hh := Lib.hid (hears_any _ _ (.slice Ac cuts.length kc) (okS L) cuts m wr hal.bv hal.lq (hcvh.out.grown gr) (hm.out.grown gr (by simp)) okS_ok (by have := strm_le hal.ok (Nat.le_trans (okS_len L) h1.out); omega) (Nat.le_trans (okS_len L) h1.out))
        clear hal hi
        go_wp2_with (first
          | (go_at_call 32; refine (hh.out).mono ?_; rintro e w9 ⟨rfl, g9⟩))
        go_ret
        exact ⟨rfl, gb_trans gr g9⟩
set_option maxRecDepth 100000 in
set_option maxHeartbeats 1600000 in
theorem back_large (Al : Option Addr) (nl kl : Nat) (Ac : Option Addr) (nc kc : Nat) (Ah : Option Addr) (nh kh : Nat) (st : Int) (T : ByteArray) (cl : Bool) (Ab : Option Addr) (nb cb : Nat) (w : World) (hL : ∀ W, w.grownBy W none → Calls Tryz.prog 7 #[] W fun e w' => e = .returned (.bool true) ∧ W.grownBy w' none)
    (h : 12 < nl ∨ 20000 < T.size ∨ 20000 < nb ∨ 20000 < nh ∨ 60 < nc) :
    Calls Tryz.prog 6 #[.slice Al nl kl, .slice Ac nc kc, .agg #[.int .i64 st, .string T, .bool cl, .slice Ab nb cb], .slice Ah nh kh] w fun e w' => e = .returned (.bool true) ∧ w.grownBy w' none := by
  have hP : PF (w.alloc (.cells #[.int .i64 st, .string T, .bool cl, .slice Ab nb cb] 44)) w.heap.size st T cl (.slice Ab nb cb) := heap_alloc_new _ _
  have gw1 : w.grownBy (w.alloc (.cells #[.int .i64 st, .string T, .bool cl, .slice Ab nb cb] 44)) none := gb_alloc (gb_refl _ _) _
  obtain ⟨w1, hw1⟩ : ∃ W, w.alloc (.cells #[.int .i64 st, .string T, .bool cl, .slice Ab nb cb] 44) = W := ⟨_, rfl⟩
  rw [hw1] at hP gw1
  have hPh := fun W (hg : w1.grownBy W none) => Lib.hid (hP.kept hg (by simp))
  have hL1 := Lib.hid (hL w1 gw1)
  clear hL hP
  go_enter Tryz.func6, Tryz.ntmps6
  go_upto_region 1 with fail
  try rw [hw1]
  replace hw1 := Lib.hid hw1
  go_upto_region 3 with (first
    | (go_at_call 7; refine (hL1.out).mono ?_; rintro e w0 ⟨rfl, g0⟩; have gw0 := gb_trans gw1 g0; have x0 := (hPh w0 g0).out.c0; have x1 := (hPh w0 g0).out.c1; have x2 := (hPh w0 g0).out.c2; have x3 := (hPh w0 g0).out.c3)
)
  by_cases i1 : (12 : Int) < (nl : Int)
  · clear h
    go_wp2_with fail
    go_ret
    exact ⟨rfl, gw0⟩
  by_cases i2 : (20000 : Int) < (T.size : Int)
  · clear h
    go_wp2_with fail
    go_ret
    exact ⟨rfl, gw0⟩
  by_cases i3 : (20000 : Int) < (nb : Int)
  · clear h
    go_wp2_with fail
    go_ret
    exact ⟨rfl, gw0⟩
  by_cases i4 : (20000 : Int) < (nh : Int)
  · clear h
    go_wp2_with fail
    go_ret
    exact ⟨rfl, gw0⟩
  have i5 : (60 : Int) < (nc : Int) := by omega
  clear h
  go_wp2_with fail
  go_ret
  exact ⟨rfl, gw0⟩
end Go.Proofs.YtdfgnoflohfnmaaGreatDoor.Hx
