/- JsonBack: the walk. -/
import Derived.Test.YtnnhkajjifmlfaaDoorTc
namespace Go.Proofs.YtnnhkajjifmlfaaDoor
open Go.RowKit Go.Maps

theorem JAt.same {w : World} {S : Nat → Prop} {j : J} {v : Value} (h : JAt w S j v) : ∃ nv lv, v = .agg #[.int .i64 j.k, .int .i64 j.n, .string j.t, nv, lv] := by
  obtain ⟨k, n, t, names, list⟩ := j
  obtain ⟨nv, lv, e, _⟩ := h.parts
  exact ⟨nv, lv, e⟩
/-- what Text's first answer being fine says -/
theorem textP_ok {j : J} (h : (textP j).2 = 0) : fineP j = true ∧ deepP j 64 = false ∧ (textJ j).length ≤ 1048576 ∧ (textP j).1 = ⟨(textJ j).toArray⟩ := by
  unfold textP at h ⊢
  by_cases hc : checkP j = 0
  · have hf := check_fine hc
    rw [if_neg (by simpa using hc)] at h ⊢
    by_cases hb : 1048576 < (textJ j).length
    · rw [if_pos hb] at h; exact absurd h (by decide)
    · rw [if_neg hb]
      exact ⟨hf.1, hf.2, by omega, rfl⟩
  · rw [if_pos (by simpa using hc)] at h
    exact absurd h hc
theorem textP_of {j : J} (hf : fineP j = true) (hd : deepP j 64 = false) (hl : (textJ j).length ≤ 1048576) : textP j = (⟨(textJ j).toArray⟩, 0) := by
  unfold textP checkP
  rw [hd, hf]
  simp
  omega
/-- two texts put together -/
theorem run_add_text {a b : ByteArray} (ha : a.size ≤ 10000) (hb : b.size ≤ 10000) {w : World} : (Op.stringOp .add a b).run Tryd.prog w = .ok (.string (a ++ b)) w :=
  run_string_add_sum w a b (by omega)
theorem wrap_bytes (s : ByteArray) : ((⟨#[32, 9, 13, 10]⟩ : ByteArray) ++ s ++ ⟨#[32, 10]⟩).data.toList = 32 :: 9 :: 13 :: 10 :: (s.data.toList ++ [32, 10]) := by
  simp [ByteArray.data_append]
theorem sizeT (l : List UInt8) : (⟨l.toArray⟩ : ByteArray).size = l.length := by show l.toArray.size = _; simp

section
variable {w : World} (hG : Gv w) (hw6 : 6 ≤ w.heap.size) (hPT : ∀ W, w.grownBy W none → PT W)
include hPT in
theorem pb_of {W : World} (hg : w.grownBy W none) : PB W.heap.size W := fun W' h => hPT W' (gb_trans hg (gb_of_below h))

set_option maxRecDepth 100000 in
set_option maxHeartbeats 3200000 in
include hG hw6 hPT in
theorem jsonBack_walk {j : J} (hj : JBd j) (s : ByteArray) (S : Nat → Prop) (v : Value) (hS : ∀ b, S b → b < w.heap.size) (hv : JAt w S j v) (hsz : s.size ≤ 9223372036854775807)
    (hl : ∀ W, w.grownBy W none → Calls Tryd.prog 12 #[] W fun e w' => e = .returned (.bool true) ∧ W.grownBy w' none) :
    Calls Tryd.prog 4 #[v, .string s] w fun e w' => e = .returned (.bool true) ∧ w.grownBy w' none := by
  have HS := fun (W : World) (hg : w.grownBy W none) => Lib.hid (small_any hj S v W (fun b hb => Nat.lt_of_lt_of_le (hS b hb) hg.size) (hv.keep (fun b hb => hg.block b (hS b hb) (by simp)) (fun _ => id)))
  have HL := fun (W : World) (hg : w.grownBy W none) => Lib.hid (hl W hg)
  obtain ⟨k, n, t, names, list⟩ := j
  have hv0 := hv
  obtain ⟨nv, lv, rfl, hN, hL⟩ := hv.parts
  have hg1 : w.grownBy (w.alloc (.cells #[.int .i64 k, .int .i64 n, .string t, nv, lv] 26)) none := gb_alloc (gb_refl w none) _
  have J0 := JB.new w (.int .i64 k) (.int .i64 n) (.string t) nv lv
  obtain ⟨d0, d1, d2, d3, d4, df⟩ := J0.all
  by_cases hsm : szJ (.mk k n t names list) ≤ 5000
  · rw [decide_eq_true hsm] at HS
    by_cases hs : s.size ≤ 5000
    · have hsI : ¬ (5000 : Int) < (s.size : Int) := by omega
      have HP := fun (x : ByteArray) (hx : x.size ≤ 1048576) (W : World) (hg : w.grownBy W none) => Lib.hid (parse_short x W hx (hG.kept hg (by simp)) (Nat.le_trans hw6 hg.size))
      have HT := fun (W : World) (hg : w.grownBy W none) => Lib.hid (Text_any hj (by omega) S _ W (fun b hb => Nat.lt_of_lt_of_le (hS b hb) hg.size) (pb_of hPT hg) (hv.keep (fun b hb => hg.block b (hS b hb) (by simp)) (fun _ => id)))
      have hJL := JLen.of hj (by omega)
      have hvk := fun (W : World) (hg : w.grownBy W none) => (hv.keep (w' := W) (S' := S) (fun b hb => hg.block b (hS b hb) (by simp)) (fun _ => id))
      have hSk := fun (W : World) (hg : w.grownBy W none) (b : Nat) (hb : S b) => Nat.lt_of_lt_of_le (hS b hb) hg.size
      -- the text with blanks
      have hw1 := wr_of (wrap_bytes s)
      have hwp := parse_wrap hw1 (by omega)
      have hqs : ((⟨#[32, 9, 13, 10]⟩ : ByteArray) ++ s ++ ⟨#[32, 10]⟩).size ≤ 1048576 := by have := hw1.size; omega
      have hq1 : ((⟨#[32, 9, 13, 10]⟩ : ByteArray) ++ s).size ≤ 10000 := by rw [ByteArray.size_append]; show 4 + s.size ≤ _; omega
      have hadd1 : ∀ W, (Op.stringOp .add ⟨#[32, 9, 13, 10]⟩ s).run Tryd.prog W = .ok (.string ((⟨#[32, 9, 13, 10]⟩ : ByteArray) ++ s)) W := fun W => run_add_text (by decide) (by omega)
      have hadd2 : ∀ W, (Op.stringOp .add ((⟨#[32, 9, 13, 10]⟩ : ByteArray) ++ s) ⟨#[32, 10]⟩).run Tryd.prog W = .ok (.string ((⟨#[32, 9, 13, 10]⟩ : ByteArray) ++ s ++ ⟨#[32, 10]⟩)) W := fun W => run_add_text hq1 (by decide)
      have HQ := fun (W : World) (hg : w.grownBy W none) => HP _ hqs W hg
      have HM := fun (W : World) (hg : w.grownBy W none) => HP s (by omega) W hg
      have hgood := parse_good s
      generalize ((⟨#[32, 9, 13, 10]⟩ : ByteArray) ++ s ++ ⟨#[32, 10]⟩) = Q2 at *
      generalize ((⟨#[32, 9, 13, 10]⟩ : ByteArray) ++ s) = Q1 at *
      generalize parseS s = M at *
      generalize parseS Q2 = N at *
      obtain ⟨jw, pw, ew⟩ := M
      obtain ⟨ju, pu, eu⟩ := N
      simp only at hwp hgood HM HQ
      obtain ⟨he, hu⟩ := hwp
      have he : eu = ew := he
      subst he
      -- the first part: what is told is read
      have hfirst : (∃ X, Hid (textP (.mk k n t names list) = (X, 0)) ∧ X.size ≤ 1048576 ∧ Hid (parseS X = (.mk k n t names list, 0, 0))) ∨ (∃ X E, Hid (textP (.mk k n t names list) = (X, E)) ∧ (E != 0) = true ∧ (E == 0) = false) := by
        by_cases hE : (textP (.mk k n t names list)).2 = 0
        · obtain ⟨t1, t2, t3, t4⟩ := textP_ok hE
          refine .inl ⟨(textP (.mk k n t names list)).1, ?_, by rw [t4, sizeT]; exact t3, ?_⟩
          · unfold Hid; rw [← hE]
          · unfold Hid; rw [t4]; exact parse_text _ hj t1 t2 t3
        · exact .inr ⟨(textP (.mk k n t names list)).1, (textP (.mk k n t names list)).2, rfl, by simpa using hE, by simpa using hE⟩
      clear hl hv hv0 hN hL hw1 hqs hq1 hsm hs hsz hj
      -- the second part
      have hsecond : (eu != 0) = true ∨ (eu = 0 ∧ ∃ Y, Hid (textP jw = (Y, 0)) ∧ Y.size ≤ 1048576 ∧ Hid (parseS Y = (jw, 0, 0)) ∧ JBd jw ∧ Hid (szJ jw ≤ 1000000) ∧ ju = jw) := by
        by_cases hew : eu = 0
        · obtain ⟨g1, g2, g3, g4, g5⟩ := hgood hew
          have g6 : s.size ≤ 5000 := by omega
          have hY := textP_of g2 g3 (by omega)
          have hszw := sz_text g1 g2
          exact .inr ⟨hew, ⟨(textJ jw).toArray⟩, hY, by rw [sizeT]; omega, parse_text _ g1 g2 g3 (by omega), g1, (show _ ≤ _ by omega), hu hew⟩
        · exact .inl (by simpa using hew)
      clear hgood hu
      go_enter Tryd.func4, Tryd.ntmps4
      rcases hfirst with ⟨X, hX1, hX2, hX3⟩ | ⟨X, E, hX1, hE1, hE2⟩
      · rw [hX1.out] at HT
        have HX := HP X hX2
        rw [hX3.out] at HX
        clear hX1 hX2 hX3
        go_upto_if 36 with (first
          | (go_at_call 12; refine ((HL _ (by exact hg1)).out).mono ?_; rintro e w1 ⟨rfl, hg2⟩; have hg3 := gb_trans hg1 hg2; have K1 := J0.kept hg2 (by simp); obtain ⟨p0, p1, p2, p3, p4, pf⟩ := K1.all)
          | (go_at_call 16; refine ((HS _ (by exact hg3)).out).mono ?_; rintro e w2 ⟨rfl, hg4⟩; have hg5 := gb_trans hg3 hg4; have K2 := K1.kept hg4 (by simp); obtain ⟨r0, r1, r2, r3, r4, rf⟩ := K2.all)
          | (go_at_call 17; refine ((HT _ (by exact hg5)).out).mono ?_; rintro e w3 ⟨rfl, hg6⟩; have hg7 := gb_trans hg5 hg6; have K3 := K2.kept hg6 (by simp); obtain ⟨s0, s1, s2, s3, s4, sf⟩ := K3.all))
        go_cut [] (fun wx => w.grownBy wx none)
        case first =>
          go_wp2_with (first
            | (go_at_call 13; refine ((HX _ (by exact hg7)).out).mono ?_; rintro e w4 ⟨A1, m1, c1, A2, m2, c2, S2, rfl, hj2, hS2, hg8⟩; simp only [J.k, J.n, J.t] at hj2 ⊢
               have hg9 := gb_trans hg7 hg8
               have KW := JB.new w4 (.int .i64 k) (.int .i64 n) (.string t) (.slice A1 m1 c1) (.slice A2 m2 c2)
               have hgA := gb_alloc (gb_refl w4 none) (.cells #[.int .i64 k, .int .i64 n, .string t, .slice A1 m1 c1, .slice A2 m2 c2] 26)
               have hgB := gb_trans hg9 hgA
               have KV := (K3.kept hg8 (by simp)).alloc (.cells #[.int .i64 k, .int .i64 n, .string t, .slice A1 m1 c1, .slice A2 m2 c2] 26)
               obtain ⟨e0, e1, e2, e3, e4, ef⟩ := KW.all
               obtain ⟨f0, f1, f2, f3, f4, ff⟩ := KV.all
               have HJ := Lib.hid (sameJson 1000000 (by omega) hJL S S2 _ _ _ (hSk _ hgB) (fun b hb => Nat.lt_of_lt_of_le (hS2 b hb).2 hgA.size) (hvk _ hgB) (hj2.keep (fun b hb => hgA.block b (hS2 b hb).2 (by simp)) (fun _ => id))))
            | (go_at_call 15; refine (HJ.out).mono ?_; rintro e w5 ⟨rfl, hgC⟩))
          go_meet
          exact gb_trans hgB hgC
        case rest =>
          have hgc : w.grownBy wc none := hcut
          rcases hsecond with hew | ⟨hew, Y, hY1, hY2, hY3, hY4, hY5, hju⟩
          · go_wp2_with (first
              | (go_at_call 13; have := hgN; refine ((HQ _ (by exact hgO)).out).mono ?_; rintro e w6 ⟨B3, x3, d3, B4, x4, d4, S4, rfl, hj4, hS4, hgP⟩)
              | (go_at_call 13; refine ((HM _ (by exact hgc)).out).mono ?_; rintro e w5 ⟨A3, m3, c3, A4, m4, c4, S3, rfl, hj3, hS3, hgM⟩
                 have hgN := gb_alloc (gb_refl w5 none) (.cells #[.int .i64 jw.k, .int .i64 jw.n, .string jw.t, .slice A3 m3 c3, .slice A4 m4 c4] 26)
                 have hgO := gb_trans (gb_trans hgc hgM) hgN))
            go_ret
            exact ⟨rfl, gb_alloc (gb_trans hgO hgP) _⟩
          · subst hju hew
            have HY := HP Y hY2
            rw [hY3.out] at HY
            have HT2 := fun (S' : Nat → Prop) (v' : Value) (W : World) (hg : w.grownBy W none) (h1 : ∀ b, S' b → b < W.heap.size) (h2 : JAt W S' ju v') => Lib.hid (Text_any hY4 hY5.out S' v' W h1 (pb_of hPT hg) h2)
            rw [hY1.out] at HT2
            have hJW := JLen.of hY4 hY5.out
            have HSJ := fun (S' S'' : Nat → Prop) (v' v'' : Value) (W : World) (h1 : ∀ b, S' b → b < W.heap.size) (h2 : ∀ b, S'' b → b < W.heap.size) (h3 : JAt W S' ju v') (h4 : JAt W S'' ju v'') => Lib.hid (sameJson 1000000 (by omega) hJW S' S'' v' v'' W h1 h2 h3 h4)
            clear hY1 hY2 hY3 hY4 hY5 HP hJW
            go_wp2_with (first
              | (go_at_call 13; have := hgT; refine ((HY _ (by exact hgU)).out).mono ?_; rintro e w8 ⟨D3, y3, e3, D4, y4, e4, S5, rfl, hj5, hS5, hgV⟩
                 have KZ := JB.new w8 (.int .i64 ju.k) (.int .i64 ju.n) (.string ju.t) (.slice D3 y3 e3) (.slice D4 y4 e4)
                 have hgZ := gb_alloc (gb_refl w8 none) (.cells #[.int .i64 ju.k, .int .i64 ju.n, .string ju.t, .slice D3 y3 e3, .slice D4 y4 e4] 26)
                 have hg3V := gb_trans (gb_trans (gb_trans (gb_trans (gb_trans hgN hgP) hgQ) hgT) hgV) hgZ
                 have hg4V := gb_trans (gb_trans (gb_trans hgQ hgT) hgV) hgZ
                 have hgW := gb_trans (gb_trans hgU hgV) hgZ
                 have K3V := ((K3T.kept hgV (by simp)).alloc (.cells #[.int .i64 ju.k, .int .i64 ju.n, .string ju.t, .slice D3 y3 e3, .slice D4 y4 e4] 26))
                 have K4V := ((K4T.kept hgV (by simp)).alloc (.cells #[.int .i64 ju.k, .int .i64 ju.n, .string ju.t, .slice D3 y3 e3, .slice D4 y4 e4] 26))
                 obtain ⟨i0, i1, i2, i3, i4, if_⟩ := K3V.all
                 obtain ⟨j0, j1, j2, j3, j4, jf⟩ := K4V.all
                 obtain ⟨k0, k1, k2, k3, k4, kf⟩ := KZ.all
                 have HU1 := fun (W : World) (hg : (w8.alloc (.cells #[.int .i64 ju.k, .int .i64 ju.n, .string ju.t, .slice D3 y3 e3, .slice D4 y4 e4] 26)).grownBy W none) => HSJ S4 S3 _ _ W (fun b hb => Nat.lt_of_lt_of_le (hS4 b hb).2 (gb_trans hg4V hg).size) (fun b hb => Nat.lt_of_lt_of_le (hS3 b hb).2 (gb_trans hg3V hg).size)
                   (hj4.keep (fun b hb => (gb_trans hg4V hg).block b (hS4 b hb).2 (by simp)) (fun _ => id)) (hj3.keep (fun b hb => (gb_trans hg3V hg).block b (hS3 b hb).2 (by simp)) (fun _ => id))
                 have HU2 := fun (W : World) (hg : (w8.alloc (.cells #[.int .i64 ju.k, .int .i64 ju.n, .string ju.t, .slice D3 y3 e3, .slice D4 y4 e4] 26)).grownBy W none) => HSJ S5 S3 _ _ W (fun b hb => Nat.lt_of_lt_of_le (hS5 b hb).2 (gb_trans hgZ hg).size) (fun b hb => Nat.lt_of_lt_of_le (hS3 b hb).2 (gb_trans hg3V hg).size)
                   (hj5.keep (fun b hb => (gb_trans hgZ hg).block b (hS5 b hb).2 (by simp)) (fun _ => id)) (hj3.keep (fun b hb => (gb_trans hg3V hg).block b (hS3 b hb).2 (by simp)) (fun _ => id)))
              | (go_at_call 13; have := hgN; refine ((HQ _ (by exact hgO)).out).mono ?_; rintro e w6 ⟨B3, x3, d3, B4, x4, d4, S4, rfl, hj4, hS4, hgP⟩
                 have hgQ := gb_alloc (gb_refl w6 none) (.cells #[.int .i64 ju.k, .int .i64 ju.n, .string ju.t, .slice B3 x3 d3, .slice B4 x4 d4] 26)
                 have hgR := gb_trans (gb_trans hgO hgP) hgQ
                 have K3P := ((K3.kept hgP (by simp)).alloc (.cells #[.int .i64 ju.k, .int .i64 ju.n, .string ju.t, .slice B3 x3 d3, .slice B4 x4 d4] 26))
                 have K4 := JB.new w6 (.int .i64 ju.k) (.int .i64 ju.n) (.string ju.t) (.slice B3 x3 d3) (.slice B4 x4 d4)
                 obtain ⟨t0, t1, t2, t3, t4, tf⟩ := K3P.all
                 have hg35 := gb_trans (gb_trans hgN hgP) hgQ
                 have HTT := HT2 S3 _ _ hgR (fun b hb => Nat.lt_of_lt_of_le (hS3 b hb).2 hg35.size) (hj3.keep (fun b hb => hg35.block b (hS3 b hb).2 (by simp)) (fun _ => id)))
              | (go_at_call 13; refine ((HM _ (by exact hgc)).out).mono ?_; rintro e w5 ⟨A3, m3, c3, A4, m4, c4, S3, rfl, hj3, hS3, hgM⟩
                 have hgN := gb_alloc (gb_refl w5 none) (.cells #[.int .i64 ju.k, .int .i64 ju.n, .string ju.t, .slice A3 m3 c3, .slice A4 m4 c4] 26)
                 have K3 := JB.new w5 (.int .i64 ju.k) (.int .i64 ju.n) (.string ju.t) (.slice A3 m3 c3) (.slice A4 m4 c4)
                 have hgO := gb_trans (gb_trans hgc hgM) hgN)
              | (go_at_call 17; refine (HTT.out).mono ?_; rintro e w7 ⟨rfl, hgT⟩; have hgU := gb_trans hgR hgT; have K3T := K3P.kept hgT (by simp); have K4T := K4.kept hgT (by simp))
              | (go_at_call 15; have := hgU1; refine ((HU2 _ (by exact hgU1)).out).mono ?_; rintro e wB ⟨rfl, hgU2⟩)
              | (go_at_call 15; refine ((HU1 _ (gb_refl _ _)).out).mono ?_; rintro e wA ⟨rfl, hgU1⟩
                 have K3A := K3V.kept hgU1 (by simp)
                 have K5A := KZ.kept hgU1 (by simp)
                 obtain ⟨l0, l1, l2, l3, l4, lf⟩ := K3A.all
                 obtain ⟨o0, o1, o2, o3, o4, of_⟩ := K5A.all))
            go_ret
            exact ⟨rfl, gb_trans (gb_trans hgW hgU1) hgU2⟩
      · rw [hX1.out] at HT
        clear hX1
        go_upto_if 36 with (first
          | (go_at_call 12; refine ((HL _ (by exact hg1)).out).mono ?_; rintro e w1 ⟨rfl, hg2⟩; have hg3 := gb_trans hg1 hg2; have K1 := J0.kept hg2 (by simp); obtain ⟨p0, p1, p2, p3, p4, pf⟩ := K1.all)
          | (go_at_call 16; refine ((HS _ (by exact hg3)).out).mono ?_; rintro e w2 ⟨rfl, hg4⟩; have hg5 := gb_trans hg3 hg4; have K2 := K1.kept hg4 (by simp); obtain ⟨r0, r1, r2, r3, r4, rf⟩ := K2.all)
          | (go_at_call 17; refine ((HT _ (by exact hg5)).out).mono ?_; rintro e w3 ⟨rfl, hg6⟩; have hg7 := gb_trans hg5 hg6))
        go_cut [] (fun wx => w.grownBy wx none)
        case first =>
          go_wp2_with fail
          go_meet
          exact hg7
        case rest =>
          have hgc : w.grownBy wc none := hcut
          rcases hsecond with hew | ⟨hew, Y, hY1, hY2, hY3, hY4, hY5, hju⟩
          · go_wp2_with (first
              | (go_at_call 13; have := hgN; refine ((HQ _ (by exact hgO)).out).mono ?_; rintro e w6 ⟨B3, x3, d3, B4, x4, d4, S4, rfl, hj4, hS4, hgP⟩)
              | (go_at_call 13; refine ((HM _ (by exact hgc)).out).mono ?_; rintro e w5 ⟨A3, m3, c3, A4, m4, c4, S3, rfl, hj3, hS3, hgM⟩
                 have hgN := gb_alloc (gb_refl w5 none) (.cells #[.int .i64 jw.k, .int .i64 jw.n, .string jw.t, .slice A3 m3 c3, .slice A4 m4 c4] 26)
                 have hgO := gb_trans (gb_trans hgc hgM) hgN))
            go_ret
            exact ⟨rfl, gb_alloc (gb_trans hgO hgP) _⟩
          · subst hju hew
            have HY := HP Y hY2
            rw [hY3.out] at HY
            have HT2 := fun (S' : Nat → Prop) (v' : Value) (W : World) (hg : w.grownBy W none) (h1 : ∀ b, S' b → b < W.heap.size) (h2 : JAt W S' ju v') => Lib.hid (Text_any hY4 hY5.out S' v' W h1 (pb_of hPT hg) h2)
            rw [hY1.out] at HT2
            have hJW := JLen.of hY4 hY5.out
            have HSJ := fun (S' S'' : Nat → Prop) (v' v'' : Value) (W : World) (h1 : ∀ b, S' b → b < W.heap.size) (h2 : ∀ b, S'' b → b < W.heap.size) (h3 : JAt W S' ju v') (h4 : JAt W S'' ju v'') => Lib.hid (sameJson 1000000 (by omega) hJW S' S'' v' v'' W h1 h2 h3 h4)
            clear hY1 hY2 hY3 hY4 hY5 HP hJW
            go_wp2_with (first
              | (go_at_call 13; have := hgT; refine ((HY _ (by exact hgU)).out).mono ?_; rintro e w8 ⟨D3, y3, e3, D4, y4, e4, S5, rfl, hj5, hS5, hgV⟩
                 have KZ := JB.new w8 (.int .i64 ju.k) (.int .i64 ju.n) (.string ju.t) (.slice D3 y3 e3) (.slice D4 y4 e4)
                 have hgZ := gb_alloc (gb_refl w8 none) (.cells #[.int .i64 ju.k, .int .i64 ju.n, .string ju.t, .slice D3 y3 e3, .slice D4 y4 e4] 26)
                 have hg3V := gb_trans (gb_trans (gb_trans (gb_trans (gb_trans hgN hgP) hgQ) hgT) hgV) hgZ
                 have hg4V := gb_trans (gb_trans (gb_trans hgQ hgT) hgV) hgZ
                 have hgW := gb_trans (gb_trans hgU hgV) hgZ
                 have K3V := ((K3T.kept hgV (by simp)).alloc (.cells #[.int .i64 ju.k, .int .i64 ju.n, .string ju.t, .slice D3 y3 e3, .slice D4 y4 e4] 26))
                 have K4V := ((K4T.kept hgV (by simp)).alloc (.cells #[.int .i64 ju.k, .int .i64 ju.n, .string ju.t, .slice D3 y3 e3, .slice D4 y4 e4] 26))
                 obtain ⟨i0, i1, i2, i3, i4, if_⟩ := K3V.all
                 obtain ⟨j0, j1, j2, j3, j4, jf⟩ := K4V.all
                 obtain ⟨k0, k1, k2, k3, k4, kf⟩ := KZ.all
                 have HU1 := fun (W : World) (hg : (w8.alloc (.cells #[.int .i64 ju.k, .int .i64 ju.n, .string ju.t, .slice D3 y3 e3, .slice D4 y4 e4] 26)).grownBy W none) => HSJ S4 S3 _ _ W (fun b hb => Nat.lt_of_lt_of_le (hS4 b hb).2 (gb_trans hg4V hg).size) (fun b hb => Nat.lt_of_lt_of_le (hS3 b hb).2 (gb_trans hg3V hg).size)
                   (hj4.keep (fun b hb => (gb_trans hg4V hg).block b (hS4 b hb).2 (by simp)) (fun _ => id)) (hj3.keep (fun b hb => (gb_trans hg3V hg).block b (hS3 b hb).2 (by simp)) (fun _ => id))
                 have HU2 := fun (W : World) (hg : (w8.alloc (.cells #[.int .i64 ju.k, .int .i64 ju.n, .string ju.t, .slice D3 y3 e3, .slice D4 y4 e4] 26)).grownBy W none) => HSJ S5 S3 _ _ W (fun b hb => Nat.lt_of_lt_of_le (hS5 b hb).2 (gb_trans hgZ hg).size) (fun b hb => Nat.lt_of_lt_of_le (hS3 b hb).2 (gb_trans hg3V hg).size)
                   (hj5.keep (fun b hb => (gb_trans hgZ hg).block b (hS5 b hb).2 (by simp)) (fun _ => id)) (hj3.keep (fun b hb => (gb_trans hg3V hg).block b (hS3 b hb).2 (by simp)) (fun _ => id)))
              | (go_at_call 13; have := hgN; refine ((HQ _ (by exact hgO)).out).mono ?_; rintro e w6 ⟨B3, x3, d3, B4, x4, d4, S4, rfl, hj4, hS4, hgP⟩
                 have hgQ := gb_alloc (gb_refl w6 none) (.cells #[.int .i64 ju.k, .int .i64 ju.n, .string ju.t, .slice B3 x3 d3, .slice B4 x4 d4] 26)
                 have hgR := gb_trans (gb_trans hgO hgP) hgQ
                 have K3P := ((K3.kept hgP (by simp)).alloc (.cells #[.int .i64 ju.k, .int .i64 ju.n, .string ju.t, .slice B3 x3 d3, .slice B4 x4 d4] 26))
                 have K4 := JB.new w6 (.int .i64 ju.k) (.int .i64 ju.n) (.string ju.t) (.slice B3 x3 d3) (.slice B4 x4 d4)
                 obtain ⟨t0, t1, t2, t3, t4, tf⟩ := K3P.all
                 have hg35 := gb_trans (gb_trans hgN hgP) hgQ
                 have HTT := HT2 S3 _ _ hgR (fun b hb => Nat.lt_of_lt_of_le (hS3 b hb).2 hg35.size) (hj3.keep (fun b hb => hg35.block b (hS3 b hb).2 (by simp)) (fun _ => id)))
              | (go_at_call 13; refine ((HM _ (by exact hgc)).out).mono ?_; rintro e w5 ⟨A3, m3, c3, A4, m4, c4, S3, rfl, hj3, hS3, hgM⟩
                 have hgN := gb_alloc (gb_refl w5 none) (.cells #[.int .i64 ju.k, .int .i64 ju.n, .string ju.t, .slice A3 m3 c3, .slice A4 m4 c4] 26)
                 have K3 := JB.new w5 (.int .i64 ju.k) (.int .i64 ju.n) (.string ju.t) (.slice A3 m3 c3) (.slice A4 m4 c4)
                 have hgO := gb_trans (gb_trans hgc hgM) hgN)
              | (go_at_call 17; refine (HTT.out).mono ?_; rintro e w7 ⟨rfl, hgT⟩; have hgU := gb_trans hgR hgT; have K3T := K3P.kept hgT (by simp); have K4T := K4.kept hgT (by simp))
              | (go_at_call 15; have := hgU1; refine ((HU2 _ (by exact hgU1)).out).mono ?_; rintro e wB ⟨rfl, hgU2⟩)
              | (go_at_call 15; refine ((HU1 _ (gb_refl _ _)).out).mono ?_; rintro e wA ⟨rfl, hgU1⟩
                 have K3A := K3V.kept hgU1 (by simp)
                 have K5A := KZ.kept hgU1 (by simp)
                 obtain ⟨l0, l1, l2, l3, l4, lf⟩ := K3A.all
                 obtain ⟨o0, o1, o2, o3, o4, of_⟩ := K5A.all))
            go_ret
            exact ⟨rfl, gb_trans (gb_trans hgW hgU1) hgU2⟩
    · have hsI : (5000 : Int) < (s.size : Int) := by omega
      clear hl hv hv0 hN hL hj hsm hs hsz
      go_enter Tryd.func4, Tryd.ntmps4
      go_wp2_with (first
        | (go_at_call 12; refine ((HL _ (by exact hg1)).out).mono ?_; rintro e w1 ⟨rfl, hg2⟩; have hg3 := gb_trans hg1 hg2; have K1 := J0.kept hg2 (by simp); obtain ⟨p0, p1, p2, p3, p4, pf⟩ := K1.all)
        | (go_at_call 16; refine ((HS _ (by exact hg3)).out).mono ?_; rintro e w2 ⟨rfl, hg4⟩))
      go_ret
      exact ⟨rfl, gb_trans hg3 hg4⟩
  · rw [decide_eq_false hsm] at HS
    clear hl hv hv0 hN hL hj hsm hsz
    go_enter Tryd.func4, Tryd.ntmps4
    go_wp2_with (first
      | (go_at_call 12; refine ((HL _ (by exact hg1)).out).mono ?_; rintro e w1 ⟨rfl, hg2⟩; have hg3 := gb_trans hg1 hg2; have K1 := J0.kept hg2 (by simp); obtain ⟨p0, p1, p2, p3, p4, pf⟩ := K1.all)
      | (go_at_call 16; refine ((HS _ (by exact hg3)).out).mono ?_; rintro e w2 ⟨rfl, hg4⟩))
    go_ret
    exact ⟨rfl, gb_trans hg3 hg4⟩
end
end Go.Proofs.YtnnhkajjifmlfaaDoor
