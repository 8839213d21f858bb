/- The kit's SameAdjusted. -/
import Derived.Test.YtcmepallgchcjaaGreatC6
import Derived.Test.YtcmepallgchcjaaGreatC5
namespace Go.Proofs.YtcmepallgchcjaaGreat
open Go.RowKit

theorem ad_ne {sa sb : Sp} {au ah af bu bh bf : Int} (h : au ≠ bu ∨ ah ≠ bh ∨ af ≠ bf) : eqD (Ad.mk sa au ah af) (Ad.mk sb bu bh bf) = false := by
  refine eqD_ne fun e => ?_
  injection e with e1 e2 e3 e4
  rcases h with h | h | h <;> contradiction
theorem ad_eq {sa sb : Sp} {au ah af : Int} : eqD (Ad.mk sa au ah af) (Ad.mk sb au ah af) = eqD sa sb := by
  by_cases h : sa = sb
  · subst h; rw [eqD_self, eqD_self]
  · rw [eqD_ne h, eqD_ne (fun e => h (by injection e))]
set_option maxRecDepth 100000 in
set_option maxHeartbeats 6400000 in
theorem sameAdjusted_any (list list' : List Ad) (u v : Value) (w : World) (hll : list.length ≤ 140737488355328) (hb : ABd list) (hu : AAt w list u) (hv : AAt w list' v) :
    Calls Tryz.prog 16 #[u, v] w fun e w' => e = .returned (.bool (eqBy eqD list list')) ∧ w.grownBy w' none := by
  obtain ⟨A, c, b, o, T, rfl, hA, hcl⟩ := hu
  obtain ⟨X, d, y, p, T', rfl, hX, hdl⟩ := hv
  go_enter Tryz.func16, Tryz.ntmps16
  by_cases hne : list.length = list'.length
  · have hbf : ((list.length : Int) != (list'.length : Int)) = false := by simp [hne]
    have hll' := Lib.hid hll
    have hneH := Lib.hid hne
    clear hll hne
    go_wp2_with fail
    go_loopg [5] list.length (fun z uk wr => ∃ q : Nat, q ≤ list.length ∧ z = list.length - q ∧ uk = .int .i64 q ∧ Hid (eqBy eqD (list.take q) (list'.take q) = true) ∧ w.grownBy wr none)
    case atStart => exact ⟨0, Nat.zero_le _, rfl, rfl, by unfold Hid; simp [eqBy], gb_refl _ _⟩
    case round =>
      obtain ⟨q, hq, rfl, rfl, hno, hg⟩ := hrel
      by_cases hlt : q < list.length
      · have hlt' : q < list'.length := by have := hneH.out; omega
        obtain rfl := hA (by omega)
        obtain rfl := hX (by omega)
        have hqi : (q : Int) < (list.length : Int) := by omega
        have hqj : (q : Int) < (list'.length : Int) := by omega
        have hq0 : (0 : Int) ≤ (q : Int) := by omega
        obtain ⟨⟨A1, e1, c1, hT1⟩, ht1, m0, m1, m2, m3, m4, m5, m6, m7, m8, m9, m10, m11, m12, m13⟩ := hcl q hlt
        obtain ⟨⟨A2, e2, c2, hT2⟩, ht2, n0, n1, n2, n3, n4, n5, n6, n7, n8, n9, n10, n11, n12, n13⟩ := hdl q hlt'
        rw [hT1] at ht1 m10
        rw [hT2] at ht2 n10
        have hq1 := Lib.hid (show wrap64 ((q : Int) + 1) = ((q + 1 : Nat) : Int) from (wrap64_id (by omega) (by have := hll'.out; omega)).trans (by omega))
        have HX := fun (G : Grown wr) => Lib.hid (sameSpan_any list[q].sp list'[q].sp _ _ G.W (hb _ (List.getElem_mem hlt)) (ht1.grown (gb_trans hg G.h)) (ht2.grown (gb_trans hg G.h)))
        have hst := Lib.hid (eqBy_take (f := eqD) list list' q hlt hlt')
        have hat := Lib.hid (fun h => eqBy_at (f := eqD) (l := list) (m := list') q hlt hlt' h)
        generalize list[q] = La at *
        generalize list'[q] = Lb at *
        obtain ⟨⟨a1, a2, a3, a4, a5, a6, a7, a8, a9, a10, a11⟩, au, ah, af⟩ := La
        obtain ⟨⟨b1, b2, b3, b4, b5, b6, b7, b8, b9, b10, b11⟩, bu, bh, bf⟩ := Lb
        simp only at HX hst hat m0 m1 m2 m3 m4 m5 m6 m7 m8 m9 m10 m11 m12 m13 n0 n1 n2 n3 n4 n5 n6 n7 n8 n9 n10 n11 n12 n13
        have P0 : ∀ G : Grown wr, G.W.cell? ⟨b, o + q * 14, none⟩ = some (.int .u64 a1) := fun G => cell_grown m0 (gb_trans hg G.h) (by simp)
        have R0 : ∀ G : Grown wr, G.W.cell? ⟨y, p + q * 14, none⟩ = some (.int .u64 b1) := fun G => cell_grown n0 (gb_trans hg G.h) (by simp)
        have P1 : ∀ G : Grown wr, G.W.cell? ⟨b, o + q * 14 + 1, none⟩ = some (.int .u64 a2) := fun G => cell_grown m1 (gb_trans hg G.h) (by simp)
        have R1 : ∀ G : Grown wr, G.W.cell? ⟨y, p + q * 14 + 1, none⟩ = some (.int .u64 b2) := fun G => cell_grown n1 (gb_trans hg G.h) (by simp)
        have P2 : ∀ G : Grown wr, G.W.cell? ⟨b, o + q * 14 + 2, none⟩ = some (.int .u64 a3) := fun G => cell_grown m2 (gb_trans hg G.h) (by simp)
        have R2 : ∀ G : Grown wr, G.W.cell? ⟨y, p + q * 14 + 2, none⟩ = some (.int .u64 b3) := fun G => cell_grown n2 (gb_trans hg G.h) (by simp)
        have P3 : ∀ G : Grown wr, G.W.cell? ⟨b, o + q * 14 + 3, none⟩ = some (.int .u64 a4) := fun G => cell_grown m3 (gb_trans hg G.h) (by simp)
        have R3 : ∀ G : Grown wr, G.W.cell? ⟨y, p + q * 14 + 3, none⟩ = some (.int .u64 b4) := fun G => cell_grown n3 (gb_trans hg G.h) (by simp)
        have P4 : ∀ G : Grown wr, G.W.cell? ⟨b, o + q * 14 + 4, none⟩ = some (.string a5) := fun G => cell_grown m4 (gb_trans hg G.h) (by simp)
        have R4 : ∀ G : Grown wr, G.W.cell? ⟨y, p + q * 14 + 4, none⟩ = some (.string b5) := fun G => cell_grown n4 (gb_trans hg G.h) (by simp)
        have P5 : ∀ G : Grown wr, G.W.cell? ⟨b, o + q * 14 + 5, none⟩ = some (.string a6) := fun G => cell_grown m5 (gb_trans hg G.h) (by simp)
        have R5 : ∀ G : Grown wr, G.W.cell? ⟨y, p + q * 14 + 5, none⟩ = some (.string b6) := fun G => cell_grown n5 (gb_trans hg G.h) (by simp)
        have P6 : ∀ G : Grown wr, G.W.cell? ⟨b, o + q * 14 + 6, none⟩ = some (.int .i64 a7) := fun G => cell_grown m6 (gb_trans hg G.h) (by simp)
        have R6 : ∀ G : Grown wr, G.W.cell? ⟨y, p + q * 14 + 6, none⟩ = some (.int .i64 b7) := fun G => cell_grown n6 (gb_trans hg G.h) (by simp)
        have P7 : ∀ G : Grown wr, G.W.cell? ⟨b, o + q * 14 + 7, none⟩ = some (.int .i64 a8) := fun G => cell_grown m7 (gb_trans hg G.h) (by simp)
        have R7 : ∀ G : Grown wr, G.W.cell? ⟨y, p + q * 14 + 7, none⟩ = some (.int .i64 b8) := fun G => cell_grown n7 (gb_trans hg G.h) (by simp)
        have P8 : ∀ G : Grown wr, G.W.cell? ⟨b, o + q * 14 + 8, none⟩ = some (.int .i64 a9) := fun G => cell_grown m8 (gb_trans hg G.h) (by simp)
        have R8 : ∀ G : Grown wr, G.W.cell? ⟨y, p + q * 14 + 8, none⟩ = some (.int .i64 b9) := fun G => cell_grown n8 (gb_trans hg G.h) (by simp)
        have P9 : ∀ G : Grown wr, G.W.cell? ⟨b, o + q * 14 + 9, none⟩ = some (.bool a10) := fun G => cell_grown m9 (gb_trans hg G.h) (by simp)
        have R9 : ∀ G : Grown wr, G.W.cell? ⟨y, p + q * 14 + 9, none⟩ = some (.bool b10) := fun G => cell_grown n9 (gb_trans hg G.h) (by simp)
        have P10 : ∀ G : Grown wr, G.W.cell? ⟨b, o + q * 14 + 10, none⟩ = some (.slice A1 e1 c1) := fun G => cell_grown m10 (gb_trans hg G.h) (by simp)
        have R10 : ∀ G : Grown wr, G.W.cell? ⟨y, p + q * 14 + 10, none⟩ = some (.slice A2 e2 c2) := fun G => cell_grown n10 (gb_trans hg G.h) (by simp)
        have P11 : ∀ G : Grown wr, G.W.cell? ⟨b, o + q * 14 + 11, none⟩ = some (.int .u64 au) := fun G => cell_grown m11 (gb_trans hg G.h) (by simp)
        have R11 : ∀ G : Grown wr, G.W.cell? ⟨y, p + q * 14 + 11, none⟩ = some (.int .u64 bu) := fun G => cell_grown n11 (gb_trans hg G.h) (by simp)
        have P12 : ∀ G : Grown wr, G.W.cell? ⟨b, o + q * 14 + 12, none⟩ = some (.int .i64 ah) := fun G => cell_grown m12 (gb_trans hg G.h) (by simp)
        have R12 : ∀ G : Grown wr, G.W.cell? ⟨y, p + q * 14 + 12, none⟩ = some (.int .i64 bh) := fun G => cell_grown n12 (gb_trans hg G.h) (by simp)
        have P13 : ∀ G : Grown wr, G.W.cell? ⟨b, o + q * 14 + 13, none⟩ = some (.int .i64 af) := fun G => cell_grown m13 (gb_trans hg G.h) (by simp)
        have R13 : ∀ G : Grown wr, G.W.cell? ⟨y, p + q * 14 + 13, none⟩ = some (.int .i64 bf) := fun G => cell_grown n13 (gb_trans hg G.h) (by simp)
        have QS : Hid (QC Tryz.prog wr 41 #[.agg #[.int .u64 a1, .int .u64 a2, .int .u64 a3, .int .u64 a4, .string a5, .string a6, .int .i64 a7, .int .i64 a8, .int .i64 a9, .bool a10, .slice A1 e1 c1], .agg #[.int .u64 b1, .int .u64 b2, .int .u64 b3, .int .u64 b4, .string b5, .string b6, .int .i64 b7, .int .i64 b8, .int .i64 b9, .bool b10, .slice A2 e2 c2]] (.bool (eqD (Sp.mk a1 a2 a3 a4 a5 a6 a7 a8 a9 a10 a11) (Sp.mk b1 b2 b3 b4 b5 b6 b7 b8 b9 b10 b11)))) := fun G => ((HX G).out).mono fun e w' hh => ⟨hh.1, gb_trans G.h hh.2⟩
        have had := Lib.hid (ad_eq (sa := Sp.mk a1 a2 a3 a4 a5 a6 a7 a8 a9 a10 a11) (sb := Sp.mk b1 b2 b3 b4 b5 b6 b7 b8 b9 b10 b11) (au := au) (ah := ah) (af := af))
        clear hcl hdl hA hX hb ht1 ht2 hT1 hT2 HX m0 n0 m1 n1 m2 n2 m3 n3 m4 n4 m5 n5 m6 n6 m7 n7 m8 n8 m9 n9 m10 n10 m11 n11 m12 n12 m13 n13
        by_cases h1 : au = bu
        · subst h1
          by_cases h2 : ah = bh
          · subst h2
            by_cases h3 : af = bf
            · subst h3
              generalize eqD (Sp.mk a1 a2 a3 a4 a5 a6 a7 a8 a9 a10 a11) (Sp.mk b1 b2 b3 b4 b5 b6 b7 b8 b9 b10 b11) = x at *
              cases x with
              | true =>
                have hst2 : Hid (eqBy eqD (list.take (q + 1)) (list'.take (q + 1)) = true) := by unfold Hid; rw [hst.out, hno.out, had.out]; rfl
                clear hst hat
                go_wp2_with fail
                refine wp_region_grown 51 0 (by simp only [List.take_succ_cons, List.take_zero]; rfl) (by kernel_rfl) (gb_drew (gb_refl _ _)) (by kernel_rfl) (by kernel_rfl) (by kernel_rfl) (by kernel_rfl) ?_
                repeat go_big_quiet_step (first | (rename_i G; with_reducible exact QS.out.at G))
                refine wpQuiet_nil ?_
                intro G
                refine wpAny_done (by kernel_rfl) ?_ _
                have hgG := gb_trans hg G.h
                go_wp2_with fail
                go_roundg (list.length - (q + 1))
                case measure => omega
                case rel => exact ⟨q + 1, hlt, rfl, by first | rw [hq1.out] | go_num, hst2, hgG⟩
              | false =>
                have hE : Hid (eqBy eqD list list' = false) := hat.out had.out
                clear hst hat
                go_wp2_with fail
                refine wp_region_grown 51 0 (by simp only [List.take_succ_cons, List.take_zero]; rfl) (by kernel_rfl) (gb_drew (gb_refl _ _)) (by kernel_rfl) (by kernel_rfl) (by kernel_rfl) (by kernel_rfl) ?_
                repeat go_big_quiet_step (first | (rename_i G; with_reducible exact QS.out.at G))
                refine wpQuiet_nil ?_
                intro G
                refine wpAny_done (by kernel_rfl) ?_ _
                have hgG := gb_trans hg G.h
                go_wp2_with fail
                go_ret
                exact ⟨by rw [hE.out]; rfl, hgG⟩
            · have hE : Hid (eqBy eqD list list' = false) := hat.out (ad_ne (.inr (.inr h3)))
              have hbz : (af != bf) = true := by simpa using h3
              clear hst hat had
              go_wp2_with fail
              refine wp_region_grown 51 0 (by simp only [List.take_succ_cons, List.take_zero]; rfl) (by kernel_rfl) (gb_drew (gb_refl _ _)) (by kernel_rfl) (by kernel_rfl) (by kernel_rfl) (by kernel_rfl) ?_
              repeat go_big_quiet_step (first | (rename_i G; with_reducible exact QS.out.at G))
              refine wpQuiet_nil ?_
              intro G
              refine wpAny_done (by kernel_rfl) ?_ _
              have hgG := gb_trans hg G.h
              go_wp2_with fail
              go_ret
              exact ⟨by rw [hE.out]; rfl, hgG⟩
          · have hE : Hid (eqBy eqD list list' = false) := hat.out (ad_ne (.inr (.inl h2)))
            have hbz : (ah != bh) = true := by simpa using h2
            clear hst hat had
            go_wp2_with fail
            refine wp_region_grown 51 0 (by simp only [List.take_succ_cons, List.take_zero]; rfl) (by kernel_rfl) (gb_drew (gb_refl _ _)) (by kernel_rfl) (by kernel_rfl) (by kernel_rfl) (by kernel_rfl) ?_
            repeat go_big_quiet_step (first | (rename_i G; with_reducible exact QS.out.at G))
            refine wpQuiet_nil ?_
            intro G
            refine wpAny_done (by kernel_rfl) ?_ _
            have hgG := gb_trans hg G.h
            go_wp2_with fail
            go_ret
            exact ⟨by rw [hE.out]; rfl, hgG⟩
        · have hE : Hid (eqBy eqD list list' = false) := hat.out (ad_ne (.inl h1))
          have hbz : (au != bu) = true := by simpa using h1
          clear hst hat had
          go_wp2_with fail
          refine wp_region_grown 51 0 (by simp only [List.take_succ_cons, List.take_zero]; rfl) (by kernel_rfl) (gb_drew (gb_refl _ _)) (by kernel_rfl) (by kernel_rfl) (by kernel_rfl) (by kernel_rfl) ?_
          repeat go_big_quiet_step (first | (rename_i G; with_reducible exact QS.out.at G))
          refine wpQuiet_nil ?_
          intro G
          refine wpAny_done (by kernel_rfl) ?_ _
          have hgG := gb_trans hg G.h
          go_wp2_with fail
          go_ret
          exact ⟨by rw [hE.out]; rfl, hgG⟩
      · obtain rfl : q = list.length := by omega
        have hfin := hno.out
        rw [List.take_of_length_le (Nat.le_refl _), List.take_of_length_le (l := list') (by have := hneH.out; omega)] at hfin
        have hfin' := Lib.hid hfin
        clear hfin hno hcl hdl hA hX
        go_wp2_with fail
        go_ret
        exact ⟨by rw [hfin'.out]; rfl, hg⟩
  · have hE : Hid (eqBy eqD list list' = false) := eqBy_ne hne
    have hneI : ((list.length : Int) != (list'.length : Int)) = true := by simp; omega
    clear hcl hdl hA hX
    go_wp2_with fail
    go_ret
    exact ⟨by rw [hE.out]; rfl, gb_refl _ _⟩
end Go.Proofs.YtcmepallgchcjaaGreat
