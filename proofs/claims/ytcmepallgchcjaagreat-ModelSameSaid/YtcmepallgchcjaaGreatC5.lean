/- slices.EqualFunc over adjusted spans, adjust.Same. -/
import Derived.Test.YtcmepallgchcjaaGreatC4
namespace Go.Proofs.YtcmepallgchcjaaGreat
open Go.RowKit

/-- adjusted spans in memory -/
def AAt (w : World) (list : List Ad) (v : Value) : Prop :=
  ∃ (A : Option Addr) (c b o : Nat) (T : Nat → Value), v = .slice A list.length c ∧ (0 < list.length → A = some ⟨b, o, none⟩) ∧
    ∀ i (h : i < list.length), (∃ A1 n1 c1, T i = .slice A1 n1 c1) ∧ TAt w (fun _ => True) list[i].sp.tags (T i) ∧
      w.cell? ⟨b, o + i * 14, none⟩ = some (.int .u64 list[i].sp.hi) ∧ w.cell? ⟨b, o + i * 14 + 1, none⟩ = some (.int .u64 list[i].sp.lo) ∧ w.cell? ⟨b, o + i * 14 + 2, none⟩ = some (.int .u64 list[i].sp.id) ∧ w.cell? ⟨b, o + i * 14 + 3, none⟩ = some (.int .u64 list[i].sp.parent) ∧ w.cell? ⟨b, o + i * 14 + 4, none⟩ = some (.string list[i].sp.service) ∧ w.cell? ⟨b, o + i * 14 + 5, none⟩ = some (.string list[i].sp.name) ∧ w.cell? ⟨b, o + i * 14 + 6, none⟩ = some (.int .i64 list[i].sp.kind) ∧ w.cell? ⟨b, o + i * 14 + 7, none⟩ = some (.int .i64 list[i].sp.start) ∧ w.cell? ⟨b, o + i * 14 + 8, none⟩ = some (.int .i64 list[i].sp.length) ∧ w.cell? ⟨b, o + i * 14 + 9, none⟩ = some (.bool list[i].sp.fails) ∧ w.cell? ⟨b, o + i * 14 + 10, none⟩ = some (T i) ∧ w.cell? ⟨b, o + i * 14 + 11, none⟩ = some (.int .u64 list[i].up) ∧ w.cell? ⟨b, o + i * 14 + 12, none⟩ = some (.int .i64 list[i].shift) ∧ w.cell? ⟨b, o + i * 14 + 13, none⟩ = some (.int .i64 list[i].flag)
theorem AAt.grown {w w' : World} {l : List Ad} {v : Value} (h : AAt w l v) (hg : w.grownBy w' none) : AAt w' l v := by
  obtain ⟨A, c, b, o, T, e, ha, hc⟩ := h
  refine ⟨A, c, b, o, T, e, ha, fun i hi => ?_⟩
  obtain ⟨h0, h1, q0, q1, q2, q3, q4, q5, q6, q7, q8, q9, q10, q11, q12, q13⟩ := hc i hi
  exact ⟨h0, h1.grown hg, cell_grown q0 hg (by simp), cell_grown q1 hg (by simp), cell_grown q2 hg (by simp), cell_grown q3 hg (by simp), cell_grown q4 hg (by simp), cell_grown q5 hg (by simp), cell_grown q6 hg (by simp), cell_grown q7 hg (by simp), cell_grown q8 hg (by simp), cell_grown q9 hg (by simp), cell_grown q10 hg (by simp), cell_grown q11 hg (by simp), cell_grown q12 hg (by simp), cell_grown q13 hg (by simp)⟩
/-- what may be in memory -/
def ABd (l : List Ad) : Prop := ∀ a ∈ l, a.sp.tags.length ≤ 140737488355328
set_option maxRecDepth 100000 in
set_option maxHeartbeats 6400000 in
theorem eqFuncA_any (list list' : List Ad) (u v : Value) (w : World) (hll : list.length ≤ 140737488355328) (hb : ABd list) (hb' : ABd list') (hu : AAt w list u) (hv : AAt w list' v) :
    Calls Tryz.prog 76 #[u, v, .func (.func 77) #[] #[]] w fun e w' => e = .returned (.bool (eqBy eqAd list list')) ∧ w.grownBy w' none := by
  obtain ⟨A, c, b, o, T, rfl, hA, hcl⟩ := hu
  obtain ⟨X, d, y, p, T', rfl, hX, hdl⟩ := hv
  go_enter Tryz.func76, Tryz.ntmps76
  by_cases hne : list.length = list'.length
  · have hbf : ((list.length : Int) != (list'.length : Int)) = false := by simp [hne]
    have hll' := Lib.hid hll
    have hneH := Lib.hid hne
    clear hll hne
    go_wp2_with fail
    go_loopg [17] list.length (fun z u17 wr => ∃ q : Nat, q ≤ list.length ∧ z = list.length - q ∧ u17 = .int .i64 q ∧ Hid (eqBy eqAd (list.take q) (list'.take q) = true) ∧ w.grownBy wr none)
    case atStart => exact ⟨0, Nat.zero_le _, rfl, rfl, by unfold Hid; simp [eqBy], gb_refl _ _⟩
    case round =>
      obtain ⟨q, hq, rfl, rfl, hno, hg⟩ := hrel
      by_cases hlt : q < list.length
      · have hlt' : q < list'.length := by have := hneH.out; omega
        obtain rfl := hA (by omega)
        obtain rfl := hX (by omega)
        have hqi : (q : Int) < (list.length : Int) := by omega
        have hqj : (q : Int) < (list'.length : Int) := by omega
        obtain ⟨⟨A1, e1, c1, hT1⟩, ht1, m0, m1, m2, m3, m4, m5, m6, m7, m8, m9, m10, m11, m12, m13⟩ := hcl q hlt
        obtain ⟨⟨A2, e2, c2, hT2⟩, ht2, n0, n1, n2, n3, n4, n5, n6, n7, n8, n9, n10, n11, n12, n13⟩ := hdl q hlt'
        rw [hT1] at ht1 m10
        rw [hT2] at ht2 n10
        have g0 := cell_grown m0 hg (by simp)
        have g1 := cell_grown m1 hg (by simp)
        have g2 := cell_grown m2 hg (by simp)
        have g3 := cell_grown m3 hg (by simp)
        have g4 := cell_grown m4 hg (by simp)
        have g5 := cell_grown m5 hg (by simp)
        have g6 := cell_grown m6 hg (by simp)
        have g7 := cell_grown m7 hg (by simp)
        have g8 := cell_grown m8 hg (by simp)
        have g9 := cell_grown m9 hg (by simp)
        have g10 := cell_grown m10 hg (by simp)
        have g11 := cell_grown m11 hg (by simp)
        have g12 := cell_grown m12 hg (by simp)
        have g13 := cell_grown m13 hg (by simp)
        have k0 := fun ob => cell_grown n0 (gb_alloc hg ob) (by simp)
        have k1 := fun ob => cell_grown n1 (gb_alloc hg ob) (by simp)
        have k2 := fun ob => cell_grown n2 (gb_alloc hg ob) (by simp)
        have k3 := fun ob => cell_grown n3 (gb_alloc hg ob) (by simp)
        have k4 := fun ob => cell_grown n4 (gb_alloc hg ob) (by simp)
        have k5 := fun ob => cell_grown n5 (gb_alloc hg ob) (by simp)
        have k6 := fun ob => cell_grown n6 (gb_alloc hg ob) (by simp)
        have k7 := fun ob => cell_grown n7 (gb_alloc hg ob) (by simp)
        have k8 := fun ob => cell_grown n8 (gb_alloc hg ob) (by simp)
        have k9 := fun ob => cell_grown n9 (gb_alloc hg ob) (by simp)
        have k10 := fun ob => cell_grown n10 (gb_alloc hg ob) (by simp)
        have k11 := fun ob => cell_grown n11 (gb_alloc hg ob) (by simp)
        have k12 := fun ob => cell_grown n12 (gb_alloc hg ob) (by simp)
        have k13 := fun ob => cell_grown n13 (gb_alloc hg ob) (by simp)
        have hq1 := Lib.hid (show wrap64 ((q : Int) + 1) = ((q + 1 : Nat) : Int) from (wrap64_id (by omega) (by have := hll'.out; omega)).trans (by omega))
        have HX := fun (W : World) (hgW : w.grownBy W none) => Lib.hid (adSame_any list[q] list'[q] (fun _ => True) _ _ W (hb _ (List.getElem_mem hlt)) (hb' _ (List.getElem_mem hlt')) (ht1.grown hgW) (ht2.grown hgW))
        have hst := Lib.hid (eqBy_take (f := eqAd) list list' q hlt hlt')
        have hat := Lib.hid (fun h => eqBy_at (f := eqAd) (l := list) (m := list') q hlt hlt' h)
        clear hcl hdl hA hX hb hb' ht1 ht2 hT1 hT2 m0 n0 m1 n1 m2 n2 m3 n3 m4 n4 m5 n5 m6 n6 m7 n7 m8 n8 m9 n9 m10 n10 m11 n11 m12 n12 m13 n13
        generalize eqAd list[q] list'[q] = x at *
        generalize list[q] = La at *
        generalize list'[q] = Lb at *
        obtain ⟨⟨a1, a2, a3, a4, a5, a6, a7, a8, a9, a10, a11⟩, au, ah, af⟩ := La
        obtain ⟨⟨b1, b2, b3, b4, b5, b6, b7, b8, b9, b10, b11⟩, bu, bh, bf⟩ := Lb
        simp only at *
        cases x with
        | true =>
          go_wp2_with (first
            | (go_at_call 77; refine ((HX _ (gb_alloc (gb_alloc (by exact hg) _) _)).out).mono ?_; rintro e w4 ⟨rfl, hg4⟩))
          go_roundg (list.length - (q + 1))
          case measure => omega
          case rel => exact ⟨q + 1, hlt, rfl, by first | rw [hq1.out] | go_num, by unfold Hid; rw [hst.out, hno.out]; rfl, gb_trans (gb_alloc (gb_alloc (by exact hg) _) _) hg4⟩
        | false =>
          go_wp2_with (first
            | (go_at_call 77; refine ((HX _ (gb_alloc (gb_alloc (by exact hg) _) _)).out).mono ?_; rintro e w4 ⟨rfl, hg4⟩))
          go_ret
          exact ⟨by rw [hat.out (by first | rfl | trivial)]; rfl, gb_trans (gb_alloc (gb_alloc (by exact hg) _) _) hg4⟩
      · obtain rfl : q = list.length := by omega
        have hfin := hno.out
        rw [List.take_of_length_le (Nat.le_refl _), List.take_of_length_le (l := list') (by have := hneH.out; omega)] at hfin
        have hfin' := Lib.hid hfin
        clear hfin hno hcl hdl hA hX
        go_wp2_with fail
        go_ret
        exact ⟨by rw [hfin'.out]; rfl, hg⟩
  · have hE : Hid (eqBy eqAd list list' = false) := eqBy_ne hne
    have hneI : ((list.length : Int) != (list'.length : Int)) = true := by simp; omega
    clear hcl hdl hA hX
    go_wp2_with fail
    go_ret
    exact ⟨by rw [hE.out]; rfl, gb_refl _ _⟩
theorem adjSame_any (list list' : List Ad) (u v : Value) (w : World) (hll : list.length ≤ 140737488355328) (hb : ABd list) (hb' : ABd list') (hu : AAt w list u) (hv : AAt w list' v) :
    Calls Tryz.prog 37 #[u, v] w fun e w' => e = .returned (.bool (eqBy eqAd list list')) ∧ w.grownBy w' none := by
  have H := Lib.hid (eqFuncA_any list list' u v w hll hb hb' hu hv)
  clear hu hv
  go_enter Tryz.func37, Tryz.ntmps37
  go_wp2_with (first | (go_at_call 76; refine (H.out).mono ?_; rintro e w2 ⟨rfl, hg2⟩))
  go_ret
  exact ⟨rfl, hg2⟩
end Go.Proofs.YtcmepallgchcjaaGreat
