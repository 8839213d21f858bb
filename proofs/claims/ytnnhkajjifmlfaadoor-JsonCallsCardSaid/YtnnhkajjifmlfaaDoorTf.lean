/- The document's Check: deep. -/
import Derived.Test.YtnnhkajjifmlfaaDoorTb
namespace Go.Proofs.YtnnhkajjifmlfaaDoor
open Go.RowKit Go.Maps

/-- what the document's deep does at a value -/
def RdeepC (j : J) : Prop := ∀ (m : Nat) (S : Nat → Prop) (v : Value) (w : World), m ≤ 64 → (∀ b, S b → b < w.heap.size) → JAt w S j v →
    Calls Tryd.prog 56 #[v, .int .i64 m] w fun e w' => e = .returned (.bool (deepP j m)) ∧ w.grownBy w' none
theorem deepPs_take : ∀ (l : List J) (m k : Nat) (h : k < l.length), deepPs (l.take (k + 1)) (m + 1) = (deepPs (l.take k) (m + 1) || deepP l[k] m)
  | a :: r, m, 0, _ => by simp [deepPs]
  | a :: r, m, k + 1, h => by
    have := deepPs_take r m k (by simpa using h)
    simp only [List.take_succ_cons, List.getElem_cons_succ]
    rw [deepPs, deepPs, this, Bool.or_assoc]
theorem deepPs_of_mem : ∀ {l : List J} {m k : Nat} (h : k < l.length), deepP l[k] m = true → deepPs l (m + 1) = true
  | a :: r, m, 0, _, h => by rw [deepPs]; simp only [List.getElem_cons_zero] at h; rw [h]; rfl
  | a :: r, m, k + 1, hk, h => by
    have := deepPs_of_mem (l := r) (m := m) (k := k) (by simpa using hk) (by simpa using h)
    rw [deepPs, this]; simp
set_option maxRecDepth 100000 in
set_option maxHeartbeats 3200000 in
theorem rdeep_5 (k n : Int) (t : ByteArray) (names : List ByteArray) (list : List J) (hk : k = 5) (hll : list.length ≤ 140737488355328) (ih : ∀ j ∈ list, RdeepC j) : RdeepC (.mk k n t names list) := by
  subst hk
  intro m S v w hm hS hv
  obtain ⟨nv, lv, rfl, hN, hL⟩ := hv.parts
  obtain ⟨A', c', b', o', V', rfl, hc', hA', hcl', hrc'⟩ := hL
  have hll' := Lib.hid hll
  clear hv hN hll hc'
  have hg1 : w.grownBy (w.alloc (.cells #[.int .i64 5, .int .i64 n, .string t, nv, .slice A' list.length c'] 26)) none := gb_alloc (gb_refl w none) _
  have J0 := JB.new w (.int .i64 5) (.int .i64 n) (.string t) nv (.slice A' list.length c')
  obtain ⟨d0, d1, d2, d3, d4, df⟩ := J0.all
  cases m with
  | zero =>
    have hD : Hid (deepP (.mk 5 n t names list) 0 = true) := by unfold Hid; rw [deepP]; simp
    clear ih hcl' hrc' hA'
    go_enter Tryd.func56, Tryd.ntmps56
    go_wp2_with fail
    go_ret
    exact ⟨by rw [hD.out]; rfl, hg1⟩
  | succ m =>
    have hm0 : ¬ (((m + 1 : Nat) : Int) = 0) := by omega
    have hms : Hid (wrap64 (((m + 1 : Nat) : Int) - 1) = (m : Int)) := by unfold Hid; rw [wrap64_id (by omega) (by omega)]; omega
    have hD : Hid (deepP (.mk 5 n t names list) (m + 1) = deepPs list (m + 1)) := by unfold Hid; rw [deepP]; simp
    go_enter Tryd.func56, Tryd.ntmps56
    go_wp2_with fail
    go_loopg [5] list.length (fun z u5 wr => ∃ q : Nat, q ≤ list.length ∧ z = list.length - q ∧ u5 = .int .i64 q ∧ Hid (deepPs (list.take q) (m + 1) = false) ∧ w.grownBy wr none ∧ JB wr w.heap.size (.int .i64 5) (.int .i64 n) (.string t) nv (.slice A' list.length c'))
    case atStart => exact ⟨0, Nat.zero_le _, rfl, rfl, by unfold Hid; simp [deepPs], hg1, J0⟩
    case round =>
      obtain ⟨q, hq, rfl, rfl, hno, hg, JW⟩ := hrel
      obtain ⟨k0, k1, k2, k3, k4, kf⟩ := JW.all
      by_cases hlt : q < list.length
      · obtain ⟨rfl, hSb⟩ := hA' (by omega)
        have hqi : (q : Int) < (list.length : Int) := by omega
        obtain ⟨a0, a1, a2, a3, a4, hV, c0, c1, c2, c3, c4⟩ := hcl' q hlt
        have g0 := cell_grown c0 hg (by simp)
        have g1 := cell_grown c1 hg (by simp)
        have g2 := cell_grown c2 hg (by simp)
        have g3 := cell_grown c3 hg (by simp)
        have g4 := cell_grown c4 hg (by simp)
        have hq1 := Lib.hid (show wrap64 ((q : Int) + 1) = ((q + 1 : Nat) : Int) from (wrap64_id (by omega) (by have := hll'.out; omega)).trans (by omega))
        have hrq := hrc' q hlt
        rw [hV] at hrq
        have HX := Lib.hid (ih list[q] (List.getElem_mem hlt) m S _ wr (by omega) (fun b hb => Nat.lt_of_lt_of_le (hS b hb) hg.size) (hrq.keep (fun b hb => hg.block b (hS b hb) (by simp)) (fun _ => id)))
        have hst := Lib.hid (deepPs_take list m q hlt)
        have hmem := Lib.hid (deepPs_of_mem (l := list) (m := m) hlt)
        clear ih hcl' hrc' c0 c1 c2 c3 c4 hA'
        generalize deepP list[q] m = y at *
        cases y with
        | true =>
          go_wp2_with (first
            | (go_at_call 56; refine (HX.out).mono ?_; rintro e w4 ⟨rfl, hg4⟩))
          go_ret
          exact ⟨by rw [hD.out, hmem.out (by first | rfl | trivial)]; rfl, gb_trans hg hg4⟩
        | false =>
          go_wp2_with (first
            | (go_at_call 56; refine (HX.out).mono ?_; rintro e w4 ⟨rfl, hg4⟩; have JW4 := JW.kept hg4 (by simp)))
          go_roundg (list.length - (q + 1))
          case measure => omega
          case rel => exact ⟨q + 1, hlt, rfl, by first | rw [hq1.out] | go_num, by unfold Hid; rw [hst.out, hno.out]; rfl, gb_trans hg hg4, JW4⟩
      · obtain rfl : q = list.length := by omega
        have hfin := hno.out
        rw [List.take_of_length_le (Nat.le_refl _)] at hfin
        have hfin' := Lib.hid hfin
        clear hfin hno ih hcl' hrc' hA'
        go_wp2_with fail
        go_ret
        exact ⟨by rw [hD.out, hfin'.out]; rfl, hg⟩
set_option maxRecDepth 100000 in
set_option maxHeartbeats 3200000 in
theorem rdeep_6 (k n : Int) (t : ByteArray) (names : List ByteArray) (list : List J) (hk : k = 6) (hll : list.length ≤ 140737488355328) (ih : ∀ j ∈ list, RdeepC j) : RdeepC (.mk k n t names list) := by
  subst hk
  intro m S v w hm hS hv
  obtain ⟨nv, lv, rfl, hN, hL⟩ := hv.parts
  obtain ⟨A', c', b', o', V', rfl, hc', hA', hcl', hrc'⟩ := hL
  have hll' := Lib.hid hll
  clear hv hN hll hc'
  have hg1 : w.grownBy (w.alloc (.cells #[.int .i64 6, .int .i64 n, .string t, nv, .slice A' list.length c'] 26)) none := gb_alloc (gb_refl w none) _
  have J0 := JB.new w (.int .i64 6) (.int .i64 n) (.string t) nv (.slice A' list.length c')
  obtain ⟨d0, d1, d2, d3, d4, df⟩ := J0.all
  cases m with
  | zero =>
    have hD : Hid (deepP (.mk 6 n t names list) 0 = true) := by unfold Hid; rw [deepP]; simp
    clear ih hcl' hrc' hA'
    go_enter Tryd.func56, Tryd.ntmps56
    go_wp2_with fail
    go_ret
    exact ⟨by rw [hD.out]; rfl, hg1⟩
  | succ m =>
    have hm0 : ¬ (((m + 1 : Nat) : Int) = 0) := by omega
    have hms : Hid (wrap64 (((m + 1 : Nat) : Int) - 1) = (m : Int)) := by unfold Hid; rw [wrap64_id (by omega) (by omega)]; omega
    have hD : Hid (deepP (.mk 6 n t names list) (m + 1) = deepPs list (m + 1)) := by unfold Hid; rw [deepP]; simp
    go_enter Tryd.func56, Tryd.ntmps56
    go_wp2_with fail
    go_loopg [5] list.length (fun z u5 wr => ∃ q : Nat, q ≤ list.length ∧ z = list.length - q ∧ u5 = .int .i64 q ∧ Hid (deepPs (list.take q) (m + 1) = false) ∧ w.grownBy wr none ∧ JB wr w.heap.size (.int .i64 6) (.int .i64 n) (.string t) nv (.slice A' list.length c'))
    case atStart => exact ⟨0, Nat.zero_le _, rfl, rfl, by unfold Hid; simp [deepPs], hg1, J0⟩
    case round =>
      obtain ⟨q, hq, rfl, rfl, hno, hg, JW⟩ := hrel
      obtain ⟨k0, k1, k2, k3, k4, kf⟩ := JW.all
      by_cases hlt : q < list.length
      · obtain ⟨rfl, hSb⟩ := hA' (by omega)
        have hqi : (q : Int) < (list.length : Int) := by omega
        obtain ⟨a0, a1, a2, a3, a4, hV, c0, c1, c2, c3, c4⟩ := hcl' q hlt
        have g0 := cell_grown c0 hg (by simp)
        have g1 := cell_grown c1 hg (by simp)
        have g2 := cell_grown c2 hg (by simp)
        have g3 := cell_grown c3 hg (by simp)
        have g4 := cell_grown c4 hg (by simp)
        have hq1 := Lib.hid (show wrap64 ((q : Int) + 1) = ((q + 1 : Nat) : Int) from (wrap64_id (by omega) (by have := hll'.out; omega)).trans (by omega))
        have hrq := hrc' q hlt
        rw [hV] at hrq
        have HX := Lib.hid (ih list[q] (List.getElem_mem hlt) m S _ wr (by omega) (fun b hb => Nat.lt_of_lt_of_le (hS b hb) hg.size) (hrq.keep (fun b hb => hg.block b (hS b hb) (by simp)) (fun _ => id)))
        have hst := Lib.hid (deepPs_take list m q hlt)
        have hmem := Lib.hid (deepPs_of_mem (l := list) (m := m) hlt)
        clear ih hcl' hrc' c0 c1 c2 c3 c4 hA'
        generalize deepP list[q] m = y at *
        cases y with
        | true =>
          go_wp2_with (first
            | (go_at_call 56; refine (HX.out).mono ?_; rintro e w4 ⟨rfl, hg4⟩))
          go_ret
          exact ⟨by rw [hD.out, hmem.out (by first | rfl | trivial)]; rfl, gb_trans hg hg4⟩
        | false =>
          go_wp2_with (first
            | (go_at_call 56; refine (HX.out).mono ?_; rintro e w4 ⟨rfl, hg4⟩; have JW4 := JW.kept hg4 (by simp)))
          go_roundg (list.length - (q + 1))
          case measure => omega
          case rel => exact ⟨q + 1, hlt, rfl, by first | rw [hq1.out] | go_num, by unfold Hid; rw [hst.out, hno.out]; rfl, gb_trans hg hg4, JW4⟩
      · obtain rfl : q = list.length := by omega
        have hfin := hno.out
        rw [List.take_of_length_le (Nat.le_refl _)] at hfin
        have hfin' := Lib.hid hfin
        clear hfin hno ih hcl' hrc' hA'
        go_wp2_with fail
        go_ret
        exact ⟨by rw [hD.out, hfin'.out]; rfl, hg⟩
set_option maxRecDepth 100000 in
set_option maxHeartbeats 3200000 in
theorem rdeep_n (k n : Int) (t : ByteArray) (names : List ByteArray) (list : List J) (hk : k ≠ 5 ∧ k ≠ 6 ∧ list.length ≠ 0) (hll : list.length ≤ 140737488355328) (ih : ∀ j ∈ list, RdeepC j) : RdeepC (.mk k n t names list) := by
  obtain ⟨k5, k6, hl0⟩ := hk
  have hne : list ≠ [] := fun e => hl0 (by rw [e]; rfl)
  have hz : ((list.length : Int) == 0) = false := by simpa using hne
  intro m S v w hm hS hv
  obtain ⟨nv, lv, rfl, hN, hL⟩ := hv.parts
  obtain ⟨A', c', b', o', V', rfl, hc', hA', hcl', hrc'⟩ := hL
  have hll' := Lib.hid hll
  clear hv hN hll hc'
  have hg1 : w.grownBy (w.alloc (.cells #[.int .i64 k, .int .i64 n, .string t, nv, .slice A' list.length c'] 26)) none := gb_alloc (gb_refl w none) _
  have J0 := JB.new w (.int .i64 k) (.int .i64 n) (.string t) nv (.slice A' list.length c')
  obtain ⟨d0, d1, d2, d3, d4, df⟩ := J0.all
  cases m with
  | zero =>
    have hD : Hid (deepP (.mk k n t names list) 0 = true) := by
      unfold Hid; rw [deepP]
      cases list with
      | nil => exact absurd rfl hne
      | cons x r => rw [deepPs]; simp
    clear ih hcl' hrc' hA'
    go_enter Tryd.func56, Tryd.ntmps56
    go_wp2_with fail
    go_ret
    exact ⟨by rw [hD.out]; rfl, hg1⟩
  | succ m =>
    have hm0 : ¬ (((m + 1 : Nat) : Int) = 0) := by omega
    have hms : Hid (wrap64 (((m + 1 : Nat) : Int) - 1) = (m : Int)) := by unfold Hid; rw [wrap64_id (by omega) (by omega)]; omega
    have hD : Hid (deepP (.mk k n t names list) (m + 1) = deepPs list (m + 1)) := by unfold Hid; rw [deepP]; simp
    go_enter Tryd.func56, Tryd.ntmps56
    go_wp2_with fail
    go_loopg [5] list.length (fun z u5 wr => ∃ q : Nat, q ≤ list.length ∧ z = list.length - q ∧ u5 = .int .i64 q ∧ Hid (deepPs (list.take q) (m + 1) = false) ∧ w.grownBy wr none ∧ JB wr w.heap.size (.int .i64 k) (.int .i64 n) (.string t) nv (.slice A' list.length c'))
    case atStart => exact ⟨0, Nat.zero_le _, rfl, rfl, by unfold Hid; simp [deepPs], hg1, J0⟩
    case round =>
      obtain ⟨q, hq, rfl, rfl, hno, hg, JW⟩ := hrel
      obtain ⟨k0, k1, k2, k3, k4, kf⟩ := JW.all
      by_cases hlt : q < list.length
      · obtain ⟨rfl, hSb⟩ := hA' (by omega)
        have hqi : (q : Int) < (list.length : Int) := by omega
        obtain ⟨a0, a1, a2, a3, a4, hV, c0, c1, c2, c3, c4⟩ := hcl' q hlt
        have g0 := cell_grown c0 hg (by simp)
        have g1 := cell_grown c1 hg (by simp)
        have g2 := cell_grown c2 hg (by simp)
        have g3 := cell_grown c3 hg (by simp)
        have g4 := cell_grown c4 hg (by simp)
        have hq1 := Lib.hid (show wrap64 ((q : Int) + 1) = ((q + 1 : Nat) : Int) from (wrap64_id (by omega) (by have := hll'.out; omega)).trans (by omega))
        have hrq := hrc' q hlt
        rw [hV] at hrq
        have HX := Lib.hid (ih list[q] (List.getElem_mem hlt) m S _ wr (by omega) (fun b hb => Nat.lt_of_lt_of_le (hS b hb) hg.size) (hrq.keep (fun b hb => hg.block b (hS b hb) (by simp)) (fun _ => id)))
        have hst := Lib.hid (deepPs_take list m q hlt)
        have hmem := Lib.hid (deepPs_of_mem (l := list) (m := m) hlt)
        clear ih hcl' hrc' c0 c1 c2 c3 c4 hA'
        generalize deepP list[q] m = y at *
        cases y with
        | true =>
          go_wp2_with (first
            | (go_at_call 56; refine (HX.out).mono ?_; rintro e w4 ⟨rfl, hg4⟩))
          go_ret
          exact ⟨by rw [hD.out, hmem.out (by first | rfl | trivial)]; rfl, gb_trans hg hg4⟩
        | false =>
          go_wp2_with (first
            | (go_at_call 56; refine (HX.out).mono ?_; rintro e w4 ⟨rfl, hg4⟩; have JW4 := JW.kept hg4 (by simp)))
          go_roundg (list.length - (q + 1))
          case measure => omega
          case rel => exact ⟨q + 1, hlt, rfl, by first | rw [hq1.out] | go_num, by unfold Hid; rw [hst.out, hno.out]; rfl, gb_trans hg hg4, JW4⟩
      · obtain rfl : q = list.length := by omega
        have hfin := hno.out
        rw [List.take_of_length_le (Nat.le_refl _)] at hfin
        have hfin' := Lib.hid hfin
        clear hfin hno ih hcl' hrc' hA'
        go_wp2_with fail
        go_ret
        exact ⟨by rw [hD.out, hfin'.out]; rfl, hg⟩
end Go.Proofs.YtnnhkajjifmlfaaDoor
