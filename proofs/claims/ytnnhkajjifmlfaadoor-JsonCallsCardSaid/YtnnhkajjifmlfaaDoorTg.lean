/- The document's Check: deep, may, Check. -/
import Derived.Test.YtnnhkajjifmlfaaDoorTf
namespace Go.Proofs.YtnnhkajjifmlfaaDoor
open Go.RowKit Go.Maps

theorem rdeep_any {j : J} (hj : JBd j) : RdeepC j := by
  induction hj with
  | @mk k n t names list h0 h1 ht hnl hll hs hr ih =>
    by_cases k5 : k = 5
    · exact rdeep_5 k n t names list k5 hll ih
    by_cases k6 : k = 6
    · exact rdeep_6 k n t names list k6 hll ih
    by_cases hl0 : list.length = 0
    · have hnil := List.eq_nil_of_length_eq_zero hl0
      subst hnil
      intro m S v w hm hS hv
      obtain ⟨nv, lv, rfl, hN, hL⟩ := hv.parts
      obtain ⟨A', c', b', o', V', rfl, hc', hA', hcl', hrc'⟩ := hL
      have hD : Hid (deepP (.mk k n t names []) m = false) := by unfold Hid; rw [deepP, deepPs]; simp [k5, k6]
      clear hv hN hc' hA' hcl' hrc' ih hr
      have hg1 : w.grownBy (w.alloc (.cells #[.int .i64 k, .int .i64 n, .string t, nv, .slice A' ([] : List J).length c'] 26)) none := gb_alloc (gb_refl w none) _
      have J0 := JB.new w (.int .i64 k) (.int .i64 n) (.string t) nv (.slice A' ([] : List J).length c')
      simp only [List.length_nil] at J0 hg1 ⊢
      obtain ⟨d0, d1, d2, d3, d4, df⟩ := J0.all
      have hk5 : (k != 5) = true := by simpa using k5
      have hk6 : (k != 6) = true := by simpa using k6
      go_enter Tryd.func56, Tryd.ntmps56
      go_wp2_with fail
      go_ret
      exact ⟨by rw [hD.out]; rfl, hg1⟩
    · exact rdeep_n k n t names list ⟨k5, k6, hl0⟩ hll ih

theorem tz (t : ByteArray) : t.toList = [] ↔ t.size = 0 := by
  constructor
  · intro e; have := ba_len t; rw [e] at this; exact this.symm
  · intro e; exact List.eq_nil_of_length_eq_zero ((ba_len t).trans e)
/-- what may does at a value -/
def MayC (j : J) : Prop := ∀ (S : Nat → Prop) (v : Value) (w : World), (∀ b, S b → b < w.heap.size) → JAt w S j v →
    Calls Tryd.prog 57 #[v] w fun e w' => e = .returned (.bool (fineP j)) ∧ w.grownBy w' none
theorem finePs_take : ∀ (l : List J) (k : Nat) (h : k < l.length), finePs (l.take (k + 1)) = (finePs (l.take k) && fineP l[k])
  | a :: r, 0, _ => by simp [finePs]
  | a :: r, k + 1, h => by
    have := finePs_take r k (by simpa using h)
    simp only [List.take_succ_cons, List.getElem_cons_succ]
    rw [finePs, finePs, this, Bool.and_assoc]
theorem finePs_no : ∀ {l : List J} {k : Nat} (h : k < l.length), fineP l[k] = false → finePs l = false
  | a :: r, 0, _, h => by rw [finePs]; simp only [List.getElem_cons_zero] at h; rw [h]; rfl
  | a :: r, k + 1, hk, h => by
    have := finePs_no (l := r) (k := k) (by simpa using hk) (by simpa using h)
    rw [finePs, this]; simp
set_option maxRecDepth 100000 in
set_option maxHeartbeats 6400000 in
theorem may_1 (n : Int) (t : ByteArray) (names : List ByteArray) (list : List J) (hll : list.length ≤ 140737488355328) (ih : ∀ j ∈ list, MayC j) : MayC (.mk 1 n t names list) := by
  intro S v w hS hv
  obtain ⟨nv, lv, rfl, hN, hL⟩ := hv.parts
  obtain ⟨A, c, rfl, hc, hA⟩ := hN
  obtain ⟨A', c', b', o', V', rfl, hc', hA', hcl', hrc'⟩ := hL
  have hll' := Lib.hid hll
  clear hv hc hc' hA hll
  have hg1 : ∀ (x y z u v : Value), w.grownBy (w.alloc (.cells #[x, y, z, u, v] 26)) none := fun _ _ _ _ _ => gb_alloc (gb_refl w none) _
  have J0 := JB.new w (.int .i64 1) (.int .i64 n) (.string t) (.slice A names.length c) (.slice A' list.length c')
  obtain ⟨d0, d1, d2, d3, d4, df⟩ := J0.all
  have hz := Lib.hid (tz t)
  go_enter Tryd.func57, Tryd.ntmps57
  go_wp2_with fail
  all_goals first
    | (go_ret
       refine ⟨?_, hg1 _ _ _ _ _⟩
       have hF : fineP (.mk 1 n t names list) = false := by
         rw [fineP]
         simp only [if_true, Bool.and_eq_false_iff, decide_eq_false_iff_not]
         first
           | omega
           | (refine Or.inl ?_; omega)
           | (have h1 : ¬ t.toList = [] := by assumption
              have h2 : ¬ t.size = 0 := fun e => h1 (hz.out.2 e)
              first | omega | (refine Or.inl ?_; omega))
           | (have h3 : ((list.length : Int) != 0) = true := by assumption
              have h4 : ¬ (list.length : Int) = 0 := by simpa using h3
              omega)
           | (have h3 : ((names.length : Int) != 0) = true := by assumption
              have h4 : ¬ (names.length : Int) = 0 := by simpa using h3
              first | omega | (refine Or.inl ?_; omega))
           | (have h5 : (n < 0 ∨ 1 < n) ∨ ((list.length : Int) != 0) = true := by assumption
              rcases h5 with h5 | h5
              · omega
              · have h4 : ¬ (list.length : Int) = 0 := by simpa using h5
                omega)
       rw [hF]; rfl)
    | skip
  · have hF : Hid (fineP (.mk 1 n t names list) = finePs list) := by
      unfold Hid
      have t1 : t.size = 0 ∨ (1 : Int) = 4 := by first | exact .inl (hz.out.1 (by assumption)) | exact .inr rfl
      have n1 : n = 0 ∨ (1 : Int) = 3 ∨ (1 : Int) = 2 := by omega
      have n2 : (1 : Int) = 2 → 0 ≤ n ∧ n ≤ 1 := by omega
      have l1 : (1 : Int) ≤ 4 → list.length = 0 := by
        intro _
        first
          | (exfalso; omega)
          | (have h3 : ((list.length : Int) != 0) = false := by assumption
             have h4 : (list.length : Int) = 0 := by simpa using h3
             omega)
          | (have h5 : (0 ≤ n ∧ n ≤ 1) ∧ ((list.length : Int) != 0) = false := by assumption
             have h4 : (list.length : Int) = 0 := by simpa using h5.2
             omega)
      have m1 : (1 : Int) ≤ 5 → names.length = 0 := by
        intro _
        first
          | (exfalso; omega)
          | (have h3 : ((names.length : Int) != 0) = false := by assumption
             have h4 : (names.length : Int) = 0 := by simpa using h3
             omega)
      have m2 : (1 : Int) = 6 → names.length = list.length := by
        intro _
        first
          | (exfalso; omega)
          | (have h3 : (names.length : Int) = (list.length : Int) := by assumption
             omega)
      have hl := List.eq_nil_of_length_eq_zero (l1 (by decide))
      rw [fineP, if_pos rfl, decide_eq_true (by omega : n = 0), decide_eq_true (by omega : t.size = 0), decide_eq_true (m1 (by decide)), decide_eq_true (l1 (by decide)), hl]; rfl
    have J0' : JB (w.alloc (.cells #[.int .i64 1, .int .i64 0, .string t, .slice A names.length c, .slice A' list.length c'] 26)) w.heap.size (.int .i64 1) (.int .i64 0) (.string t) (.slice A names.length c) (.slice A' list.length c') := JB.new w _ _ _ _ _
    try simp only [show ((names.length : Int) != 0) = false by assumption]
    try simp only [show ((list.length : Int) != 0) = false by first | assumption | exact (show (0 ≤ n ∧ n ≤ 1) ∧ ((list.length : Int) != 0) = false by assumption).2]
    try simp only [show (names.length : Int) = (list.length : Int) by assumption]
    try simp only [Bool.or_false]
    clear J0 d0 d1 d2 d3 d4 df hz
    go_loopg [5] list.length (fun z u5 wr => ∃ q : Nat, q ≤ list.length ∧ z = list.length - q ∧ u5 = .int .i64 q ∧ Hid (finePs (list.take q) = true) ∧ w.grownBy wr none ∧ JB wr w.heap.size (.int .i64 1) (.int .i64 0) (.string t) (.slice A names.length c) (.slice A' list.length c'))
    case atStart => exact ⟨0, Nat.zero_le _, rfl, rfl, rfl, hg1 _ _ _ _ _, J0'⟩
    case round =>
      obtain ⟨q, hq, rfl, rfl, hno, hg, JW⟩ := hrel
      obtain ⟨k0, k1, k2, k3, k4, kf⟩ := JW.all
      by_cases hlt : q < list.length
      · obtain ⟨rfl, hSb⟩ := hA' (by omega)
        have hqi : (q : Int) < (list.length : Int) := by omega
        obtain ⟨a0, a1, a2, a3, a4, hV, c0, c1, c2, c3, c4⟩ := hcl' q hlt
        have g0 := cell_grown c0 hg (by simp)
        have g1 := cell_grown c1 hg (by simp)
        have g2 := cell_grown c2 hg (by simp)
        have g3 := cell_grown c3 hg (by simp)
        have g4 := cell_grown c4 hg (by simp)
        have hq1 := Lib.hid (show wrap64 ((q : Int) + 1) = ((q + 1 : Nat) : Int) from (wrap64_id (by omega) (by have := hll'.out; omega)).trans (by omega))
        have hrq := hrc' q hlt
        rw [hV] at hrq
        have HX := Lib.hid (ih list[q] (List.getElem_mem hlt) S _ wr (fun b hb => Nat.lt_of_lt_of_le (hS b hb) hg.size) (hrq.keep (fun b hb => hg.block b (hS b hb) (by simp)) (fun _ => id)))
        have hst := Lib.hid (finePs_take list q hlt)
        have hmem := Lib.hid (finePs_no (l := list) hlt)
        clear ih hcl' hrc' c0 c1 c2 c3 c4 hA'
        generalize fineP list[q] = y at *
        cases y with
        | false =>
          go_wp2_with (first
            | (go_at_call 57; refine (HX.out).mono ?_; rintro e w4 ⟨rfl, hg4⟩))
          go_ret
          exact ⟨by rw [hF.out, hmem.out (by first | rfl | trivial)]; rfl, gb_trans hg hg4⟩
        | true =>
          go_wp2_with (first
            | (go_at_call 57; refine (HX.out).mono ?_; rintro e w4 ⟨rfl, hg4⟩; have JW4 := JW.kept hg4 (by simp)))
          go_roundg (list.length - (q + 1))
          case measure => omega
          case rel => exact ⟨q + 1, hlt, rfl, by first | rw [hq1.out] | go_num, by unfold Hid; rw [hst.out, hno.out]; rfl, gb_trans hg hg4, JW4⟩
      · obtain rfl : q = list.length := by omega
        have hfin := hno.out
        rw [List.take_of_length_le (Nat.le_refl _)] at hfin
        have hfin' := Lib.hid hfin
        clear hfin hno ih hcl' hrc' hA'
        go_wp2_with fail
        go_ret
        exact ⟨by rw [hF.out, hfin'.out]; rfl, hg⟩

set_option maxRecDepth 100000 in
set_option maxHeartbeats 6400000 in
theorem may_2 (n : Int) (t : ByteArray) (names : List ByteArray) (list : List J) (hll : list.length ≤ 140737488355328) (ih : ∀ j ∈ list, MayC j) : MayC (.mk 2 n t names list) := by
  intro S v w hS hv
  obtain ⟨nv, lv, rfl, hN, hL⟩ := hv.parts
  obtain ⟨A, c, rfl, hc, hA⟩ := hN
  obtain ⟨A', c', b', o', V', rfl, hc', hA', hcl', hrc'⟩ := hL
  have hll' := Lib.hid hll
  clear hv hc hc' hA hll
  have hg1 : ∀ (x y z u v : Value), w.grownBy (w.alloc (.cells #[x, y, z, u, v] 26)) none := fun _ _ _ _ _ => gb_alloc (gb_refl w none) _
  have J0 := JB.new w (.int .i64 2) (.int .i64 n) (.string t) (.slice A names.length c) (.slice A' list.length c')
  obtain ⟨d0, d1, d2, d3, d4, df⟩ := J0.all
  have hz := Lib.hid (tz t)
  go_enter Tryd.func57, Tryd.ntmps57
  go_wp2_with fail
  all_goals first
    | (go_ret
       refine ⟨?_, hg1 _ _ _ _ _⟩
       have hF : fineP (.mk 2 n t names list) = false := by
         rw [fineP]
         simp only [show ¬ ((2 : Int) = 1) by decide, if_false, if_true, Bool.and_eq_false_iff, Bool.or_eq_false_iff, decide_eq_false_iff_not]
         first
           | omega
           | (refine Or.inl ?_; omega)
           | (have h1 : ¬ t.toList = [] := by assumption
              have h2 : ¬ t.size = 0 := fun e => h1 (hz.out.2 e)
              first | omega | (refine Or.inl ?_; omega))
           | (have h3 : ((list.length : Int) != 0) = true := by assumption
              have h4 : ¬ (list.length : Int) = 0 := by simpa using h3
              omega)
           | (have h3 : ((names.length : Int) != 0) = true := by assumption
              have h4 : ¬ (names.length : Int) = 0 := by simpa using h3
              first | omega | (refine Or.inl ?_; omega))
           | (have h5 : (n < 0 ∨ 1 < n) ∨ ((list.length : Int) != 0) = true := by assumption
              rcases h5 with h5 | h5
              · omega
              · have h4 : ¬ (list.length : Int) = 0 := by simpa using h5
                omega)
       rw [hF]; rfl)
    | skip
  · have hF : Hid (fineP (.mk 2 n t names list) = finePs list) := by
      unfold Hid
      have t1 : t.size = 0 ∨ (2 : Int) = 4 := by first | exact .inl (hz.out.1 (by assumption)) | exact .inr rfl
      have n1 : n = 0 ∨ (2 : Int) = 3 ∨ (2 : Int) = 2 := by omega
      have n2 : (2 : Int) = 2 → 0 ≤ n ∧ n ≤ 1 := by omega
      have l1 : (2 : Int) ≤ 4 → list.length = 0 := by
        intro _
        first
          | (exfalso; omega)
          | (have h3 : ((list.length : Int) != 0) = false := by assumption
             have h4 : (list.length : Int) = 0 := by simpa using h3
             omega)
          | (have h5 : (0 ≤ n ∧ n ≤ 1) ∧ ((list.length : Int) != 0) = false := by assumption
             have h4 : (list.length : Int) = 0 := by simpa using h5.2
             omega)
      have m1 : (2 : Int) ≤ 5 → names.length = 0 := by
        intro _
        first
          | (exfalso; omega)
          | (have h3 : ((names.length : Int) != 0) = false := by assumption
             have h4 : (names.length : Int) = 0 := by simpa using h3
             omega)
      have m2 : (2 : Int) = 6 → names.length = list.length := by
        intro _
        first
          | (exfalso; omega)
          | (have h3 : (names.length : Int) = (list.length : Int) := by assumption
             omega)
      have hl := List.eq_nil_of_length_eq_zero (l1 (by decide))
      have n3 : (decide (n = 0) || decide (n = 1)) = true := by simp; have := n2 rfl; omega
      rw [fineP, if_neg (by decide), if_pos rfl, n3, decide_eq_true (by omega : t.size = 0), decide_eq_true (m1 (by decide)), decide_eq_true (l1 (by decide)), hl]; rfl
    have J0' : JB (w.alloc (.cells #[.int .i64 2, .int .i64 n, .string t, .slice A names.length c, .slice A' list.length c'] 26)) w.heap.size (.int .i64 2) (.int .i64 n) (.string t) (.slice A names.length c) (.slice A' list.length c') := JB.new w _ _ _ _ _
    try simp only [show ((names.length : Int) != 0) = false by assumption]
    try simp only [show ((list.length : Int) != 0) = false by first | assumption | exact (show (0 ≤ n ∧ n ≤ 1) ∧ ((list.length : Int) != 0) = false by assumption).2]
    try simp only [show (names.length : Int) = (list.length : Int) by assumption]
    try simp only [Bool.or_false]
    clear J0 d0 d1 d2 d3 d4 df hz
    go_loopg [5] list.length (fun z u5 wr => ∃ q : Nat, q ≤ list.length ∧ z = list.length - q ∧ u5 = .int .i64 q ∧ Hid (finePs (list.take q) = true) ∧ w.grownBy wr none ∧ JB wr w.heap.size (.int .i64 2) (.int .i64 n) (.string t) (.slice A names.length c) (.slice A' list.length c'))
    case atStart => exact ⟨0, Nat.zero_le _, rfl, rfl, rfl, hg1 _ _ _ _ _, J0'⟩
    case round =>
      obtain ⟨q, hq, rfl, rfl, hno, hg, JW⟩ := hrel
      obtain ⟨k0, k1, k2, k3, k4, kf⟩ := JW.all
      by_cases hlt : q < list.length
      · obtain ⟨rfl, hSb⟩ := hA' (by omega)
        have hqi : (q : Int) < (list.length : Int) := by omega
        obtain ⟨a0, a1, a2, a3, a4, hV, c0, c1, c2, c3, c4⟩ := hcl' q hlt
        have g0 := cell_grown c0 hg (by simp)
        have g1 := cell_grown c1 hg (by simp)
        have g2 := cell_grown c2 hg (by simp)
        have g3 := cell_grown c3 hg (by simp)
        have g4 := cell_grown c4 hg (by simp)
        have hq1 := Lib.hid (show wrap64 ((q : Int) + 1) = ((q + 1 : Nat) : Int) from (wrap64_id (by omega) (by have := hll'.out; omega)).trans (by omega))
        have hrq := hrc' q hlt
        rw [hV] at hrq
        have HX := Lib.hid (ih list[q] (List.getElem_mem hlt) S _ wr (fun b hb => Nat.lt_of_lt_of_le (hS b hb) hg.size) (hrq.keep (fun b hb => hg.block b (hS b hb) (by simp)) (fun _ => id)))
        have hst := Lib.hid (finePs_take list q hlt)
        have hmem := Lib.hid (finePs_no (l := list) hlt)
        clear ih hcl' hrc' c0 c1 c2 c3 c4 hA'
        generalize fineP list[q] = y at *
        cases y with
        | false =>
          go_wp2_with (first
            | (go_at_call 57; refine (HX.out).mono ?_; rintro e w4 ⟨rfl, hg4⟩))
          go_ret
          exact ⟨by rw [hF.out, hmem.out (by first | rfl | trivial)]; rfl, gb_trans hg hg4⟩
        | true =>
          go_wp2_with (first
            | (go_at_call 57; refine (HX.out).mono ?_; rintro e w4 ⟨rfl, hg4⟩; have JW4 := JW.kept hg4 (by simp)))
          go_roundg (list.length - (q + 1))
          case measure => omega
          case rel => exact ⟨q + 1, hlt, rfl, by first | rw [hq1.out] | go_num, by unfold Hid; rw [hst.out, hno.out]; rfl, gb_trans hg hg4, JW4⟩
      · obtain rfl : q = list.length := by omega
        have hfin := hno.out
        rw [List.take_of_length_le (Nat.le_refl _)] at hfin
        have hfin' := Lib.hid hfin
        clear hfin hno ih hcl' hrc' hA'
        go_wp2_with fail
        go_ret
        exact ⟨by rw [hF.out, hfin'.out]; rfl, hg⟩

set_option maxRecDepth 100000 in
set_option maxHeartbeats 6400000 in
theorem may_3 (n : Int) (t : ByteArray) (names : List ByteArray) (list : List J) (hll : list.length ≤ 140737488355328) (ih : ∀ j ∈ list, MayC j) : MayC (.mk 3 n t names list) := by
  intro S v w hS hv
  obtain ⟨nv, lv, rfl, hN, hL⟩ := hv.parts
  obtain ⟨A, c, rfl, hc, hA⟩ := hN
  obtain ⟨A', c', b', o', V', rfl, hc', hA', hcl', hrc'⟩ := hL
  have hll' := Lib.hid hll
  clear hv hc hc' hA hll
  have hg1 : ∀ (x y z u v : Value), w.grownBy (w.alloc (.cells #[x, y, z, u, v] 26)) none := fun _ _ _ _ _ => gb_alloc (gb_refl w none) _
  have J0 := JB.new w (.int .i64 3) (.int .i64 n) (.string t) (.slice A names.length c) (.slice A' list.length c')
  obtain ⟨d0, d1, d2, d3, d4, df⟩ := J0.all
  have hz := Lib.hid (tz t)
  go_enter Tryd.func57, Tryd.ntmps57
  go_wp2_with fail
  all_goals first
    | (go_ret
       refine ⟨?_, hg1 _ _ _ _ _⟩
       have hF : fineP (.mk 3 n t names list) = false := by
         rw [fineP]
         simp only [show ¬ ((3 : Int) = 1) by decide, show ¬ ((3 : Int) = 2) by decide, if_false, if_true, Bool.and_eq_false_iff, decide_eq_false_iff_not]
         first
           | omega
           | (refine Or.inl ?_; omega)
           | (have h1 : ¬ t.toList = [] := by assumption
              have h2 : ¬ t.size = 0 := fun e => h1 (hz.out.2 e)
              first | omega | (refine Or.inl ?_; omega))
           | (have h3 : ((list.length : Int) != 0) = true := by assumption
              have h4 : ¬ (list.length : Int) = 0 := by simpa using h3
              omega)
           | (have h3 : ((names.length : Int) != 0) = true := by assumption
              have h4 : ¬ (names.length : Int) = 0 := by simpa using h3
              first | omega | (refine Or.inl ?_; omega))
           | (have h5 : (n < 0 ∨ 1 < n) ∨ ((list.length : Int) != 0) = true := by assumption
              rcases h5 with h5 | h5
              · omega
              · have h4 : ¬ (list.length : Int) = 0 := by simpa using h5
                omega)
       rw [hF]; rfl)
    | skip
  · have hF : Hid (fineP (.mk 3 n t names list) = finePs list) := by
      unfold Hid
      have t1 : t.size = 0 ∨ (3 : Int) = 4 := by first | exact .inl (hz.out.1 (by assumption)) | exact .inr rfl
      have n1 : n = 0 ∨ (3 : Int) = 3 ∨ (3 : Int) = 2 := by omega
      have n2 : (3 : Int) = 2 → 0 ≤ n ∧ n ≤ 1 := by omega
      have l1 : (3 : Int) ≤ 4 → list.length = 0 := by
        intro _
        first
          | (exfalso; omega)
          | (have h3 : ((list.length : Int) != 0) = false := by assumption
             have h4 : (list.length : Int) = 0 := by simpa using h3
             omega)
          | (have h5 : (0 ≤ n ∧ n ≤ 1) ∧ ((list.length : Int) != 0) = false := by assumption
             have h4 : (list.length : Int) = 0 := by simpa using h5.2
             omega)
      have m1 : (3 : Int) ≤ 5 → names.length = 0 := by
        intro _
        first
          | (exfalso; omega)
          | (have h3 : ((names.length : Int) != 0) = false := by assumption
             have h4 : (names.length : Int) = 0 := by simpa using h3
             omega)
      have m2 : (3 : Int) = 6 → names.length = list.length := by
        intro _
        first
          | (exfalso; omega)
          | (have h3 : (names.length : Int) = (list.length : Int) := by assumption
             omega)
      have hl := List.eq_nil_of_length_eq_zero (l1 (by decide))
      rw [fineP, if_neg (by decide), if_neg (by decide), if_pos rfl, decide_eq_true (by omega : t.size = 0), decide_eq_true (m1 (by decide)), decide_eq_true (l1 (by decide)), hl]; rfl
    have J0' : JB (w.alloc (.cells #[.int .i64 3, .int .i64 n, .string t, .slice A names.length c, .slice A' list.length c'] 26)) w.heap.size (.int .i64 3) (.int .i64 n) (.string t) (.slice A names.length c) (.slice A' list.length c') := JB.new w _ _ _ _ _
    try simp only [show ((names.length : Int) != 0) = false by assumption]
    try simp only [show ((list.length : Int) != 0) = false by first | assumption | exact (show (0 ≤ n ∧ n ≤ 1) ∧ ((list.length : Int) != 0) = false by assumption).2]
    try simp only [show (names.length : Int) = (list.length : Int) by assumption]
    try simp only [Bool.or_false]
    clear J0 d0 d1 d2 d3 d4 df hz
    go_loopg [5] list.length (fun z u5 wr => ∃ q : Nat, q ≤ list.length ∧ z = list.length - q ∧ u5 = .int .i64 q ∧ Hid (finePs (list.take q) = true) ∧ w.grownBy wr none ∧ JB wr w.heap.size (.int .i64 3) (.int .i64 n) (.string t) (.slice A names.length c) (.slice A' list.length c'))
    case atStart => exact ⟨0, Nat.zero_le _, rfl, rfl, rfl, hg1 _ _ _ _ _, J0'⟩
    case round =>
      obtain ⟨q, hq, rfl, rfl, hno, hg, JW⟩ := hrel
      obtain ⟨k0, k1, k2, k3, k4, kf⟩ := JW.all
      by_cases hlt : q < list.length
      · obtain ⟨rfl, hSb⟩ := hA' (by omega)
        have hqi : (q : Int) < (list.length : Int) := by omega
        obtain ⟨a0, a1, a2, a3, a4, hV, c0, c1, c2, c3, c4⟩ := hcl' q hlt
        have g0 := cell_grown c0 hg (by simp)
        have g1 := cell_grown c1 hg (by simp)
        have g2 := cell_grown c2 hg (by simp)
        have g3 := cell_grown c3 hg (by simp)
        have g4 := cell_grown c4 hg (by simp)
        have hq1 := Lib.hid (show wrap64 ((q : Int) + 1) = ((q + 1 : Nat) : Int) from (wrap64_id (by omega) (by have := hll'.out; omega)).trans (by omega))
        have hrq := hrc' q hlt
        rw [hV] at hrq
        have HX := Lib.hid (ih list[q] (List.getElem_mem hlt) S _ wr (fun b hb => Nat.lt_of_lt_of_le (hS b hb) hg.size) (hrq.keep (fun b hb => hg.block b (hS b hb) (by simp)) (fun _ => id)))
        have hst := Lib.hid (finePs_take list q hlt)
        have hmem := Lib.hid (finePs_no (l := list) hlt)
        clear ih hcl' hrc' c0 c1 c2 c3 c4 hA'
        generalize fineP list[q] = y at *
        cases y with
        | false =>
          go_wp2_with (first
            | (go_at_call 57; refine (HX.out).mono ?_; rintro e w4 ⟨rfl, hg4⟩))
          go_ret
          exact ⟨by rw [hF.out, hmem.out (by first | rfl | trivial)]; rfl, gb_trans hg hg4⟩
        | true =>
          go_wp2_with (first
            | (go_at_call 57; refine (HX.out).mono ?_; rintro e w4 ⟨rfl, hg4⟩; have JW4 := JW.kept hg4 (by simp)))
          go_roundg (list.length - (q + 1))
          case measure => omega
          case rel => exact ⟨q + 1, hlt, rfl, by first | rw [hq1.out] | go_num, by unfold Hid; rw [hst.out, hno.out]; rfl, gb_trans hg hg4, JW4⟩
      · obtain rfl : q = list.length := by omega
        have hfin := hno.out
        rw [List.take_of_length_le (Nat.le_refl _)] at hfin
        have hfin' := Lib.hid hfin
        clear hfin hno ih hcl' hrc' hA'
        go_wp2_with fail
        go_ret
        exact ⟨by rw [hF.out, hfin'.out]; rfl, hg⟩

set_option maxRecDepth 100000 in
set_option maxHeartbeats 6400000 in
theorem may_4 (n : Int) (t : ByteArray) (names : List ByteArray) (list : List J) (hll : list.length ≤ 140737488355328) (ih : ∀ j ∈ list, MayC j) : MayC (.mk 4 n t names list) := by
  intro S v w hS hv
  obtain ⟨nv, lv, rfl, hN, hL⟩ := hv.parts
  obtain ⟨A, c, rfl, hc, hA⟩ := hN
  obtain ⟨A', c', b', o', V', rfl, hc', hA', hcl', hrc'⟩ := hL
  have hll' := Lib.hid hll
  clear hv hc hc' hA hll
  have hg1 : ∀ (x y z u v : Value), w.grownBy (w.alloc (.cells #[x, y, z, u, v] 26)) none := fun _ _ _ _ _ => gb_alloc (gb_refl w none) _
  have J0 := JB.new w (.int .i64 4) (.int .i64 n) (.string t) (.slice A names.length c) (.slice A' list.length c')
  obtain ⟨d0, d1, d2, d3, d4, df⟩ := J0.all
  have hz := Lib.hid (tz t)
  go_enter Tryd.func57, Tryd.ntmps57
  go_wp2_with fail
  all_goals first
    | (go_ret
       refine ⟨?_, hg1 _ _ _ _ _⟩
       have hF : fineP (.mk 4 n t names list) = false := by
         rw [fineP]
         simp only [show ¬ ((4 : Int) = 1) by decide, show ¬ ((4 : Int) = 2) by decide, show ¬ ((4 : Int) = 3) by decide, if_false, if_true, Bool.and_eq_false_iff, decide_eq_false_iff_not]
         first
           | omega
           | (refine Or.inl ?_; omega)
           | (have h1 : ¬ t.toList = [] := by assumption
              have h2 : ¬ t.size = 0 := fun e => h1 (hz.out.2 e)
              first | omega | (refine Or.inl ?_; omega))
           | (have h3 : ((list.length : Int) != 0) = true := by assumption
              have h4 : ¬ (list.length : Int) = 0 := by simpa using h3
              omega)
           | (have h3 : ((names.length : Int) != 0) = true := by assumption
              have h4 : ¬ (names.length : Int) = 0 := by simpa using h3
              first | omega | (refine Or.inl ?_; omega))
           | (have h5 : (n < 0 ∨ 1 < n) ∨ ((list.length : Int) != 0) = true := by assumption
              rcases h5 with h5 | h5
              · omega
              · have h4 : ¬ (list.length : Int) = 0 := by simpa using h5
                omega)
       rw [hF]; rfl)
    | skip
  · have hF : Hid (fineP (.mk 4 n t names list) = finePs list) := by
      unfold Hid
      have t1 : t.size = 0 ∨ (4 : Int) = 4 := by first | exact .inl (hz.out.1 (by assumption)) | exact .inr rfl
      have n1 : n = 0 ∨ (4 : Int) = 3 ∨ (4 : Int) = 2 := by omega
      have n2 : (4 : Int) = 2 → 0 ≤ n ∧ n ≤ 1 := by omega
      have l1 : (4 : Int) ≤ 4 → list.length = 0 := by
        intro _
        first
          | (exfalso; omega)
          | (have h3 : ((list.length : Int) != 0) = false := by assumption
             have h4 : (list.length : Int) = 0 := by simpa using h3
             omega)
          | (have h5 : (0 ≤ n ∧ n ≤ 1) ∧ ((list.length : Int) != 0) = false := by assumption
             have h4 : (list.length : Int) = 0 := by simpa using h5.2
             omega)
      have m1 : (4 : Int) ≤ 5 → names.length = 0 := by
        intro _
        first
          | (exfalso; omega)
          | (have h3 : ((names.length : Int) != 0) = false := by assumption
             have h4 : (names.length : Int) = 0 := by simpa using h3
             omega)
      have m2 : (4 : Int) = 6 → names.length = list.length := by
        intro _
        first
          | (exfalso; omega)
          | (have h3 : (names.length : Int) = (list.length : Int) := by assumption
             omega)
      have hl := List.eq_nil_of_length_eq_zero (l1 (by decide))
      rw [fineP, if_neg (by decide), if_neg (by decide), if_neg (by decide), if_pos rfl, decide_eq_true (by omega : n = 0), decide_eq_true (m1 (by decide)), decide_eq_true (l1 (by decide)), hl]; rfl
    have J0' : JB (w.alloc (.cells #[.int .i64 4, .int .i64 0, .string t, .slice A names.length c, .slice A' list.length c'] 26)) w.heap.size (.int .i64 4) (.int .i64 0) (.string t) (.slice A names.length c) (.slice A' list.length c') := JB.new w _ _ _ _ _
    try simp only [show ((names.length : Int) != 0) = false by assumption]
    try simp only [show ((list.length : Int) != 0) = false by first | assumption | exact (show (0 ≤ n ∧ n ≤ 1) ∧ ((list.length : Int) != 0) = false by assumption).2]
    try simp only [show (names.length : Int) = (list.length : Int) by assumption]
    try simp only [Bool.or_false]
    clear J0 d0 d1 d2 d3 d4 df hz
    go_loopg [5] list.length (fun z u5 wr => ∃ q : Nat, q ≤ list.length ∧ z = list.length - q ∧ u5 = .int .i64 q ∧ Hid (finePs (list.take q) = true) ∧ w.grownBy wr none ∧ JB wr w.heap.size (.int .i64 4) (.int .i64 0) (.string t) (.slice A names.length c) (.slice A' list.length c'))
    case atStart => exact ⟨0, Nat.zero_le _, rfl, rfl, rfl, hg1 _ _ _ _ _, J0'⟩
    case round =>
      obtain ⟨q, hq, rfl, rfl, hno, hg, JW⟩ := hrel
      obtain ⟨k0, k1, k2, k3, k4, kf⟩ := JW.all
      by_cases hlt : q < list.length
      · obtain ⟨rfl, hSb⟩ := hA' (by omega)
        have hqi : (q : Int) < (list.length : Int) := by omega
        obtain ⟨a0, a1, a2, a3, a4, hV, c0, c1, c2, c3, c4⟩ := hcl' q hlt
        have g0 := cell_grown c0 hg (by simp)
        have g1 := cell_grown c1 hg (by simp)
        have g2 := cell_grown c2 hg (by simp)
        have g3 := cell_grown c3 hg (by simp)
        have g4 := cell_grown c4 hg (by simp)
        have hq1 := Lib.hid (show wrap64 ((q : Int) + 1) = ((q + 1 : Nat) : Int) from (wrap64_id (by omega) (by have := hll'.out; omega)).trans (by omega))
        have hrq := hrc' q hlt
        rw [hV] at hrq
        have HX := Lib.hid (ih list[q] (List.getElem_mem hlt) S _ wr (fun b hb => Nat.lt_of_lt_of_le (hS b hb) hg.size) (hrq.keep (fun b hb => hg.block b (hS b hb) (by simp)) (fun _ => id)))
        have hst := Lib.hid (finePs_take list q hlt)
        have hmem := Lib.hid (finePs_no (l := list) hlt)
        clear ih hcl' hrc' c0 c1 c2 c3 c4 hA'
        generalize fineP list[q] = y at *
        cases y with
        | false =>
          go_wp2_with (first
            | (go_at_call 57; refine (HX.out).mono ?_; rintro e w4 ⟨rfl, hg4⟩))
          go_ret
          exact ⟨by rw [hF.out, hmem.out (by first | rfl | trivial)]; rfl, gb_trans hg hg4⟩
        | true =>
          go_wp2_with (first
            | (go_at_call 57; refine (HX.out).mono ?_; rintro e w4 ⟨rfl, hg4⟩; have JW4 := JW.kept hg4 (by simp)))
          go_roundg (list.length - (q + 1))
          case measure => omega
          case rel => exact ⟨q + 1, hlt, rfl, by first | rw [hq1.out] | go_num, by unfold Hid; rw [hst.out, hno.out]; rfl, gb_trans hg hg4, JW4⟩
      · obtain rfl : q = list.length := by omega
        have hfin := hno.out
        rw [List.take_of_length_le (Nat.le_refl _)] at hfin
        have hfin' := Lib.hid hfin
        clear hfin hno ih hcl' hrc' hA'
        go_wp2_with fail
        go_ret
        exact ⟨by rw [hF.out, hfin'.out]; rfl, hg⟩

set_option maxRecDepth 100000 in
set_option maxHeartbeats 6400000 in
theorem may_5 (n : Int) (t : ByteArray) (names : List ByteArray) (list : List J) (hll : list.length ≤ 140737488355328) (ih : ∀ j ∈ list, MayC j) : MayC (.mk 5 n t names list) := by
  intro S v w hS hv
  obtain ⟨nv, lv, rfl, hN, hL⟩ := hv.parts
  obtain ⟨A, c, rfl, hc, hA⟩ := hN
  obtain ⟨A', c', b', o', V', rfl, hc', hA', hcl', hrc'⟩ := hL
  have hll' := Lib.hid hll
  clear hv hc hc' hA hll
  have hg1 : ∀ (x y z u v : Value), w.grownBy (w.alloc (.cells #[x, y, z, u, v] 26)) none := fun _ _ _ _ _ => gb_alloc (gb_refl w none) _
  have J0 := JB.new w (.int .i64 5) (.int .i64 n) (.string t) (.slice A names.length c) (.slice A' list.length c')
  obtain ⟨d0, d1, d2, d3, d4, df⟩ := J0.all
  have hz := Lib.hid (tz t)
  go_enter Tryd.func57, Tryd.ntmps57
  go_wp2_with fail
  all_goals first
    | (go_ret
       refine ⟨?_, hg1 _ _ _ _ _⟩
       have hF : fineP (.mk 5 n t names list) = false := by
         rw [fineP]
         simp only [show ¬ ((5 : Int) = 1) by decide, show ¬ ((5 : Int) = 2) by decide, show ¬ ((5 : Int) = 3) by decide, show ¬ ((5 : Int) = 4) by decide, if_false, if_true, Bool.and_eq_false_iff, decide_eq_false_iff_not]
         first
           | omega
           | (refine Or.inl ?_; omega)
           | (have h1 : ¬ t.toList = [] := by assumption
              have h2 : ¬ t.size = 0 := fun e => h1 (hz.out.2 e)
              first | omega | (refine Or.inl ?_; omega))
           | (have h3 : ((list.length : Int) != 0) = true := by assumption
              have h4 : ¬ (list.length : Int) = 0 := by simpa using h3
              omega)
           | (have h3 : ((names.length : Int) != 0) = true := by assumption
              have h4 : ¬ (names.length : Int) = 0 := by simpa using h3
              first | omega | (refine Or.inl ?_; omega))
           | (have h5 : (n < 0 ∨ 1 < n) ∨ ((list.length : Int) != 0) = true := by assumption
              rcases h5 with h5 | h5
              · omega
              · have h4 : ¬ (list.length : Int) = 0 := by simpa using h5
                omega)
       rw [hF]; rfl)
    | skip
  · have hF : Hid (fineP (.mk 5 n t names list) = finePs list) := by
      unfold Hid
      have t1 : t.size = 0 ∨ (5 : Int) = 4 := by first | exact .inl (hz.out.1 (by assumption)) | exact .inr rfl
      have n1 : n = 0 ∨ (5 : Int) = 3 ∨ (5 : Int) = 2 := by omega
      have n2 : (5 : Int) = 2 → 0 ≤ n ∧ n ≤ 1 := by omega
      have l1 : (5 : Int) ≤ 4 → list.length = 0 := by
        intro _
        first
          | (exfalso; omega)
          | (have h3 : ((list.length : Int) != 0) = false := by assumption
             have h4 : (list.length : Int) = 0 := by simpa using h3
             omega)
          | (have h5 : (0 ≤ n ∧ n ≤ 1) ∧ ((list.length : Int) != 0) = false := by assumption
             have h4 : (list.length : Int) = 0 := by simpa using h5.2
             omega)
      have m1 : (5 : Int) ≤ 5 → names.length = 0 := by
        intro _
        first
          | (exfalso; omega)
          | (have h3 : ((names.length : Int) != 0) = false := by assumption
             have h4 : (names.length : Int) = 0 := by simpa using h3
             omega)
      have m2 : (5 : Int) = 6 → names.length = list.length := by
        intro _
        first
          | (exfalso; omega)
          | (have h3 : (names.length : Int) = (list.length : Int) := by assumption
             omega)
      rw [fineP, if_neg (by decide), if_neg (by decide), if_neg (by decide), if_neg (by decide), if_pos rfl, decide_eq_true (by omega : n = 0), decide_eq_true (by omega : t.size = 0), decide_eq_true (m1 (by decide))]; rfl
    have J0' : JB (w.alloc (.cells #[.int .i64 5, .int .i64 0, .string t, .slice A names.length c, .slice A' list.length c'] 26)) w.heap.size (.int .i64 5) (.int .i64 0) (.string t) (.slice A names.length c) (.slice A' list.length c') := JB.new w _ _ _ _ _
    try simp only [show ((names.length : Int) != 0) = false by assumption]
    try simp only [show ((list.length : Int) != 0) = false by first | assumption | exact (show (0 ≤ n ∧ n ≤ 1) ∧ ((list.length : Int) != 0) = false by assumption).2]
    try simp only [show (names.length : Int) = (list.length : Int) by assumption]
    try simp only [Bool.or_false]
    clear J0 d0 d1 d2 d3 d4 df hz
    go_loopg [5] list.length (fun z u5 wr => ∃ q : Nat, q ≤ list.length ∧ z = list.length - q ∧ u5 = .int .i64 q ∧ Hid (finePs (list.take q) = true) ∧ w.grownBy wr none ∧ JB wr w.heap.size (.int .i64 5) (.int .i64 0) (.string t) (.slice A names.length c) (.slice A' list.length c'))
    case atStart => exact ⟨0, Nat.zero_le _, rfl, rfl, rfl, hg1 _ _ _ _ _, J0'⟩
    case round =>
      obtain ⟨q, hq, rfl, rfl, hno, hg, JW⟩ := hrel
      obtain ⟨k0, k1, k2, k3, k4, kf⟩ := JW.all
      by_cases hlt : q < list.length
      · obtain ⟨rfl, hSb⟩ := hA' (by omega)
        have hqi : (q : Int) < (list.length : Int) := by omega
        obtain ⟨a0, a1, a2, a3, a4, hV, c0, c1, c2, c3, c4⟩ := hcl' q hlt
        have g0 := cell_grown c0 hg (by simp)
        have g1 := cell_grown c1 hg (by simp)
        have g2 := cell_grown c2 hg (by simp)
        have g3 := cell_grown c3 hg (by simp)
        have g4 := cell_grown c4 hg (by simp)
        have hq1 := Lib.hid (show wrap64 ((q : Int) + 1) = ((q + 1 : Nat) : Int) from (wrap64_id (by omega) (by have := hll'.out; omega)).trans (by omega))
        have hrq := hrc' q hlt
        rw [hV] at hrq
        have HX := Lib.hid (ih list[q] (List.getElem_mem hlt) S _ wr (fun b hb => Nat.lt_of_lt_of_le (hS b hb) hg.size) (hrq.keep (fun b hb => hg.block b (hS b hb) (by simp)) (fun _ => id)))
        have hst := Lib.hid (finePs_take list q hlt)
        have hmem := Lib.hid (finePs_no (l := list) hlt)
        clear ih hcl' hrc' c0 c1 c2 c3 c4 hA'
        generalize fineP list[q] = y at *
        cases y with
        | false =>
          go_wp2_with (first
            | (go_at_call 57; refine (HX.out).mono ?_; rintro e w4 ⟨rfl, hg4⟩))
          go_ret
          exact ⟨by rw [hF.out, hmem.out (by first | rfl | trivial)]; rfl, gb_trans hg hg4⟩
        | true =>
          go_wp2_with (first
            | (go_at_call 57; refine (HX.out).mono ?_; rintro e w4 ⟨rfl, hg4⟩; have JW4 := JW.kept hg4 (by simp)))
          go_roundg (list.length - (q + 1))
          case measure => omega
          case rel => exact ⟨q + 1, hlt, rfl, by first | rw [hq1.out] | go_num, by unfold Hid; rw [hst.out, hno.out]; rfl, gb_trans hg hg4, JW4⟩
      · obtain rfl : q = list.length := by omega
        have hfin := hno.out
        rw [List.take_of_length_le (Nat.le_refl _)] at hfin
        have hfin' := Lib.hid hfin
        clear hfin hno ih hcl' hrc' hA'
        go_wp2_with fail
        go_ret
        exact ⟨by rw [hF.out, hfin'.out]; rfl, hg⟩

set_option maxRecDepth 100000 in
set_option maxHeartbeats 6400000 in
theorem may_6 (n : Int) (t : ByteArray) (names : List ByteArray) (list : List J) (hll : list.length ≤ 140737488355328) (ih : ∀ j ∈ list, MayC j) : MayC (.mk 6 n t names list) := by
  intro S v w hS hv
  obtain ⟨nv, lv, rfl, hN, hL⟩ := hv.parts
  obtain ⟨A, c, rfl, hc, hA⟩ := hN
  obtain ⟨A', c', b', o', V', rfl, hc', hA', hcl', hrc'⟩ := hL
  have hll' := Lib.hid hll
  clear hv hc hc' hA hll
  have hg1 : ∀ (x y z u v : Value), w.grownBy (w.alloc (.cells #[x, y, z, u, v] 26)) none := fun _ _ _ _ _ => gb_alloc (gb_refl w none) _
  have J0 := JB.new w (.int .i64 6) (.int .i64 n) (.string t) (.slice A names.length c) (.slice A' list.length c')
  obtain ⟨d0, d1, d2, d3, d4, df⟩ := J0.all
  have hz := Lib.hid (tz t)
  go_enter Tryd.func57, Tryd.ntmps57
  go_wp2_with fail
  all_goals first
    | (go_ret
       refine ⟨?_, hg1 _ _ _ _ _⟩
       have hF : fineP (.mk 6 n t names list) = false := by
         rw [fineP]
         simp only [show ¬ ((6 : Int) = 1) by decide, show ¬ ((6 : Int) = 2) by decide, show ¬ ((6 : Int) = 3) by decide, show ¬ ((6 : Int) = 4) by decide, show ¬ ((6 : Int) = 5) by decide, if_false, if_true, Bool.and_eq_false_iff, decide_eq_false_iff_not]
         first
           | omega
           | (refine Or.inl ?_; omega)
           | (have h1 : ¬ t.toList = [] := by assumption
              have h2 : ¬ t.size = 0 := fun e => h1 (hz.out.2 e)
              first | omega | (refine Or.inl ?_; omega))
           | (have h3 : ((list.length : Int) != 0) = true := by assumption
              have h4 : ¬ (list.length : Int) = 0 := by simpa using h3
              omega)
           | (have h3 : ((names.length : Int) != 0) = true := by assumption
              have h4 : ¬ (names.length : Int) = 0 := by simpa using h3
              first | omega | (refine Or.inl ?_; omega))
           | (have h5 : (n < 0 ∨ 1 < n) ∨ ((list.length : Int) != 0) = true := by assumption
              rcases h5 with h5 | h5
              · omega
              · have h4 : ¬ (list.length : Int) = 0 := by simpa using h5
                omega)
       rw [hF]; rfl)
    | skip
  · have hF : Hid (fineP (.mk 6 n t names list) = finePs list) := by
      unfold Hid
      have t1 : t.size = 0 ∨ (6 : Int) = 4 := by first | exact .inl (hz.out.1 (by assumption)) | exact .inr rfl
      have n1 : n = 0 ∨ (6 : Int) = 3 ∨ (6 : Int) = 2 := by omega
      have n2 : (6 : Int) = 2 → 0 ≤ n ∧ n ≤ 1 := by omega
      have l1 : (6 : Int) ≤ 4 → list.length = 0 := by
        intro _
        first
          | (exfalso; omega)
          | (have h3 : ((list.length : Int) != 0) = false := by assumption
             have h4 : (list.length : Int) = 0 := by simpa using h3
             omega)
          | (have h5 : (0 ≤ n ∧ n ≤ 1) ∧ ((list.length : Int) != 0) = false := by assumption
             have h4 : (list.length : Int) = 0 := by simpa using h5.2
             omega)
      have m1 : (6 : Int) ≤ 5 → names.length = 0 := by
        intro _
        first
          | (exfalso; omega)
          | (have h3 : ((names.length : Int) != 0) = false := by assumption
             have h4 : (names.length : Int) = 0 := by simpa using h3
             omega)
      have m2 : (6 : Int) = 6 → names.length = list.length := by
        intro _
        first
          | (exfalso; omega)
          | (have h3 : (names.length : Int) = (list.length : Int) := by assumption
             omega)
      rw [fineP, if_neg (by decide), if_neg (by decide), if_neg (by decide), if_neg (by decide), if_neg (by decide), if_pos rfl, decide_eq_true (by omega : n = 0), decide_eq_true (by omega : t.size = 0), decide_eq_true (m2 rfl)]; rfl
    have J0' : JB (w.alloc (.cells #[.int .i64 6, .int .i64 0, .string t, .slice A names.length c, .slice A' list.length c'] 26)) w.heap.size (.int .i64 6) (.int .i64 0) (.string t) (.slice A names.length c) (.slice A' list.length c') := JB.new w _ _ _ _ _
    try simp only [show ((names.length : Int) != 0) = false by assumption]
    try simp only [show ((list.length : Int) != 0) = false by first | assumption | exact (show (0 ≤ n ∧ n ≤ 1) ∧ ((list.length : Int) != 0) = false by assumption).2]
    try simp only [show (names.length : Int) = (list.length : Int) by assumption]
    try simp only [Bool.or_false]
    clear J0 d0 d1 d2 d3 d4 df hz
    go_loopg [5] list.length (fun z u5 wr => ∃ q : Nat, q ≤ list.length ∧ z = list.length - q ∧ u5 = .int .i64 q ∧ Hid (finePs (list.take q) = true) ∧ w.grownBy wr none ∧ JB wr w.heap.size (.int .i64 6) (.int .i64 0) (.string t) (.slice A names.length c) (.slice A' list.length c'))
    case atStart => exact ⟨0, Nat.zero_le _, rfl, rfl, rfl, hg1 _ _ _ _ _, J0'⟩
    case round =>
      obtain ⟨q, hq, rfl, rfl, hno, hg, JW⟩ := hrel
      obtain ⟨k0, k1, k2, k3, k4, kf⟩ := JW.all
      by_cases hlt : q < list.length
      · obtain ⟨rfl, hSb⟩ := hA' (by omega)
        have hqi : (q : Int) < (list.length : Int) := by omega
        obtain ⟨a0, a1, a2, a3, a4, hV, c0, c1, c2, c3, c4⟩ := hcl' q hlt
        have g0 := cell_grown c0 hg (by simp)
        have g1 := cell_grown c1 hg (by simp)
        have g2 := cell_grown c2 hg (by simp)
        have g3 := cell_grown c3 hg (by simp)
        have g4 := cell_grown c4 hg (by simp)
        have hq1 := Lib.hid (show wrap64 ((q : Int) + 1) = ((q + 1 : Nat) : Int) from (wrap64_id (by omega) (by have := hll'.out; omega)).trans (by omega))
        have hrq := hrc' q hlt
        rw [hV] at hrq
        have HX := Lib.hid (ih list[q] (List.getElem_mem hlt) S _ wr (fun b hb => Nat.lt_of_lt_of_le (hS b hb) hg.size) (hrq.keep (fun b hb => hg.block b (hS b hb) (by simp)) (fun _ => id)))
        have hst := Lib.hid (finePs_take list q hlt)
        have hmem := Lib.hid (finePs_no (l := list) hlt)
        clear ih hcl' hrc' c0 c1 c2 c3 c4 hA'
        generalize fineP list[q] = y at *
        cases y with
        | false =>
          go_wp2_with (first
            | (go_at_call 57; refine (HX.out).mono ?_; rintro e w4 ⟨rfl, hg4⟩))
          go_ret
          exact ⟨by rw [hF.out, hmem.out (by first | rfl | trivial)]; rfl, gb_trans hg hg4⟩
        | true =>
          go_wp2_with (first
            | (go_at_call 57; refine (HX.out).mono ?_; rintro e w4 ⟨rfl, hg4⟩; have JW4 := JW.kept hg4 (by simp)))
          go_roundg (list.length - (q + 1))
          case measure => omega
          case rel => exact ⟨q + 1, hlt, rfl, by first | rw [hq1.out] | go_num, by unfold Hid; rw [hst.out, hno.out]; rfl, gb_trans hg hg4, JW4⟩
      · obtain rfl : q = list.length := by omega
        have hfin := hno.out
        rw [List.take_of_length_le (Nat.le_refl _)] at hfin
        have hfin' := Lib.hid hfin
        clear hfin hno ih hcl' hrc' hA'
        go_wp2_with fail
        go_ret
        exact ⟨by rw [hF.out, hfin'.out]; rfl, hg⟩

set_option maxRecDepth 100000 in
set_option maxHeartbeats 1600000 in
theorem may_0 (k n : Int) (t : ByteArray) (names : List ByteArray) (list : List J) (hk : k < 1 ∨ 6 < k) : MayC (.mk k n t names list) := by
  intro S v w _ hv
  obtain ⟨nv, lv, rfl, hN, hL⟩ := hv.parts
  clear hv hN hL
  have hF : Hid (fineP (.mk k n t names list) = false) := by
    unfold Hid
    rw [fineP, if_neg (by omega), if_neg (by omega), if_neg (by omega), if_neg (by omega), if_neg (by omega), if_neg (by omega)]
  have hg1 : w.grownBy (w.alloc (.cells #[.int .i64 k, .int .i64 n, .string t, nv, lv] 26)) none := gb_alloc (gb_refl w none) _
  have J0 := JB.new w (.int .i64 k) (.int .i64 n) (.string t) nv lv
  obtain ⟨d0, d1, d2, d3, d4, df⟩ := J0.all
  rcases hk with hk | hk
  · have h2 : (k == 2) = false := by simp; omega
    have h3 : (k == 3) = false := by simp; omega
    have h5 : (k == 5) = false := by simp; omega
    have h6 : (k == 6) = false := by simp; omega
    go_enter Tryd.func57, Tryd.ntmps57
    go_wp2_with fail
    go_ret
    exact ⟨by rw [hF.out]; rfl, hg1⟩
  · have h2 : (k == 2) = false := by simp; omega
    have h3 : (k == 3) = false := by simp; omega
    have h5 : (k == 5) = false := by simp; omega
    have h6 : (k == 6) = false := by simp; omega
    have h1 : ¬ k < 1 := by omega
    go_enter Tryd.func57, Tryd.ntmps57
    go_wp2_with fail
    go_ret
    exact ⟨by rw [hF.out]; rfl, hg1⟩
theorem may_any {j : J} (hj : JBd j) : MayC j := by
  induction hj with
  | @mk k n t names list h0 h1 ht hnl hll hs hr ih =>
    by_cases k1 : k = 1
    · subst k1; exact may_1 n t names list hll ih
    by_cases k2 : k = 2
    · subst k2; exact may_2 n t names list hll ih
    by_cases k3 : k = 3
    · subst k3; exact may_3 n t names list hll ih
    by_cases k4 : k = 4
    · subst k4; exact may_4 n t names list hll ih
    by_cases k5 : k = 5
    · subst k5; exact may_5 n t names list hll ih
    by_cases k6 : k = 6
    · subst k6; exact may_6 n t names list hll ih
    exact may_0 k n t names list (by omega)
set_option maxRecDepth 100000 in
set_option maxHeartbeats 800000 in
theorem rcheck_any {j : J} (hj : JBd j) (S : Nat → Prop) (v : Value) (w : World) (hS : ∀ b, S b → b < w.heap.size) (hv : JAt w S j v) :
    Calls Tryd.prog 26 #[v] w fun e w' => e = .returned (.int .i64 (checkP j)) ∧ w.grownBy w' none := by
  have HD := fun (W : World) (hgW : w.grownBy W none) => Lib.hid (rdeep_any hj 64 S v W (by omega) (fun b hb => Nat.lt_of_lt_of_le (hS b hb) hgW.size) (hv.keep (fun b hb => hgW.block b (hS b hb) (by simp)) (fun _ => id)))
  have HF := fun (W : World) (hgW : w.grownBy W none) => Lib.hid (may_any hj S v W (fun b hb => Nat.lt_of_lt_of_le (hS b hb) hgW.size) (hv.keep (fun b hb => hgW.block b (hS b hb) (by simp)) (fun _ => id)))
  have hC : Hid (checkP j = if deepP j 64 then 3 else if fineP j then 0 else 2) := rfl
  generalize deepP j 64 = x at *
  generalize fineP j = y at *
  generalize checkP j = z at *
  obtain ⟨k, n, t, names, list⟩ := j
  obtain ⟨nv, lv, rfl, hN, hL⟩ := hv.parts
  clear hv hN hL hj
  have hg1 : w.grownBy (w.alloc (.cells #[.int .i64 k, .int .i64 n, .string t, nv, lv] 26)) none := gb_alloc (gb_refl w none) _
  have J0 := JB.new w (.int .i64 k) (.int .i64 n) (.string t) nv lv
  obtain ⟨d0, d1, d2, d3, d4, df⟩ := J0.all
  go_enter Tryd.func26, Tryd.ntmps26
  cases x with
  | true =>
    go_wp2_with (first
      | (go_at_call 56; refine ((HD _ (by exact hg1)).out).mono ?_; rintro e w4 ⟨rfl, hg4⟩))
    go_ret
    exact ⟨by rw [hC.out]; rfl, gb_trans hg1 hg4⟩
  | false =>
    cases y with
    | true =>
      go_wp2_with (first
        | (go_at_call 56; refine ((HD _ (by exact hg1)).out).mono ?_; rintro e w4 ⟨rfl, hg4⟩; have K4 := J0.kept hg4 (by simp); obtain ⟨p0, p1, p2, p3, p4, pf⟩ := K4.all)
        | (go_at_call 57; refine ((HF _ (gb_trans hg1 hg4)).out).mono ?_; rintro e w5 ⟨rfl, hg5⟩))
      go_ret
      exact ⟨by rw [hC.out]; rfl, gb_trans (gb_trans hg1 hg4) hg5⟩
    | false =>
      go_wp2_with (first
        | (go_at_call 56; refine ((HD _ (by exact hg1)).out).mono ?_; rintro e w4 ⟨rfl, hg4⟩; have K4 := J0.kept hg4 (by simp); obtain ⟨p0, p1, p2, p3, p4, pf⟩ := K4.all)
        | (go_at_call 57; refine ((HF _ (gb_trans hg1 hg4)).out).mono ?_; rintro e w5 ⟨rfl, hg5⟩))
      go_ret
      exact ⟨by rw [hC.out]; rfl, gb_trans (gb_trans hg1 hg4) hg5⟩
end Go.Proofs.YtnnhkajjifmlfaaDoor
