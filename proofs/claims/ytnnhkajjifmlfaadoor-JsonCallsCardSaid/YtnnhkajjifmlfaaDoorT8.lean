/- Values, counted: bootprintkit's jsons and SmallJson. -/
import Derived.Test.YtnnhkajjifmlfaaDoorTde
namespace Go.Proofs.YtnnhkajjifmlfaaDoor
open Go.RowKit Go.Maps

theorem szN_take : ∀ (l : List ByteArray) (k : Nat) (h : k < l.length), szN (l.take (k + 1)) = szN (l.take k) + 1 + l[k].size
  | a :: r, 0, _ => by simp [szN]
  | a :: r, k + 1, h => by
    have := szN_take r k (by simpa using h)
    simp only [List.take_succ_cons, szN, List.getElem_cons_succ] at this ⊢
    omega
theorem szJs_take : ∀ (l : List J) (k : Nat) (h : k < l.length), szJs (l.take (k + 1)) = szJs (l.take k) + szJ l[k]
  | a :: r, 0, _ => by simp [szJs]
  | a :: r, k + 1, h => by
    have := szJs_take r k (by simpa using h)
    simp only [List.take_succ_cons, szJs, List.getElem_cons_succ] at this ⊢
    omega
theorem szN_take_le : ∀ (l : List ByteArray) (k : Nat), szN (l.take k) ≤ szN l
  | [], k => by simp
  | a :: r, 0 => by simp [szN]
  | a :: r, k + 1 => by have := szN_take_le r k; simp only [List.take_succ_cons, szN]; omega
theorem szJs_take_le : ∀ (l : List J) (k : Nat), szJs (l.take k) ≤ szJs l
  | [], k => by simp
  | a :: r, 0 => by simp [szJs]
  | a :: r, k + 1 => by have := szJs_take_le r k; simp only [List.take_succ_cons, szJs]; omega
/-- what jsons counts -/
def JsonsC (j : J) : Prop := ∀ (S : Nat → Prop) (v : Value) (n : Nat) (w : World), n ≤ 5000 → (∀ b, S b → b < w.heap.size) → JAt w S j v →
    Calls Tryd.prog 47 #[v, .int .i64 n, .int .i64 5000] w fun e w' => (∃ r : Nat, e = .returned (.int .i64 r) ∧ Hid (r ≤ 140737488370000) ∧ n ≤ r ∧ Hid (r ≤ n + szJ j ∧ (r ≤ 5000 → r = n + szJ j))) ∧ w.grownBy w' none
set_option maxRecDepth 100000 in
set_option maxHeartbeats 3200000 in
theorem jsons_any {j : J} (hj : JBd j) : JsonsC j := by
  induction hj with
  | @mk k m t names list h0 h1 ht hnl hll hs hr ih =>
    intro S v n w hn hS hv
    obtain ⟨nv, lv, rfl, hN, hL⟩ := hv.parts
    obtain ⟨A, c, rfl, hc, hA⟩ := hN
    obtain ⟨A', c', b', o', V', rfl, hc', hA', hcl', hrc'⟩ := hL
    have J0 := JB.new w (.int .i64 k) (.int .i64 m) (.string t) (.slice A names.length c) (.slice A' list.length c')
    obtain ⟨d0, d1, d2, d3, d4, df⟩ := J0.all
    have hg1 : w.grownBy (w.alloc (.cells #[.int .i64 k, .int .i64 m, .string t, .slice A names.length c, .slice A' list.length c'] 26)) none := gb_alloc (gb_refl w none) _
    have ht' := Lib.hid ht
    have hs' := Lib.hid hs
    have hnl' := Lib.hid hnl
    have hll' := Lib.hid hll
    have hnI : (n : Int) ≤ 5000 := by omega
    have e2 := Lib.hid (show wrap64 ((n : Int) + 1 + (t.size : Int)) = (n : Int) + 1 + (t.size : Int) from wrap64_id (by omega) (by omega))
    have hn1 : Hid (((n + 1 + t.size : Nat) : Int) = (n : Int) + 1 + (t.size : Int)) := by show _ = _; omega
    clear ht hs hnl hll h0 h1
    go_enter Tryd.func47, Tryd.ntmps47
    go_wp2_with fail
    go_loopg [1, 7] names.length (fun z u1 u7 wr => ∃ (q r : Nat), q ≤ names.length ∧ z = names.length - q ∧ u7 = .int .i64 q ∧ u1 = .int .i64 r ∧ Hid (r ≤ 140737488360500) ∧ n ≤ r ∧ Hid (r ≤ n + 1 + t.size + szN (names.take q) ∧ (r ≤ 5000 → r = n + 1 + t.size + szN (names.take q))) ∧ w.grownBy wr none ∧ JB wr w.heap.size (.int .i64 k) (.int .i64 m) (.string t) (.slice A names.length c) (.slice A' list.length c'))
    case atStart => exact ⟨0, n + 1 + t.size, Nat.zero_le _, rfl, rfl, by rw [e2.out, hn1.out], Lib.hid (by have := ht'.out; omega), by omega, ⟨by simp [szN], fun _ => by simp [szN]⟩, hg1, J0⟩
    case round =>
      obtain ⟨q, r, hq, rfl, rfl, rfl, hr1, hr2, hr3, hg, JW⟩ := hrel
      obtain ⟨k0, k1, k2, k3, k4, kf⟩ := JW.all
      by_cases hlt : q < names.length ∧ r ≤ 5000
      · obtain ⟨hlt, hr5⟩ := hlt
        obtain ⟨b, o, rfl, hSb, hcell⟩ := hA (by omega)
        have hqi : (q : Int) < (names.length : Int) := by omega
        have hri : (r : Int) ≤ 5000 := by omega
        have c1 := cell_grown (hcell q hlt) hg (by simp)
        have hsz := Lib.hid (hs'.out names[q] (List.getElem_mem hlt))
        have hst := Lib.hid (szN_take names q hlt)
        have hr4 := Lib.hid (hr3.out.2 hr5)
        have hq1 := Lib.hid (show wrap64 ((q : Int) + 1) = ((q + 1 : Nat) : Int) from (wrap64_id (by omega) (by have := hnl'.out; omega)).trans (by omega))
        generalize hX : names[q] = X at *
        have f2 := Lib.hid (show wrap64 ((r : Int) + 1 + (X.size : Int)) = (r : Int) + 1 + (X.size : Int) from wrap64_id (by omega) (by have := hsz.out; omega))
        have hn2 : Hid (((r + 1 + X.size : Nat) : Int) = (r : Int) + 1 + (X.size : Int)) := by show _ = _; omega
        go_wp2_with fail
        go_roundg (names.length - (q + 1))
        case measure => omega
        case rel => exact ⟨q + 1, r + 1 + X.size, hlt, rfl, by rw [hq1.out], by rw [f2.out, hn2.out], Lib.hid (by have := hsz.out; omega), by omega, ⟨by rw [hst.out]; have := hr4.out; omega, fun _ => by rw [hst.out]; have := hr4.out; omega⟩, by exact hg, JW⟩
      · have hr5 : Hid (r ≤ n + 1 + t.size + szN names ∧ (r ≤ 5000 → r = n + 1 + t.size + szN names)) := by
          refine ⟨by have := hr3.out.1; have := szN_take_le names q; omega, ?_⟩
          intro h5
          have hqe : q = names.length := by omega
          have := hr3.out.2 h5
          rw [hqe, List.take_of_length_le (Nat.le_refl _)] at this
          exact this
        have hex : ¬ (q : Int) < (names.length : Int) ∨ ((q : Int) < (names.length : Int) ∧ ¬ (r : Int) ≤ 5000) := by omega
        clear hlt hr3
        clear hA
        generalize A = A0 at *
        rcases hex with hex | ⟨hex1, hex2⟩
        · skip
          go_wp2_with fail
          go_loopg [1, 8] list.length (fun z u1 u8 wr => ∃ (q r : Nat), q ≤ list.length ∧ z = list.length - q ∧ u8 = .int .i64 q ∧ u1 = .int .i64 r ∧ Hid (r ≤ 140737488370000) ∧ n ≤ r ∧ Hid (r ≤ n + 1 + t.size + szN names + szJs (list.take q) ∧ (r ≤ 5000 → r = n + 1 + t.size + szN names + szJs (list.take q))) ∧ w.grownBy wr none ∧ JB wr w.heap.size (.int .i64 k) (.int .i64 m) (.string t) (.slice A0 names.length c) (.slice A' list.length c'))
          case atStart => exact ⟨0, r, Nat.zero_le _, rfl, rfl, rfl, Lib.hid (by have := hr1.out; omega), hr2, ⟨by have := hr5.out.1; simp [szJs]; omega, fun h5 => by have := hr5.out.2 h5; simp [szJs]; omega⟩, by exact hg, JW⟩
          case round =>
            clear hr1 hr2 hr5 hg JW k0 k1 k2 k3 k4 kf
            obtain ⟨q, r, hq, rfl, rfl, rfl, hr1, hr2, hr3, hg, JW⟩ := hrel
            obtain ⟨k0, k1, k2, k3, k4, kf⟩ := JW.all
            by_cases hlt : q < list.length ∧ r ≤ 5000
            · obtain ⟨hlt, hr5⟩ := hlt
              obtain ⟨rfl, hSb⟩ := hA' (by omega)
              have hqi : (q : Int) < (list.length : Int) := by omega
              have hri : (r : Int) ≤ 5000 := by omega
              obtain ⟨a0, a1, a2, a3, a4, hV, c0, c1, c2, c3, c4⟩ := hcl' q hlt
              have g0 := cell_grown c0 hg (by simp)
              have g1 := cell_grown c1 hg (by simp)
              have g2 := cell_grown c2 hg (by simp)
              have g3 := cell_grown c3 hg (by simp)
              have g4 := cell_grown c4 hg (by simp)
              have hst := Lib.hid (szJs_take list q hlt)
              have hr4 := Lib.hid (hr3.out.2 hr5)
              have hq1 := Lib.hid (show wrap64 ((q : Int) + 1) = ((q + 1 : Nat) : Int) from (wrap64_id (by omega) (by have := hll'.out; omega)).trans (by omega))
              have hrq := hrc' q hlt
              rw [hV] at hrq
              have HX := fun (W : World) (hgW : w.grownBy W none) => Lib.hid (ih list[q] (List.getElem_mem hlt) S _ r W hr5 (fun b hb => Nat.lt_of_lt_of_le (hS b hb) hgW.size) (hrq.keep (fun b hb => hgW.block b (hS b hb) (by simp)) (fun _ => id)))
              clear ih hcl' hrc' c0 c1 c2 c3 c4 hA'
              generalize list[q] = X at *
              go_wp2_with (first
                | (go_at_call 47; refine ((HX _ (by exact hg)).out).mono ?_; rintro e w4 ⟨⟨r', rfl, hr6, hr7, hr8⟩, hg4⟩; have JW4 := JW.kept hg4 (by simp)))
              go_roundg (list.length - (q + 1))
              case measure => omega
              case rel => exact ⟨q + 1, r', hlt, rfl, by rw [hq1.out], rfl, hr6, by omega, ⟨by rw [hst.out]; have := hr4.out; have := hr8.out.1; omega, fun h5 => by rw [hst.out]; have := hr4.out; have := hr8.out.2 h5; omega⟩, gb_trans hg hg4, JW4⟩
            · have hex : ¬ (q : Int) < (list.length : Int) ∨ ((q : Int) < (list.length : Int) ∧ ¬ (r : Int) ≤ 5000) := by omega
              have hr9 : Hid (r ≤ n + szJ (.mk k m t names list) ∧ (r ≤ 5000 → r = n + szJ (.mk k m t names list))) := by
                refine ⟨by have := hr3.out.1; have := szJs_take_le list q; rw [szJ]; omega, ?_⟩
                intro h5
                have hqe : q = list.length := by omega
                have := hr3.out.2 h5
                rw [hqe, List.take_of_length_le (Nat.le_refl _)] at this
                rw [szJ]; omega
              clear hlt hr3 ih
              rcases hex with hex | ⟨hex1, hex2⟩
              · go_wp2_with fail
                go_ret
                exact ⟨⟨r, rfl, hr1, hr2, hr9⟩, hg⟩
              · go_wp2_with fail
                go_ret
                exact ⟨⟨r, rfl, hr1, hr2, hr9⟩, hg⟩
        · skip
          go_wp2_with fail
          go_loopg [1, 8] list.length (fun z u1 u8 wr => ∃ (q r : Nat), q ≤ list.length ∧ z = list.length - q ∧ u8 = .int .i64 q ∧ u1 = .int .i64 r ∧ Hid (r ≤ 140737488370000) ∧ n ≤ r ∧ Hid (r ≤ n + 1 + t.size + szN names + szJs (list.take q) ∧ (r ≤ 5000 → r = n + 1 + t.size + szN names + szJs (list.take q))) ∧ w.grownBy wr none ∧ JB wr w.heap.size (.int .i64 k) (.int .i64 m) (.string t) (.slice A0 names.length c) (.slice A' list.length c'))
          case atStart => exact ⟨0, r, Nat.zero_le _, rfl, rfl, rfl, Lib.hid (by have := hr1.out; omega), hr2, ⟨by have := hr5.out.1; simp [szJs]; omega, fun h5 => by have := hr5.out.2 h5; simp [szJs]; omega⟩, by exact hg, JW⟩
          case round =>
            clear hr1 hr2 hr5 hg JW k0 k1 k2 k3 k4 kf
            obtain ⟨q, r, hq, rfl, rfl, rfl, hr1, hr2, hr3, hg, JW⟩ := hrel
            obtain ⟨k0, k1, k2, k3, k4, kf⟩ := JW.all
            by_cases hlt : q < list.length ∧ r ≤ 5000
            · obtain ⟨hlt, hr5⟩ := hlt
              obtain ⟨rfl, hSb⟩ := hA' (by omega)
              have hqi : (q : Int) < (list.length : Int) := by omega
              have hri : (r : Int) ≤ 5000 := by omega
              obtain ⟨a0, a1, a2, a3, a4, hV, c0, c1, c2, c3, c4⟩ := hcl' q hlt
              have g0 := cell_grown c0 hg (by simp)
              have g1 := cell_grown c1 hg (by simp)
              have g2 := cell_grown c2 hg (by simp)
              have g3 := cell_grown c3 hg (by simp)
              have g4 := cell_grown c4 hg (by simp)
              have hst := Lib.hid (szJs_take list q hlt)
              have hr4 := Lib.hid (hr3.out.2 hr5)
              have hq1 := Lib.hid (show wrap64 ((q : Int) + 1) = ((q + 1 : Nat) : Int) from (wrap64_id (by omega) (by have := hll'.out; omega)).trans (by omega))
              have hrq := hrc' q hlt
              rw [hV] at hrq
              have HX := fun (W : World) (hgW : w.grownBy W none) => Lib.hid (ih list[q] (List.getElem_mem hlt) S _ r W hr5 (fun b hb => Nat.lt_of_lt_of_le (hS b hb) hgW.size) (hrq.keep (fun b hb => hgW.block b (hS b hb) (by simp)) (fun _ => id)))
              clear ih hcl' hrc' c0 c1 c2 c3 c4 hA'
              generalize list[q] = X at *
              go_wp2_with (first
                | (go_at_call 47; refine ((HX _ (by exact hg)).out).mono ?_; rintro e w4 ⟨⟨r', rfl, hr6, hr7, hr8⟩, hg4⟩; have JW4 := JW.kept hg4 (by simp)))
              go_roundg (list.length - (q + 1))
              case measure => omega
              case rel => exact ⟨q + 1, r', hlt, rfl, by rw [hq1.out], rfl, hr6, by omega, ⟨by rw [hst.out]; have := hr4.out; have := hr8.out.1; omega, fun h5 => by rw [hst.out]; have := hr4.out; have := hr8.out.2 h5; omega⟩, gb_trans hg hg4, JW4⟩
            · have hex : ¬ (q : Int) < (list.length : Int) ∨ ((q : Int) < (list.length : Int) ∧ ¬ (r : Int) ≤ 5000) := by omega
              have hr9 : Hid (r ≤ n + szJ (.mk k m t names list) ∧ (r ≤ 5000 → r = n + szJ (.mk k m t names list))) := by
                refine ⟨by have := hr3.out.1; have := szJs_take_le list q; rw [szJ]; omega, ?_⟩
                intro h5
                have hqe : q = list.length := by omega
                have := hr3.out.2 h5
                rw [hqe, List.take_of_length_le (Nat.le_refl _)] at this
                rw [szJ]; omega
              clear hlt hr3 ih
              rcases hex with hex | ⟨hex1, hex2⟩
              · go_wp2_with fail
                go_ret
                exact ⟨⟨r, rfl, hr1, hr2, hr9⟩, hg⟩
              · go_wp2_with fail
                go_ret
                exact ⟨⟨r, rfl, hr1, hr2, hr9⟩, hg⟩
set_option maxRecDepth 100000 in
set_option maxHeartbeats 800000 in
/-- SmallJson tells whether the value is small -/
theorem small_any {j : J} (hj : JBd j) (S : Nat → Prop) (v : Value) (w : World) (hS : ∀ b, S b → b < w.heap.size) (hv : JAt w S j v) :
    Calls Tryd.prog 16 #[v, .int .i64 5000] w fun e w' => e = .returned (.bool (decide (szJ j ≤ 5000))) ∧ w.grownBy w' none := by
  have HX := fun (W : World) (hgW : w.grownBy W none) => Lib.hid (jsons_any hj S v 0 W (by omega) (fun b hb => Nat.lt_of_lt_of_le (hS b hb) hgW.size) (hv.keep (fun b hb => hgW.block b (hS b hb) (by simp)) (fun _ => id)))
  generalize szJ j = z at *
  obtain ⟨k, n, t, names, list⟩ := j
  obtain ⟨nv, lv, rfl, hN, hL⟩ := hv.parts
  clear hv hN hL hj
  have hg1 : w.grownBy (w.alloc (.cells #[.int .i64 k, .int .i64 n, .string t, nv, lv] 26)) none := gb_alloc (gb_refl w none) _
  have J0 := JB.new w (.int .i64 k) (.int .i64 n) (.string t) nv lv
  obtain ⟨d0, d1, d2, d3, d4, df⟩ := J0.all
  go_enter Tryd.func16, Tryd.ntmps16
  go_wp2_with (first
    | (go_at_call 47; refine ((HX _ (by exact hg1)).out).mono ?_; rintro e w4 ⟨⟨r', rfl, hr6, hr7, hr8⟩, hg4⟩))
  go_ret
  refine ⟨?_, gb_trans hg1 hg4⟩
  show Ending.returned (.bool (decide ((r' : Int) ≤ 5000))) = _
  congr 2
  have h1 := hr8.out
  by_cases h : r' ≤ 5000
  · have := h1.2 h
    exact decide_eq_decide.2 (by omega)
  · have := h1.1
    exact decide_eq_decide.2 (by omega)
end Go.Proofs.YtnnhkajjifmlfaaDoor
