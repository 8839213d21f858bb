/- Values, told: lists and maps. -/
import Derived.Test.YtnnhkajjifmlfaaDoorT9
namespace Go.Proofs.YtnnhkajjifmlfaaDoor
open Go.RowKit Go.Maps

theorem cell_below {B : Nat} {w w' : World} {b o : Nat} {v : Value} (h : w.cell? ⟨b, o, none⟩ = some v) (hl : Below B w w') (hb : b < B) : w'.cell? ⟨b, o, none⟩ = some v :=
  (World.cell?_of_block (w := w) (a := ⟨b, o, none⟩) (hl.block b hb)).trans h
theorem quote_L (B b : Nat) (acc : List UInt8) (s : ByteArray) (w : World) (h : BT B b acc w) (hl : acc.length + 6 * s.size + 2 ≤ 1000000000) (hB : B ≤ w.heap.size) (hb : b < w.heap.size) :
    Calls Tryd.prog 51 #[.pointer (some ⟨b, 0, none⟩), .string s] w fun e w' => e = .returned (.tuple #[]) ∧ BT B b (acc ++ quoteL s) w' ∧ Below B w w' ∧ Lib.OthersKept 5 (some b) w w' := quote_any B b acc s w h hl hB hb
theorem JAt.shape {w : World} {S : Nat → Prop} {j : J} {a0 a1 a2 a3 a4 : Value} (h : JAt w S j (.agg #[a0, a1, a2, a3, a4])) :
    ∃ (k n : Int) (t : ByteArray) (A1 : Option Addr) (n1 c1 : Nat) (A2 : Option Addr) (n2 c2 : Nat), a0 = .int .i64 k ∧ a1 = .int .i64 n ∧ a2 = .string t ∧ a3 = .slice A1 n1 c1 ∧ a4 = .slice A2 n2 c2 := by
  obtain ⟨k, n, t, names, list⟩ := j
  obtain ⟨nv, lv, e, hN, hL⟩ := h.parts
  obtain ⟨A, c, rfl, _⟩ := hN
  obtain ⟨A', c', b', o', V', rfl, _⟩ := hL
  simp only [Value.agg.injEq, Array.mk.injEq, List.cons.injEq, and_true] at e
  obtain ⟨rfl, rfl, rfl, rfl, rfl⟩ := e
  exact ⟨k, n, t, A, _, c, A', _, c', rfl, rfl, rfl, rfl, rfl⟩
set_option maxRecDepth 100000 in
set_option maxHeartbeats 6400000 in
theorem tell_5 (n : Int) (t : ByteArray) (names : List ByteArray) (list : List J) (hr : ∀ j ∈ list, JBd j) (hll : list.length ≤ 140737488355328) (ih : ∀ j ∈ list, TellC j) : TellC (.mk 5 n t names list) := by
  intro B b acc S v w hb hl hB hbl hS hP hv hf
  have hnm : names = [] := by
    rw [fineP] at hf
    simp at hf
    exact hf.1.2
  have hnm' := Lib.hid hnm
  clear hnm
  have hfin : ∀ j ∈ list, fineP j = true := by
    refine finePs_mem ?_
    rw [fineP] at hf
    simp at hf
    exact hf.2
  obtain ⟨nv, lv, rfl, hN, hL⟩ := hv.parts
  obtain ⟨A', c', b', o', V', rfl, hc', hA', hcl', hrc'⟩ := hL
  have hg1 : w.grownBy (w.alloc (.cells #[.int .i64 5, .int .i64 n, .string t, nv, .slice A' list.length c'] 26)) none := gb_alloc (gb_refl w none) _
  have J0 := JB.new w (.int .i64 5) (.int .i64 n) (.string t) (nv) (.slice A' list.length c')
  obtain ⟨d0, d1, d2, d3, d4, df⟩ := J0.all
  have hT : Hid (textJ (.mk 5 n t names list) = 91 :: (itemsJ 5 true names list ++ [93])) := by unfold Hid; rw [textJ]; rfl
  rw [szJ] at hl
  have hl' := Lib.hid hl
  have hll' := Lib.hid hll
  have H0 := fun (W : World) (h : BT B b acc W) (hB : B ≤ W.heap.size) => Lib.hid (bt_byte B b acc 91 W h (by omega) hB)
  have hfull : Hid ((itemsJ 5 true names list).length ≤ 30 * (szN names + szJs list)) := by
    unfold Hid
    have key : ∀ (l : List J) (nm : List ByteArray) (f : Bool), (∀ j ∈ l, JBd j) → (itemsJ 5 f nm l).length ≤ 30 * (szN nm + szJs l) := by
      intro l
      induction l with
      | nil => intro nm f _; rw [items_nil]; simp
      | cons j r ih =>
        intro nm f hj
        have a1 := textJ_len (hj j (by simp))
        have a2 := ih nm.tail false (fun x hx => hj x (by simp [hx]))
        have a3 := nameL_len 5 nm
        have a4 := szN_head nm
        have a5 : (if f = true then ([] : List UInt8) else [44]).length ≤ 1 := by split <;> simp
        rw [itemsJ, szJs]
        simp only [List.length_append]
        omega
    exact key list names true hr
  clear hv hl hll hf hN hc'
  go_enter Tryd.func48, Tryd.ntmps48
  go_wp2_with (first
    | (go_at_call 96; refine ((H0 _ (isb_kept hb hg1) (Nat.le_trans hB hg1.size)).out).mono ?_; rintro e w2 ⟨rfl, hb2, hl2, ho2⟩; have J2 := J0.others ho2 (by omega); obtain ⟨k0, k1, k2, k3, k4, kf⟩ := J2.all))
  have hl3 := (below_gb' hg1 hB).trans hl2
  have ho3 := (kept_gb (b := some b) hg1).trans ho2
  clear k0 k1 k2 k3 k4 kf d0 d1 d2 d3 d4 df H0 hb
  go_loopg [19] list.length (fun z u19 wr => ∃ (q : Nat) (pre : List UInt8), q ≤ list.length ∧ z = list.length - q ∧ u19 = .int .i64 q ∧ BT B b (acc ++ 91 :: pre) wr ∧ Hid (pre ++ itemsJ 5 (decide (q = 0)) (names.drop q) (list.drop q) = itemsJ 5 true names list) ∧
    Hid (pre.length ≤ 30 * (szN (names.take q) + szJs (list.take q))) ∧ Below B w wr ∧ Lib.OthersKept 5 (some b) w wr ∧ JB wr w.heap.size (.int .i64 5) (.int .i64 n) (.string t) (nv) (.slice A' list.length c'))
  case atStart => exact ⟨0, [], Nat.zero_le _, rfl, rfl, hb2, rfl, Nat.zero_le _, hl3, ho3, J2⟩
  case round =>
    clear hb2 hl2 ho2 J2 hl3 ho3 J0 hg1
    obtain ⟨q, pre, hq, rfl, rfl, hbt, hpre, hpl, hbl2, hok, JW⟩ := hrel
    obtain ⟨k0, k1, k2, k3, k4, kf⟩ := JW.all
    have hBr : B ≤ wr.heap.size := Nat.le_trans hB hbl2.size
    have hwr : w.heap.size ≤ wr.heap.size := hbl2.size
    by_cases hlt : q < list.length
    · have hq1 := Lib.hid (show wrap64 ((q : Int) + 1) = ((q + 1 : Nat) : Int) from (wrap64_id (by omega) (by have := hll'.out; omega)).trans (by omega))
      obtain ⟨rfl, hSb⟩ := hA' (by omega)
      have hqi : (q : Int) < (list.length : Int) := by omega
      obtain ⟨a0, a1, a2, a3, a4, hV, c0, c1, c2, c3, c4⟩ := hcl' q hlt
      have hbB := hS _ hSb
      have g0 := cell_below c0 hbl2 hbB
      have g1 := cell_below c1 hbl2 hbB
      have g2 := cell_below c2 hbl2 hbB
      have g3 := cell_below c3 hbl2 hbB
      have g4 := cell_below c4 hbl2 hbB
      have hrq := hrc' q hlt
      rw [hV] at hrq
      obtain ⟨xk, xn, xt, X1, x1, y1, X2, x2, y2, rfl, rfl, rfl, rfl, rfl⟩ := hrq.shape
      have hfq := hfin list[q] (List.getElem_mem hlt)
      have hstJ := szJs_take list q hlt
      have hJle := szJs_take_le list (q + 1)
      have htxt := textJ_len (hr list[q] (List.getElem_mem hlt))
      have hdrop : list.drop q = list[q] :: list.drop (q + 1) := List.drop_eq_getElem_cons hlt
      have hNt : szN (names.take q) = 0 ∧ szN (names.take (q + 1)) = 0 := by rw [hnm'.out]; simp [szN]
      have hlen := hpl.out
      have hlo := hl'.out
      have K0 := JB.new wr (.int .i64 xk) (.int .i64 xn) (.string xt) (.slice X1 x1 y1) (.slice X2 x2 y2)
      have hgW : wr.grownBy (wr.alloc (.cells #[.int .i64 xk, .int .i64 xn, .string xt, .slice X1 x1 y1, .slice X2 x2 y2] 26)) none := gb_alloc (gb_refl wr none) _
      have JW1 := JW.kept hgW (by simp)
      have HX := fun (acc' : List UInt8) (W : World) (hb : BT B b acc' W) (hl : acc'.length + 30 * szJ list[q] ≤ 900000000) (hbW : Below B w W) => Lib.hid (ih list[q] (List.getElem_mem hlt) B b acc' S _ W hb hl (Nat.le_trans hB hbW.size) (Nat.lt_of_lt_of_le hbl hbW.size) hS (hP.to hbW)
        (hrq.keep (fun x hx => hbW.block x (hS x hx)) (fun _ => id)) hfq)
      have hbt1 := isb_kept hbt hgW
      have hblW := hbl2.trans (below_gb' hgW hBr)
      have hokW := hok.trans (kept_gb (b := some b) hgW)
      have hBW : B ≤ (wr.alloc (.cells #[.int .i64 xk, .int .i64 xn, .string xt, .slice X1 x1 y1, .slice X2 x2 y2] 26)).heap.size := Nat.le_trans hBr hgW.size
      have hbW : b < (wr.alloc (.cells #[.int .i64 xk, .int .i64 xn, .string xt, .slice X1 x1 y1, .slice X2 x2 y2] 26)).heap.size := Nat.lt_of_lt_of_le hbl hblW.size
      clear ih hcl' hrc' c0 c1 c2 c3 c4 hrq hbt hA'
      generalize hacc : acc ++ 91 :: pre = acc1 at *
      have hal : acc1.length = acc.length + 1 + pre.length := by rw [← hacc]; simp only [List.length_append, List.length_cons]; omega
      have hacc' := Lib.hid hacc
      clear hacc
      by_cases hq0 : q = 0
      · have hit : Hid (itemsJ 5 (decide (q = 0)) (names.drop q) (list.drop q) = (textJ list[q] ++ itemsJ 5 false (names.drop (q + 1)) (list.drop (q + 1)))) := by
          unfold Hid; rw [decide_eq_true hq0, hdrop, itemsJ]; rw [hnm'.out]; simp [nameL]
        have hpl1 : Hid ((pre ++ textJ list[q]).length ≤ 30 * (szN (names.take (q + 1)) + szJs (list.take (q + 1)))) := by
          unfold Hid; simp only [List.length_append]; omega
        have m1 : Hid (acc1.length + 1 ≤ 1000000000) := by unfold Hid; omega
        have m2 : Hid (acc1.length + 0 + 30 * szJ list[q] ≤ 900000000) := by unfold Hid; omega
        have hAll := hpre.out
        rw [hit.out] at hAll
        have hAll' := Lib.hid hAll
        clear hAll hpre hit hdrop hlo hlen hal hstJ hJle htxt hfq hNt
        generalize hX : list[q] = X at *
        clear hX
        have hqz : ¬ (0 : Int) < (q : Int) := by omega
        have hq0' := Lib.hid hq0
        clear hq0
        obtain ⟨w0, w1, w2, w3, w4, wf⟩ := K0.all
        obtain ⟨v0, v1, v2, v3, v4, vf⟩ := JW1.all
        go_wp2_with (first
          | (go_at_call 48; refine ((HX acc1 _ (by exact hbt1) (by exact m2.out) (by exact hblW)).out).mono ?_; rintro e w5 ⟨rfl, hb5, hl5, ho5⟩; have JL := JW1.others ho5 (by omega)))
        go_roundg (list.length - (q + 1))
        case measure => omega
        case rel => exact ⟨q + 1, pre ++ textJ X, hlt, rfl, by first | rw [hq1.out] | go_num, by rw [← hacc'.out] at hb5; simpa using hb5, by unfold Hid; rw [← hAll'.out]; simp, hpl1, (hblW).trans hl5, (hokW).trans ho5, JL⟩
      · have hqpos : (0 : Int) < (q : Int) := by omega
        have hit : Hid (itemsJ 5 (decide (q = 0)) (names.drop q) (list.drop q) = 44 :: (textJ list[q] ++ itemsJ 5 false (names.drop (q + 1)) (list.drop (q + 1)))) := by
          unfold Hid; rw [decide_eq_false hq0, hdrop, itemsJ]; rw [hnm'.out]; simp [nameL]
        have hpl1 : Hid ((pre ++ 44 :: textJ list[q]).length ≤ 30 * (szN (names.take (q + 1)) + szJs (list.take (q + 1)))) := by
          unfold Hid; simp only [List.length_append, List.length_cons]; omega
        have m1 : Hid (acc1.length + 1 ≤ 1000000000) := by unfold Hid; omega
        have m2 : Hid (acc1.length + 1 + 30 * szJ list[q] ≤ 900000000) := by unfold Hid; omega
        have hAll := hpre.out
        rw [hit.out] at hAll
        have hAll' := Lib.hid hAll
        clear hAll hpre hit hdrop hlo hlen hal hstJ hJle htxt hfq hNt
        generalize hX : list[q] = X at *
        clear hX
        clear hq0
        obtain ⟨v0, v1, v2, v3, v4, vf⟩ := JW1.all
        go_wp2_with (first
          | (go_at_call 96; refine (bt_byte B b acc1 44 _ (by exact hbt1) (by exact m1.out) (by exact hBW)).mono ?_; rintro e w2 ⟨rfl, hb2, hl2, ho2⟩; have JW2 := JW1.others ho2 (by omega); obtain ⟨s0, s1, s2, s3, s4, sf⟩ := JW2.all; have K4 := K0.others ho2 (by omega); obtain ⟨p0, p1, p2, p3, p4, pf⟩ := K4.all)
          | (go_at_call 48; refine ((HX (acc1 ++ [44]) _ (by exact hb2) (by have := m2.out; simp only [List.length_append, List.length_cons, List.length_nil]; omega) (hblW.trans hl2)).out).mono ?_; rintro e w5 ⟨rfl, hb5, hl5, ho5⟩; have JL := JW2.others ho5 (by omega)))
        go_roundg (list.length - (q + 1))
        case measure => omega
        case rel => exact ⟨q + 1, pre ++ 44 :: textJ X, hlt, rfl, by first | rw [hq1.out] | go_num, by rw [← hacc'.out] at hb5; simpa using hb5, by unfold Hid; rw [← hAll'.out]; simp, hpl1, (hblW.trans hl2).trans hl5, (hokW.trans ho2).trans ho5, JL⟩
    · obtain rfl : q = list.length := by omega
      have hAll := hpre.out
      rw [List.drop_of_length_le (Nat.le_refl _), items_nil, List.append_nil] at hAll
      subst hAll
      have hfl := hfull.out
      have hlo := hl'.out
      have H9 := Lib.hid (bt_byte B b (acc ++ 91 :: itemsJ 5 true names list) 93 wr hbt (by simp only [List.length_append, List.length_cons]; omega) hBr)
      clear hpre hpl hfl hlo
      go_wp2_with (first
        | (go_at_call 96; refine (H9.out).mono ?_; rintro e w3 ⟨rfl, hb3, hl3, ho3⟩))
      go_end0
      exact ⟨rfl, by rw [hT.out]; simpa using hb3, hbl2.trans hl3, hok.trans ho3⟩
set_option maxRecDepth 100000 in
set_option maxHeartbeats 6400000 in
theorem tell_6 (n : Int) (t : ByteArray) (names : List ByteArray) (list : List J) (hr : ∀ j ∈ list, JBd j) (hll : list.length ≤ 140737488355328) (ih : ∀ j ∈ list, TellC j) : TellC (.mk 6 n t names list) := by
  intro B b acc S v w hb hl hB hbl hS hP hv hf
  have hnm : names.length = list.length := by
    rw [fineP] at hf
    simp at hf
    exact hf.1.2
  have hnm' := Lib.hid hnm
  clear hnm
  have hfin : ∀ j ∈ list, fineP j = true := by
    refine finePs_mem ?_
    rw [fineP] at hf
    simp at hf
    exact hf.2
  obtain ⟨nv, lv, rfl, hN, hL⟩ := hv.parts
  obtain ⟨A, c, rfl, hc, hA⟩ := hN
  obtain ⟨A', c', b', o', V', rfl, hc', hA', hcl', hrc'⟩ := hL
  have hg1 : w.grownBy (w.alloc (.cells #[.int .i64 6, .int .i64 n, .string t, .slice A names.length c, .slice A' list.length c'] 26)) none := gb_alloc (gb_refl w none) _
  have J0 := JB.new w (.int .i64 6) (.int .i64 n) (.string t) (.slice A names.length c) (.slice A' list.length c')
  obtain ⟨d0, d1, d2, d3, d4, df⟩ := J0.all
  have hT : Hid (textJ (.mk 6 n t names list) = 123 :: (itemsJ 6 true names list ++ [125])) := by unfold Hid; rw [textJ]; rfl
  rw [szJ] at hl
  have hl' := Lib.hid hl
  have hll' := Lib.hid hll
  have H0 := fun (W : World) (h : BT B b acc W) (hB : B ≤ W.heap.size) => Lib.hid (bt_byte B b acc 123 W h (by omega) hB)
  have hfull : Hid ((itemsJ 6 true names list).length ≤ 30 * (szN names + szJs list)) := by
    unfold Hid
    have key : ∀ (l : List J) (nm : List ByteArray) (f : Bool), (∀ j ∈ l, JBd j) → (itemsJ 6 f nm l).length ≤ 30 * (szN nm + szJs l) := by
      intro l
      induction l with
      | nil => intro nm f _; rw [items_nil]; simp
      | cons j r ih =>
        intro nm f hj
        have a1 := textJ_len (hj j (by simp))
        have a2 := ih nm.tail false (fun x hx => hj x (by simp [hx]))
        have a3 := nameL_len 6 nm
        have a4 := szN_head nm
        have a5 : (if f = true then ([] : List UInt8) else [44]).length ≤ 1 := by split <;> simp
        rw [itemsJ, szJs]
        simp only [List.length_append]
        omega
    exact key list names true hr
  clear hv hl hll hf hc hc'
  go_enter Tryd.func48, Tryd.ntmps48
  go_wp2_with (first
    | (go_at_call 96; refine ((H0 _ (isb_kept hb hg1) (Nat.le_trans hB hg1.size)).out).mono ?_; rintro e w2 ⟨rfl, hb2, hl2, ho2⟩; have J2 := J0.others ho2 (by omega); obtain ⟨k0, k1, k2, k3, k4, kf⟩ := J2.all))
  have hl3 := (below_gb' hg1 hB).trans hl2
  have ho3 := (kept_gb (b := some b) hg1).trans ho2
  clear k0 k1 k2 k3 k4 kf d0 d1 d2 d3 d4 df H0 hb
  go_loopg [19] list.length (fun z u19 wr => ∃ (q : Nat) (pre : List UInt8), q ≤ list.length ∧ z = list.length - q ∧ u19 = .int .i64 q ∧ BT B b (acc ++ 123 :: pre) wr ∧ Hid (pre ++ itemsJ 6 (decide (q = 0)) (names.drop q) (list.drop q) = itemsJ 6 true names list) ∧
    Hid (pre.length ≤ 30 * (szN (names.take q) + szJs (list.take q))) ∧ Below B w wr ∧ Lib.OthersKept 5 (some b) w wr ∧ JB wr w.heap.size (.int .i64 6) (.int .i64 n) (.string t) (.slice A names.length c) (.slice A' list.length c'))
  case atStart => exact ⟨0, [], Nat.zero_le _, rfl, rfl, hb2, rfl, Nat.zero_le _, hl3, ho3, J2⟩
  case round =>
    clear hb2 hl2 ho2 J2 hl3 ho3 J0 hg1
    obtain ⟨q, pre, hq, rfl, rfl, hbt, hpre, hpl, hbl2, hok, JW⟩ := hrel
    obtain ⟨k0, k1, k2, k3, k4, kf⟩ := JW.all
    have hBr : B ≤ wr.heap.size := Nat.le_trans hB hbl2.size
    have hwr : w.heap.size ≤ wr.heap.size := hbl2.size
    by_cases hlt : q < list.length
    · have hq1 := Lib.hid (show wrap64 ((q : Int) + 1) = ((q + 1 : Nat) : Int) from (wrap64_id (by omega) (by have := hll'.out; omega)).trans (by omega))
      obtain ⟨rfl, hSb⟩ := hA' (by omega)
      have hqi : (q : Int) < (list.length : Int) := by omega
      obtain ⟨a0, a1, a2, a3, a4, hV, c0, c1, c2, c3, c4⟩ := hcl' q hlt
      have hbB := hS _ hSb
      have g0 := cell_below c0 hbl2 hbB
      have g1 := cell_below c1 hbl2 hbB
      have g2 := cell_below c2 hbl2 hbB
      have g3 := cell_below c3 hbl2 hbB
      have g4 := cell_below c4 hbl2 hbB
      have hrq := hrc' q hlt
      rw [hV] at hrq
      obtain ⟨xk, xn, xt, X1, x1, y1, X2, x2, y2, rfl, rfl, rfl, rfl, rfl⟩ := hrq.shape
      have hfq := hfin list[q] (List.getElem_mem hlt)
      have hstJ := szJs_take list q hlt
      have hJle := szJs_take_le list (q + 1)
      have htxt := textJ_len (hr list[q] (List.getElem_mem hlt))
      have hdrop : list.drop q = list[q] :: list.drop (q + 1) := List.drop_eq_getElem_cons hlt
      have hltn : q < names.length := by have := hnm'.out; omega
      have hstN := szN_take names q hltn
      have hNle := szN_take_le names (q + 1)
      have hndrop : names.drop q = names[q] :: names.drop (q + 1) := List.drop_eq_getElem_cons hltn
      obtain ⟨bn, on, rfl, hSn, hcn⟩ := hA (by omega)
      have hqn : (q : Int) < (names.length : Int) := by omega
      have n0 := cell_below (hcn q hltn) hbl2 (hS _ hSn)
      have hql := quoteL_len names[q]
      have hlen := hpl.out
      have hlo := hl'.out
      have K0 := JB.new wr (.int .i64 xk) (.int .i64 xn) (.string xt) (.slice X1 x1 y1) (.slice X2 x2 y2)
      have hgW : wr.grownBy (wr.alloc (.cells #[.int .i64 xk, .int .i64 xn, .string xt, .slice X1 x1 y1, .slice X2 x2 y2] 26)) none := gb_alloc (gb_refl wr none) _
      have JW1 := JW.kept hgW (by simp)
      have HX := fun (acc' : List UInt8) (W : World) (hb : BT B b acc' W) (hl : acc'.length + 30 * szJ list[q] ≤ 900000000) (hbW : Below B w W) => Lib.hid (ih list[q] (List.getElem_mem hlt) B b acc' S _ W hb hl (Nat.le_trans hB hbW.size) (Nat.lt_of_lt_of_le hbl hbW.size) hS (hP.to hbW)
        (hrq.keep (fun x hx => hbW.block x (hS x hx)) (fun _ => id)) hfq)
      have hbt1 := isb_kept hbt hgW
      have hblW := hbl2.trans (below_gb' hgW hBr)
      have hokW := hok.trans (kept_gb (b := some b) hgW)
      have hBW : B ≤ (wr.alloc (.cells #[.int .i64 xk, .int .i64 xn, .string xt, .slice X1 x1 y1, .slice X2 x2 y2] 26)).heap.size := Nat.le_trans hBr hgW.size
      have hbW : b < (wr.alloc (.cells #[.int .i64 xk, .int .i64 xn, .string xt, .slice X1 x1 y1, .slice X2 x2 y2] 26)).heap.size := Nat.lt_of_lt_of_le hbl hblW.size
      have n1 := cell_grown n0 hgW (by simp)
      clear hcn hA
      clear ih hcl' hrc' c0 c1 c2 c3 c4 hrq hbt hA'
      generalize hacc : acc ++ 123 :: pre = acc1 at *
      have hal : acc1.length = acc.length + 1 + pre.length := by rw [← hacc]; simp only [List.length_append, List.length_cons]; omega
      have hacc' := Lib.hid hacc
      clear hacc
      by_cases hq0 : q = 0
      · have hit : Hid (itemsJ 6 (decide (q = 0)) (names.drop q) (list.drop q) = (quoteL names[q] ++ [58]) ++ (textJ list[q] ++ itemsJ 6 false (names.drop (q + 1)) (list.drop (q + 1)))) := by
          unfold Hid; rw [decide_eq_true hq0, hdrop, itemsJ]; rw [hndrop]; generalize names[q] = Y; simp [nameL]
        have hpl1 : Hid ((pre ++ (quoteL names[q] ++ [58]) ++ textJ list[q]).length ≤ 30 * (szN (names.take (q + 1)) + szJs (list.take (q + 1)))) := by
          unfold Hid; simp only [List.length_append, List.length_cons, List.length_nil]; omega
        have m1 : Hid (acc1.length + 0 + 6 * names[q].size + 2 ≤ 1000000000) := by unfold Hid; omega
        have m2 : Hid (acc1.length + 0 + 6 * names[q].size + 3 + 30 * szJ list[q] ≤ 900000000) := by unfold Hid; omega
        have hqdef' := Lib.hid hql
        clear hql hstN hNle hndrop
        generalize hYn : names[q] = Y at *
        clear hYn hltn
        have hAll := hpre.out
        rw [hit.out] at hAll
        have hAll' := Lib.hid hAll
        clear hAll hpre hit hdrop hlo hlen hal hstJ hJle htxt hfq
        generalize hX : list[q] = X at *
        clear hX
        have hqz : ¬ (0 : Int) < (q : Int) := by omega
        have hq0' := Lib.hid hq0
        clear hq0
        obtain ⟨v0, v1, v2, v3, v4, vf⟩ := JW1.all
        go_wp2_with (first
          | (go_at_call 96; refine (bt_byte B b (acc1 ++ quoteL Y) 58 _ (by exact hb3) (by have := m2.out; have := hqdef'.out; simp only [List.length_append]; omega) (Nat.le_trans hBW hl3.size)).mono ?_; rintro e w4 ⟨rfl, hb4, hl4, ho4⟩; have K4 := (K0.others ho3 (by omega)).others ho4 (by omega); obtain ⟨p0, p1, p2, p3, p4, pf⟩ := K4.all)
          | (go_at_call 51; refine (quote_L B b acc1 Y _ (by exact hbt1) (by have := m1.out; omega) (by exact hBW) (by exact hbW)).mono ?_; rintro e w3 ⟨rfl, hb3, hl3, ho3⟩; have JW3 := JW1.others ho3 (by omega); obtain ⟨r0, r1, r2, r3, r4, rf⟩ := JW3.all)
          | (go_at_call 48; refine ((HX (acc1 ++ quoteL Y ++ [58]) _ (by exact hb4) (by have := m2.out; have := hqdef'.out; simp only [List.length_append, List.length_cons, List.length_nil]; omega) ((hblW.trans hl3).trans hl4)).out).mono ?_; rintro e w5 ⟨rfl, hb5, hl5, ho5⟩; have JL := (JW3.others ho4 (by omega)).others ho5 (by omega)))
        go_roundg (list.length - (q + 1))
        case measure => omega
        case rel => exact ⟨q + 1, pre ++ (quoteL Y ++ [58]) ++ textJ X, hlt, rfl, by first | rw [hq1.out] | go_num, by rw [← hacc'.out] at hb5; simpa using hb5, by unfold Hid; rw [← hAll'.out]; simp, hpl1, ((hblW.trans hl3).trans hl4).trans hl5, ((hokW.trans ho3).trans ho4).trans ho5, JL⟩
      · have hqpos : (0 : Int) < (q : Int) := by omega
        have hit : Hid (itemsJ 6 (decide (q = 0)) (names.drop q) (list.drop q) = 44 :: ((quoteL names[q] ++ [58]) ++ (textJ list[q] ++ itemsJ 6 false (names.drop (q + 1)) (list.drop (q + 1))))) := by
          unfold Hid; rw [decide_eq_false hq0, hdrop, itemsJ]; rw [hndrop]; generalize names[q] = Y; simp [nameL]
        have hpl1 : Hid ((pre ++ 44 :: ((quoteL names[q] ++ [58]) ++ textJ list[q])).length ≤ 30 * (szN (names.take (q + 1)) + szJs (list.take (q + 1)))) := by
          unfold Hid; simp only [List.length_append, List.length_cons, List.length_nil]; omega
        have m1 : Hid (acc1.length + 1 + 6 * names[q].size + 2 ≤ 1000000000) := by unfold Hid; omega
        have m2 : Hid (acc1.length + 1 + 6 * names[q].size + 3 + 30 * szJ list[q] ≤ 900000000) := by unfold Hid; omega
        have hqdef' := Lib.hid hql
        clear hql hstN hNle hndrop
        generalize hYn : names[q] = Y at *
        clear hYn hltn
        have hAll := hpre.out
        rw [hit.out] at hAll
        have hAll' := Lib.hid hAll
        clear hAll hpre hit hdrop hlo hlen hal hstJ hJle htxt hfq
        generalize hX : list[q] = X at *
        clear hX
        clear hq0
        obtain ⟨v0, v1, v2, v3, v4, vf⟩ := JW1.all
        go_wp2_with (first
          | (go_at_call 96; have := hb3; refine (bt_byte B b (acc1 ++ [44] ++ quoteL Y) 58 _ (by exact hb3) (by have := m2.out; have := hqdef'.out; simp only [List.length_append, List.length_cons, List.length_nil]; omega) (Nat.le_trans hBW (hl2.trans hl3).size)).mono ?_; rintro e w4 ⟨rfl, hb4, hl4, ho4⟩; have K4 := (((K0.others ho2 (by omega)).others ho3 (by omega))).others ho4 (by omega); obtain ⟨p0, p1, p2, p3, p4, pf⟩ := K4.all)
          | (go_at_call 96; refine (bt_byte B b acc1 44 _ (by exact hbt1) (by have := m1.out; omega) (by exact hBW)).mono ?_; rintro e w2 ⟨rfl, hb2, hl2, ho2⟩; have JW2 := JW1.others ho2 (by omega); obtain ⟨s0, s1, s2, s3, s4, sf⟩ := JW2.all; have n2 := cell_below n1 (by exact hl2) (hS _ hSn))
          | (go_at_call 51; refine (quote_L B b (acc1 ++ [44]) Y _ (by exact hb2) (by have := m1.out; simp only [List.length_append, List.length_cons, List.length_nil]; omega) (Nat.le_trans hBW hl2.size) (Nat.lt_of_lt_of_le hbW hl2.size)).mono ?_; rintro e w3 ⟨rfl, hb3, hl3, ho3⟩; have JW3 := JW2.others ho3 (by omega); obtain ⟨r0, r1, r2, r3, r4, rf⟩ := JW3.all)
          | (go_at_call 48; refine ((HX (acc1 ++ [44] ++ quoteL Y ++ [58]) _ (by exact hb4) (by have := m2.out; have := hqdef'.out; simp only [List.length_append, List.length_cons, List.length_nil]; omega) (((hblW.trans hl2).trans hl3).trans hl4)).out).mono ?_; rintro e w5 ⟨rfl, hb5, hl5, ho5⟩; have JL := (JW3.others ho4 (by omega)).others ho5 (by omega)))
        go_roundg (list.length - (q + 1))
        case measure => omega
        case rel => exact ⟨q + 1, pre ++ 44 :: ((quoteL Y ++ [58]) ++ textJ X), hlt, rfl, by first | rw [hq1.out] | go_num, by rw [← hacc'.out] at hb5; simpa using hb5, by unfold Hid; rw [← hAll'.out]; simp, hpl1, (((hblW.trans hl2).trans hl3).trans hl4).trans hl5, (((hokW.trans ho2).trans ho3).trans ho4).trans ho5, JL⟩
    · obtain rfl : q = list.length := by omega
      have hAll := hpre.out
      rw [List.drop_of_length_le (Nat.le_refl _), items_nil, List.append_nil] at hAll
      subst hAll
      have hfl := hfull.out
      have hlo := hl'.out
      have H9 := Lib.hid (bt_byte B b (acc ++ 123 :: itemsJ 6 true names list) 125 wr hbt (by simp only [List.length_append, List.length_cons]; omega) hBr)
      clear hpre hpl hfl hlo
      go_wp2_with (first
        | (go_at_call 96; refine (H9.out).mono ?_; rintro e w3 ⟨rfl, hb3, hl3, ho3⟩))
      go_end0
      exact ⟨rfl, by rw [hT.out]; simpa using hb3, hbl2.trans hl3, hok.trans ho3⟩
end Go.Proofs.YtnnhkajjifmlfaaDoor
