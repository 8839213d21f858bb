/- The document's text: maps. -/
import Derived.Test.YtnnhkajjifmlfaaDoorTl
namespace Go.Proofs.YtnnhkajjifmlfaaDoor
open Go.RowKit Go.Maps

set_option maxRecDepth 100000 in
set_option maxHeartbeats 6400000 in
theorem doc_6 (n : Int) (t : ByteArray) (names : List ByteArray) (list : List J) (hr : ∀ j ∈ list, JBd j) (hll : list.length ≤ 140737488355328) (ih : ∀ j ∈ list, DocC j) : DocC (.mk 6 n t names list) := by
  intro B acc S ov v w hb hl hB hS hv hf
  obtain ⟨i0, hi0, hz0, hz1, hz2⟩ := info_parts info5
  have hnm : names.length = list.length := by
    rw [fineP] at hf
    simp at hf
    exact hf.1.2
  have hnm' := Lib.hid hnm
  clear hnm
  have hfin : ∀ j ∈ list, fineP j = true := by
    refine finePs_mem ?_
    rw [fineP] at hf
    simp at hf
    exact hf.2
  obtain ⟨nv, lv, rfl, hN, hL⟩ := hv.parts
  obtain ⟨A, c, rfl, hc, hA0⟩ := hN
  obtain ⟨A', c', b', o', V', rfl, hc', hA', hcl', hrc'⟩ := hL
  have J0 := JB.new w (.int .i64 6) (.int .i64 n) (.string t) (.slice A names.length c) (.slice A' list.length c')
  obtain ⟨d0, d1, d2, d3, d4, df⟩ := J0.all
  have hT : Hid (textJ (.mk 6 n t names list) = 123 :: (itemsJ 6 true names list ++ [125])) := by unfold Hid; rw [textJ]; rfl
  rw [szJ] at hl
  have hl' := Lib.hid hl
  have hll' := Lib.hid hll
  have hfull : Hid ((itemsJ 6 true names list).length ≤ 30 * (szN names + szJs list)) := by
    unfold Hid
    have key : ∀ (l : List J) (nm : List ByteArray) (f : Bool), (∀ j ∈ l, JBd j) → (itemsJ 6 f nm l).length ≤ 30 * (szN nm + szJs l) := by
      intro l
      induction l with
      | nil => intro nm f _; rw [items_nil]; simp
      | cons j r ih =>
        intro nm f hj
        have a1 := textJ_len (hj j (by simp))
        have a2 := ih nm.tail false (fun x hx => hj x (by simp [hx]))
        have a3 := nameL_len 6 nm
        have a4 := szN_head nm
        have a5 : (if f = true then ([] : List UInt8) else [44]).length ≤ 1 := by split <;> simp
        rw [itemsJ, szJs]
        simp only [List.length_append]
        omega
    exact key list names true hr
  have hA00 := AQ.alloc hb hB (.cells #[.int .i64 6, .int .i64 n, .string t, .slice A names.length c, .slice A' list.length c'] 26)
  clear hv hf hc hc'
  go_enter Tryd.func53, Tryd.ntmps53
  go_wp2_with (first
    | (at_builtin; refine wpList_append_own_at _ rfl _ _ 78 rfl B 5 i0 (.int .u8 0) 1 1 Tryd.underlying78 hi0 hz0 hz1 hz2 rfl (by decide) ov _ _ rfl ((hb.alloc _).alloc _) ⟨w.heap.size + 1, 0, none⟩ 1 1 [.int .u8 123] rfl rfl (news_new _ _ (by simp)) (by simp [Value.oneCell']) (by unfold maxLen; omega) (by simp; omega) (by simp; omega) ?_; intro v1 w1 hown1 hg2 _ hat1))
  have hA01 := AQ.one 123 hA00.own (by simp; omega) hg2 hown1
  have hA1 := hA00.trans hA01
  have J1 := J0.othersN hA01.oth
  clear d0 d1 d2 d3 d4 df hl hat1 hown1 hg2
  go_loopg [0, 7] list.length (fun z u0 u7 wr => ∃ (q : Nat) (pre : List UInt8) (u : Value), q ≤ list.length ∧ z = list.length - q ∧ u7 = .int .i64 q ∧ u = u0 ∧ AQ B w (acc ++ 123 :: pre) u wr ∧ Hid (pre ++ itemsJ 6 (decide (q = 0)) (names.drop q) (list.drop q) = itemsJ 6 true names list) ∧
    Hid (pre.length ≤ 30 * (szN (names.take q) + szJs (list.take q))) ∧ JB wr w.heap.size (.int .i64 6) (.int .i64 n) (.string t) (.slice A names.length c) (.slice A' list.length c'))
  case atStart => exact ⟨0, [], _, Nat.zero_le _, rfl, rfl, rfl, hA1, rfl, Nat.zero_le _, J1⟩
  case round =>
    clear hA1 hA01 hA00 J0 J1 hb
    obtain ⟨q, pre, u0, hq, rfl, rfl, rfl, hA, hpre, hpl, JW⟩ := hrel
    obtain ⟨k0, k1, k2, k3, k4, kf⟩ := JW.all
    have hbl2 := hA.bel
    have hBr : B ≤ wr.heap.size := Nat.le_trans hB hbl2.size
    by_cases hlt : q < list.length
    · have hq1 := Lib.hid (show wrap64 ((q : Int) + 1) = ((q + 1 : Nat) : Int) from (wrap64_id (by omega) (by have := hll'.out; omega)).trans (by omega))
      obtain ⟨rfl, hSb⟩ := hA' (by omega)
      have hqi : (q : Int) < (list.length : Int) := by omega
      obtain ⟨a0, a1, a2, a3, a4, hV, c0, c1, c2, c3, c4⟩ := hcl' q hlt
      have hbB := hS _ hSb
      have hrq := hrc' q hlt
      rw [hV] at hrq
      obtain ⟨xk, xn, xt, X1, x1, y1, X2, x2, y2, rfl, rfl, rfl, rfl, rfl⟩ := hrq.shape
      have hfq := hfin list[q] (List.getElem_mem hlt)
      have hstJ := szJs_take list q hlt
      have hJle := szJs_take_le list (q + 1)
      have htxt := textJ_len (hr list[q] (List.getElem_mem hlt))
      have hdrop : list.drop q = list[q] :: list.drop (q + 1) := List.drop_eq_getElem_cons hlt
      have hltn : q < names.length := by have := hnm'.out; omega
      have hstN := szN_take names q hltn
      have hNle := szN_take_le names (q + 1)
      have hndrop : names.drop q = names[q] :: names.drop (q + 1) := List.drop_eq_getElem_cons hltn
      obtain ⟨bn, on, rfl, hSn, hcn⟩ := hA0 (by omega)
      have hqn : (q : Int) < (names.length : Int) := by omega
      have NB := fun (W : World) (hbW : Below B w W) => cell_below (hcn q hltn) hbW (hS _ hSn)
      have hql := quoteL_len names[q]
      have hlen := hpl.out
      have hlo := hl'.out
      have HX := fun (acc' : List UInt8) (u : Value) (W : World) (hb : OB B acc' u W) (hl : acc'.length + 30 * szJ list[q] ≤ 900000000) (hbW : Below B w W) => Lib.hid (ih list[q] (List.getElem_mem hlt) B acc' S u _ W hb hl (Nat.le_trans hB hbW.size) hS
        (hrq.keep (fun x hx => hbW.block x (hS x hx)) (fun _ => id)) hfq)
      generalize hacc : acc ++ 123 :: pre = acc1 at *
      have hal : acc1.length = acc.length + 1 + pre.length := by rw [← hacc]; simp only [List.length_append, List.length_cons]; omega
      have hacc' := Lib.hid hacc
      have CB := fun (W : World) (hbW : Below B w W) => And.intro (cell_below c0 hbW hbB) (And.intro (cell_below c1 hbW hbB) (And.intro (cell_below c2 hbW hbB) (And.intro (cell_below c3 hbW hbB) (cell_below c4 hbW hbB))))
      clear hacc hcn hA0 ih hcl' hrc' c0 c1 c2 c3 c4 hrq hA'
      by_cases hq0 : q = 0
      · have hit : Hid (itemsJ 6 (decide (q = 0)) (names.drop q) (list.drop q) = (quoteL names[q] ++ [58]) ++ (textJ list[q] ++ itemsJ 6 false (names.drop (q + 1)) (list.drop (q + 1)))) := by
          unfold Hid; rw [decide_eq_true hq0, hdrop, itemsJ]; rw [hndrop]; generalize names[q] = Y; simp [nameL]
        have hpl1 : Hid ((pre ++ (quoteL names[q] ++ [58]) ++ textJ list[q]).length ≤ 30 * (szN (names.take (q + 1)) + szJs (list.take (q + 1)))) := by
          unfold Hid; simp only [List.length_append, List.length_cons, List.length_nil]; omega
        have m1 : acc1.length + 6 * names[q].size + 2 ≤ 1000000000 := by omega
        have m3 : (acc1 ++ quoteL names[q]).length + 1 ≤ 1000000000 := by simp only [List.length_append]; omega
        have m2 : Hid ((acc1 ++ quoteL names[q] ++ [58]).length + 30 * szJ list[q] ≤ 900000000) := by unfold Hid; simp only [List.length_append, List.length_cons, List.length_nil]; omega
        have hAll := hpre.out
        rw [hit.out] at hAll
        have hAll' := Lib.hid hAll
        have n0 := NB wr hbl2
        clear hAll hpre hit hdrop hlo hlen hal hstJ hJle htxt hfq hql hstN hNle hndrop NB
        generalize hYn : names[q] = Y at *
        clear hYn hltn
        generalize hX : list[q] = X at *
        clear hX
        have hqz : ¬ (0 : Int) < (q : Int) := by omega
        have hq0' := Lib.hid hq0
        clear hq0
        go_wp2_with (first
          | (go_at_call 53; refine ((HX (acc1 ++ quoteL Y ++ [58]) v6 _ hA6.own m2.out ((hA.trans hA4).trans hA6).bel).out).mono ?_; rintro e w5 ⟨v5, rfl, hA5⟩)
          | (at_builtin; refine wpList_append_own_at _ rfl _ _ 78 rfl B 5 i0 (.int .u8 0) 1 1 Tryd.underlying78 hi0 hz0 hz1 hz2 rfl (by decide) v4 _ _ rfl (hA4.own.alloc _) ⟨w4.heap.size, 0, none⟩ 1 1 [.int .u8 58] rfl rfl (news_new _ _ rfl) (by simp [Value.oneCell']) (by unfold maxLen; omega) (by omega) (by simp; omega) ?_; intro v6 w6 hown6 hg6 _ _; have hA6 := AQ.one 58 hA4.own hB4 hg6 hown6; have JW6 := JW4.othersN hA6.oth; obtain ⟨r0, r1, r2, r3, r4, rf⟩ := JW6.all; obtain ⟨g0, g1, g2, g3, g4⟩ := CB w6 ((hA.trans hA4).trans hA6).bel)
          | (go_at_call 60; refine (quoted_any B acc1 u0 Y _ hA.own m1 hBr).mono ?_; rintro e w4 ⟨v4, rfl, hP4⟩; have hA4 := hP4.aq hA.own hBr; have JW4 := JW.othersN hA4.oth; have hB4 := Nat.le_trans hBr hA4.bel.size))
        have JL := JW6.othersN hA5.oth
        go_roundg (list.length - (q + 1))
        case measure => omega
        case rel => exact ⟨q + 1, pre ++ (quoteL Y ++ [58]) ++ textJ X, _, hlt, rfl, by first | rw [hq1.out] | go_num, rfl, by have := ((hA.trans hA4).trans hA6).trans hA5; rw [← hacc'.out] at this; simpa using this, by unfold Hid; rw [← hAll'.out]; simp, hpl1, JL⟩
      · have hqpos : (0 : Int) < (q : Int) := by omega
        have hit : Hid (itemsJ 6 (decide (q = 0)) (names.drop q) (list.drop q) = 44 :: ((quoteL names[q] ++ [58]) ++ (textJ list[q] ++ itemsJ 6 false (names.drop (q + 1)) (list.drop (q + 1))))) := by
          unfold Hid; rw [decide_eq_false hq0, hdrop, itemsJ]; rw [hndrop]; generalize names[q] = Y; simp [nameL]
        have hpl1 : Hid ((pre ++ 44 :: ((quoteL names[q] ++ [58]) ++ textJ list[q])).length ≤ 30 * (szN (names.take (q + 1)) + szJs (list.take (q + 1)))) := by
          unfold Hid; simp only [List.length_append, List.length_cons, List.length_nil]; omega
        have m0 : acc1.length + 1 ≤ 1000000000 := by omega
        have m1 : (acc1 ++ [44]).length + 6 * names[q].size + 2 ≤ 1000000000 := by simp only [List.length_append, List.length_cons, List.length_nil]; omega
        have m3 : (acc1 ++ [44] ++ quoteL names[q]).length + 1 ≤ 1000000000 := by simp only [List.length_append, List.length_cons, List.length_nil]; omega
        have m2 : Hid ((acc1 ++ [44] ++ quoteL names[q] ++ [58]).length + 30 * szJ list[q] ≤ 900000000) := by unfold Hid; simp only [List.length_append, List.length_cons, List.length_nil]; omega
        have hAll := hpre.out
        rw [hit.out] at hAll
        have hAll' := Lib.hid hAll
        clear hAll hpre hit hdrop hlo hlen hal hstJ hJle htxt hfq hql hstN hNle hndrop
        generalize hYn : names[q] = Y at *
        clear hYn hltn
        generalize hX : list[q] = X at *
        clear hX
        clear hq0
        go_wp2_with (first
          | (go_at_call 53; refine ((HX (acc1 ++ [44] ++ quoteL Y ++ [58]) v6 _ hA6.own m2.out (((hA.trans hA3).trans hA4).trans hA6).bel).out).mono ?_; rintro e w5 ⟨v5, rfl, hA5⟩)
          | (at_builtin; refine wpList_append_own_at _ rfl _ _ 78 rfl B 5 i0 (.int .u8 0) 1 1 Tryd.underlying78 hi0 hz0 hz1 hz2 rfl (by decide) v4 _ _ rfl (hA4.own.alloc _) ⟨w4.heap.size, 0, none⟩ 1 1 [.int .u8 58] rfl rfl (news_new _ _ rfl) (by simp [Value.oneCell']) (by unfold maxLen; omega) (by omega) (by simp; omega) ?_; intro v6 w6 hown6 hg6 _ _; have hA6 := AQ.one 58 hA4.own hB4 hg6 hown6; have JW6 := JW4.othersN hA6.oth; obtain ⟨r0, r1, r2, r3, r4, rf⟩ := JW6.all; obtain ⟨g0, g1, g2, g3, g4⟩ := CB w6 (((hA.trans hA3).trans hA4).trans hA6).bel)
          | (go_at_call 60; refine (quoted_any B (acc1 ++ [44]) v3 Y _ hA3.own m1 hB3).mono ?_; rintro e w4 ⟨v4, rfl, hP4⟩; have hA4 := hP4.aq hA3.own hB3; have JW4 := JW3.othersN hA4.oth; have hB4 := Nat.le_trans hB3 hA4.bel.size)
          | (at_builtin; refine wpList_append_own_at _ rfl _ _ 78 rfl B 5 i0 (.int .u8 0) 1 1 Tryd.underlying78 hi0 hz0 hz1 hz2 rfl (by decide) u0 _ _ rfl (hA.own.alloc _) ⟨wr.heap.size, 0, none⟩ 1 1 [.int .u8 44] rfl rfl (news_new _ _ rfl) (by simp [Value.oneCell']) (by unfold maxLen; omega) (by omega) (by simp; omega) ?_; intro v3 w3 hown3 hg3 _ _; have hA3 := AQ.one 44 hA.own hBr hg3 hown3; have JW3 := JW.othersN hA3.oth; obtain ⟨s0, s1, s2, s3, s4, sf⟩ := JW3.all; have n3 := NB w3 (hA.trans hA3).bel; have hB3 := Nat.le_trans hBr hA3.bel.size))
        have JL := JW6.othersN hA5.oth
        go_roundg (list.length - (q + 1))
        case measure => omega
        case rel => exact ⟨q + 1, pre ++ 44 :: ((quoteL Y ++ [58]) ++ textJ X), _, hlt, rfl, by first | rw [hq1.out] | go_num, rfl, by have := (((hA.trans hA3).trans hA4).trans hA6).trans hA5; rw [← hacc'.out] at this; simpa using this, by unfold Hid; rw [← hAll'.out]; simp, hpl1, JL⟩
    · obtain rfl : q = list.length := by omega
      have hAll := hpre.out
      rw [List.drop_of_length_le (Nat.le_refl _), items_nil, List.append_nil] at hAll
      subst hAll
      have hfl := hfull.out
      have hlo := hl'.out
      have m9 : (acc ++ 123 :: itemsJ 6 true names list).length + 1 ≤ 1000000000 := by simp only [List.length_append, List.length_cons]; omega
      have hqL : Hid (acc ++ textJ (.mk 6 n t names list) = (acc ++ 123 :: itemsJ 6 true names list) ++ [125]) := by unfold Hid; rw [hT.out]; simp
      clear hpre hpl hfl hlo
      generalize acc ++ 123 :: itemsJ 6 true names list = acc1 at *
      go_wp2_with (first
        | (at_builtin; refine wpList_append_own_at _ rfl _ _ 78 rfl B 5 i0 (.int .u8 0) 1 1 Tryd.underlying78 hi0 hz0 hz1 hz2 rfl (by decide) u0 _ _ rfl (hA.own.alloc _) ⟨wr.heap.size, 0, none⟩ 1 1 [.int .u8 125] rfl rfl (news_new _ _ rfl) (by simp [Value.oneCell']) (by unfold maxLen; omega) (by omega) (by simp; omega) ?_; intro v3 w3 hown3 hg3 _ _))
      have hA3 := AQ.one 125 hA.own hBr hg3 hown3
      go_ret
      exact ⟨_, rfl, by rw [hqL.out]; exact hA.trans hA3⟩
end Go.Proofs.YtnnhkajjifmlfaaDoor
