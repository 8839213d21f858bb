/- The document's text: lists. -/
import Derived.Test.YtnnhkajjifmlfaaDoorTj
namespace Go.Proofs.YtnnhkajjifmlfaaDoor
open Go.RowKit Go.Maps

theorem JB.othersN {w w' : World} {B0 : Nat} {a0 a1 a2 a3 a4 : Value} (h : JB w B0 a0 a1 a2 a3 a4) (ho : Lib.OthersKept 5 none w w') : JB w' B0 a0 a1 a2 a3 a4 :=
  ho B0 _ h (by simp) (fun c fz => by simp)
theorem OB.one {B : Nat} {w : World} {v : Value} {acc : List UInt8} (c : UInt8) (h : w.ownsRow B 5 1 v (acc.length + 1) (Lib.byteCells acc ++ [.int .u8 (c.toNat : Int)])) : OB B (acc ++ [c]) v w := by
  show w.ownsRow B 5 1 v (acc ++ [c]).length (Lib.byteCells (acc ++ [c]))
  have e : Lib.byteCells (acc ++ [c]) = Lib.byteCells acc ++ [.int .u8 (c.toNat : Int)] := by simp [Lib.byteCells]
  rw [e, List.length_append]
  exact h
theorem AQ.one {B : Nat} {w w1 : World} {v v1 : Value} {acc : List UInt8} {o : Obj} (c : UInt8) (ho : OB B acc v w) (hB : B ≤ w.heap.size) (hg : (w.alloc o).grownBy w1 v.ownBlock) (h : w1.ownsRow B 5 1 v1 (acc.length + 1) (Lib.byteCells acc ++ [.int .u8 (c.toNat : Int)])) : AQ B w (acc ++ [c]) v1 w1 :=
  AQ.of_gb ho hB (gb_trans (gb_alloc (gb_refl _ _) _) hg) (OB.one c h)
theorem AQ.alloc {B : Nat} {w : World} {v : Value} {acc : List UInt8} (h : OB B acc v w) (hB : B ≤ w.heap.size) (o : Obj) : AQ B w acc v (w.alloc o) := AQ.of_gb h hB (gb_alloc (gb_refl _ _) _) (h.alloc o)
set_option maxRecDepth 100000 in
set_option maxHeartbeats 6400000 in
theorem doc_5 (n : Int) (t : ByteArray) (names : List ByteArray) (list : List J) (hr : ∀ j ∈ list, JBd j) (hll : list.length ≤ 140737488355328) (ih : ∀ j ∈ list, DocC j) : DocC (.mk 5 n t names list) := by
  intro B acc S ov v w hb hl hB hS hv hf
  obtain ⟨i0, hi0, hz0, hz1, hz2⟩ := info_parts info5
  have hnm : names = [] := by
    rw [fineP] at hf
    simp at hf
    exact hf.1.2
  have hnm' := Lib.hid hnm
  clear hnm
  have hfin : ∀ j ∈ list, fineP j = true := by
    refine finePs_mem ?_
    rw [fineP] at hf
    simp at hf
    exact hf.2
  obtain ⟨nv, lv, rfl, hN, hL⟩ := hv.parts
  obtain ⟨A', c', b', o', V', rfl, hc', hA', hcl', hrc'⟩ := hL
  have J0 := JB.new w (.int .i64 5) (.int .i64 n) (.string t) nv (.slice A' list.length c')
  obtain ⟨d0, d1, d2, d3, d4, df⟩ := J0.all
  have hT : Hid (textJ (.mk 5 n t names list) = 91 :: (itemsJ 5 true names list ++ [93])) := by unfold Hid; rw [textJ]; rfl
  rw [szJ] at hl
  have hl' := Lib.hid hl
  have hll' := Lib.hid hll
  have hfull : Hid ((itemsJ 5 true names list).length ≤ 30 * (szN names + szJs list)) := by
    unfold Hid
    have key : ∀ (l : List J) (nm : List ByteArray) (f : Bool), (∀ j ∈ l, JBd j) → (itemsJ 5 f nm l).length ≤ 30 * (szN nm + szJs l) := by
      intro l
      induction l with
      | nil => intro nm f _; rw [items_nil]; simp
      | cons j r ih =>
        intro nm f hj
        have a1 := textJ_len (hj j (by simp))
        have a2 := ih nm.tail false (fun x hx => hj x (by simp [hx]))
        have a3 := nameL_len 5 nm
        have a4 := szN_head nm
        have a5 : (if f = true then ([] : List UInt8) else [44]).length ≤ 1 := by split <;> simp
        rw [itemsJ, szJs]
        simp only [List.length_append]
        omega
    exact key list names true hr
  have hA00 := AQ.alloc hb hB (.cells #[.int .i64 5, .int .i64 n, .string t, nv, .slice A' list.length c'] 26)
  clear hv hf hN hc'
  go_enter Tryd.func53, Tryd.ntmps53
  go_wp2_with (first
    | (at_builtin; refine wpList_append_own_at _ rfl _ _ 78 rfl B 5 i0 (.int .u8 0) 1 1 Tryd.underlying78 hi0 hz0 hz1 hz2 rfl (by decide) ov _ _ rfl ((hb.alloc _).alloc _) ⟨w.heap.size + 1, 0, none⟩ 1 1 [.int .u8 91] rfl rfl (news_new _ _ (by simp)) (by simp [Value.oneCell']) (by unfold maxLen; omega) (by simp; omega) (by simp; omega) ?_; intro v1 w1 hown1 hg2 _ hat1))
  have hA01 := AQ.one 91 hA00.own (by simp; omega) hg2 hown1
  have hA1 := hA00.trans hA01
  have J1 := J0.othersN hA01.oth
  clear d0 d1 d2 d3 d4 df hl hat1 hown1 hg2
  go_loopg [0, 7] list.length (fun z u0 u7 wr => ∃ (q : Nat) (pre : List UInt8) (u : Value), q ≤ list.length ∧ z = list.length - q ∧ u7 = .int .i64 q ∧ u = u0 ∧ AQ B w (acc ++ 91 :: pre) u wr ∧ Hid (pre ++ itemsJ 5 (decide (q = 0)) (names.drop q) (list.drop q) = itemsJ 5 true names list) ∧
    Hid (pre.length ≤ 30 * (szN (names.take q) + szJs (list.take q))) ∧ JB wr w.heap.size (.int .i64 5) (.int .i64 n) (.string t) (nv) (.slice A' list.length c'))
  case atStart => exact ⟨0, [], _, Nat.zero_le _, rfl, rfl, rfl, hA1, rfl, Nat.zero_le _, J1⟩
  case round =>
    clear hA1 hA01 hA00 J0 J1 hb
    obtain ⟨q, pre, u0, hq, rfl, rfl, rfl, hA, hpre, hpl, JW⟩ := hrel
    obtain ⟨k0, k1, k2, k3, k4, kf⟩ := JW.all
    have hbl2 := hA.bel
    have hBr : B ≤ wr.heap.size := Nat.le_trans hB hbl2.size
    by_cases hlt : q < list.length
    · have hq1 := Lib.hid (show wrap64 ((q : Int) + 1) = ((q + 1 : Nat) : Int) from (wrap64_id (by omega) (by have := hll'.out; omega)).trans (by omega))
      obtain ⟨rfl, hSb⟩ := hA' (by omega)
      have hqi : (q : Int) < (list.length : Int) := by omega
      obtain ⟨a0, a1, a2, a3, a4, hV, c0, c1, c2, c3, c4⟩ := hcl' q hlt
      have hbB := hS _ hSb
      have hrq := hrc' q hlt
      rw [hV] at hrq
      obtain ⟨xk, xn, xt, X1, x1, y1, X2, x2, y2, rfl, rfl, rfl, rfl, rfl⟩ := hrq.shape
      have hfq := hfin list[q] (List.getElem_mem hlt)
      have hstJ := szJs_take list q hlt
      have hJle := szJs_take_le list (q + 1)
      have htxt := textJ_len (hr list[q] (List.getElem_mem hlt))
      have hdrop : list.drop q = list[q] :: list.drop (q + 1) := List.drop_eq_getElem_cons hlt
      have hNt : szN (names.take q) = 0 ∧ szN (names.take (q + 1)) = 0 := by rw [hnm'.out]; simp [szN]
      have hlen := hpl.out
      have hlo := hl'.out
      have HX := fun (acc' : List UInt8) (u : Value) (W : World) (hb : OB B acc' u W) (hl : acc'.length + 30 * szJ list[q] ≤ 900000000) (hbW : Below B w W) => Lib.hid (ih list[q] (List.getElem_mem hlt) B acc' S u _ W hb hl (Nat.le_trans hB hbW.size) hS
        (hrq.keep (fun x hx => hbW.block x (hS x hx)) (fun _ => id)) hfq)
      generalize hacc : acc ++ 91 :: pre = acc1 at *
      have hal : acc1.length = acc.length + 1 + pre.length := by rw [← hacc]; simp only [List.length_append, List.length_cons]; omega
      have hacc' := Lib.hid hacc
      have CB := fun (W : World) (hbW : Below B w W) => And.intro (cell_below c0 hbW hbB) (And.intro (cell_below c1 hbW hbB) (And.intro (cell_below c2 hbW hbB) (And.intro (cell_below c3 hbW hbB) (cell_below c4 hbW hbB))))
      clear hacc ih hcl' hrc' c0 c1 c2 c3 c4 hrq hA'
      by_cases hq0 : q = 0
      · have hit : Hid (itemsJ 5 (decide (q = 0)) (names.drop q) (list.drop q) = (textJ list[q] ++ itemsJ 5 false (names.drop (q + 1)) (list.drop (q + 1)))) := by
          unfold Hid; rw [decide_eq_true hq0, hdrop, itemsJ]; rw [hnm'.out]; simp [nameL]
        have hpl1 : Hid ((pre ++ textJ list[q]).length ≤ 30 * (szN (names.take (q + 1)) + szJs (list.take (q + 1)))) := by
          unfold Hid; simp only [List.length_append]; omega
        have m2 : Hid (acc1.length + 30 * szJ list[q] ≤ 900000000) := by unfold Hid; omega
        have hAll := hpre.out
        rw [hit.out] at hAll
        have hAll' := Lib.hid hAll
        obtain ⟨g0, g1, g2, g3, g4⟩ := CB wr hbl2
        clear hAll hpre hit hdrop hlo hlen hal hstJ hJle htxt hfq hNt CB
        generalize hX : list[q] = X at *
        clear hX
        have hqz : ¬ (0 : Int) < (q : Int) := by omega
        have hq0' := Lib.hid hq0
        clear hq0
        go_wp2_with (first
          | (go_at_call 53; refine ((HX acc1 u0 _ hA.own m2.out hbl2).out).mono ?_; rintro e w5 ⟨v5, rfl, hA5⟩))
        have JL := JW.othersN hA5.oth
        go_roundg (list.length - (q + 1))
        case measure => omega
        case rel => exact ⟨q + 1, pre ++ textJ X, _, hlt, rfl, by first | rw [hq1.out] | go_num, rfl, by have := hA.trans hA5; rw [← hacc'.out] at this; simpa using this, by unfold Hid; rw [← hAll'.out]; simp, hpl1, JL⟩
      · have hqpos : (0 : Int) < (q : Int) := by omega
        have hit : Hid (itemsJ 5 (decide (q = 0)) (names.drop q) (list.drop q) = 44 :: (textJ list[q] ++ itemsJ 5 false (names.drop (q + 1)) (list.drop (q + 1)))) := by
          unfold Hid; rw [decide_eq_false hq0, hdrop, itemsJ]; rw [hnm'.out]; simp [nameL]
        have hpl1 : Hid ((pre ++ 44 :: textJ list[q]).length ≤ 30 * (szN (names.take (q + 1)) + szJs (list.take (q + 1)))) := by
          unfold Hid; simp only [List.length_append, List.length_cons]; omega
        have m1 : acc1.length + 1 ≤ 1000000000 := by omega
        have m2 : Hid ((acc1 ++ [44]).length + 30 * szJ list[q] ≤ 900000000) := by unfold Hid; simp only [List.length_append, List.length_cons, List.length_nil]; omega
        have hAll := hpre.out
        rw [hit.out] at hAll
        have hAll' := Lib.hid hAll
        clear hAll hpre hit hdrop hlo hlen hal hstJ hJle htxt hfq hNt
        generalize hX : list[q] = X at *
        clear hX
        clear hq0
        go_wp2_with (first
          | (go_at_call 53; refine ((HX (acc1 ++ [44]) v3 _ hA3.own m2.out (hA.trans hA3).bel).out).mono ?_; rintro e w5 ⟨v5, rfl, hA5⟩)
          | (at_builtin; refine wpList_append_own_at _ rfl _ _ 78 rfl B 5 i0 (.int .u8 0) 1 1 Tryd.underlying78 hi0 hz0 hz1 hz2 rfl (by decide) u0 _ _ rfl (hA.own.alloc _) ⟨wr.heap.size, 0, none⟩ 1 1 [.int .u8 44] rfl rfl (news_new _ _ rfl) (by simp [Value.oneCell']) (by unfold maxLen; omega) (by omega) (by simp; omega) ?_; intro v3 w3 hown3 hg3 _ _; have hA3 := AQ.one 44 hA.own hBr hg3 hown3; have JW3 := JW.othersN hA3.oth; obtain ⟨s0, s1, s2, s3, s4, sf⟩ := JW3.all; obtain ⟨g0, g1, g2, g3, g4⟩ := CB w3 (hA.trans hA3).bel))
        have JL := JW3.othersN hA5.oth
        go_roundg (list.length - (q + 1))
        case measure => omega
        case rel => exact ⟨q + 1, pre ++ 44 :: textJ X, _, hlt, rfl, by first | rw [hq1.out] | go_num, rfl, by have := (hA.trans hA3).trans hA5; rw [← hacc'.out] at this; simpa using this, by unfold Hid; rw [← hAll'.out]; simp, hpl1, JL⟩
    · obtain rfl : q = list.length := by omega
      have hAll := hpre.out
      rw [List.drop_of_length_le (Nat.le_refl _), items_nil, List.append_nil] at hAll
      subst hAll
      have hfl := hfull.out
      have hlo := hl'.out
      have m9 : (acc ++ 91 :: itemsJ 5 true names list).length + 1 ≤ 1000000000 := by simp only [List.length_append, List.length_cons]; omega
      have hqL : Hid (acc ++ textJ (.mk 5 n t names list) = (acc ++ 91 :: itemsJ 5 true names list) ++ [93]) := by unfold Hid; rw [hT.out]; simp
      clear hpre hpl hfl hlo
      generalize acc ++ 91 :: itemsJ 5 true names list = acc1 at *
      go_wp2_with (first
        | (at_builtin; refine wpList_append_own_at _ rfl _ _ 78 rfl B 5 i0 (.int .u8 0) 1 1 Tryd.underlying78 hi0 hz0 hz1 hz2 rfl (by decide) u0 _ _ rfl (hA.own.alloc _) ⟨wr.heap.size, 0, none⟩ 1 1 [.int .u8 93] rfl rfl (news_new _ _ rfl) (by simp [Value.oneCell']) (by unfold maxLen; omega) (by omega) (by simp; omega) ?_; intro v3 w3 hown3 hg3 _ _))
      have hA3 := AQ.one 93 hA.own hBr hg3 hown3
      go_ret
      exact ⟨_, rfl, by rw [hqL.out]; exact hA.trans hA3⟩
end Go.Proofs.YtnnhkajjifmlfaaDoor
