/- PolicyBack: the law's walk. -/
import Derived.Test.YtnnhkajjifmlfaaDoorPy
namespace Go.Proofs.YtnnhkajjifmlfaaDoor.Pl
open Go.RowKit Go.Maps

theorem cell_kept {w w' : World} {b : Nat} {v : Value} (h : w.cell? ⟨b, 0, none⟩ = some v) (hg : w.grownBy w' none) : w'.cell? ⟨b, 0, none⟩ = some v := cell_grown h hg (by simp)
/-- what the walk is given -/
structure Given (w : World) (l : List PN) (S : Nat → Prop) (v : Value) : Prop where
  g : Gv w
  six : 6 ≤ w.heap.size
  pt : PTw w
  n : NodesAt w S v l
  lt : ∀ b, S b → b < w.heap.size
  len : l.length ≤ 140737488355328
  lives : ∀ W, w.grownBy W none → Calls Tryd.prog 32 #[] W fun e w' => e = .returned (.bool true) ∧ W.grownBy w' none
section
variable {w : World} {l : List PN} {S : Nat → Prop} {v : Value}
theorem Given.parse (h : Given w l S v) (s : ByteArray) (hs : s.size ≤ 9223372036854775807) (W : World) (hg : w.grownBy W none) : Hid (Calls Tryd.prog 33 #[.string s] W (RP W (parseP s))) :=
  parse_any s W hs (h.g.kept hg (by simp)) (Nat.le_trans h.six hg.size)
theorem Given.text (h : Given w l S v) {q : List PN} {S' : Nat → Prop} {u : Value} (hq : q.length ≤ 1000000) (W : World) (hg : w.grownBy W none) (hN : NodesAt W S' u q) (hS : ∀ b, S' b → b < W.heap.size) :
    Hid (Calls Tryd.prog 34 #[.agg #[u]] W fun e w' => e = .returned (.tuple #[.string (bs (textP q).1), .int .i64 (textP q).2]) ∧ W.grownBy w' none) :=
  text_any q S' u W hq hN hS (h.pt.to hg)
theorem NodesAt.later {w w' : World} {S : Nat → Prop} {v : Value} {l : List PN} (h : NodesAt w S v l) (hS : ∀ b, S b → b < w.heap.size) (hg : w.grownBy w' none) : NodesAt w' S v l ∧ ∀ b, S b → b < w'.heap.size :=
  ⟨h.grown hg (fun b hb => ⟨hS b hb, by simp⟩), fun b hb => Nat.lt_of_lt_of_le (hS b hb) hg.size⟩
end
set_option maxRecDepth 100000 in
set_option maxHeartbeats 12800000 in
theorem back_great (l : List PN) (S : Nat → Prop) (v : Value) (s : ByteArray) (w : World) (h : Given w l S v) (hsm : smallP l = false) :
    Calls Tryd.prog 10 #[.agg #[v], .string s] w fun e w' => e = .returned (.bool true) ∧ w.grownBy w' none := by
  have hL := fun W (hg : w.grownBy W none) => Lib.hid (h.lives W hg)
  have hS1 := fun W (hg : w.grownBy W none) => Lib.hid (small_any l S v W h.len (h.n.later h.lt hg).1 (h.n.later h.lt hg).2)
  obtain ⟨A, c, rfl, hA⟩ := id h.n
  have b0 := box_c0 w (.slice A l.length c)
  have hg0 := gb_alloc (gb_refl w none) (.cells #[.slice A l.length c] 48)
  rw [hsm] at hS1
  clear hA h
  go_enter Tryd.func10, Tryd.ntmps10
  go_wp2_with (first
    | (go_at_call 32; refine ((hL _ hg0).out).mono ?_; rintro e w1 ⟨rfl, hg1⟩; have ha1 := gb_trans hg0 hg1; have b1 := cell_kept b0 hg1)
    | (go_at_call 37; refine ((hS1 _ ha1).out).mono ?_; rintro e w2 ⟨rfl, hg2⟩; have ha2 := gb_trans ha1 hg2; have b2 := cell_kept b1 hg2))
  go_ret
  exact ⟨rfl, ha2⟩
set_option maxRecDepth 100000 in
set_option maxHeartbeats 12800000 in
theorem back_long (l : List PN) (S : Nat → Prop) (v : Value) (s : ByteArray) (w : World) (h : Given w l S v) (hsm : smallP l = true) (hs : 9000 < s.size) :
    Calls Tryd.prog 10 #[.agg #[v], .string s] w fun e w' => e = .returned (.bool true) ∧ w.grownBy w' none := by
  have hL := fun W (hg : w.grownBy W none) => Lib.hid (h.lives W hg)
  have hS1 := fun W (hg : w.grownBy W none) => Lib.hid (small_any l S v W h.len (h.n.later h.lt hg).1 (h.n.later h.lt hg).2)
  obtain ⟨A, c, rfl, hA⟩ := id h.n
  have b0 := box_c0 w (.slice A l.length c)
  have hg0 := gb_alloc (gb_refl w none) (.cells #[.slice A l.length c] 48)
  rw [hsm] at hS1
  have hsI : (9000 : Int) < (s.size : Int) := by omega
  clear hA h
  go_enter Tryd.func10, Tryd.ntmps10
  go_wp2_with (first
    | (go_at_call 32; refine ((hL _ hg0).out).mono ?_; rintro e w1 ⟨rfl, hg1⟩; have ha1 := gb_trans hg0 hg1; have b1 := cell_kept b0 hg1)
    | (go_at_call 37; refine ((hS1 _ ha1).out).mono ?_; rintro e w2 ⟨rfl, hg2⟩; have ha2 := gb_trans ha1 hg2; have b2 := cell_kept b1 hg2))
  go_ret
  exact ⟨rfl, ha2⟩
set_option maxRecDepth 100000 in
set_option maxHeartbeats 12800000 in
theorem back_y_bad (l : List PN) (S : Nat → Prop) (v : Value) (s : ByteArray) (w : World) (h : Given w l S v) (hsm : smallP l = true) (hs : ¬ 9000 < s.size) (hc : (textP l).2 = 0 ∧ (textP l).1.length ≤ 8192) (hr : (parseP s).2.2 ≠ 0) :
    Calls Tryd.prog 10 #[.agg #[v], .string s] w fun e w' => e = .returned (.bool true) ∧ w.grownBy w' none := by
  have hL := fun W (hg : w.grownBy W none) => Lib.hid (h.lives W hg)
  have hS1 := fun W (hg : w.grownBy W none) => Lib.hid (small_any l S v W h.len (h.n.later h.lt hg).1 (h.n.later h.lt hg).2)
  obtain ⟨A, c, rfl, hA⟩ := id h.n
  have b0 := box_c0 w (.slice A l.length c)
  have hg0 := gb_alloc (gb_refl w none) (.cells #[.slice A l.length c] 48)
  have hl200 : l.length ≤ 200 := by unfold smallP at hsm; rw [Bool.and_eq_true, decide_eq_true_eq] at hsm; exact hsm.1
  rw [hsm] at hS1
  have hsI : ¬ (9000 : Int) < (s.size : Int) := by omega
  have hT1 := fun W (hg : w.grownBy W none) => h.text (q := l) (by omega) W hg (h.n.later h.lt hg).1 (h.n.later h.lt hg).2
  have hx1 : (textP l).1.length ≤ 8192 := hc.2
  have hP1 := fun W (hg : w.grownBy W none) => h.parse (bs (textP l).1) (by rw [bs_size]; omega) W hg
  rw [(parse_textP hc.1 hc.2).1] at hP1
  have hE1 := fun W (hg : w.grownBy W none) (S' : Nat → Prop) (u : Value) (hN : NodesAt W S' u l) (hS' : ∀ b, S' b → b < W.heap.size) => Lib.hid (same_any l l S S' _ u W (by omega) (by omega) (h.n.later h.lt hg).1 hN (h.n.later h.lt hg).2 hS')
  rw [decide_eq_true rfl] at hE1
  rw [hc.1] at hT1
  have hbz : (bs (textP l).1).size = (textP l).1.length := bs_size _
  have hbI : ((bs (textP l).1).size : Int) ≤ 8192 := by omega
  generalize bs (textP l).1 = x1 at *
  have hP2 := fun W (hg : w.grownBy W none) => h.parse s (by omega) W hg
  have hq64 := parseP_64 s
  obtain ⟨q, at2, e2, hq⟩ : ∃ q at2 e2, parseP s = (q, at2, e2) := ⟨_, _, _, rfl⟩
  rw [hq] at hP2 hr hq64
  simp only at hr hq64
  have heb : (e2 != 0) = true := by simpa using hr
  clear hA
  go_enter Tryd.func10, Tryd.ntmps10
  go_wp2_with (first
    | (go_at_call 33; have hmk := ha5; refine ((hP2 _ ha5).out).mono ?_; rintro e w6 ⟨v6, S6, rfl, hN6, hS6, hg6⟩; obtain ⟨A6, c6, rfl, hA6⟩ := id hN6; have hS6' := fun b hb => (hS6 b hb).2; clear hA6; have hgb6 := gb_alloc (gb_refl w6 none) (.cells #[.slice A6 q.length c6] 48); have ha6 := gb_trans (gb_trans ha5 hg6) hgb6; have k6 := box_c0 w6 (.slice A6 q.length c6); have hn6 := hN6.later hS6' hgb6)
    | (go_at_call 36; refine ((hE1 _ ha4 _ _ hn4.1 hn4.2).out).mono ?_; rintro e w5 ⟨rfl, hg5⟩; have ha5 := gb_trans ha4 hg5)
    | (go_at_call 33; have hmk := b3; refine ((hP1 _ ha3).out).mono ?_; rintro e w4 ⟨v4, S4, rfl, hN4, hS4, hg4⟩; obtain ⟨A4, c4, rfl, hA4⟩ := id hN4; have hS4' := fun b hb => (hS4 b hb).2; clear hA4; have hgb4 := gb_alloc (gb_refl w4 none) (.cells #[.slice A4 l.length c4] 48); have ha4 := gb_trans (gb_trans ha3 hg4) hgb4; have b4 := cell_kept (cell_kept b3 hg4) hgb4; have k4 := box_c0 w4 (.slice A4 l.length c4); have hn4 := hN4.later hS4' hgb4)
    | (go_at_call 32; refine ((hL _ hg0).out).mono ?_; rintro e w1 ⟨rfl, hg1⟩; have ha1 := gb_trans hg0 hg1; have b1 := cell_kept b0 hg1)
    | (go_at_call 37; refine ((hS1 _ ha1).out).mono ?_; rintro e w2 ⟨rfl, hg2⟩; have ha2 := gb_trans ha1 hg2; have b2 := cell_kept b1 hg2)
    | (go_at_call 34; refine ((hT1 _ ha2).out).mono ?_; rintro e w3 ⟨rfl, hg3⟩; have ha3 := gb_trans ha2 hg3; have b3 := cell_kept b2 hg3))
  go_ret
  exact ⟨rfl, ha6⟩
set_option maxRecDepth 100000 in
set_option maxHeartbeats 12800000 in
theorem back_y_ok (l : List PN) (S : Nat → Prop) (v : Value) (s : ByteArray) (w : World) (h : Given w l S v) (hsm : smallP l = true) (hs : ¬ 9000 < s.size) (hc : (textP l).2 = 0 ∧ (textP l).1.length ≤ 8192) (hr : (parseP s).2.2 = 0) (hy : (textP (parseP s).1).1.length ≤ 8192) :
    Calls Tryd.prog 10 #[.agg #[v], .string s] w fun e w' => e = .returned (.bool true) ∧ w.grownBy w' none := by
  have hL := fun W (hg : w.grownBy W none) => Lib.hid (h.lives W hg)
  have hS1 := fun W (hg : w.grownBy W none) => Lib.hid (small_any l S v W h.len (h.n.later h.lt hg).1 (h.n.later h.lt hg).2)
  obtain ⟨A, c, rfl, hA⟩ := id h.n
  have b0 := box_c0 w (.slice A l.length c)
  have hg0 := gb_alloc (gb_refl w none) (.cells #[.slice A l.length c] 48)
  have hl200 : l.length ≤ 200 := by unfold smallP at hsm; rw [Bool.and_eq_true, decide_eq_true_eq] at hsm; exact hsm.1
  rw [hsm] at hS1
  have hsI : ¬ (9000 : Int) < (s.size : Int) := by omega
  have hT1 := fun W (hg : w.grownBy W none) => h.text (q := l) (by omega) W hg (h.n.later h.lt hg).1 (h.n.later h.lt hg).2
  have hx1 : (textP l).1.length ≤ 8192 := hc.2
  have hP1 := fun W (hg : w.grownBy W none) => h.parse (bs (textP l).1) (by rw [bs_size]; omega) W hg
  rw [(parse_textP hc.1 hc.2).1] at hP1
  have hE1 := fun W (hg : w.grownBy W none) (S' : Nat → Prop) (u : Value) (hN : NodesAt W S' u l) (hS' : ∀ b, S' b → b < W.heap.size) => Lib.hid (same_any l l S S' _ u W (by omega) (by omega) (h.n.later h.lt hg).1 hN (h.n.later h.lt hg).2 hS')
  rw [decide_eq_true rfl] at hE1
  rw [hc.1] at hT1
  have hbz : (bs (textP l).1).size = (textP l).1.length := bs_size _
  have hbI : ((bs (textP l).1).size : Int) ≤ 8192 := by omega
  generalize bs (textP l).1 = x1 at *
  have hP2 := fun W (hg : w.grownBy W none) => h.parse s (by omega) W hg
  have hq64 := parseP_64 s
  have hck := parseP_ok hr
  obtain ⟨q, at2, e2, hq⟩ : ∃ q at2 e2, parseP s = (q, at2, e2) := ⟨_, _, _, rfl⟩
  rw [hq] at hP2 hr hq64 hck hy
  simp only at hr hq64 hck hy
  subst hr
  have hY : Hid (textP q = ((treeOf q hck).tx, 0)) := textP_ok hck
  have hyl := textP_len q
  have hY2 : (textP q).2 = 0 := by rw [hY.out]
  have hY1 : Hid ((textP q).1 = (treeOf q hck).tx) := by unfold Hid; rw [hY.out]
  have hP3 := fun W (hg : w.grownBy W none) => h.parse (bs (textP q).1) (by rw [bs_size]; omega) W hg
  rw [(parse_textP hY2 hy).1, hY1.out] at hP3
  have hbz3 : (bs (textP q).1).size = (textP q).1.length := bs_size _
  rw [hY1.out] at hbz3 hy
  have hybI : ¬ (8192 : Int) < ((bs (treeOf q hck).tx).size : Int) := by omega
  obtain ⟨r, hqr⟩ : ∃ r, Hid (q = r) := ⟨q, rfl⟩
  have hP4 := fun W (hg : w.grownBy W none) => Lib.hid (hP3 W hg)
  have hr64 : r.length ≤ 64 := by rw [← hqr.out]; exact hq64
  have hP3 : ∀ W, w.grownBy W none → Hid (Calls Tryd.prog 33 #[.string (bs (treeOf q hck).tx)] W (RP W (r, 0, 0))) := fun W hg => by rw [← hqr.out]; exact (hP4 W hg).out
  have hZ : Hid (textP r = ((treeOf q hck).tx, 0)) := by rw [← hqr.out]; exact hY
  have hT2 : ∀ (S' : Nat → Prop) (u : Value) (W : World), w.grownBy W none → NodesAt W S' u q → (∀ b, S' b → b < W.heap.size) → Hid (Calls Tryd.prog 34 #[.agg #[u]] W fun e w' => e = .returned (.tuple #[.string (bs (treeOf q hck).tx), .int .i64 0]) ∧ W.grownBy w' none) := fun S' u W hg hN hS => by
    have := h.text (q := q) (by omega) W hg hN hS
    rw [hY.out] at this
    exact this
  have hT3 : ∀ (S' : Nat → Prop) (u : Value) (W : World), w.grownBy W none → NodesAt W S' u r → (∀ b, S' b → b < W.heap.size) → Hid (Calls Tryd.prog 34 #[.agg #[u]] W fun e w' => e = .returned (.tuple #[.string (bs (treeOf q hck).tx), .int .i64 0]) ∧ W.grownBy w' none) := fun S' u W hg hN hS => by
    have := h.text (q := r) (by omega) W hg hN hS
    rw [hZ.out] at this
    exact this
  clear hA hY1 hY2 hP4 hbz3 hZ hY
  generalize (treeOf q hck).tx = ty at *
  generalize bs ty = yb at *
  go_enter Tryd.func10, Tryd.ntmps10
  go_wp2_with (first
    | (go_at_call 36; have hmk := hn9; refine (Lib.hid (same_any q r _ _ _ _ _ (by omega) (by omega) hp9.1 hn9.1 hp9.2 hn9.2)).out.mono ?_; rintro e wA ⟨he, hgA⟩; rw [decide_eq_true hqr.out] at he; subst he; have haA := gb_trans ha9 hgA)
    | (go_at_call 34; have hmk := hn8; refine ((hT3 _ _ _ ha8 hn8.1 hn8.2).out).mono ?_; rintro e w9 ⟨rfl, hg9⟩; have ha9 := gb_trans ha8 hg9; have k9 := cell_kept k8 hg9; have m9 := cell_kept m8 hg9; have hn9 := hn8.1.later hn8.2 hg9; have hp9 := hp8.1.later hp8.2 hg9)
    | (go_at_call 33; have hmk := hn7; refine ((hP3 _ ha7).out).mono ?_; rintro e w8 ⟨v8, S8, rfl, hN8, hS8, hg8⟩; obtain ⟨A8, c8, rfl, hA8⟩ := id hN8; have hS8' := fun b hb => (hS8 b hb).2; clear hA8; have hgb8 := gb_alloc (gb_refl w8 none) (.cells #[.slice A8 r.length c8] 48); have ha8 := gb_trans (gb_trans ha7 hg8) hgb8; have k8 := cell_kept (cell_kept k7 hg8) hgb8; have m8 := box_c0 w8 (.slice A8 r.length c8); have hn8 := hN8.later hS8' hgb8; have hp8 := hn7.1.later hn7.2 (gb_trans hg8 hgb8))
    | (go_at_call 34; have hmk := hn6; refine ((hT2 _ _ _ ha6 hn6.1 hn6.2).out).mono ?_; rintro e w7 ⟨rfl, hg7⟩; have ha7 := gb_trans ha6 hg7; have k7 := cell_kept k6 hg7; have hn7 := hn6.1.later hn6.2 hg7)
    | (go_at_call 33; have hmk := ha5; refine ((hP2 _ ha5).out).mono ?_; rintro e w6 ⟨v6, S6, rfl, hN6, hS6, hg6⟩; obtain ⟨A6, c6, rfl, hA6⟩ := id hN6; have hS6' := fun b hb => (hS6 b hb).2; clear hA6; have hgb6 := gb_alloc (gb_refl w6 none) (.cells #[.slice A6 q.length c6] 48); have ha6 := gb_trans (gb_trans ha5 hg6) hgb6; have k6 := box_c0 w6 (.slice A6 q.length c6); have hn6 := hN6.later hS6' hgb6)
    | (go_at_call 36; refine ((hE1 _ ha4 _ _ hn4.1 hn4.2).out).mono ?_; rintro e w5 ⟨rfl, hg5⟩; have ha5 := gb_trans ha4 hg5)
    | (go_at_call 33; have hmk := b3; refine ((hP1 _ ha3).out).mono ?_; rintro e w4 ⟨v4, S4, rfl, hN4, hS4, hg4⟩; obtain ⟨A4, c4, rfl, hA4⟩ := id hN4; have hS4' := fun b hb => (hS4 b hb).2; clear hA4; have hgb4 := gb_alloc (gb_refl w4 none) (.cells #[.slice A4 l.length c4] 48); have ha4 := gb_trans (gb_trans ha3 hg4) hgb4; have b4 := cell_kept (cell_kept b3 hg4) hgb4; have k4 := box_c0 w4 (.slice A4 l.length c4); have hn4 := hN4.later hS4' hgb4)
    | (go_at_call 32; refine ((hL _ hg0).out).mono ?_; rintro e w1 ⟨rfl, hg1⟩; have ha1 := gb_trans hg0 hg1; have b1 := cell_kept b0 hg1)
    | (go_at_call 37; refine ((hS1 _ ha1).out).mono ?_; rintro e w2 ⟨rfl, hg2⟩; have ha2 := gb_trans ha1 hg2; have b2 := cell_kept b1 hg2)
    | (go_at_call 34; refine ((hT1 _ ha2).out).mono ?_; rintro e w3 ⟨rfl, hg3⟩; have ha3 := gb_trans ha2 hg3; have b3 := cell_kept b2 hg3))
  go_ret
  exact ⟨rfl, haA⟩
set_option maxRecDepth 100000 in
set_option maxHeartbeats 12800000 in
theorem back_y_far (l : List PN) (S : Nat → Prop) (v : Value) (s : ByteArray) (w : World) (h : Given w l S v) (hsm : smallP l = true) (hs : ¬ 9000 < s.size) (hc : (textP l).2 = 0 ∧ (textP l).1.length ≤ 8192) (hr : (parseP s).2.2 = 0) (hy : ¬ (textP (parseP s).1).1.length ≤ 8192) :
    Calls Tryd.prog 10 #[.agg #[v], .string s] w fun e w' => e = .returned (.bool true) ∧ w.grownBy w' none := by
  have hL := fun W (hg : w.grownBy W none) => Lib.hid (h.lives W hg)
  have hS1 := fun W (hg : w.grownBy W none) => Lib.hid (small_any l S v W h.len (h.n.later h.lt hg).1 (h.n.later h.lt hg).2)
  obtain ⟨A, c, rfl, hA⟩ := id h.n
  have b0 := box_c0 w (.slice A l.length c)
  have hg0 := gb_alloc (gb_refl w none) (.cells #[.slice A l.length c] 48)
  have hl200 : l.length ≤ 200 := by unfold smallP at hsm; rw [Bool.and_eq_true, decide_eq_true_eq] at hsm; exact hsm.1
  rw [hsm] at hS1
  have hsI : ¬ (9000 : Int) < (s.size : Int) := by omega
  have hT1 := fun W (hg : w.grownBy W none) => h.text (q := l) (by omega) W hg (h.n.later h.lt hg).1 (h.n.later h.lt hg).2
  have hx1 : (textP l).1.length ≤ 8192 := hc.2
  have hP1 := fun W (hg : w.grownBy W none) => h.parse (bs (textP l).1) (by rw [bs_size]; omega) W hg
  rw [(parse_textP hc.1 hc.2).1] at hP1
  have hE1 := fun W (hg : w.grownBy W none) (S' : Nat → Prop) (u : Value) (hN : NodesAt W S' u l) (hS' : ∀ b, S' b → b < W.heap.size) => Lib.hid (same_any l l S S' _ u W (by omega) (by omega) (h.n.later h.lt hg).1 hN (h.n.later h.lt hg).2 hS')
  rw [decide_eq_true rfl] at hE1
  rw [hc.1] at hT1
  have hbz : (bs (textP l).1).size = (textP l).1.length := bs_size _
  have hbI : ((bs (textP l).1).size : Int) ≤ 8192 := by omega
  generalize bs (textP l).1 = x1 at *
  have hP2 := fun W (hg : w.grownBy W none) => h.parse s (by omega) W hg
  have hq64 := parseP_64 s
  have hck := parseP_ok hr
  obtain ⟨q, at2, e2, hq⟩ : ∃ q at2 e2, parseP s = (q, at2, e2) := ⟨_, _, _, rfl⟩
  rw [hq] at hP2 hr hq64 hck hy
  simp only at hr hq64 hck hy
  subst hr
  have hY : Hid (textP q = ((treeOf q hck).tx, 0)) := textP_ok hck
  have hyl := textP_len q
  have hY2 : (textP q).2 = 0 := by rw [hY.out]
  have hY1 : Hid ((textP q).1 = (treeOf q hck).tx) := by unfold Hid; rw [hY.out]
  have hbz3 : (bs (textP q).1).size = (textP q).1.length := bs_size _
  rw [hY1.out] at hbz3 hy hyl
  have hybI : (8192 : Int) < ((bs (treeOf q hck).tx).size : Int) := by omega
  have hP3 := fun W (hg : w.grownBy W none) => h.parse (bs (treeOf q hck).tx) (by omega) W hg
  obtain ⟨r, at3, e3, hr3⟩ : ∃ r at3 e3, parseP (bs (treeOf q hck).tx) = (r, at3, e3) := ⟨_, _, _, rfl⟩
  have hr64 := parseP_64 (bs (treeOf q hck).tx)
  rw [hr3] at hP3 hr64
  simp only at hr64
  obtain ⟨zx, ze, hZ⟩ : ∃ zx ze, Hid (textP r = (zx, ze)) := ⟨_, _, rfl⟩
  have hT2 : ∀ (S' : Nat → Prop) (u : Value) (W : World), w.grownBy W none → NodesAt W S' u q → (∀ b, S' b → b < W.heap.size) → Hid (Calls Tryd.prog 34 #[.agg #[u]] W fun e w' => e = .returned (.tuple #[.string (bs (treeOf q hck).tx), .int .i64 0]) ∧ W.grownBy w' none) := fun S' u W hg hN hS => by
    have := h.text (q := q) (by omega) W hg hN hS
    rw [hY.out] at this
    exact this
  have hT3 : ∀ (S' : Nat → Prop) (u : Value) (W : World), w.grownBy W none → NodesAt W S' u r → (∀ b, S' b → b < W.heap.size) → Hid (Calls Tryd.prog 34 #[.agg #[u]] W fun e w' => e = .returned (.tuple #[.string (bs zx), .int .i64 ze]) ∧ W.grownBy w' none) := fun S' u W hg hN hS => by
    have := h.text (q := r) (by omega) W hg hN hS
    rw [hZ.out] at this
    exact this
  clear hA hY1 hY2 hr3 hZ hY
  generalize bs zx = zb at *
  generalize (treeOf q hck).tx = ty at *
  generalize bs ty = yb at *
  go_enter Tryd.func10, Tryd.ntmps10
  go_wp2_with (first
    | (go_at_call 34; have hmk := hn8; refine ((hT3 _ _ _ ha8 hn8.1 hn8.2).out).mono ?_; rintro e w9 ⟨rfl, hg9⟩; have ha9 := gb_trans ha8 hg9; have k9 := cell_kept k8 hg9; have m9 := cell_kept m8 hg9; have hn9 := hn8.1.later hn8.2 hg9; have hp9 := hp8.1.later hp8.2 hg9)
    | (go_at_call 33; have hmk := hn7; refine ((hP3 _ ha7).out).mono ?_; rintro e w8 ⟨v8, S8, rfl, hN8, hS8, hg8⟩; obtain ⟨A8, c8, rfl, hA8⟩ := id hN8; have hS8' := fun b hb => (hS8 b hb).2; clear hA8; have hgb8 := gb_alloc (gb_refl w8 none) (.cells #[.slice A8 r.length c8] 48); have ha8 := gb_trans (gb_trans ha7 hg8) hgb8; have k8 := cell_kept (cell_kept k7 hg8) hgb8; have m8 := box_c0 w8 (.slice A8 r.length c8); have hn8 := hN8.later hS8' hgb8; have hp8 := hn7.1.later hn7.2 (gb_trans hg8 hgb8))
    | (go_at_call 34; have hmk := hn6; refine ((hT2 _ _ _ ha6 hn6.1 hn6.2).out).mono ?_; rintro e w7 ⟨rfl, hg7⟩; have ha7 := gb_trans ha6 hg7; have k7 := cell_kept k6 hg7; have hn7 := hn6.1.later hn6.2 hg7)
    | (go_at_call 33; have hmk := ha5; refine ((hP2 _ ha5).out).mono ?_; rintro e w6 ⟨v6, S6, rfl, hN6, hS6, hg6⟩; obtain ⟨A6, c6, rfl, hA6⟩ := id hN6; have hS6' := fun b hb => (hS6 b hb).2; clear hA6; have hgb6 := gb_alloc (gb_refl w6 none) (.cells #[.slice A6 q.length c6] 48); have ha6 := gb_trans (gb_trans ha5 hg6) hgb6; have k6 := box_c0 w6 (.slice A6 q.length c6); have hn6 := hN6.later hS6' hgb6)
    | (go_at_call 36; refine ((hE1 _ ha4 _ _ hn4.1 hn4.2).out).mono ?_; rintro e w5 ⟨rfl, hg5⟩; have ha5 := gb_trans ha4 hg5)
    | (go_at_call 33; have hmk := b3; refine ((hP1 _ ha3).out).mono ?_; rintro e w4 ⟨v4, S4, rfl, hN4, hS4, hg4⟩; obtain ⟨A4, c4, rfl, hA4⟩ := id hN4; have hS4' := fun b hb => (hS4 b hb).2; clear hA4; have hgb4 := gb_alloc (gb_refl w4 none) (.cells #[.slice A4 l.length c4] 48); have ha4 := gb_trans (gb_trans ha3 hg4) hgb4; have b4 := cell_kept (cell_kept b3 hg4) hgb4; have k4 := box_c0 w4 (.slice A4 l.length c4); have hn4 := hN4.later hS4' hgb4)
    | (go_at_call 32; refine ((hL _ hg0).out).mono ?_; rintro e w1 ⟨rfl, hg1⟩; have ha1 := gb_trans hg0 hg1; have b1 := cell_kept b0 hg1)
    | (go_at_call 37; refine ((hS1 _ ha1).out).mono ?_; rintro e w2 ⟨rfl, hg2⟩; have ha2 := gb_trans ha1 hg2; have b2 := cell_kept b1 hg2)
    | (go_at_call 34; refine ((hT1 _ ha2).out).mono ?_; rintro e w3 ⟨rfl, hg3⟩; have ha3 := gb_trans ha2 hg3; have b3 := cell_kept b2 hg3))
  go_ret
  exact ⟨rfl, ha9⟩
set_option maxRecDepth 100000 in
set_option maxHeartbeats 12800000 in
theorem back_n1_bad (l : List PN) (S : Nat → Prop) (v : Value) (s : ByteArray) (w : World) (h : Given w l S v) (hsm : smallP l = true) (hs : ¬ 9000 < s.size) (hc : (textP l).2 ≠ 0) (hr : (parseP s).2.2 ≠ 0) :
    Calls Tryd.prog 10 #[.agg #[v], .string s] w fun e w' => e = .returned (.bool true) ∧ w.grownBy w' none := by
  have hL := fun W (hg : w.grownBy W none) => Lib.hid (h.lives W hg)
  have hS1 := fun W (hg : w.grownBy W none) => Lib.hid (small_any l S v W h.len (h.n.later h.lt hg).1 (h.n.later h.lt hg).2)
  obtain ⟨A, c, rfl, hA⟩ := id h.n
  have b0 := box_c0 w (.slice A l.length c)
  have hg0 := gb_alloc (gb_refl w none) (.cells #[.slice A l.length c] 48)
  have hl200 : l.length ≤ 200 := by unfold smallP at hsm; rw [Bool.and_eq_true, decide_eq_true_eq] at hsm; exact hsm.1
  rw [hsm] at hS1
  have hsI : ¬ (9000 : Int) < (s.size : Int) := by omega
  have hT1 := fun W (hg : w.grownBy W none) => h.text (q := l) (by omega) W hg (h.n.later h.lt hg).1 (h.n.later h.lt hg).2
  have hbz : (bs (textP l).1).size = (textP l).1.length := bs_size _
  generalize bs (textP l).1 = x1 at *
  generalize (textP l).1.length = n1 at *
  generalize (textP l).2 = e1 at *
  have hcb : (e1 == 0) = false := by simpa using hc
  have hP2 := fun W (hg : w.grownBy W none) => h.parse s (by omega) W hg
  have hq64 := parseP_64 s
  obtain ⟨q, at2, e2, hq⟩ : ∃ q at2 e2, parseP s = (q, at2, e2) := ⟨_, _, _, rfl⟩
  rw [hq] at hP2 hr hq64
  simp only at hr hq64
  have heb : (e2 != 0) = true := by simpa using hr
  clear hA
  go_enter Tryd.func10, Tryd.ntmps10
  go_wp2_with (first
    | (go_at_call 33; have hmk := b3; refine ((hP2 _ ha3).out).mono ?_; rintro e w6 ⟨v6, S6, rfl, hN6, hS6, hg6⟩; obtain ⟨A6, c6, rfl, hA6⟩ := id hN6; have hS6' := fun b hb => (hS6 b hb).2; clear hA6; have hgb6 := gb_alloc (gb_refl w6 none) (.cells #[.slice A6 q.length c6] 48); have ha6 := gb_trans (gb_trans ha3 hg6) hgb6; have k6 := box_c0 w6 (.slice A6 q.length c6); have hn6 := hN6.later hS6' hgb6)
    | (go_at_call 32; refine ((hL _ hg0).out).mono ?_; rintro e w1 ⟨rfl, hg1⟩; have ha1 := gb_trans hg0 hg1; have b1 := cell_kept b0 hg1)
    | (go_at_call 37; refine ((hS1 _ ha1).out).mono ?_; rintro e w2 ⟨rfl, hg2⟩; have ha2 := gb_trans ha1 hg2; have b2 := cell_kept b1 hg2)
    | (go_at_call 34; refine ((hT1 _ ha2).out).mono ?_; rintro e w3 ⟨rfl, hg3⟩; have ha3 := gb_trans ha2 hg3; have b3 := cell_kept b2 hg3))
  go_ret
  exact ⟨rfl, ha6⟩
set_option maxRecDepth 100000 in
set_option maxHeartbeats 12800000 in
theorem back_n1_ok (l : List PN) (S : Nat → Prop) (v : Value) (s : ByteArray) (w : World) (h : Given w l S v) (hsm : smallP l = true) (hs : ¬ 9000 < s.size) (hc : (textP l).2 ≠ 0) (hr : (parseP s).2.2 = 0) (hy : (textP (parseP s).1).1.length ≤ 8192) :
    Calls Tryd.prog 10 #[.agg #[v], .string s] w fun e w' => e = .returned (.bool true) ∧ w.grownBy w' none := by
  have hL := fun W (hg : w.grownBy W none) => Lib.hid (h.lives W hg)
  have hS1 := fun W (hg : w.grownBy W none) => Lib.hid (small_any l S v W h.len (h.n.later h.lt hg).1 (h.n.later h.lt hg).2)
  obtain ⟨A, c, rfl, hA⟩ := id h.n
  have b0 := box_c0 w (.slice A l.length c)
  have hg0 := gb_alloc (gb_refl w none) (.cells #[.slice A l.length c] 48)
  have hl200 : l.length ≤ 200 := by unfold smallP at hsm; rw [Bool.and_eq_true, decide_eq_true_eq] at hsm; exact hsm.1
  rw [hsm] at hS1
  have hsI : ¬ (9000 : Int) < (s.size : Int) := by omega
  have hT1 := fun W (hg : w.grownBy W none) => h.text (q := l) (by omega) W hg (h.n.later h.lt hg).1 (h.n.later h.lt hg).2
  have hbz : (bs (textP l).1).size = (textP l).1.length := bs_size _
  generalize bs (textP l).1 = x1 at *
  generalize (textP l).1.length = n1 at *
  generalize (textP l).2 = e1 at *
  have hcb : (e1 == 0) = false := by simpa using hc
  have hP2 := fun W (hg : w.grownBy W none) => h.parse s (by omega) W hg
  have hq64 := parseP_64 s
  have hck := parseP_ok hr
  obtain ⟨q, at2, e2, hq⟩ : ∃ q at2 e2, parseP s = (q, at2, e2) := ⟨_, _, _, rfl⟩
  rw [hq] at hP2 hr hq64 hck hy
  simp only at hr hq64 hck hy
  subst hr
  have hY : Hid (textP q = ((treeOf q hck).tx, 0)) := textP_ok hck
  have hyl := textP_len q
  have hY2 : (textP q).2 = 0 := by rw [hY.out]
  have hY1 : Hid ((textP q).1 = (treeOf q hck).tx) := by unfold Hid; rw [hY.out]
  have hP3 := fun W (hg : w.grownBy W none) => h.parse (bs (textP q).1) (by rw [bs_size]; omega) W hg
  rw [(parse_textP hY2 hy).1, hY1.out] at hP3
  have hbz3 : (bs (textP q).1).size = (textP q).1.length := bs_size _
  rw [hY1.out] at hbz3 hy
  have hybI : ¬ (8192 : Int) < ((bs (treeOf q hck).tx).size : Int) := by omega
  obtain ⟨r, hqr⟩ : ∃ r, Hid (q = r) := ⟨q, rfl⟩
  have hP4 := fun W (hg : w.grownBy W none) => Lib.hid (hP3 W hg)
  have hr64 : r.length ≤ 64 := by rw [← hqr.out]; exact hq64
  have hP3 : ∀ W, w.grownBy W none → Hid (Calls Tryd.prog 33 #[.string (bs (treeOf q hck).tx)] W (RP W (r, 0, 0))) := fun W hg => by rw [← hqr.out]; exact (hP4 W hg).out
  have hZ : Hid (textP r = ((treeOf q hck).tx, 0)) := by rw [← hqr.out]; exact hY
  have hT2 : ∀ (S' : Nat → Prop) (u : Value) (W : World), w.grownBy W none → NodesAt W S' u q → (∀ b, S' b → b < W.heap.size) → Hid (Calls Tryd.prog 34 #[.agg #[u]] W fun e w' => e = .returned (.tuple #[.string (bs (treeOf q hck).tx), .int .i64 0]) ∧ W.grownBy w' none) := fun S' u W hg hN hS => by
    have := h.text (q := q) (by omega) W hg hN hS
    rw [hY.out] at this
    exact this
  have hT3 : ∀ (S' : Nat → Prop) (u : Value) (W : World), w.grownBy W none → NodesAt W S' u r → (∀ b, S' b → b < W.heap.size) → Hid (Calls Tryd.prog 34 #[.agg #[u]] W fun e w' => e = .returned (.tuple #[.string (bs (treeOf q hck).tx), .int .i64 0]) ∧ W.grownBy w' none) := fun S' u W hg hN hS => by
    have := h.text (q := r) (by omega) W hg hN hS
    rw [hZ.out] at this
    exact this
  clear hA hY1 hY2 hP4 hbz3 hZ hY
  generalize (treeOf q hck).tx = ty at *
  generalize bs ty = yb at *
  go_enter Tryd.func10, Tryd.ntmps10
  go_wp2_with (first
    | (go_at_call 36; have hmk := hn9; refine (Lib.hid (same_any q r _ _ _ _ _ (by omega) (by omega) hp9.1 hn9.1 hp9.2 hn9.2)).out.mono ?_; rintro e wA ⟨he, hgA⟩; rw [decide_eq_true hqr.out] at he; subst he; have haA := gb_trans ha9 hgA)
    | (go_at_call 34; have hmk := hn8; refine ((hT3 _ _ _ ha8 hn8.1 hn8.2).out).mono ?_; rintro e w9 ⟨rfl, hg9⟩; have ha9 := gb_trans ha8 hg9; have k9 := cell_kept k8 hg9; have m9 := cell_kept m8 hg9; have hn9 := hn8.1.later hn8.2 hg9; have hp9 := hp8.1.later hp8.2 hg9)
    | (go_at_call 33; have hmk := hn7; refine ((hP3 _ ha7).out).mono ?_; rintro e w8 ⟨v8, S8, rfl, hN8, hS8, hg8⟩; obtain ⟨A8, c8, rfl, hA8⟩ := id hN8; have hS8' := fun b hb => (hS8 b hb).2; clear hA8; have hgb8 := gb_alloc (gb_refl w8 none) (.cells #[.slice A8 r.length c8] 48); have ha8 := gb_trans (gb_trans ha7 hg8) hgb8; have k8 := cell_kept (cell_kept k7 hg8) hgb8; have m8 := box_c0 w8 (.slice A8 r.length c8); have hn8 := hN8.later hS8' hgb8; have hp8 := hn7.1.later hn7.2 (gb_trans hg8 hgb8))
    | (go_at_call 34; have hmk := hn6; refine ((hT2 _ _ _ ha6 hn6.1 hn6.2).out).mono ?_; rintro e w7 ⟨rfl, hg7⟩; have ha7 := gb_trans ha6 hg7; have k7 := cell_kept k6 hg7; have hn7 := hn6.1.later hn6.2 hg7)
    | (go_at_call 33; have hmk := b3; refine ((hP2 _ ha3).out).mono ?_; rintro e w6 ⟨v6, S6, rfl, hN6, hS6, hg6⟩; obtain ⟨A6, c6, rfl, hA6⟩ := id hN6; have hS6' := fun b hb => (hS6 b hb).2; clear hA6; have hgb6 := gb_alloc (gb_refl w6 none) (.cells #[.slice A6 q.length c6] 48); have ha6 := gb_trans (gb_trans ha3 hg6) hgb6; have k6 := box_c0 w6 (.slice A6 q.length c6); have hn6 := hN6.later hS6' hgb6)
    | (go_at_call 32; refine ((hL _ hg0).out).mono ?_; rintro e w1 ⟨rfl, hg1⟩; have ha1 := gb_trans hg0 hg1; have b1 := cell_kept b0 hg1)
    | (go_at_call 37; refine ((hS1 _ ha1).out).mono ?_; rintro e w2 ⟨rfl, hg2⟩; have ha2 := gb_trans ha1 hg2; have b2 := cell_kept b1 hg2)
    | (go_at_call 34; refine ((hT1 _ ha2).out).mono ?_; rintro e w3 ⟨rfl, hg3⟩; have ha3 := gb_trans ha2 hg3; have b3 := cell_kept b2 hg3))
  go_ret
  exact ⟨rfl, haA⟩
set_option maxRecDepth 100000 in
set_option maxHeartbeats 12800000 in
theorem back_n1_far (l : List PN) (S : Nat → Prop) (v : Value) (s : ByteArray) (w : World) (h : Given w l S v) (hsm : smallP l = true) (hs : ¬ 9000 < s.size) (hc : (textP l).2 ≠ 0) (hr : (parseP s).2.2 = 0) (hy : ¬ (textP (parseP s).1).1.length ≤ 8192) :
    Calls Tryd.prog 10 #[.agg #[v], .string s] w fun e w' => e = .returned (.bool true) ∧ w.grownBy w' none := by
  have hL := fun W (hg : w.grownBy W none) => Lib.hid (h.lives W hg)
  have hS1 := fun W (hg : w.grownBy W none) => Lib.hid (small_any l S v W h.len (h.n.later h.lt hg).1 (h.n.later h.lt hg).2)
  obtain ⟨A, c, rfl, hA⟩ := id h.n
  have b0 := box_c0 w (.slice A l.length c)
  have hg0 := gb_alloc (gb_refl w none) (.cells #[.slice A l.length c] 48)
  have hl200 : l.length ≤ 200 := by unfold smallP at hsm; rw [Bool.and_eq_true, decide_eq_true_eq] at hsm; exact hsm.1
  rw [hsm] at hS1
  have hsI : ¬ (9000 : Int) < (s.size : Int) := by omega
  have hT1 := fun W (hg : w.grownBy W none) => h.text (q := l) (by omega) W hg (h.n.later h.lt hg).1 (h.n.later h.lt hg).2
  have hbz : (bs (textP l).1).size = (textP l).1.length := bs_size _
  generalize bs (textP l).1 = x1 at *
  generalize (textP l).1.length = n1 at *
  generalize (textP l).2 = e1 at *
  have hcb : (e1 == 0) = false := by simpa using hc
  have hP2 := fun W (hg : w.grownBy W none) => h.parse s (by omega) W hg
  have hq64 := parseP_64 s
  have hck := parseP_ok hr
  obtain ⟨q, at2, e2, hq⟩ : ∃ q at2 e2, parseP s = (q, at2, e2) := ⟨_, _, _, rfl⟩
  rw [hq] at hP2 hr hq64 hck hy
  simp only at hr hq64 hck hy
  subst hr
  have hY : Hid (textP q = ((treeOf q hck).tx, 0)) := textP_ok hck
  have hyl := textP_len q
  have hY2 : (textP q).2 = 0 := by rw [hY.out]
  have hY1 : Hid ((textP q).1 = (treeOf q hck).tx) := by unfold Hid; rw [hY.out]
  have hbz3 : (bs (textP q).1).size = (textP q).1.length := bs_size _
  rw [hY1.out] at hbz3 hy hyl
  have hybI : (8192 : Int) < ((bs (treeOf q hck).tx).size : Int) := by omega
  have hP3 := fun W (hg : w.grownBy W none) => h.parse (bs (treeOf q hck).tx) (by omega) W hg
  obtain ⟨r, at3, e3, hr3⟩ : ∃ r at3 e3, parseP (bs (treeOf q hck).tx) = (r, at3, e3) := ⟨_, _, _, rfl⟩
  have hr64 := parseP_64 (bs (treeOf q hck).tx)
  rw [hr3] at hP3 hr64
  simp only at hr64
  obtain ⟨zx, ze, hZ⟩ : ∃ zx ze, Hid (textP r = (zx, ze)) := ⟨_, _, rfl⟩
  have hT2 : ∀ (S' : Nat → Prop) (u : Value) (W : World), w.grownBy W none → NodesAt W S' u q → (∀ b, S' b → b < W.heap.size) → Hid (Calls Tryd.prog 34 #[.agg #[u]] W fun e w' => e = .returned (.tuple #[.string (bs (treeOf q hck).tx), .int .i64 0]) ∧ W.grownBy w' none) := fun S' u W hg hN hS => by
    have := h.text (q := q) (by omega) W hg hN hS
    rw [hY.out] at this
    exact this
  have hT3 : ∀ (S' : Nat → Prop) (u : Value) (W : World), w.grownBy W none → NodesAt W S' u r → (∀ b, S' b → b < W.heap.size) → Hid (Calls Tryd.prog 34 #[.agg #[u]] W fun e w' => e = .returned (.tuple #[.string (bs zx), .int .i64 ze]) ∧ W.grownBy w' none) := fun S' u W hg hN hS => by
    have := h.text (q := r) (by omega) W hg hN hS
    rw [hZ.out] at this
    exact this
  clear hA hY1 hY2 hr3 hZ hY
  generalize bs zx = zb at *
  generalize (treeOf q hck).tx = ty at *
  generalize bs ty = yb at *
  go_enter Tryd.func10, Tryd.ntmps10
  go_wp2_with (first
    | (go_at_call 34; have hmk := hn8; refine ((hT3 _ _ _ ha8 hn8.1 hn8.2).out).mono ?_; rintro e w9 ⟨rfl, hg9⟩; have ha9 := gb_trans ha8 hg9; have k9 := cell_kept k8 hg9; have m9 := cell_kept m8 hg9; have hn9 := hn8.1.later hn8.2 hg9; have hp9 := hp8.1.later hp8.2 hg9)
    | (go_at_call 33; have hmk := hn7; refine ((hP3 _ ha7).out).mono ?_; rintro e w8 ⟨v8, S8, rfl, hN8, hS8, hg8⟩; obtain ⟨A8, c8, rfl, hA8⟩ := id hN8; have hS8' := fun b hb => (hS8 b hb).2; clear hA8; have hgb8 := gb_alloc (gb_refl w8 none) (.cells #[.slice A8 r.length c8] 48); have ha8 := gb_trans (gb_trans ha7 hg8) hgb8; have k8 := cell_kept (cell_kept k7 hg8) hgb8; have m8 := box_c0 w8 (.slice A8 r.length c8); have hn8 := hN8.later hS8' hgb8; have hp8 := hn7.1.later hn7.2 (gb_trans hg8 hgb8))
    | (go_at_call 34; have hmk := hn6; refine ((hT2 _ _ _ ha6 hn6.1 hn6.2).out).mono ?_; rintro e w7 ⟨rfl, hg7⟩; have ha7 := gb_trans ha6 hg7; have k7 := cell_kept k6 hg7; have hn7 := hn6.1.later hn6.2 hg7)
    | (go_at_call 33; have hmk := b3; refine ((hP2 _ ha3).out).mono ?_; rintro e w6 ⟨v6, S6, rfl, hN6, hS6, hg6⟩; obtain ⟨A6, c6, rfl, hA6⟩ := id hN6; have hS6' := fun b hb => (hS6 b hb).2; clear hA6; have hgb6 := gb_alloc (gb_refl w6 none) (.cells #[.slice A6 q.length c6] 48); have ha6 := gb_trans (gb_trans ha3 hg6) hgb6; have k6 := box_c0 w6 (.slice A6 q.length c6); have hn6 := hN6.later hS6' hgb6)
    | (go_at_call 32; refine ((hL _ hg0).out).mono ?_; rintro e w1 ⟨rfl, hg1⟩; have ha1 := gb_trans hg0 hg1; have b1 := cell_kept b0 hg1)
    | (go_at_call 37; refine ((hS1 _ ha1).out).mono ?_; rintro e w2 ⟨rfl, hg2⟩; have ha2 := gb_trans ha1 hg2; have b2 := cell_kept b1 hg2)
    | (go_at_call 34; refine ((hT1 _ ha2).out).mono ?_; rintro e w3 ⟨rfl, hg3⟩; have ha3 := gb_trans ha2 hg3; have b3 := cell_kept b2 hg3))
  go_ret
  exact ⟨rfl, ha9⟩
set_option maxRecDepth 100000 in
set_option maxHeartbeats 12800000 in
theorem back_n2_bad (l : List PN) (S : Nat → Prop) (v : Value) (s : ByteArray) (w : World) (h : Given w l S v) (hsm : smallP l = true) (hs : ¬ 9000 < s.size) (hc : (textP l).2 = 0 ∧ ¬ (textP l).1.length ≤ 8192) (hr : (parseP s).2.2 ≠ 0) :
    Calls Tryd.prog 10 #[.agg #[v], .string s] w fun e w' => e = .returned (.bool true) ∧ w.grownBy w' none := by
  have hL := fun W (hg : w.grownBy W none) => Lib.hid (h.lives W hg)
  have hS1 := fun W (hg : w.grownBy W none) => Lib.hid (small_any l S v W h.len (h.n.later h.lt hg).1 (h.n.later h.lt hg).2)
  obtain ⟨A, c, rfl, hA⟩ := id h.n
  have b0 := box_c0 w (.slice A l.length c)
  have hg0 := gb_alloc (gb_refl w none) (.cells #[.slice A l.length c] 48)
  have hl200 : l.length ≤ 200 := by unfold smallP at hsm; rw [Bool.and_eq_true, decide_eq_true_eq] at hsm; exact hsm.1
  rw [hsm] at hS1
  have hsI : ¬ (9000 : Int) < (s.size : Int) := by omega
  have hT1 := fun W (hg : w.grownBy W none) => h.text (q := l) (by omega) W hg (h.n.later h.lt hg).1 (h.n.later h.lt hg).2
  have hbz : (bs (textP l).1).size = (textP l).1.length := bs_size _
  generalize bs (textP l).1 = x1 at *
  generalize (textP l).1.length = n1 at *
  generalize (textP l).2 = e1 at *
  have hcb : (e1 == 0) = true := by simp [hc.1]
  have hxI : ¬ ((x1.size : Nat) : Int) ≤ 8192 := by omega
  have hP2 := fun W (hg : w.grownBy W none) => h.parse s (by omega) W hg
  have hq64 := parseP_64 s
  obtain ⟨q, at2, e2, hq⟩ : ∃ q at2 e2, parseP s = (q, at2, e2) := ⟨_, _, _, rfl⟩
  rw [hq] at hP2 hr hq64
  simp only at hr hq64
  have heb : (e2 != 0) = true := by simpa using hr
  clear hA
  go_enter Tryd.func10, Tryd.ntmps10
  go_wp2_with (first
    | (go_at_call 33; have hmk := b3; refine ((hP2 _ ha3).out).mono ?_; rintro e w6 ⟨v6, S6, rfl, hN6, hS6, hg6⟩; obtain ⟨A6, c6, rfl, hA6⟩ := id hN6; have hS6' := fun b hb => (hS6 b hb).2; clear hA6; have hgb6 := gb_alloc (gb_refl w6 none) (.cells #[.slice A6 q.length c6] 48); have ha6 := gb_trans (gb_trans ha3 hg6) hgb6; have k6 := box_c0 w6 (.slice A6 q.length c6); have hn6 := hN6.later hS6' hgb6)
    | (go_at_call 32; refine ((hL _ hg0).out).mono ?_; rintro e w1 ⟨rfl, hg1⟩; have ha1 := gb_trans hg0 hg1; have b1 := cell_kept b0 hg1)
    | (go_at_call 37; refine ((hS1 _ ha1).out).mono ?_; rintro e w2 ⟨rfl, hg2⟩; have ha2 := gb_trans ha1 hg2; have b2 := cell_kept b1 hg2)
    | (go_at_call 34; refine ((hT1 _ ha2).out).mono ?_; rintro e w3 ⟨rfl, hg3⟩; have ha3 := gb_trans ha2 hg3; have b3 := cell_kept b2 hg3))
  go_ret
  exact ⟨rfl, ha6⟩
set_option maxRecDepth 100000 in
set_option maxHeartbeats 12800000 in
theorem back_n2_ok (l : List PN) (S : Nat → Prop) (v : Value) (s : ByteArray) (w : World) (h : Given w l S v) (hsm : smallP l = true) (hs : ¬ 9000 < s.size) (hc : (textP l).2 = 0 ∧ ¬ (textP l).1.length ≤ 8192) (hr : (parseP s).2.2 = 0) (hy : (textP (parseP s).1).1.length ≤ 8192) :
    Calls Tryd.prog 10 #[.agg #[v], .string s] w fun e w' => e = .returned (.bool true) ∧ w.grownBy w' none := by
  have hL := fun W (hg : w.grownBy W none) => Lib.hid (h.lives W hg)
  have hS1 := fun W (hg : w.grownBy W none) => Lib.hid (small_any l S v W h.len (h.n.later h.lt hg).1 (h.n.later h.lt hg).2)
  obtain ⟨A, c, rfl, hA⟩ := id h.n
  have b0 := box_c0 w (.slice A l.length c)
  have hg0 := gb_alloc (gb_refl w none) (.cells #[.slice A l.length c] 48)
  have hl200 : l.length ≤ 200 := by unfold smallP at hsm; rw [Bool.and_eq_true, decide_eq_true_eq] at hsm; exact hsm.1
  rw [hsm] at hS1
  have hsI : ¬ (9000 : Int) < (s.size : Int) := by omega
  have hT1 := fun W (hg : w.grownBy W none) => h.text (q := l) (by omega) W hg (h.n.later h.lt hg).1 (h.n.later h.lt hg).2
  have hbz : (bs (textP l).1).size = (textP l).1.length := bs_size _
  generalize bs (textP l).1 = x1 at *
  generalize (textP l).1.length = n1 at *
  generalize (textP l).2 = e1 at *
  have hcb : (e1 == 0) = true := by simp [hc.1]
  have hxI : ¬ ((x1.size : Nat) : Int) ≤ 8192 := by omega
  have hP2 := fun W (hg : w.grownBy W none) => h.parse s (by omega) W hg
  have hq64 := parseP_64 s
  have hck := parseP_ok hr
  obtain ⟨q, at2, e2, hq⟩ : ∃ q at2 e2, parseP s = (q, at2, e2) := ⟨_, _, _, rfl⟩
  rw [hq] at hP2 hr hq64 hck hy
  simp only at hr hq64 hck hy
  subst hr
  have hY : Hid (textP q = ((treeOf q hck).tx, 0)) := textP_ok hck
  have hyl := textP_len q
  have hY2 : (textP q).2 = 0 := by rw [hY.out]
  have hY1 : Hid ((textP q).1 = (treeOf q hck).tx) := by unfold Hid; rw [hY.out]
  have hP3 := fun W (hg : w.grownBy W none) => h.parse (bs (textP q).1) (by rw [bs_size]; omega) W hg
  rw [(parse_textP hY2 hy).1, hY1.out] at hP3
  have hbz3 : (bs (textP q).1).size = (textP q).1.length := bs_size _
  rw [hY1.out] at hbz3 hy
  have hybI : ¬ (8192 : Int) < ((bs (treeOf q hck).tx).size : Int) := by omega
  obtain ⟨r, hqr⟩ : ∃ r, Hid (q = r) := ⟨q, rfl⟩
  have hP4 := fun W (hg : w.grownBy W none) => Lib.hid (hP3 W hg)
  have hr64 : r.length ≤ 64 := by rw [← hqr.out]; exact hq64
  have hP3 : ∀ W, w.grownBy W none → Hid (Calls Tryd.prog 33 #[.string (bs (treeOf q hck).tx)] W (RP W (r, 0, 0))) := fun W hg => by rw [← hqr.out]; exact (hP4 W hg).out
  have hZ : Hid (textP r = ((treeOf q hck).tx, 0)) := by rw [← hqr.out]; exact hY
  have hT2 : ∀ (S' : Nat → Prop) (u : Value) (W : World), w.grownBy W none → NodesAt W S' u q → (∀ b, S' b → b < W.heap.size) → Hid (Calls Tryd.prog 34 #[.agg #[u]] W fun e w' => e = .returned (.tuple #[.string (bs (treeOf q hck).tx), .int .i64 0]) ∧ W.grownBy w' none) := fun S' u W hg hN hS => by
    have := h.text (q := q) (by omega) W hg hN hS
    rw [hY.out] at this
    exact this
  have hT3 : ∀ (S' : Nat → Prop) (u : Value) (W : World), w.grownBy W none → NodesAt W S' u r → (∀ b, S' b → b < W.heap.size) → Hid (Calls Tryd.prog 34 #[.agg #[u]] W fun e w' => e = .returned (.tuple #[.string (bs (treeOf q hck).tx), .int .i64 0]) ∧ W.grownBy w' none) := fun S' u W hg hN hS => by
    have := h.text (q := r) (by omega) W hg hN hS
    rw [hZ.out] at this
    exact this
  clear hA hY1 hY2 hP4 hbz3 hZ hY
  generalize (treeOf q hck).tx = ty at *
  generalize bs ty = yb at *
  go_enter Tryd.func10, Tryd.ntmps10
  go_wp2_with (first
    | (go_at_call 36; have hmk := hn9; refine (Lib.hid (same_any q r _ _ _ _ _ (by omega) (by omega) hp9.1 hn9.1 hp9.2 hn9.2)).out.mono ?_; rintro e wA ⟨he, hgA⟩; rw [decide_eq_true hqr.out] at he; subst he; have haA := gb_trans ha9 hgA)
    | (go_at_call 34; have hmk := hn8; refine ((hT3 _ _ _ ha8 hn8.1 hn8.2).out).mono ?_; rintro e w9 ⟨rfl, hg9⟩; have ha9 := gb_trans ha8 hg9; have k9 := cell_kept k8 hg9; have m9 := cell_kept m8 hg9; have hn9 := hn8.1.later hn8.2 hg9; have hp9 := hp8.1.later hp8.2 hg9)
    | (go_at_call 33; have hmk := hn7; refine ((hP3 _ ha7).out).mono ?_; rintro e w8 ⟨v8, S8, rfl, hN8, hS8, hg8⟩; obtain ⟨A8, c8, rfl, hA8⟩ := id hN8; have hS8' := fun b hb => (hS8 b hb).2; clear hA8; have hgb8 := gb_alloc (gb_refl w8 none) (.cells #[.slice A8 r.length c8] 48); have ha8 := gb_trans (gb_trans ha7 hg8) hgb8; have k8 := cell_kept (cell_kept k7 hg8) hgb8; have m8 := box_c0 w8 (.slice A8 r.length c8); have hn8 := hN8.later hS8' hgb8; have hp8 := hn7.1.later hn7.2 (gb_trans hg8 hgb8))
    | (go_at_call 34; have hmk := hn6; refine ((hT2 _ _ _ ha6 hn6.1 hn6.2).out).mono ?_; rintro e w7 ⟨rfl, hg7⟩; have ha7 := gb_trans ha6 hg7; have k7 := cell_kept k6 hg7; have hn7 := hn6.1.later hn6.2 hg7)
    | (go_at_call 33; have hmk := b3; refine ((hP2 _ ha3).out).mono ?_; rintro e w6 ⟨v6, S6, rfl, hN6, hS6, hg6⟩; obtain ⟨A6, c6, rfl, hA6⟩ := id hN6; have hS6' := fun b hb => (hS6 b hb).2; clear hA6; have hgb6 := gb_alloc (gb_refl w6 none) (.cells #[.slice A6 q.length c6] 48); have ha6 := gb_trans (gb_trans ha3 hg6) hgb6; have k6 := box_c0 w6 (.slice A6 q.length c6); have hn6 := hN6.later hS6' hgb6)
    | (go_at_call 32; refine ((hL _ hg0).out).mono ?_; rintro e w1 ⟨rfl, hg1⟩; have ha1 := gb_trans hg0 hg1; have b1 := cell_kept b0 hg1)
    | (go_at_call 37; refine ((hS1 _ ha1).out).mono ?_; rintro e w2 ⟨rfl, hg2⟩; have ha2 := gb_trans ha1 hg2; have b2 := cell_kept b1 hg2)
    | (go_at_call 34; refine ((hT1 _ ha2).out).mono ?_; rintro e w3 ⟨rfl, hg3⟩; have ha3 := gb_trans ha2 hg3; have b3 := cell_kept b2 hg3))
  go_ret
  exact ⟨rfl, haA⟩
set_option maxRecDepth 100000 in
set_option maxHeartbeats 12800000 in
theorem back_n2_far (l : List PN) (S : Nat → Prop) (v : Value) (s : ByteArray) (w : World) (h : Given w l S v) (hsm : smallP l = true) (hs : ¬ 9000 < s.size) (hc : (textP l).2 = 0 ∧ ¬ (textP l).1.length ≤ 8192) (hr : (parseP s).2.2 = 0) (hy : ¬ (textP (parseP s).1).1.length ≤ 8192) :
    Calls Tryd.prog 10 #[.agg #[v], .string s] w fun e w' => e = .returned (.bool true) ∧ w.grownBy w' none := by
  have hL := fun W (hg : w.grownBy W none) => Lib.hid (h.lives W hg)
  have hS1 := fun W (hg : w.grownBy W none) => Lib.hid (small_any l S v W h.len (h.n.later h.lt hg).1 (h.n.later h.lt hg).2)
  obtain ⟨A, c, rfl, hA⟩ := id h.n
  have b0 := box_c0 w (.slice A l.length c)
  have hg0 := gb_alloc (gb_refl w none) (.cells #[.slice A l.length c] 48)
  have hl200 : l.length ≤ 200 := by unfold smallP at hsm; rw [Bool.and_eq_true, decide_eq_true_eq] at hsm; exact hsm.1
  rw [hsm] at hS1
  have hsI : ¬ (9000 : Int) < (s.size : Int) := by omega
  have hT1 := fun W (hg : w.grownBy W none) => h.text (q := l) (by omega) W hg (h.n.later h.lt hg).1 (h.n.later h.lt hg).2
  have hbz : (bs (textP l).1).size = (textP l).1.length := bs_size _
  generalize bs (textP l).1 = x1 at *
  generalize (textP l).1.length = n1 at *
  generalize (textP l).2 = e1 at *
  have hcb : (e1 == 0) = true := by simp [hc.1]
  have hxI : ¬ ((x1.size : Nat) : Int) ≤ 8192 := by omega
  have hP2 := fun W (hg : w.grownBy W none) => h.parse s (by omega) W hg
  have hq64 := parseP_64 s
  have hck := parseP_ok hr
  obtain ⟨q, at2, e2, hq⟩ : ∃ q at2 e2, parseP s = (q, at2, e2) := ⟨_, _, _, rfl⟩
  rw [hq] at hP2 hr hq64 hck hy
  simp only at hr hq64 hck hy
  subst hr
  have hY : Hid (textP q = ((treeOf q hck).tx, 0)) := textP_ok hck
  have hyl := textP_len q
  have hY2 : (textP q).2 = 0 := by rw [hY.out]
  have hY1 : Hid ((textP q).1 = (treeOf q hck).tx) := by unfold Hid; rw [hY.out]
  have hbz3 : (bs (textP q).1).size = (textP q).1.length := bs_size _
  rw [hY1.out] at hbz3 hy hyl
  have hybI : (8192 : Int) < ((bs (treeOf q hck).tx).size : Int) := by omega
  have hP3 := fun W (hg : w.grownBy W none) => h.parse (bs (treeOf q hck).tx) (by omega) W hg
  obtain ⟨r, at3, e3, hr3⟩ : ∃ r at3 e3, parseP (bs (treeOf q hck).tx) = (r, at3, e3) := ⟨_, _, _, rfl⟩
  have hr64 := parseP_64 (bs (treeOf q hck).tx)
  rw [hr3] at hP3 hr64
  simp only at hr64
  obtain ⟨zx, ze, hZ⟩ : ∃ zx ze, Hid (textP r = (zx, ze)) := ⟨_, _, rfl⟩
  have hT2 : ∀ (S' : Nat → Prop) (u : Value) (W : World), w.grownBy W none → NodesAt W S' u q → (∀ b, S' b → b < W.heap.size) → Hid (Calls Tryd.prog 34 #[.agg #[u]] W fun e w' => e = .returned (.tuple #[.string (bs (treeOf q hck).tx), .int .i64 0]) ∧ W.grownBy w' none) := fun S' u W hg hN hS => by
    have := h.text (q := q) (by omega) W hg hN hS
    rw [hY.out] at this
    exact this
  have hT3 : ∀ (S' : Nat → Prop) (u : Value) (W : World), w.grownBy W none → NodesAt W S' u r → (∀ b, S' b → b < W.heap.size) → Hid (Calls Tryd.prog 34 #[.agg #[u]] W fun e w' => e = .returned (.tuple #[.string (bs zx), .int .i64 ze]) ∧ W.grownBy w' none) := fun S' u W hg hN hS => by
    have := h.text (q := r) (by omega) W hg hN hS
    rw [hZ.out] at this
    exact this
  clear hA hY1 hY2 hr3 hZ hY
  generalize bs zx = zb at *
  generalize (treeOf q hck).tx = ty at *
  generalize bs ty = yb at *
  go_enter Tryd.func10, Tryd.ntmps10
  go_wp2_with (first
    | (go_at_call 34; have hmk := hn8; refine ((hT3 _ _ _ ha8 hn8.1 hn8.2).out).mono ?_; rintro e w9 ⟨rfl, hg9⟩; have ha9 := gb_trans ha8 hg9; have k9 := cell_kept k8 hg9; have m9 := cell_kept m8 hg9; have hn9 := hn8.1.later hn8.2 hg9; have hp9 := hp8.1.later hp8.2 hg9)
    | (go_at_call 33; have hmk := hn7; refine ((hP3 _ ha7).out).mono ?_; rintro e w8 ⟨v8, S8, rfl, hN8, hS8, hg8⟩; obtain ⟨A8, c8, rfl, hA8⟩ := id hN8; have hS8' := fun b hb => (hS8 b hb).2; clear hA8; have hgb8 := gb_alloc (gb_refl w8 none) (.cells #[.slice A8 r.length c8] 48); have ha8 := gb_trans (gb_trans ha7 hg8) hgb8; have k8 := cell_kept (cell_kept k7 hg8) hgb8; have m8 := box_c0 w8 (.slice A8 r.length c8); have hn8 := hN8.later hS8' hgb8; have hp8 := hn7.1.later hn7.2 (gb_trans hg8 hgb8))
    | (go_at_call 34; have hmk := hn6; refine ((hT2 _ _ _ ha6 hn6.1 hn6.2).out).mono ?_; rintro e w7 ⟨rfl, hg7⟩; have ha7 := gb_trans ha6 hg7; have k7 := cell_kept k6 hg7; have hn7 := hn6.1.later hn6.2 hg7)
    | (go_at_call 33; have hmk := b3; refine ((hP2 _ ha3).out).mono ?_; rintro e w6 ⟨v6, S6, rfl, hN6, hS6, hg6⟩; obtain ⟨A6, c6, rfl, hA6⟩ := id hN6; have hS6' := fun b hb => (hS6 b hb).2; clear hA6; have hgb6 := gb_alloc (gb_refl w6 none) (.cells #[.slice A6 q.length c6] 48); have ha6 := gb_trans (gb_trans ha3 hg6) hgb6; have k6 := box_c0 w6 (.slice A6 q.length c6); have hn6 := hN6.later hS6' hgb6)
    | (go_at_call 32; refine ((hL _ hg0).out).mono ?_; rintro e w1 ⟨rfl, hg1⟩; have ha1 := gb_trans hg0 hg1; have b1 := cell_kept b0 hg1)
    | (go_at_call 37; refine ((hS1 _ ha1).out).mono ?_; rintro e w2 ⟨rfl, hg2⟩; have ha2 := gb_trans ha1 hg2; have b2 := cell_kept b1 hg2)
    | (go_at_call 34; refine ((hT1 _ ha2).out).mono ?_; rintro e w3 ⟨rfl, hg3⟩; have ha3 := gb_trans ha2 hg3; have b3 := cell_kept b2 hg3))
  go_ret
  exact ⟨rfl, ha9⟩
end Go.Proofs.YtnnhkajjifmlfaaDoor.Pl
