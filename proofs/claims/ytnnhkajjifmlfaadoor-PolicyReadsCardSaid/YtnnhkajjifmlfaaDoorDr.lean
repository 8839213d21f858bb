/- Policies, the document's: may a node be, its places aside: the walk. -/
import Derived.Test.YtnnhkajjifmlfaaDoorDq
namespace Go.Proofs.YtnnhkajjifmlfaaDoor.Pl
open Go.RowKit Go.Maps

theorem quot_nil : quotB ⟨#[]⟩ = true := by decide
theorem named_nil : namedB ⟨#[]⟩ 0 = true := by decide
theorem txt_e {x : ByteArray} (h : x = ⟨#[]⟩) : (x.toList == []) = true := by rw [h, Lib.toList_data]; rfl
theorem txt_ne {x : ByteArray} (h : x ≠ ⟨#[]⟩) : (x.toList == []) = false := by
  have : (x.toList == (⟨#[]⟩ : ByteArray).toList) = false := by rw [ba_beq, decide_eq_false h]
  have e : (⟨#[]⟩ : ByteArray).toList = [] := by rw [Lib.toList_data]
  rw [e] at this
  exact this
theorem fine_iff (x : PN) : fineN x = true ↔ 1 ≤ x.k ∧ x.k ≤ 9 ∧ (x.k = 3 ∨ x.k = 6 ∨ x.n = 0) ∧ (x.k = 4 ∨ x.k = 5 ∨ x.a = ⟨#[]⟩) ∧ (x.k = 5 ∨ x.b = ⟨#[]⟩) ∧ (7 ≤ x.k ∨ x.l = 0) ∧ (8 ≤ x.k ∨ x.r = 0) ∧ 0 ≤ x.n ∧ (¬ (x.k = 4 ∨ x.k = 5) ∨ x.a ≠ ⟨#[]⟩) ∧ quotB x.a = true ∧ quotB x.b = true := by
  unfold fineN
  simp only [sz0, Bool.and_eq_true, Bool.or_eq_true, decide_eq_true_eq, beq_iff_eq, Bool.not_eq_true', Bool.or_eq_false_iff, beq_eq_false_iff_ne, ne_eq]
  grind
/-- what function 117 is to answer -/
def NodeC (x : PN) (w : World) : Prop := Calls Tryd.prog 117 #[nodeV x] w fun e w' => e = .returned (.bool (fineN x)) ∧ w.grownBy w' none
theorem box_nd (w : World) (x : PN) : NB (w.alloc (.cells #[.int .i64 x.k, .int .i64 x.n, .string x.a, .string x.b, .int .i64 x.l, .int .i64 x.r] 64)) w.heap.size x := heap_alloc_new w _
theorem NB.grown {w w' : World} {L : Nat} {x : PN} (h : NB w L x) (hg : w.grownBy w' none) : NB w' L x := h.kept hg (by simp)
set_option maxRecDepth 100000 in
set_option maxHeartbeats 3200000 in
theorem node_out (k n : Int) (a b : ByteArray) (l r : Int) (w : World) (h : k < 1 ∨ 9 < k) : NodeC ⟨k, n, a, b, l, r⟩ w := by
  unfold NodeC
  have hE : fineN ⟨k, n, a, b, l, r⟩ = false := by
    unfold fineN
    rcases h with h | h
    · rw [decide_eq_false (show ¬ (1 : Int) ≤ k by omega)]; simp
    · rw [decide_eq_false (show ¬ k ≤ (9 : Int) by omega)]; simp
  rw [hE]
  clear hE
  have h3 : (k == 3) = false := by rw [beq_eq_false_iff_ne]; omega
  have h6 : (k == 6) = false := by rw [beq_eq_false_iff_ne]; omega
  have h4 : (k == 4) = false := by rw [beq_eq_false_iff_ne]; omega
  have h5 : (k == 5) = false := by rw [beq_eq_false_iff_ne]; omega
  by_cases h1 : k < 1
  · clear h
    go_enter Tryd.func117, Tryd.ntmps117
    go_wp2_with fail
    go_ret
    exact ⟨rfl, gb_alloc (gb_refl _ _) _⟩
  · have h9 : (9 : Int) < k := by omega
    clear h
    go_enter Tryd.func117, Tryd.ntmps117
    go_wp2_with fail
    go_ret
    exact ⟨rfl, gb_alloc (gb_refl _ _) _⟩
set_option maxRecDepth 100000 in
set_option maxHeartbeats 3200000 in
theorem node_1 (n : Int) (a b : ByteArray) (l r : Int) (w : World) (hsa : a.size ≤ 1000000) (hsb : b.size ≤ 1000000) : NodeC ⟨1, n, a, b, l, r⟩ w := by
  unfold NodeC
  obtain ⟨res, hres, hE⟩ : ∃ res, fineN ⟨1, n, a, b, l, r⟩ = res ∧ Hid (fineN ⟨1, n, a, b, l, r⟩ = res) := ⟨_, rfl, rfl⟩
  rw [hres]
  clear hres
  have hb0 := box_nd w ⟨1, n, a, b, l, r⟩
  have hNA := fun W => Lib.hid (named_any a 1 W (by omega) hsa)
  have hNB := fun W => Lib.hid (named_any b 0 W (by omega) hsb)
  simp only at hb0
  clear hsa hsb
  go_enter Tryd.func117, Tryd.ntmps117
  by_cases hn : n = 0
  rotate_left
  · have hnb : (n != 0) = true := by simpa using hn
    obtain rfl : res = false := by have h9 := quot_nil; rw [← hE.out, Bool.eq_false_iff]; intro h; have h := (fine_iff _).1 h; simp only at h; grind
    clear hE
    clear hn
    go_wp2_with fail
    go_ret
    exact ⟨rfl, gb_alloc (gb_refl _ _) _⟩
  have hnb : (n != 0) = false := by simp [hn]
  by_cases hz : n < 0
  · obtain rfl : res = false := by have h9 := quot_nil; rw [← hE.out, Bool.eq_false_iff]; intro h; have h := (fine_iff _).1 h; simp only at h; grind
    clear hE
    clear hn
    go_wp2_with fail
    go_ret
    exact ⟨rfl, gb_alloc (gb_refl _ _) _⟩
  by_cases ha : a = ⟨#[]⟩
  rotate_left
  · have hab := txt_ne ha
    obtain rfl : res = false := by have h9 := quot_nil; rw [← hE.out, Bool.eq_false_iff]; intro h; have h := (fine_iff _).1 h; simp only at h; grind
    clear hE
    clear hn
    go_wp2_with fail
    go_ret
    exact ⟨rfl, gb_alloc (gb_refl _ _) _⟩
  have hab := txt_e ha
  by_cases hb : b = ⟨#[]⟩
  rotate_left
  · have hbb := txt_ne hb
    obtain rfl : res = false := by have h9 := quot_nil; rw [← hE.out, Bool.eq_false_iff]; intro h; have h := (fine_iff _).1 h; simp only at h; grind
    clear hE
    clear hn ha
    go_wp2_with fail
    go_ret
    exact ⟨rfl, gb_alloc (gb_refl _ _) _⟩
  have hbb := txt_e hb
  have hnb0 : namedB b 0 = true := by rw [hb]; exact named_nil
  rw [hnb0] at hNB
  by_cases hl : l = 0
  rotate_left
  · have hlb : (l == 0) = false := by simpa using hl
    obtain rfl : res = false := by have h9 := quot_nil; rw [← hE.out, Bool.eq_false_iff]; intro h; have h := (fine_iff _).1 h; simp only at h; grind
    clear hE
    clear hn ha hb hnb0 hl
    go_wp2_with (first
      | (go_at_call 144; refine ((hNB _).out).mono ?_; rintro e w1 ⟨rfl, hg1⟩; have d1 := hb0.grown hg1; obtain ⟨x0, x1, x2, x3, x4, x5⟩ := d1.all))
    go_ret
    exact ⟨rfl, gb_trans (gb_alloc (gb_refl _ _) _) hg1⟩
  have hlb : (l == 0) = true := by simp [hl]
  by_cases hr : r = 0
  rotate_left
  · have hrb : (r == 0) = false := by simpa using hr
    obtain rfl : res = false := by have h9 := quot_nil; rw [← hE.out, Bool.eq_false_iff]; intro h; have h := (fine_iff _).1 h; simp only at h; grind
    clear hE
    clear hn ha hb hnb0 hl hr
    go_wp2_with (first
      | (go_at_call 144; refine ((hNB _).out).mono ?_; rintro e w1 ⟨rfl, hg1⟩; have d1 := hb0.grown hg1; obtain ⟨x0, x1, x2, x3, x4, x5⟩ := d1.all))
    go_ret
    exact ⟨rfl, gb_trans (gb_alloc (gb_refl _ _) _) hg1⟩
  have hrb : (r == 0) = true := by simp [hr]
  obtain rfl : res = true := by have h9 := quot_nil; rw [← hE.out, fine_iff]; simp only; grind
  clear hE
  clear hn ha hb hnb0 hl hr
  go_wp2_with (first
    | (go_at_call 144; refine ((hNB _).out).mono ?_; rintro e w1 ⟨rfl, hg1⟩; have d1 := hb0.grown hg1; obtain ⟨x0, x1, x2, x3, x4, x5⟩ := d1.all))
  go_ret
  exact ⟨rfl, gb_trans (gb_alloc (gb_refl _ _) _) hg1⟩
set_option maxRecDepth 100000 in
set_option maxHeartbeats 3200000 in
theorem node_2 (n : Int) (a b : ByteArray) (l r : Int) (w : World) (hsa : a.size ≤ 1000000) (hsb : b.size ≤ 1000000) : NodeC ⟨2, n, a, b, l, r⟩ w := by
  unfold NodeC
  obtain ⟨res, hres, hE⟩ : ∃ res, fineN ⟨2, n, a, b, l, r⟩ = res ∧ Hid (fineN ⟨2, n, a, b, l, r⟩ = res) := ⟨_, rfl, rfl⟩
  rw [hres]
  clear hres
  have hb0 := box_nd w ⟨2, n, a, b, l, r⟩
  have hNA := fun W => Lib.hid (named_any a 1 W (by omega) hsa)
  have hNB := fun W => Lib.hid (named_any b 0 W (by omega) hsb)
  simp only at hb0
  clear hsa hsb
  go_enter Tryd.func117, Tryd.ntmps117
  by_cases hn : n = 0
  rotate_left
  · have hnb : (n != 0) = true := by simpa using hn
    obtain rfl : res = false := by have h9 := quot_nil; rw [← hE.out, Bool.eq_false_iff]; intro h; have h := (fine_iff _).1 h; simp only at h; grind
    clear hE
    clear hn
    go_wp2_with fail
    go_ret
    exact ⟨rfl, gb_alloc (gb_refl _ _) _⟩
  have hnb : (n != 0) = false := by simp [hn]
  by_cases hz : n < 0
  · obtain rfl : res = false := by have h9 := quot_nil; rw [← hE.out, Bool.eq_false_iff]; intro h; have h := (fine_iff _).1 h; simp only at h; grind
    clear hE
    clear hn
    go_wp2_with fail
    go_ret
    exact ⟨rfl, gb_alloc (gb_refl _ _) _⟩
  by_cases ha : a = ⟨#[]⟩
  rotate_left
  · have hab := txt_ne ha
    obtain rfl : res = false := by have h9 := quot_nil; rw [← hE.out, Bool.eq_false_iff]; intro h; have h := (fine_iff _).1 h; simp only at h; grind
    clear hE
    clear hn
    go_wp2_with fail
    go_ret
    exact ⟨rfl, gb_alloc (gb_refl _ _) _⟩
  have hab := txt_e ha
  by_cases hb : b = ⟨#[]⟩
  rotate_left
  · have hbb := txt_ne hb
    obtain rfl : res = false := by have h9 := quot_nil; rw [← hE.out, Bool.eq_false_iff]; intro h; have h := (fine_iff _).1 h; simp only at h; grind
    clear hE
    clear hn ha
    go_wp2_with fail
    go_ret
    exact ⟨rfl, gb_alloc (gb_refl _ _) _⟩
  have hbb := txt_e hb
  have hnb0 : namedB b 0 = true := by rw [hb]; exact named_nil
  rw [hnb0] at hNB
  by_cases hl : l = 0
  rotate_left
  · have hlb : (l == 0) = false := by simpa using hl
    obtain rfl : res = false := by have h9 := quot_nil; rw [← hE.out, Bool.eq_false_iff]; intro h; have h := (fine_iff _).1 h; simp only at h; grind
    clear hE
    clear hn ha hb hnb0 hl
    go_wp2_with (first
      | (go_at_call 144; refine ((hNB _).out).mono ?_; rintro e w1 ⟨rfl, hg1⟩; have d1 := hb0.grown hg1; obtain ⟨x0, x1, x2, x3, x4, x5⟩ := d1.all))
    go_ret
    exact ⟨rfl, gb_trans (gb_alloc (gb_refl _ _) _) hg1⟩
  have hlb : (l == 0) = true := by simp [hl]
  by_cases hr : r = 0
  rotate_left
  · have hrb : (r == 0) = false := by simpa using hr
    obtain rfl : res = false := by have h9 := quot_nil; rw [← hE.out, Bool.eq_false_iff]; intro h; have h := (fine_iff _).1 h; simp only at h; grind
    clear hE
    clear hn ha hb hnb0 hl hr
    go_wp2_with (first
      | (go_at_call 144; refine ((hNB _).out).mono ?_; rintro e w1 ⟨rfl, hg1⟩; have d1 := hb0.grown hg1; obtain ⟨x0, x1, x2, x3, x4, x5⟩ := d1.all))
    go_ret
    exact ⟨rfl, gb_trans (gb_alloc (gb_refl _ _) _) hg1⟩
  have hrb : (r == 0) = true := by simp [hr]
  obtain rfl : res = true := by have h9 := quot_nil; rw [← hE.out, fine_iff]; simp only; grind
  clear hE
  clear hn ha hb hnb0 hl hr
  go_wp2_with (first
    | (go_at_call 144; refine ((hNB _).out).mono ?_; rintro e w1 ⟨rfl, hg1⟩; have d1 := hb0.grown hg1; obtain ⟨x0, x1, x2, x3, x4, x5⟩ := d1.all))
  go_ret
  exact ⟨rfl, gb_trans (gb_alloc (gb_refl _ _) _) hg1⟩
set_option maxRecDepth 100000 in
set_option maxHeartbeats 3200000 in
theorem node_3 (n : Int) (a b : ByteArray) (l r : Int) (w : World) (hsa : a.size ≤ 1000000) (hsb : b.size ≤ 1000000) : NodeC ⟨3, n, a, b, l, r⟩ w := by
  unfold NodeC
  obtain ⟨res, hres, hE⟩ : ∃ res, fineN ⟨3, n, a, b, l, r⟩ = res ∧ Hid (fineN ⟨3, n, a, b, l, r⟩ = res) := ⟨_, rfl, rfl⟩
  rw [hres]
  clear hres
  have hb0 := box_nd w ⟨3, n, a, b, l, r⟩
  have hNA := fun W => Lib.hid (named_any a 1 W (by omega) hsa)
  have hNB := fun W => Lib.hid (named_any b 0 W (by omega) hsb)
  simp only at hb0
  clear hsa hsb
  go_enter Tryd.func117, Tryd.ntmps117
  by_cases hz : n < 0
  · obtain rfl : res = false := by have h9 := quot_nil; rw [← hE.out, Bool.eq_false_iff]; intro h; have h := (fine_iff _).1 h; simp only at h; grind
    clear hE
    go_wp2_with fail
    go_ret
    exact ⟨rfl, gb_alloc (gb_refl _ _) _⟩
  by_cases ha : a = ⟨#[]⟩
  rotate_left
  · have hab := txt_ne ha
    obtain rfl : res = false := by have h9 := quot_nil; rw [← hE.out, Bool.eq_false_iff]; intro h; have h := (fine_iff _).1 h; simp only at h; grind
    clear hE
    go_wp2_with fail
    go_ret
    exact ⟨rfl, gb_alloc (gb_refl _ _) _⟩
  have hab := txt_e ha
  by_cases hb : b = ⟨#[]⟩
  rotate_left
  · have hbb := txt_ne hb
    obtain rfl : res = false := by have h9 := quot_nil; rw [← hE.out, Bool.eq_false_iff]; intro h; have h := (fine_iff _).1 h; simp only at h; grind
    clear hE
    clear ha
    go_wp2_with fail
    go_ret
    exact ⟨rfl, gb_alloc (gb_refl _ _) _⟩
  have hbb := txt_e hb
  have hnb0 : namedB b 0 = true := by rw [hb]; exact named_nil
  rw [hnb0] at hNB
  by_cases hl : l = 0
  rotate_left
  · have hlb : (l == 0) = false := by simpa using hl
    obtain rfl : res = false := by have h9 := quot_nil; rw [← hE.out, Bool.eq_false_iff]; intro h; have h := (fine_iff _).1 h; simp only at h; grind
    clear hE
    clear ha hb hnb0 hl
    go_wp2_with (first
      | (go_at_call 144; refine ((hNB _).out).mono ?_; rintro e w1 ⟨rfl, hg1⟩; have d1 := hb0.grown hg1; obtain ⟨x0, x1, x2, x3, x4, x5⟩ := d1.all))
    go_ret
    exact ⟨rfl, gb_trans (gb_alloc (gb_refl _ _) _) hg1⟩
  have hlb : (l == 0) = true := by simp [hl]
  by_cases hr : r = 0
  rotate_left
  · have hrb : (r == 0) = false := by simpa using hr
    obtain rfl : res = false := by have h9 := quot_nil; rw [← hE.out, Bool.eq_false_iff]; intro h; have h := (fine_iff _).1 h; simp only at h; grind
    clear hE
    clear ha hb hnb0 hl hr
    go_wp2_with (first
      | (go_at_call 144; refine ((hNB _).out).mono ?_; rintro e w1 ⟨rfl, hg1⟩; have d1 := hb0.grown hg1; obtain ⟨x0, x1, x2, x3, x4, x5⟩ := d1.all))
    go_ret
    exact ⟨rfl, gb_trans (gb_alloc (gb_refl _ _) _) hg1⟩
  have hrb : (r == 0) = true := by simp [hr]
  obtain rfl : res = true := by have h9 := quot_nil; rw [← hE.out, fine_iff]; simp only; grind
  clear hE
  clear ha hb hnb0 hl hr
  go_wp2_with (first
    | (go_at_call 144; refine ((hNB _).out).mono ?_; rintro e w1 ⟨rfl, hg1⟩; have d1 := hb0.grown hg1; obtain ⟨x0, x1, x2, x3, x4, x5⟩ := d1.all))
  go_ret
  exact ⟨rfl, gb_trans (gb_alloc (gb_refl _ _) _) hg1⟩
set_option maxRecDepth 100000 in
set_option maxHeartbeats 3200000 in
theorem node_4 (n : Int) (a b : ByteArray) (l r : Int) (w : World) (hsa : a.size ≤ 1000000) (hsb : b.size ≤ 1000000) : NodeC ⟨4, n, a, b, l, r⟩ w := by
  unfold NodeC
  obtain ⟨res, hres, hE⟩ : ∃ res, fineN ⟨4, n, a, b, l, r⟩ = res ∧ Hid (fineN ⟨4, n, a, b, l, r⟩ = res) := ⟨_, rfl, rfl⟩
  rw [hres]
  clear hres
  have hb0 := box_nd w ⟨4, n, a, b, l, r⟩
  have hNA := fun W => Lib.hid (named_any a 1 W (by omega) hsa)
  have hNB := fun W => Lib.hid (named_any b 0 W (by omega) hsb)
  simp only at hb0
  clear hsa hsb
  go_enter Tryd.func117, Tryd.ntmps117
  by_cases hn : n = 0
  rotate_left
  · have hnb : (n != 0) = true := by simpa using hn
    obtain rfl : res = false := by have h9 := quot_nil; rw [← hE.out, Bool.eq_false_iff]; intro h; have h := (fine_iff _).1 h; simp only at h; grind
    clear hE
    clear hn
    go_wp2_with fail
    go_ret
    exact ⟨rfl, gb_alloc (gb_refl _ _) _⟩
  have hnb : (n != 0) = false := by simp [hn]
  by_cases hz : n < 0
  · obtain rfl : res = false := by have h9 := quot_nil; rw [← hE.out, Bool.eq_false_iff]; intro h; have h := (fine_iff _).1 h; simp only at h; grind
    clear hE
    clear hn
    go_wp2_with fail
    go_ret
    exact ⟨rfl, gb_alloc (gb_refl _ _) _⟩
  by_cases hb : b = ⟨#[]⟩
  rotate_left
  · have hbb := txt_ne hb
    obtain rfl : res = false := by have h9 := quot_nil; rw [← hE.out, Bool.eq_false_iff]; intro h; have h := (fine_iff _).1 h; simp only at h; grind
    clear hE
    clear hn 
    go_wp2_with fail
    go_ret
    exact ⟨rfl, gb_alloc (gb_refl _ _) _⟩
  have hbb := txt_e hb
  have hnb0 : namedB b 0 = true := by rw [hb]; exact named_nil
  rw [hnb0] at hNB
  cases hna : namedB a 1 with
  | false =>
    rw [hna] at hNA
    obtain rfl : res = false := by
      rw [← hE.out, Bool.eq_false_iff]
      intro h
      have h := (fine_iff _).1 h
      unfold namedB at hna
      rw [Bool.and_eq_false_iff] at hna
      rcases hna with h0 | h0
      · have h1 : a.size = 0 := by have := of_decide_eq_false h0; omega
        have h1 := (sz0 a).1 h1
        simp only at h
        grind
      · simp only at h
        grind
    clear hE hna
    clear hn hb hnb0
    go_wp2_with (first
      | (go_at_call 144; refine ((hNA _).out).mono ?_; rintro e w1 ⟨rfl, hg1⟩))
    go_ret
    exact ⟨rfl, gb_trans (gb_alloc (gb_refl _ _) _) hg1⟩
  | true =>
    rw [hna] at hNA
    obtain ⟨hqs, hqa⟩ : a.size ≠ 0 ∧ quotB a = true := by
      unfold namedB at hna
      rw [Bool.and_eq_true, decide_eq_true_eq] at hna
      exact ⟨by omega, hna.2⟩
    have ha0 : a ≠ ⟨#[]⟩ := fun e => hqs (by rw [e]; rfl)
    by_cases hl : l = 0
    rotate_left
    · have hlb : (l == 0) = false := by simpa using hl
      obtain rfl : res = false := by have h9 := quot_nil; rw [← hE.out, Bool.eq_false_iff]; intro h; have h := (fine_iff _).1 h; simp only at h; grind
      clear hE
      clear hn hb hnb0 hna hqs hqa ha0 hl
      go_wp2_with (first
        | (go_at_call 144; have hmk := hg1; refine ((hNB _).out).mono ?_; rintro e w2 ⟨rfl, hg2⟩; have d2 := d1.grown hg2; obtain ⟨y0, y1, y2, y3, y4, y5⟩ := d2.all)
        | (go_at_call 144; refine ((hNA _).out).mono ?_; rintro e w1 ⟨rfl, hg1⟩; have d1 := hb0.grown hg1; obtain ⟨x0, x1, x2, x3, x4, x5⟩ := d1.all))
      go_ret
      exact ⟨rfl, gb_trans (gb_trans (gb_alloc (gb_refl _ _) _) hg1) hg2⟩
    have hlb : (l == 0) = true := by simp [hl]
    by_cases hr : r = 0
    rotate_left
    · have hrb : (r == 0) = false := by simpa using hr
      obtain rfl : res = false := by have h9 := quot_nil; rw [← hE.out, Bool.eq_false_iff]; intro h; have h := (fine_iff _).1 h; simp only at h; grind
      clear hE
      clear hn hb hnb0 hna hqs hqa ha0 hl hr
      go_wp2_with (first
        | (go_at_call 144; have hmk := hg1; refine ((hNB _).out).mono ?_; rintro e w2 ⟨rfl, hg2⟩; have d2 := d1.grown hg2; obtain ⟨y0, y1, y2, y3, y4, y5⟩ := d2.all)
        | (go_at_call 144; refine ((hNA _).out).mono ?_; rintro e w1 ⟨rfl, hg1⟩; have d1 := hb0.grown hg1; obtain ⟨x0, x1, x2, x3, x4, x5⟩ := d1.all))
      go_ret
      exact ⟨rfl, gb_trans (gb_trans (gb_alloc (gb_refl _ _) _) hg1) hg2⟩
    have hrb : (r == 0) = true := by simp [hr]
    obtain rfl : res = true := by have h9 := quot_nil; rw [← hE.out, fine_iff]; simp only; grind
    clear hE
    clear hn hb hnb0 hna hqs hqa ha0 hl hr
    go_wp2_with (first
      | (go_at_call 144; have hmk := hg1; refine ((hNB _).out).mono ?_; rintro e w2 ⟨rfl, hg2⟩; have d2 := d1.grown hg2; obtain ⟨y0, y1, y2, y3, y4, y5⟩ := d2.all)
      | (go_at_call 144; refine ((hNA _).out).mono ?_; rintro e w1 ⟨rfl, hg1⟩; have d1 := hb0.grown hg1; obtain ⟨x0, x1, x2, x3, x4, x5⟩ := d1.all))
    go_ret
    exact ⟨rfl, gb_trans (gb_trans (gb_alloc (gb_refl _ _) _) hg1) hg2⟩
set_option maxRecDepth 100000 in
set_option maxHeartbeats 3200000 in
theorem node_5 (n : Int) (a b : ByteArray) (l r : Int) (w : World) (hsa : a.size ≤ 1000000) (hsb : b.size ≤ 1000000) : NodeC ⟨5, n, a, b, l, r⟩ w := by
  unfold NodeC
  obtain ⟨res, hres, hE⟩ : ∃ res, fineN ⟨5, n, a, b, l, r⟩ = res ∧ Hid (fineN ⟨5, n, a, b, l, r⟩ = res) := ⟨_, rfl, rfl⟩
  rw [hres]
  clear hres
  have hb0 := box_nd w ⟨5, n, a, b, l, r⟩
  have hNA := fun W => Lib.hid (named_any a 1 W (by omega) hsa)
  have hNB := fun W => Lib.hid (named_any b 0 W (by omega) hsb)
  simp only at hb0
  clear hsa hsb
  go_enter Tryd.func117, Tryd.ntmps117
  by_cases hn : n = 0
  rotate_left
  · have hnb : (n != 0) = true := by simpa using hn
    obtain rfl : res = false := by have h9 := quot_nil; rw [← hE.out, Bool.eq_false_iff]; intro h; have h := (fine_iff _).1 h; simp only at h; grind
    clear hE
    clear hn
    go_wp2_with fail
    go_ret
    exact ⟨rfl, gb_alloc (gb_refl _ _) _⟩
  have hnb : (n != 0) = false := by simp [hn]
  by_cases hz : n < 0
  · obtain rfl : res = false := by have h9 := quot_nil; rw [← hE.out, Bool.eq_false_iff]; intro h; have h := (fine_iff _).1 h; simp only at h; grind
    clear hE
    clear hn
    go_wp2_with fail
    go_ret
    exact ⟨rfl, gb_alloc (gb_refl _ _) _⟩
  cases hna : namedB a 1 with
  | false =>
    rw [hna] at hNA
    obtain rfl : res = false := by
      rw [← hE.out, Bool.eq_false_iff]
      intro h
      have h := (fine_iff _).1 h
      unfold namedB at hna
      rw [Bool.and_eq_false_iff] at hna
      rcases hna with h0 | h0
      · have h1 : a.size = 0 := by have := of_decide_eq_false h0; omega
        have h1 := (sz0 a).1 h1
        simp only at h
        grind
      · simp only at h
        grind
    clear hE hna
    clear hn 
    go_wp2_with (first
      | (go_at_call 144; refine ((hNA _).out).mono ?_; rintro e w1 ⟨rfl, hg1⟩))
    go_ret
    exact ⟨rfl, gb_trans (gb_alloc (gb_refl _ _) _) hg1⟩
  | true =>
    rw [hna] at hNA
    obtain ⟨hqs, hqa⟩ : a.size ≠ 0 ∧ quotB a = true := by
      unfold namedB at hna
      rw [Bool.and_eq_true, decide_eq_true_eq] at hna
      exact ⟨by omega, hna.2⟩
    have ha0 : a ≠ ⟨#[]⟩ := fun e => hqs (by rw [e]; rfl)
    have hnq : namedB b 0 = quotB b := by unfold namedB; simp
    rw [hnq] at hNB
    cases hqb : quotB b with
    | false =>
      rw [hqb] at hNB
      obtain rfl : res = false := by rw [← hE.out, Bool.eq_false_iff]; intro h; have h := (fine_iff _).1 h; simp only at h; grind
      clear hE hna hqs hqa ha0 hnq hqb
      clear hn 
      go_wp2_with (first
        | (go_at_call 144; have hmk := hg1; refine ((hNB _).out).mono ?_; rintro e w2 ⟨rfl, hg2⟩)
        | (go_at_call 144; refine ((hNA _).out).mono ?_; rintro e w1 ⟨rfl, hg1⟩; have d1 := hb0.grown hg1; obtain ⟨x0, x1, x2, x3, x4, x5⟩ := d1.all))
      go_ret
      exact ⟨rfl, gb_trans (gb_trans (gb_alloc (gb_refl _ _) _) hg1) hg2⟩
    | true =>
      rw [hqb] at hNB
      by_cases hl : l = 0
      rotate_left
      · have hlb : (l == 0) = false := by simpa using hl
        obtain rfl : res = false := by have h9 := quot_nil; rw [← hE.out, Bool.eq_false_iff]; intro h; have h := (fine_iff _).1 h; simp only at h; grind
        clear hE
        clear hn  hna hqs hqa ha0 hnq hqb hl
        go_wp2_with (first
          | (go_at_call 144; have hmk := hg1; refine ((hNB _).out).mono ?_; rintro e w2 ⟨rfl, hg2⟩; have d2 := d1.grown hg2; obtain ⟨y0, y1, y2, y3, y4, y5⟩ := d2.all)
          | (go_at_call 144; refine ((hNA _).out).mono ?_; rintro e w1 ⟨rfl, hg1⟩; have d1 := hb0.grown hg1; obtain ⟨x0, x1, x2, x3, x4, x5⟩ := d1.all))
        go_ret
        exact ⟨rfl, gb_trans (gb_trans (gb_alloc (gb_refl _ _) _) hg1) hg2⟩
      have hlb : (l == 0) = true := by simp [hl]
      by_cases hr : r = 0
      rotate_left
      · have hrb : (r == 0) = false := by simpa using hr
        obtain rfl : res = false := by have h9 := quot_nil; rw [← hE.out, Bool.eq_false_iff]; intro h; have h := (fine_iff _).1 h; simp only at h; grind
        clear hE
        clear hn  hna hqs hqa ha0 hnq hqb hl hr
        go_wp2_with (first
          | (go_at_call 144; have hmk := hg1; refine ((hNB _).out).mono ?_; rintro e w2 ⟨rfl, hg2⟩; have d2 := d1.grown hg2; obtain ⟨y0, y1, y2, y3, y4, y5⟩ := d2.all)
          | (go_at_call 144; refine ((hNA _).out).mono ?_; rintro e w1 ⟨rfl, hg1⟩; have d1 := hb0.grown hg1; obtain ⟨x0, x1, x2, x3, x4, x5⟩ := d1.all))
        go_ret
        exact ⟨rfl, gb_trans (gb_trans (gb_alloc (gb_refl _ _) _) hg1) hg2⟩
      have hrb : (r == 0) = true := by simp [hr]
      obtain rfl : res = true := by have h9 := quot_nil; rw [← hE.out, fine_iff]; simp only; grind
      clear hE
      clear hn  hna hqs hqa ha0 hnq hqb hl hr
      go_wp2_with (first
        | (go_at_call 144; have hmk := hg1; refine ((hNB _).out).mono ?_; rintro e w2 ⟨rfl, hg2⟩; have d2 := d1.grown hg2; obtain ⟨y0, y1, y2, y3, y4, y5⟩ := d2.all)
        | (go_at_call 144; refine ((hNA _).out).mono ?_; rintro e w1 ⟨rfl, hg1⟩; have d1 := hb0.grown hg1; obtain ⟨x0, x1, x2, x3, x4, x5⟩ := d1.all))
      go_ret
      exact ⟨rfl, gb_trans (gb_trans (gb_alloc (gb_refl _ _) _) hg1) hg2⟩
set_option maxRecDepth 100000 in
set_option maxHeartbeats 3200000 in
theorem node_6 (n : Int) (a b : ByteArray) (l r : Int) (w : World) (hsa : a.size ≤ 1000000) (hsb : b.size ≤ 1000000) : NodeC ⟨6, n, a, b, l, r⟩ w := by
  unfold NodeC
  obtain ⟨res, hres, hE⟩ : ∃ res, fineN ⟨6, n, a, b, l, r⟩ = res ∧ Hid (fineN ⟨6, n, a, b, l, r⟩ = res) := ⟨_, rfl, rfl⟩
  rw [hres]
  clear hres
  have hb0 := box_nd w ⟨6, n, a, b, l, r⟩
  have hNA := fun W => Lib.hid (named_any a 1 W (by omega) hsa)
  have hNB := fun W => Lib.hid (named_any b 0 W (by omega) hsb)
  simp only at hb0
  clear hsa hsb
  go_enter Tryd.func117, Tryd.ntmps117
  by_cases hz : n < 0
  · obtain rfl : res = false := by have h9 := quot_nil; rw [← hE.out, Bool.eq_false_iff]; intro h; have h := (fine_iff _).1 h; simp only at h; grind
    clear hE
    go_wp2_with fail
    go_ret
    exact ⟨rfl, gb_alloc (gb_refl _ _) _⟩
  by_cases ha : a = ⟨#[]⟩
  rotate_left
  · have hab := txt_ne ha
    obtain rfl : res = false := by have h9 := quot_nil; rw [← hE.out, Bool.eq_false_iff]; intro h; have h := (fine_iff _).1 h; simp only at h; grind
    clear hE
    go_wp2_with fail
    go_ret
    exact ⟨rfl, gb_alloc (gb_refl _ _) _⟩
  have hab := txt_e ha
  by_cases hb : b = ⟨#[]⟩
  rotate_left
  · have hbb := txt_ne hb
    obtain rfl : res = false := by have h9 := quot_nil; rw [← hE.out, Bool.eq_false_iff]; intro h; have h := (fine_iff _).1 h; simp only at h; grind
    clear hE
    clear ha
    go_wp2_with fail
    go_ret
    exact ⟨rfl, gb_alloc (gb_refl _ _) _⟩
  have hbb := txt_e hb
  have hnb0 : namedB b 0 = true := by rw [hb]; exact named_nil
  rw [hnb0] at hNB
  by_cases hl : l = 0
  rotate_left
  · have hlb : (l == 0) = false := by simpa using hl
    obtain rfl : res = false := by have h9 := quot_nil; rw [← hE.out, Bool.eq_false_iff]; intro h; have h := (fine_iff _).1 h; simp only at h; grind
    clear hE
    clear ha hb hnb0 hl
    go_wp2_with (first
      | (go_at_call 144; refine ((hNB _).out).mono ?_; rintro e w1 ⟨rfl, hg1⟩; have d1 := hb0.grown hg1; obtain ⟨x0, x1, x2, x3, x4, x5⟩ := d1.all))
    go_ret
    exact ⟨rfl, gb_trans (gb_alloc (gb_refl _ _) _) hg1⟩
  have hlb : (l == 0) = true := by simp [hl]
  by_cases hr : r = 0
  rotate_left
  · have hrb : (r == 0) = false := by simpa using hr
    obtain rfl : res = false := by have h9 := quot_nil; rw [← hE.out, Bool.eq_false_iff]; intro h; have h := (fine_iff _).1 h; simp only at h; grind
    clear hE
    clear ha hb hnb0 hl hr
    go_wp2_with (first
      | (go_at_call 144; refine ((hNB _).out).mono ?_; rintro e w1 ⟨rfl, hg1⟩; have d1 := hb0.grown hg1; obtain ⟨x0, x1, x2, x3, x4, x5⟩ := d1.all))
    go_ret
    exact ⟨rfl, gb_trans (gb_alloc (gb_refl _ _) _) hg1⟩
  have hrb : (r == 0) = true := by simp [hr]
  obtain rfl : res = true := by have h9 := quot_nil; rw [← hE.out, fine_iff]; simp only; grind
  clear hE
  clear ha hb hnb0 hl hr
  go_wp2_with (first
    | (go_at_call 144; refine ((hNB _).out).mono ?_; rintro e w1 ⟨rfl, hg1⟩; have d1 := hb0.grown hg1; obtain ⟨x0, x1, x2, x3, x4, x5⟩ := d1.all))
  go_ret
  exact ⟨rfl, gb_trans (gb_alloc (gb_refl _ _) _) hg1⟩
set_option maxRecDepth 100000 in
set_option maxHeartbeats 3200000 in
theorem node_7 (n : Int) (a b : ByteArray) (l r : Int) (w : World) (hsa : a.size ≤ 1000000) (hsb : b.size ≤ 1000000) : NodeC ⟨7, n, a, b, l, r⟩ w := by
  unfold NodeC
  obtain ⟨res, hres, hE⟩ : ∃ res, fineN ⟨7, n, a, b, l, r⟩ = res ∧ Hid (fineN ⟨7, n, a, b, l, r⟩ = res) := ⟨_, rfl, rfl⟩
  rw [hres]
  clear hres
  have hb0 := box_nd w ⟨7, n, a, b, l, r⟩
  have hNA := fun W => Lib.hid (named_any a 1 W (by omega) hsa)
  have hNB := fun W => Lib.hid (named_any b 0 W (by omega) hsb)
  simp only at hb0
  clear hsa hsb
  go_enter Tryd.func117, Tryd.ntmps117
  by_cases hn : n = 0
  rotate_left
  · have hnb : (n != 0) = true := by simpa using hn
    obtain rfl : res = false := by have h9 := quot_nil; rw [← hE.out, Bool.eq_false_iff]; intro h; have h := (fine_iff _).1 h; simp only at h; grind
    clear hE
    clear hn
    go_wp2_with fail
    go_ret
    exact ⟨rfl, gb_alloc (gb_refl _ _) _⟩
  have hnb : (n != 0) = false := by simp [hn]
  by_cases hz : n < 0
  · obtain rfl : res = false := by have h9 := quot_nil; rw [← hE.out, Bool.eq_false_iff]; intro h; have h := (fine_iff _).1 h; simp only at h; grind
    clear hE
    clear hn
    go_wp2_with fail
    go_ret
    exact ⟨rfl, gb_alloc (gb_refl _ _) _⟩
  by_cases ha : a = ⟨#[]⟩
  rotate_left
  · have hab := txt_ne ha
    obtain rfl : res = false := by have h9 := quot_nil; rw [← hE.out, Bool.eq_false_iff]; intro h; have h := (fine_iff _).1 h; simp only at h; grind
    clear hE
    clear hn
    go_wp2_with fail
    go_ret
    exact ⟨rfl, gb_alloc (gb_refl _ _) _⟩
  have hab := txt_e ha
  by_cases hb : b = ⟨#[]⟩
  rotate_left
  · have hbb := txt_ne hb
    obtain rfl : res = false := by have h9 := quot_nil; rw [← hE.out, Bool.eq_false_iff]; intro h; have h := (fine_iff _).1 h; simp only at h; grind
    clear hE
    clear hn ha
    go_wp2_with fail
    go_ret
    exact ⟨rfl, gb_alloc (gb_refl _ _) _⟩
  have hbb := txt_e hb
  have hnb0 : namedB b 0 = true := by rw [hb]; exact named_nil
  rw [hnb0] at hNB
  by_cases hr : r = 0
  · have hrb : (r == 0) = true := by simp [hr]
    obtain rfl : res = true := by have h9 := quot_nil; rw [← hE.out, fine_iff]; simp only; grind
    clear hE
    clear hn ha hb hnb0 hr
    go_wp2_with (first
      | (go_at_call 144; refine ((hNB _).out).mono ?_; rintro e w1 ⟨rfl, hg1⟩; have d1 := hb0.grown hg1; obtain ⟨x0, x1, x2, x3, x4, x5⟩ := d1.all))
    go_ret
    exact ⟨rfl, gb_trans (gb_alloc (gb_refl _ _) _) hg1⟩
  · have hrb : (r == 0) = false := by simpa using hr
    obtain rfl : res = false := by rw [← hE.out, Bool.eq_false_iff]; intro h; have h := (fine_iff _).1 h; simp only at h; grind
    clear hE
    clear hn ha hb hnb0 hr
    by_cases hl : l = 0
    · have hlb : (l == 0) = true := by simp [hl]
      clear hl
      go_wp2_with (first
        | (go_at_call 144; refine ((hNB _).out).mono ?_; rintro e w1 ⟨rfl, hg1⟩; have d1 := hb0.grown hg1; obtain ⟨x0, x1, x2, x3, x4, x5⟩ := d1.all))
      go_ret
      exact ⟨rfl, gb_trans (gb_alloc (gb_refl _ _) _) hg1⟩
    · have hlb : (l == 0) = false := by simpa using hl
      clear hl
      go_wp2_with (first
        | (go_at_call 144; refine ((hNB _).out).mono ?_; rintro e w1 ⟨rfl, hg1⟩; have d1 := hb0.grown hg1; obtain ⟨x0, x1, x2, x3, x4, x5⟩ := d1.all))
      go_ret
      exact ⟨rfl, gb_trans (gb_alloc (gb_refl _ _) _) hg1⟩
set_option maxRecDepth 100000 in
set_option maxHeartbeats 3200000 in
theorem node_8 (n : Int) (a b : ByteArray) (l r : Int) (w : World) (hsa : a.size ≤ 1000000) (hsb : b.size ≤ 1000000) : NodeC ⟨8, n, a, b, l, r⟩ w := by
  unfold NodeC
  obtain ⟨res, hres, hE⟩ : ∃ res, fineN ⟨8, n, a, b, l, r⟩ = res ∧ Hid (fineN ⟨8, n, a, b, l, r⟩ = res) := ⟨_, rfl, rfl⟩
  rw [hres]
  clear hres
  have hb0 := box_nd w ⟨8, n, a, b, l, r⟩
  have hNA := fun W => Lib.hid (named_any a 1 W (by omega) hsa)
  have hNB := fun W => Lib.hid (named_any b 0 W (by omega) hsb)
  simp only at hb0
  clear hsa hsb
  go_enter Tryd.func117, Tryd.ntmps117
  by_cases hn : n = 0
  rotate_left
  · have hnb : (n != 0) = true := by simpa using hn
    obtain rfl : res = false := by have h9 := quot_nil; rw [← hE.out, Bool.eq_false_iff]; intro h; have h := (fine_iff _).1 h; simp only at h; grind
    clear hE
    clear hn
    go_wp2_with fail
    go_ret
    exact ⟨rfl, gb_alloc (gb_refl _ _) _⟩
  have hnb : (n != 0) = false := by simp [hn]
  by_cases hz : n < 0
  · obtain rfl : res = false := by have h9 := quot_nil; rw [← hE.out, Bool.eq_false_iff]; intro h; have h := (fine_iff _).1 h; simp only at h; grind
    clear hE
    clear hn
    go_wp2_with fail
    go_ret
    exact ⟨rfl, gb_alloc (gb_refl _ _) _⟩
  by_cases ha : a = ⟨#[]⟩
  rotate_left
  · have hab := txt_ne ha
    obtain rfl : res = false := by have h9 := quot_nil; rw [← hE.out, Bool.eq_false_iff]; intro h; have h := (fine_iff _).1 h; simp only at h; grind
    clear hE
    clear hn
    go_wp2_with fail
    go_ret
    exact ⟨rfl, gb_alloc (gb_refl _ _) _⟩
  have hab := txt_e ha
  by_cases hb : b = ⟨#[]⟩
  rotate_left
  · have hbb := txt_ne hb
    obtain rfl : res = false := by have h9 := quot_nil; rw [← hE.out, Bool.eq_false_iff]; intro h; have h := (fine_iff _).1 h; simp only at h; grind
    clear hE
    clear hn ha
    go_wp2_with fail
    go_ret
    exact ⟨rfl, gb_alloc (gb_refl _ _) _⟩
  have hbb := txt_e hb
  have hnb0 : namedB b 0 = true := by rw [hb]; exact named_nil
  rw [hnb0] at hNB
  obtain rfl : res = true := by have h9 := quot_nil; rw [← hE.out, fine_iff]; simp only; grind
  clear hE
  clear hn ha hb hnb0
  go_wp2_with (first
    | (go_at_call 144; refine ((hNB _).out).mono ?_; rintro e w1 ⟨rfl, hg1⟩; have d1 := hb0.grown hg1; obtain ⟨x0, x1, x2, x3, x4, x5⟩ := d1.all))
  go_ret
  exact ⟨rfl, gb_trans (gb_alloc (gb_refl _ _) _) hg1⟩
set_option maxRecDepth 100000 in
set_option maxHeartbeats 3200000 in
theorem node_9 (n : Int) (a b : ByteArray) (l r : Int) (w : World) (hsa : a.size ≤ 1000000) (hsb : b.size ≤ 1000000) : NodeC ⟨9, n, a, b, l, r⟩ w := by
  unfold NodeC
  obtain ⟨res, hres, hE⟩ : ∃ res, fineN ⟨9, n, a, b, l, r⟩ = res ∧ Hid (fineN ⟨9, n, a, b, l, r⟩ = res) := ⟨_, rfl, rfl⟩
  rw [hres]
  clear hres
  have hb0 := box_nd w ⟨9, n, a, b, l, r⟩
  have hNA := fun W => Lib.hid (named_any a 1 W (by omega) hsa)
  have hNB := fun W => Lib.hid (named_any b 0 W (by omega) hsb)
  simp only at hb0
  clear hsa hsb
  go_enter Tryd.func117, Tryd.ntmps117
  by_cases hn : n = 0
  rotate_left
  · have hnb : (n != 0) = true := by simpa using hn
    obtain rfl : res = false := by have h9 := quot_nil; rw [← hE.out, Bool.eq_false_iff]; intro h; have h := (fine_iff _).1 h; simp only at h; grind
    clear hE
    clear hn
    go_wp2_with fail
    go_ret
    exact ⟨rfl, gb_alloc (gb_refl _ _) _⟩
  have hnb : (n != 0) = false := by simp [hn]
  by_cases hz : n < 0
  · obtain rfl : res = false := by have h9 := quot_nil; rw [← hE.out, Bool.eq_false_iff]; intro h; have h := (fine_iff _).1 h; simp only at h; grind
    clear hE
    clear hn
    go_wp2_with fail
    go_ret
    exact ⟨rfl, gb_alloc (gb_refl _ _) _⟩
  by_cases ha : a = ⟨#[]⟩
  rotate_left
  · have hab := txt_ne ha
    obtain rfl : res = false := by have h9 := quot_nil; rw [← hE.out, Bool.eq_false_iff]; intro h; have h := (fine_iff _).1 h; simp only at h; grind
    clear hE
    clear hn
    go_wp2_with fail
    go_ret
    exact ⟨rfl, gb_alloc (gb_refl _ _) _⟩
  have hab := txt_e ha
  by_cases hb : b = ⟨#[]⟩
  rotate_left
  · have hbb := txt_ne hb
    obtain rfl : res = false := by have h9 := quot_nil; rw [← hE.out, Bool.eq_false_iff]; intro h; have h := (fine_iff _).1 h; simp only at h; grind
    clear hE
    clear hn ha
    go_wp2_with fail
    go_ret
    exact ⟨rfl, gb_alloc (gb_refl _ _) _⟩
  have hbb := txt_e hb
  have hnb0 : namedB b 0 = true := by rw [hb]; exact named_nil
  rw [hnb0] at hNB
  obtain rfl : res = true := by have h9 := quot_nil; rw [← hE.out, fine_iff]; simp only; grind
  clear hE
  clear hn ha hb hnb0
  go_wp2_with (first
    | (go_at_call 144; refine ((hNB _).out).mono ?_; rintro e w1 ⟨rfl, hg1⟩; have d1 := hb0.grown hg1; obtain ⟨x0, x1, x2, x3, x4, x5⟩ := d1.all))
  go_ret
  exact ⟨rfl, gb_trans (gb_alloc (gb_refl _ _) _) hg1⟩
theorem node_any (x : PN) (w : World) (hsa : x.a.size ≤ 1000000) (hsb : x.b.size ≤ 1000000) : NodeC x w := by
  obtain ⟨k, n, a, b, l, r⟩ := x
  by_cases h : k < 1 ∨ 9 < k
  · exact node_out k n a b l r w h
  have : k = 1 ∨ k = 2 ∨ k = 3 ∨ k = 4 ∨ k = 5 ∨ k = 6 ∨ k = 7 ∨ k = 8 ∨ k = 9 := by omega
  rcases this with rfl | rfl | rfl | rfl | rfl | rfl | rfl | rfl | rfl
  · exact node_1 n a b l r w hsa hsb
  · exact node_2 n a b l r w hsa hsb
  · exact node_3 n a b l r w hsa hsb
  · exact node_4 n a b l r w hsa hsb
  · exact node_5 n a b l r w hsa hsb
  · exact node_6 n a b l r w hsa hsb
  · exact node_7 n a b l r w hsa hsb
  · exact node_8 n a b l r w hsa hsb
  · exact node_9 n a b l r w hsa hsb
end Go.Proofs.YtnnhkajjifmlfaaDoor.Pl
