/- Policies: may a node be: the walks. -/
import Derived.Test.YtnnhkajjifmlfaaDoorPj
import Derived.Laws.StructEq
namespace Go.Proofs.YtnnhkajjifmlfaaDoor.Pl
open Go.RowKit Go.Maps

theorem longN_of (x : PN) : longN x = (decide (128 < (x.a.size : Int)) || decide (128 < (x.b.size : Int)) || (x.k == 3 && decide (4611686018427387903 < x.n)) || (x.k == 6 && decide (1000 < x.n))) := by
  unfold longN
  have e1 : decide (128 < x.a.size) = decide (128 < (x.a.size : Int)) := by congr 1; exact propext (by omega)
  have e2 : decide (128 < x.b.size) = decide (128 < (x.b.size : Int)) := by congr 1; exact propext (by omega)
  rw [e1, e2]
set_option maxHeartbeats 3200000 in
theorem long_any (x : PN) (w : World) : Calls Tryd.prog 73 #[nodeV x] w fun e w' => e = .returned (.bool (longN x)) ∧ w.grownBy w' none := by
  obtain ⟨r, hr, hT⟩ : ∃ r, longN x = r ∧ Hid (longN x = r) := ⟨_, rfl, rfl⟩
  rw [hr]
  clear hr
  rw [longN_of] at hT
  go_enter Tryd.func73, Tryd.ntmps73
  by_cases h1 : (128 : Int) < (x.a.size : Int)
  · obtain rfl : r = true := by rw [← hT.out, decide_eq_true h1]; rfl
    clear hT
    go_wp2_with fail
    go_ret
    exact ⟨rfl, gb_alloc (gb_refl _ _) _⟩
  rw [decide_eq_false h1, Bool.false_or] at hT
  by_cases h2 : (128 : Int) < (x.b.size : Int)
  · obtain rfl : r = true := by rw [← hT.out, decide_eq_true h2]; rfl
    clear hT
    go_wp2_with fail
    go_ret
    exact ⟨rfl, gb_alloc (gb_refl _ _) _⟩
  rw [decide_eq_false h2, Bool.false_or] at hT
  by_cases h3 : x.k = 3
  · have hb3 : (x.k == 3) = true := by simp [h3]
    have hb6 : (x.k == 6) = false := by simp [h3]
    rw [hb3, hb6, Bool.false_and, Bool.or_false, Bool.true_and] at hT
    clear h3
    by_cases h4 : (4611686018427387903 : Int) < x.n
    · obtain rfl : r = true := by rw [← hT.out, decide_eq_true h4]
      clear hT
      go_wp2_with fail
      go_ret
      exact ⟨rfl, gb_alloc (gb_refl _ _) _⟩
    · obtain rfl : r = false := by rw [← hT.out, decide_eq_false h4]
      clear hT
      go_wp2_with fail
      go_ret
      exact ⟨rfl, gb_alloc (gb_refl _ _) _⟩
  have hb3 : (x.k == 3) = false := by simpa using h3
  rw [hb3, Bool.false_and, Bool.false_or] at hT
  by_cases h5 : x.k = 6
  · have hb6 : (x.k == 6) = true := by simp [h5]
    rw [hb6, Bool.true_and] at hT
    clear h3 h5
    by_cases h4 : (1000 : Int) < x.n
    · obtain rfl : r = true := by rw [← hT.out, decide_eq_true h4]
      clear hT
      go_wp2_with fail
      go_ret
      exact ⟨rfl, gb_alloc (gb_refl _ _) _⟩
    · obtain rfl : r = false := by rw [← hT.out, decide_eq_false h4]
      clear hT
      go_wp2_with fail
      go_ret
      exact ⟨rfl, gb_alloc (gb_refl _ _) _⟩
  · have hb6 : (x.k == 6) = false := by simpa using h5
    obtain rfl : r = false := by rw [← hT.out, hb6]; rfl
    clear hT h3 h5
    go_wp2_with fail
    go_ret
    exact ⟨rfl, gb_alloc (gb_refl _ _) _⟩
theorem quotable_any (s : ByteArray) (w : World) : Calls Tryd.prog 120 #[.string s] w fun e w' => e = .returned (.bool (quotB s)) ∧ w' = w := by
  have hT := Lib.hid (spanText_any s w)
  have hC := Lib.hid (Tryd.strings_Contains_one s 34 w)
  rw [(indexByte_has _ _).2] at hC
  have hQ : Hid (quotB s = (textB s && !hasB s 34)) := rfl
  rw [hQ.out]
  unfold hasB
  generalize s.data.toList.contains 34 = b at *
  generalize textB s = a at *
  go_enter Tryd.func120, Tryd.ntmps120
  cases a with
  | true =>
    cases b with
    | true =>
      go_wp2_with (first
        | (go_at_call 145; refine (hT.out).mono ?_; rintro e w1 ⟨rfl, rfl⟩)
        | (go_at_call 146; refine (hC.out).mono ?_; rintro e w1 ⟨rfl, rfl⟩))
      go_ret
      exact ⟨rfl, rfl⟩
    | false =>
      go_wp2_with (first
        | (go_at_call 145; refine (hT.out).mono ?_; rintro e w1 ⟨rfl, rfl⟩)
        | (go_at_call 146; refine (hC.out).mono ?_; rintro e w1 ⟨rfl, rfl⟩))
      go_ret
      exact ⟨rfl, rfl⟩
  | false =>
    go_wp2_with (first
      | (go_at_call 145; refine (hT.out).mono ?_; rintro e w1 ⟨rfl, rfl⟩))
    go_ret
    exact ⟨rfl, rfl⟩
theorem toList_iff (a b : ByteArray) : a.toList = b.toList ↔ a = b := by
  rw [Lib.toList_data, Lib.toList_data]
  exact ⟨fun h => ByteArray.ext (Array.toList_inj.1 h), fun h => by rw [h]⟩
theorem run_eq64 (x y : PN) (w : World) : (binOp .eql 64 (.agg #[.int .i64 x.k, .int .i64 x.n, .string x.a, .string x.b, .int .i64 x.l, .int .i64 x.r]) (.agg #[.int .i64 y.k, .int .i64 y.n, .string y.a, .string y.b, .int .i64 y.l, .int .i64 y.r])).run Tryd.prog w = .ok (.bool (decide (x = y))) w := by
  go_simp
  simp only [toList_iff]
  obtain ⟨k, n, a, b, l, r⟩ := x
  obtain ⟨k', n', a', b', l', r'⟩ := y
  simp only [PN.mk.injEq]
  by_cases h1 : k = k'
  · by_cases h2 : n = n'
    · by_cases h3 : a = a'
      · by_cases h4 : b = b'
        · by_cases h5 : l = l'
          · by_cases h6 : r = r'
            · simp [h1, h2, h3, h4, h5, h6]
            · simp [h1, h2, h3, h4, h5, h6]
          · simp [h1, h2, h3, h4, h5]
        · simp [h1, h2, h3, h4]
      · simp [h1, h2, h3]
    · simp [h1, h2]
  · simp [h1]
/-- a node without what its kind has -/
def bareN (x : PN) : PN :=
  if x.k = 3 ∨ x.k = 6 then { x with n := 0 }
  else if x.k = 4 then { x with a := ⟨#[]⟩ }
  else if x.k = 5 then { x with a := ⟨#[]⟩, b := ⟨#[]⟩ }
  else if x.k = 7 then { x with l := 0 }
  else if x.k = 8 ∨ x.k = 9 then { x with l := 0, r := 0 }
  else x
def namedN (x : PN) : Bool := !(x.k == 4 || x.k == 5) || decide (x.a ≠ ⟨#[]⟩)
theorem sz0 (x : ByteArray) : x.size = 0 ↔ x = ⟨#[]⟩ := ⟨ba_nil', fun h => by rw [h]; rfl⟩
theorem fineN_eq (x : PN) : fineN x = (decide (1 ≤ x.k) && decide (x.k ≤ 9) && decide (bareN x = ⟨x.k, 0, ⟨#[]⟩, ⟨#[]⟩, 0, 0⟩) && decide (0 ≤ x.n) && namedN x && quotB x.a && quotB x.b) := by
  unfold fineN namedN bareN
  simp only [sz0, ne_eq]
  generalize quotB x.a = qa
  generalize quotB x.b = qb
  obtain ⟨k, n, a, b, l, r⟩ := x
  simp only
  by_cases h1 : 1 ≤ k
  · by_cases h9 : k ≤ 9
    · have : k = 1 ∨ k = 2 ∨ k = 3 ∨ k = 4 ∨ k = 5 ∨ k = 6 ∨ k = 7 ∨ k = 8 ∨ k = 9 := by omega
      rcases this with rfl | rfl | rfl | rfl | rfl | rfl | rfl | rfl | rfl
      all_goals
        rw [Bool.eq_iff_iff]
        simp
        try grind
    · simp [h9]
  · simp [h1]
end Go.Proofs.YtnnhkajjifmlfaaDoor.Pl
