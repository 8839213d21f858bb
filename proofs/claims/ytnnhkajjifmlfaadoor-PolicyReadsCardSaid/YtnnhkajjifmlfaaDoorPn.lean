/- Policies: & and | are read: the walks. -/
import Derived.Test.YtnnhkajjifmlfaaDoorPl
import Derived.Laws.StructEq
namespace Go.Proofs.YtnnhkajjifmlfaaDoor.Pl
open Go.RowKit Go.Maps

set_option maxHeartbeats 3200000 in
theorem andW_any {G : PQ → Int × PQ} {B : Nat} {s : ByteArray} (hs : s.size ≤ 100000) (hB6 : 6 ≤ B) (hU : FGn s G) (t : Nat) (hG0 : FC 138 G B s t) : FC 108 (fun σ => manyP s 38 8 G (s.size + 1) (G σ).1 (G σ).2) B s t := by
  intro R σ w h hl hn ht hG
  have hta := hl.ta_le
  obtain ⟨res, hres, hE⟩ : ∃ res, manyP s 38 8 G (s.size + 1) (G σ).1 (G σ).2 = res ∧ Hid (manyP s 38 8 G (s.size + 1) (G σ).1 (G σ).2 = res) := ⟨_, rfl, rfl⟩
  simp only
  rw [hres]
  clear hres
  have hO := Lib.hid (hG0 R σ w h hl hn ht hG)
  have hgo := hU σ hl
  generalize G σ = y at *
  obtain ⟨v, υ⟩ := y
  simp only at *
  have hlu := hgo.lk
  have hnu : υ.ns.length ≤ 1 + 2 * υ.ta := by have := hgo.ns; omega
  have htu : σ.ta ≤ υ.ta := hgo.ta
  clear hgo
  go_enter Tryd.func108, Tryd.ntmps108
  go_wp2_with (first
    | (go_at_call 138; refine (hO.out).mono ?_; rintro e w1 ⟨rfl, hp1, hb1⟩))
  go_loopg [3] (s.size + 1 - υ.ta) (fun k u3 wr => ∃ (f : Nat) (a : Int) (τ : PQ), u3 = .int .i64 a ∧ Hid (manyP s 38 8 G f a τ = res) ∧ Lk s τ ∧ τ.ns.length ≤ 1 + 2 * τ.ta ∧ σ.ta ≤ τ.ta ∧ s.size < f + τ.ta ∧ k = s.size + 1 - τ.ta ∧ PR B R s τ wr ∧ Below B w wr)
  case atStart => exact ⟨s.size + 1, v, υ, rfl, hE, hlu, hnu, htu, by omega, rfl, hp1, hb1⟩
  case round =>
    clear hp1 hb1 hE hO
    obtain ⟨f, a, τ, rfl, hma, hlk, hns, hj, hf, rfl, hp, hb⟩ := hrel
    have hta2 := hlk.ta_le
    cases hsg : signB 38 τ with
    | true =>
      obtain ⟨f', rfl⟩ : ∃ f', f = f' + 1 := ⟨f - 1, by omega⟩
      obtain ⟨g1, g2, g3⟩ := gn_sign hlk (signB_k0 hsg)
      have hma2 : Hid (manyP s 38 8 G f' (putP ⟨8, 0, ⟨#[]⟩, ⟨#[]⟩, a, (G (nextP s τ)).1⟩ (G (nextP s τ)).2).1 (putP ⟨8, 0, ⟨#[]⟩, ⟨#[]⟩, a, (G (nextP s τ)).1⟩ (G (nextP s τ)).2).2 = res) := by
        have := hma.out
        rw [manyP, if_pos hsg] at this
        exact this
      have hS := Lib.hid (sign_prY 38 hp hlk (by omega) hsg)
      have hta3 := g2.ta_le
      have hI := fun W (hh : PR B R s (nextP s τ) W) (hGW : Gv W) => Lib.hid (hG0 R (nextP s τ) W hh g2 (by rw [g3]; omega) (by omega) hGW)
      have hgo := hU _ g2
      have hgn := hgo.ns
      rw [g3] at hgn
      have hgt := hgo.ta
      have hgl := hgo.lk
      clear hma hgo
      generalize G (nextP s τ) = z at *
      obtain ⟨v2, υ2⟩ := z
      simp only at *
      have hgs := hgl.ta_le
      have hP := fun W (hh : PR B R s υ2 W) => Lib.hid (put_any B R s υ2 ⟨8, 0, ⟨#[]⟩, ⟨#[]⟩, a, v2⟩ W hh (by omega))
      have hln : (putP ⟨8, 0, ⟨#[]⟩, ⟨#[]⟩, a, v2⟩ υ2).2.ns.length = υ2.ns.length + 1 := by unfold putP; simp
      have hlt : (putP ⟨8, 0, ⟨#[]⟩, ⟨#[]⟩, a, v2⟩ υ2).2.ta = υ2.ta := rfl
      have hll := (gn_put hgl ⟨8, 0, ⟨#[]⟩, ⟨#[]⟩, a, v2⟩).lk
      generalize putP ⟨8, 0, ⟨#[]⟩, ⟨#[]⟩, a, v2⟩ υ2 = z at *
      obtain ⟨a3, τ3⟩ := z
      simp only at *
      go_wp2_with (first
        | (go_at_call 109; refine (hS.out).mono ?_; rintro e w2 ⟨rfl, hp2, hb2⟩)
        | (go_at_call 138; refine ((hI _ hp2 (gv_below hG (hb.trans hb2) hB6)).out).mono ?_; rintro e w3 ⟨rfl, hp3, hb3⟩)
        | (go_at_call 110; refine ((hP _ hp3).out).mono ?_; rintro e w4 ⟨rfl, hp4, hb4⟩))
      go_roundg (s.size + 1 - τ3.ta)
      case measure => omega
      case rel => exact ⟨f', a3, τ3, rfl, hma2, hll, by omega, by omega, by omega, rfl, hp4, ((hb.trans hb2).trans hb3).trans hb4⟩
    | false =>
      have hE2 : Hid (res = (a, τ)) := by
        have := hma.out
        cases f with
        | zero => omega
        | succ f => rw [manyP, hsg] at this; exact this.symm
      have hS := Lib.hid (sign_prN 38 hp hlk (by omega) hsg)
      clear hma
      go_wp2_with (first
        | (go_at_call 109; refine (hS.out).mono ?_; rintro e w2 ⟨rfl, hp2, hb2⟩))
      go_ret
      exact ⟨by rw [hE2.out]; rfl, by rw [hE2.out]; exact hp2, hb.trans hb2⟩
set_option maxHeartbeats 3200000 in
theorem orW_any {G : PQ → Int × PQ} {B : Nat} {s : ByteArray} (hs : s.size ≤ 100000) (hB6 : 6 ≤ B) (hU : FGn s G) (t : Nat) (hG0 : FC 108 G B s t) : FC 64 (fun σ => manyP s 124 9 G (s.size + 1) (G σ).1 (G σ).2) B s t := by
  intro R σ w h hl hn ht hG
  have hta := hl.ta_le
  obtain ⟨res, hres, hE⟩ : ∃ res, manyP s 124 9 G (s.size + 1) (G σ).1 (G σ).2 = res ∧ Hid (manyP s 124 9 G (s.size + 1) (G σ).1 (G σ).2 = res) := ⟨_, rfl, rfl⟩
  simp only
  rw [hres]
  clear hres
  have hO := Lib.hid (hG0 R σ w h hl hn ht hG)
  have hgo := hU σ hl
  generalize G σ = y at *
  obtain ⟨v, υ⟩ := y
  simp only at *
  have hlu := hgo.lk
  have hnu : υ.ns.length ≤ 1 + 2 * υ.ta := by have := hgo.ns; omega
  have htu : σ.ta ≤ υ.ta := hgo.ta
  clear hgo
  go_enter Tryd.func64, Tryd.ntmps64
  go_wp2_with (first
    | (go_at_call 108; refine (hO.out).mono ?_; rintro e w1 ⟨rfl, hp1, hb1⟩))
  go_loopg [3] (s.size + 1 - υ.ta) (fun k u3 wr => ∃ (f : Nat) (a : Int) (τ : PQ), u3 = .int .i64 a ∧ Hid (manyP s 124 9 G f a τ = res) ∧ Lk s τ ∧ τ.ns.length ≤ 1 + 2 * τ.ta ∧ σ.ta ≤ τ.ta ∧ s.size < f + τ.ta ∧ k = s.size + 1 - τ.ta ∧ PR B R s τ wr ∧ Below B w wr)
  case atStart => exact ⟨s.size + 1, v, υ, rfl, hE, hlu, hnu, htu, by omega, rfl, hp1, hb1⟩
  case round =>
    clear hp1 hb1 hE hO
    obtain ⟨f, a, τ, rfl, hma, hlk, hns, hj, hf, rfl, hp, hb⟩ := hrel
    have hta2 := hlk.ta_le
    cases hsg : signB 124 τ with
    | true =>
      obtain ⟨f', rfl⟩ : ∃ f', f = f' + 1 := ⟨f - 1, by omega⟩
      obtain ⟨g1, g2, g3⟩ := gn_sign hlk (signB_k0 hsg)
      have hma2 : Hid (manyP s 124 9 G f' (putP ⟨9, 0, ⟨#[]⟩, ⟨#[]⟩, a, (G (nextP s τ)).1⟩ (G (nextP s τ)).2).1 (putP ⟨9, 0, ⟨#[]⟩, ⟨#[]⟩, a, (G (nextP s τ)).1⟩ (G (nextP s τ)).2).2 = res) := by
        have := hma.out
        rw [manyP, if_pos hsg] at this
        exact this
      have hS := Lib.hid (sign_prY 124 hp hlk (by omega) hsg)
      have hta3 := g2.ta_le
      have hI := fun W (hh : PR B R s (nextP s τ) W) (hGW : Gv W) => Lib.hid (hG0 R (nextP s τ) W hh g2 (by rw [g3]; omega) (by omega) hGW)
      have hgo := hU _ g2
      have hgn := hgo.ns
      rw [g3] at hgn
      have hgt := hgo.ta
      have hgl := hgo.lk
      clear hma hgo
      generalize G (nextP s τ) = z at *
      obtain ⟨v2, υ2⟩ := z
      simp only at *
      have hgs := hgl.ta_le
      have hP := fun W (hh : PR B R s υ2 W) => Lib.hid (put_any B R s υ2 ⟨9, 0, ⟨#[]⟩, ⟨#[]⟩, a, v2⟩ W hh (by omega))
      have hln : (putP ⟨9, 0, ⟨#[]⟩, ⟨#[]⟩, a, v2⟩ υ2).2.ns.length = υ2.ns.length + 1 := by unfold putP; simp
      have hlt : (putP ⟨9, 0, ⟨#[]⟩, ⟨#[]⟩, a, v2⟩ υ2).2.ta = υ2.ta := rfl
      have hll := (gn_put hgl ⟨9, 0, ⟨#[]⟩, ⟨#[]⟩, a, v2⟩).lk
      generalize putP ⟨9, 0, ⟨#[]⟩, ⟨#[]⟩, a, v2⟩ υ2 = z at *
      obtain ⟨a3, τ3⟩ := z
      simp only at *
      go_wp2_with (first
        | (go_at_call 109; refine (hS.out).mono ?_; rintro e w2 ⟨rfl, hp2, hb2⟩)
        | (go_at_call 108; refine ((hI _ hp2 (gv_below hG (hb.trans hb2) hB6)).out).mono ?_; rintro e w3 ⟨rfl, hp3, hb3⟩)
        | (go_at_call 110; refine ((hP _ hp3).out).mono ?_; rintro e w4 ⟨rfl, hp4, hb4⟩))
      go_roundg (s.size + 1 - τ3.ta)
      case measure => omega
      case rel => exact ⟨f', a3, τ3, rfl, hma2, hll, by omega, by omega, by omega, rfl, hp4, ((hb.trans hb2).trans hb3).trans hb4⟩
    | false =>
      have hE2 : Hid (res = (a, τ)) := by
        have := hma.out
        cases f with
        | zero => omega
        | succ f => rw [manyP, hsg] at this; exact this.symm
      have hS := Lib.hid (sign_prN 124 hp hlk (by omega) hsg)
      clear hma
      go_wp2_with (first
        | (go_at_call 109; refine (hS.out).mono ?_; rintro e w2 ⟨rfl, hp2, hb2⟩))
      go_ret
      exact ⟨by rw [hE2.out]; rfl, by rw [hE2.out]; exact hp2, hb.trans hb2⟩
theorem orD_any {B : Nat} {s : ByteArray} (hs : s.size ≤ 100000) (hB6 : 6 ≤ B) : ∀ (d t : Nat), s.size < d + t → FC 64 (orD s d) B s t
  | 0, t, h => fun R σ w _ hl _ ht _ => by have := hl.ta_le; omega
  | d + 1, t, h => orW_any hs hB6 (gn_and (gn_orD s d)) t (andW_any hs hB6 (gn_not (gn_orD s d)) t (not_any hs hB6 (gn_orD s d) t (orD_any hs hB6 d (t + 1) (by omega))))
end Go.Proofs.YtnnhkajjifmlfaaDoor.Pl
/-! Policies: may a node be: the walks. -/
namespace Go.Proofs.YtnnhkajjifmlfaaDoor.Pl
open Go.RowKit Go.Maps

theorem longN_of (x : PN) : longN x = (decide (128 < (x.a.size : Int)) || decide (128 < (x.b.size : Int)) || (x.k == 3 && decide (4611686018427387903 < x.n)) || (x.k == 6 && decide (1000 < x.n))) := by
  unfold longN
  have e1 : decide (128 < x.a.size) = decide (128 < (x.a.size : Int)) := by congr 1; exact propext (by omega)
  have e2 : decide (128 < x.b.size) = decide (128 < (x.b.size : Int)) := by congr 1; exact propext (by omega)
  rw [e1, e2]
set_option maxHeartbeats 3200000 in
theorem long_any (x : PN) (w : World) : Calls Tryd.prog 73 #[nodeV x] w fun e w' => e = .returned (.bool (longN x)) ∧ w.grownBy w' none := by
  obtain ⟨r, hr, hT⟩ : ∃ r, longN x = r ∧ Hid (longN x = r) := ⟨_, rfl, rfl⟩
  rw [hr]
  clear hr
  rw [longN_of] at hT
  go_enter Tryd.func73, Tryd.ntmps73
  by_cases h1 : (128 : Int) < (x.a.size : Int)
  · obtain rfl : r = true := by rw [← hT.out, decide_eq_true h1]; rfl
    clear hT
    go_wp2_with fail
    go_ret
    exact ⟨rfl, gb_alloc (gb_refl _ _) _⟩
  rw [decide_eq_false h1, Bool.false_or] at hT
  by_cases h2 : (128 : Int) < (x.b.size : Int)
  · obtain rfl : r = true := by rw [← hT.out, decide_eq_true h2]; rfl
    clear hT
    go_wp2_with fail
    go_ret
    exact ⟨rfl, gb_alloc (gb_refl _ _) _⟩
  rw [decide_eq_false h2, Bool.false_or] at hT
  by_cases h3 : x.k = 3
  · have hb3 : (x.k == 3) = true := by simp [h3]
    have hb6 : (x.k == 6) = false := by simp [h3]
    rw [hb3, hb6, Bool.false_and, Bool.or_false, Bool.true_and] at hT
    clear h3
    by_cases h4 : (4611686018427387903 : Int) < x.n
    · obtain rfl : r = true := by rw [← hT.out, decide_eq_true h4]
      clear hT
      go_wp2_with fail
      go_ret
      exact ⟨rfl, gb_alloc (gb_refl _ _) _⟩
    · obtain rfl : r = false := by rw [← hT.out, decide_eq_false h4]
      clear hT
      go_wp2_with fail
      go_ret
      exact ⟨rfl, gb_alloc (gb_refl _ _) _⟩
  have hb3 : (x.k == 3) = false := by simpa using h3
  rw [hb3, Bool.false_and, Bool.false_or] at hT
  by_cases h5 : x.k = 6
  · have hb6 : (x.k == 6) = true := by simp [h5]
    rw [hb6, Bool.true_and] at hT
    clear h3 h5
    by_cases h4 : (1000 : Int) < x.n
    · obtain rfl : r = true := by rw [← hT.out, decide_eq_true h4]
      clear hT
      go_wp2_with fail
      go_ret
      exact ⟨rfl, gb_alloc (gb_refl _ _) _⟩
    · obtain rfl : r = false := by rw [← hT.out, decide_eq_false h4]
      clear hT
      go_wp2_with fail
      go_ret
      exact ⟨rfl, gb_alloc (gb_refl _ _) _⟩
  · have hb6 : (x.k == 6) = false := by simpa using h5
    obtain rfl : r = false := by rw [← hT.out, hb6]; rfl
    clear hT h3 h5
    go_wp2_with fail
    go_ret
    exact ⟨rfl, gb_alloc (gb_refl _ _) _⟩
theorem quotable_any (s : ByteArray) (w : World) : Calls Tryd.prog 120 #[.string s] w fun e w' => e = .returned (.bool (quotB s)) ∧ w' = w := by
  have hT := Lib.hid (spanText_any s w)
  have hC := Lib.hid (Tryd.strings_Contains_one s 34 w)
  rw [(indexByte_has _ _).2] at hC
  have hQ : Hid (quotB s = (textB s && !hasB s 34)) := rfl
  rw [hQ.out]
  unfold hasB
  generalize s.data.toList.contains 34 = b at *
  generalize textB s = a at *
  go_enter Tryd.func120, Tryd.ntmps120
  cases a with
  | true =>
    cases b with
    | true =>
      go_wp2_with (first
        | (go_at_call 145; refine (hT.out).mono ?_; rintro e w1 ⟨rfl, rfl⟩)
        | (go_at_call 146; refine (hC.out).mono ?_; rintro e w1 ⟨rfl, rfl⟩))
      go_ret
      exact ⟨rfl, rfl⟩
    | false =>
      go_wp2_with (first
        | (go_at_call 145; refine (hT.out).mono ?_; rintro e w1 ⟨rfl, rfl⟩)
        | (go_at_call 146; refine (hC.out).mono ?_; rintro e w1 ⟨rfl, rfl⟩))
      go_ret
      exact ⟨rfl, rfl⟩
  | false =>
    go_wp2_with (first
      | (go_at_call 145; refine (hT.out).mono ?_; rintro e w1 ⟨rfl, rfl⟩))
    go_ret
    exact ⟨rfl, rfl⟩
theorem toList_iff (a b : ByteArray) : a.toList = b.toList ↔ a = b := by
  rw [Lib.toList_data, Lib.toList_data]
  exact ⟨fun h => ByteArray.ext (Array.toList_inj.1 h), fun h => by rw [h]⟩
theorem run_eq64 (x y : PN) (w : World) : (binOp .eql 64 (.agg #[.int .i64 x.k, .int .i64 x.n, .string x.a, .string x.b, .int .i64 x.l, .int .i64 x.r]) (.agg #[.int .i64 y.k, .int .i64 y.n, .string y.a, .string y.b, .int .i64 y.l, .int .i64 y.r])).run Tryd.prog w = .ok (.bool (decide (x = y))) w := by
  go_simp
  simp only [toList_iff]
  obtain ⟨k, n, a, b, l, r⟩ := x
  obtain ⟨k', n', a', b', l', r'⟩ := y
  simp only [PN.mk.injEq]
  by_cases h1 : k = k'
  · by_cases h2 : n = n'
    · by_cases h3 : a = a'
      · by_cases h4 : b = b'
        · by_cases h5 : l = l'
          · by_cases h6 : r = r'
            · simp [h1, h2, h3, h4, h5, h6]
            · simp [h1, h2, h3, h4, h5, h6]
          · simp [h1, h2, h3, h4, h5]
        · simp [h1, h2, h3, h4]
      · simp [h1, h2, h3]
    · simp [h1, h2]
  · simp [h1]
/-- a node without what its kind has -/
def bareN (x : PN) : PN :=
  if x.k = 3 ∨ x.k = 6 then { x with n := 0 }
  else if x.k = 4 then { x with a := ⟨#[]⟩ }
  else if x.k = 5 then { x with a := ⟨#[]⟩, b := ⟨#[]⟩ }
  else if x.k = 7 then { x with l := 0 }
  else if x.k = 8 ∨ x.k = 9 then { x with l := 0, r := 0 }
  else x
def namedN (x : PN) : Bool := !(x.k == 4 || x.k == 5) || decide (x.a ≠ ⟨#[]⟩)
theorem sz0 (x : ByteArray) : x.size = 0 ↔ x = ⟨#[]⟩ := ⟨ba_nil', fun h => by rw [h]; rfl⟩
theorem fineN_eq (x : PN) : fineN x = (decide (1 ≤ x.k) && decide (x.k ≤ 9) && decide (bareN x = ⟨x.k, 0, ⟨#[]⟩, ⟨#[]⟩, 0, 0⟩) && decide (0 ≤ x.n) && namedN x && quotB x.a && quotB x.b) := by
  unfold fineN namedN bareN
  simp only [sz0, ne_eq]
  generalize quotB x.a = qa
  generalize quotB x.b = qb
  obtain ⟨k, n, a, b, l, r⟩ := x
  simp only
  by_cases h1 : 1 ≤ k
  · by_cases h9 : k ≤ 9
    · have : k = 1 ∨ k = 2 ∨ k = 3 ∨ k = 4 ∨ k = 5 ∨ k = 6 ∨ k = 7 ∨ k = 8 ∨ k = 9 := by omega
      rcases this with rfl | rfl | rfl | rfl | rfl | rfl | rfl | rfl | rfl
      all_goals
        rw [Bool.eq_iff_iff]
        simp
        try grind
    · simp [h9]
  · simp [h1]
end Go.Proofs.YtnnhkajjifmlfaaDoor.Pl
