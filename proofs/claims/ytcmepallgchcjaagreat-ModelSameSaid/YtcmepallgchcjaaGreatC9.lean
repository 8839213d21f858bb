/- Replies compared: model.Same, the kit's SameReply. -/
import Derived.Test.YtcmepallgchcjaaGreatC8
namespace Go.Proofs.YtcmepallgchcjaaGreat
open Go.RowKit

theorem eqBy_congr {α : Type} {f g : α → α → Bool} (h : ∀ a b, f a b = g a b) : ∀ l m : List α, eqBy f l m = eqBy g l m
  | [], [] => rfl
  | [], _ :: _ => rfl
  | _ :: _, [] => rfl
  | a :: r, b :: s => by rw [eqBy, eqBy, h, eqBy_congr h]
theorem eqAd_eqD (a b : Ad) : eqAd a b = eqD a b := by
  cases h : eqD a b
  · cases h2 : eqAd a b
    · rfl
    · have := (eqD_iff a b).2 ((eqAd_iff a b).1 h2)
      rw [h] at this; cases this
  · exact (eqAd_iff a b).2 ((eqD_iff a b).1 h)
structure Rp where
  status : Int
  n : Int
  spans : List Ad
  found : List Fd
  texts : List ByteArray
  edges : List Ed
/-- are two replies the same? -/
noncomputable def rpE (a b : Rp) : Bool := (a.status == b.status) && (a.n == b.n) && eqBy eqD a.spans b.spans && eqBy eqD a.found b.found && eqBy eqD a.texts b.texts && eqBy eqD a.edges b.edges
theorem rpE_self (a : Rp) : rpE a a = true := by
  unfold rpE
  rw [(eqBy_iff eqD_iff).2 rfl, (eqBy_iff eqD_iff).2 rfl, (eqBy_iff eqD_iff).2 rfl, (eqBy_iff eqD_iff).2 rfl]
  simp
/-- what memory can hold of a reply -/
structure RpBd (a : Rp) : Prop where
  b1 : a.spans.length ≤ 140737488355328
  b2 : a.found.length ≤ 140737488355328
  b3 : a.texts.length ≤ 140737488355328
  b4 : a.edges.length ≤ 140737488355328
  b5 : ABd a.spans
structure RAt (w : World) (a : Rp) (v3 v4 v5 v6 : Value) : Prop where
  h3 : AAt w a.spans v3
  h4 : FAt w a.found v4
  h5 : SAt w a.texts v5
  h6 : EAt w a.edges v6
theorem RAt.grown {w w' : World} {a : Rp} {v3 v4 v5 v6 : Value} (h : RAt w a v3 v4 v5 v6) (hg : w.grownBy w' none) : RAt w' a v3 v4 v5 v6 := ⟨h.h3.grown hg, h.h4.grown hg, h.h5.grown hg, h.h6.grown hg⟩
set_option maxRecDepth 100000 in
set_option maxHeartbeats 6400000 in
theorem same_any (a b : Rp) (u3 u4 u5 u6 v3 v4 v5 v6 : Value) (w : World) (ha : RpBd a) (hb : RpBd b) (hu : RAt w a u3 u4 u5 u6) (hv : RAt w b v3 v4 v5 v6) :
    Calls Tryz.prog 14 #[.agg #[.int .i64 a.status, .int .i64 a.n, u3, u4, u5, u6], .agg #[.int .i64 b.status, .int .i64 b.n, v3, v4, v5, v6]] w fun e w' => e = .returned (.bool (rpE a b)) ∧ w.grownBy w' none := by
  have hE : Hid (rpE a b = ((a.status == b.status) && (a.n == b.n) && eqBy eqD a.spans b.spans && eqBy eqD a.found b.found && eqBy eqD a.texts b.texts && eqBy eqD a.edges b.edges)) := rfl
  have H1 := fun (W : World) (hg : w.grownBy W none) => Lib.hid (adjSame_any a.spans b.spans u3 v3 W ha.b1 ha.b5 hb.b5 (hu.h3.grown hg) (hv.h3.grown hg))
  rw [eqBy_congr eqAd_eqD] at H1
  have H2 := fun (W : World) (hg : w.grownBy W none) => Lib.hid (eq38_any a.found b.found u4 v4 W ha.b2 (hu.h4.grown hg) (hv.h4.grown hg))
  have H3 := fun (W : World) (hg : w.grownBy W none) => Lib.hid (eq39_any a.texts b.texts u5 v5 W ha.b3 (hu.h5.grown hg) (hv.h5.grown hg))
  have H4 := fun (W : World) (hg : w.grownBy W none) => Lib.hid (eq40_any a.edges b.edges u6 v6 W ha.b4 (hu.h6.grown hg) (hv.h6.grown hg))
  have hgw : w.grownBy ((w.alloc (.cells #[.int .i64 a.status, .int .i64 a.n, u3, u4, u5, u6] 52)).alloc (.cells #[.int .i64 b.status, .int .i64 b.n, v3, v4, v5, v6] 52)) none := gb_alloc (gb_alloc (gb_refl w none) _) _
  have e0 := heap_alloc_new w (.cells #[.int .i64 a.status, .int .i64 a.n, u3, u4, u5, u6] 52)
  have e1 := heap_alloc_new (w.alloc (.cells #[.int .i64 a.status, .int .i64 a.n, u3, u4, u5, u6] 52)) (.cells #[.int .i64 b.status, .int .i64 b.n, v3, v4, v5, v6] 52)
  have e0' := (Below.heap_alloc (w.alloc (.cells #[.int .i64 a.status, .int .i64 a.n, u3, u4, u5, u6] 52)) (.cells #[.int .i64 b.status, .int .i64 b.n, v3, v4, v5, v6] 52) w.heap.size (by simp)).trans e0
  rw [show (w.alloc (.cells #[.int .i64 a.status, .int .i64 a.n, u3, u4, u5, u6] 52)).heap.size = w.heap.size + 1 from by simp] at e1
  have FA : ∀ (W : World) (_ : ((w.alloc (.cells #[.int .i64 a.status, .int .i64 a.n, u3, u4, u5, u6] 52)).alloc (.cells #[.int .i64 b.status, .int .i64 b.n, v3, v4, v5, v6] 52)).grownBy W none), W.cell? ⟨w.heap.size, 3, none⟩ = some u4 ∧ W.cell? ⟨w.heap.size, 4, none⟩ = some u5 ∧ W.cell? ⟨w.heap.size, 5, none⟩ = some u6 := fun W hg => ⟨cell_grown (by rw [cell_of_row _ _ _ _ _ _ e0']; rfl) hg (by simp), cell_grown (by rw [cell_of_row _ _ _ _ _ _ e0']; rfl) hg (by simp), cell_grown (by rw [cell_of_row _ _ _ _ _ _ e0']; rfl) hg (by simp)⟩
  have FB : ∀ (W : World) (_ : ((w.alloc (.cells #[.int .i64 a.status, .int .i64 a.n, u3, u4, u5, u6] 52)).alloc (.cells #[.int .i64 b.status, .int .i64 b.n, v3, v4, v5, v6] 52)).grownBy W none), W.cell? ⟨w.heap.size + 1, 3, none⟩ = some v4 ∧ W.cell? ⟨w.heap.size + 1, 4, none⟩ = some v5 ∧ W.cell? ⟨w.heap.size + 1, 5, none⟩ = some v6 := fun W hg => ⟨cell_grown (by rw [cell_of_row _ _ _ _ _ _ e1]; rfl) hg (by simp), cell_grown (by rw [cell_of_row _ _ _ _ _ _ e1]; rfl) hg (by simp), cell_grown (by rw [cell_of_row _ _ _ _ _ _ e1]; rfl) hg (by simp)⟩
  clear e0 e0' e1 hu hv ha hb
  generalize eqBy eqD a.spans b.spans = x1 at *
  generalize eqBy eqD a.found b.found = x2 at *
  generalize eqBy eqD a.texts b.texts = x3 at *
  generalize eqBy eqD a.edges b.edges = x4 at *
  generalize rpE a b = x at *
  generalize a.status = sa at *
  generalize b.status = sb at *
  generalize a.n = na at *
  generalize b.n = nb at *
  go_enter Tryz.func14, Tryz.ntmps14
  by_cases h1 : sa = sb
  · subst h1
    by_cases h2 : na = nb
    · subst h2
      cases x1 with
      | false =>
        go_wp2_with (first | (go_at_call 37; refine ((H1 _ (by exact hgw)).out).mono ?_; rintro e w1 ⟨rfl, hg1⟩; have hr1 := FA _ hg1; have hs1 := FB _ hg1; obtain ⟨p1, q1, r1⟩ := hr1; obtain ⟨s1, t1, y1⟩ := hs1))
        go_ret
        exact ⟨by rw [hE.out]; simp, gb_trans hgw hg1⟩
      | true =>
        cases x2 with
        | false =>
          go_wp2_with (first | (go_at_call 37; refine ((H1 _ (by exact hgw)).out).mono ?_; rintro e w1 ⟨rfl, hg1⟩; have hr1 := FA _ hg1; have hs1 := FB _ hg1; obtain ⟨p1, q1, r1⟩ := hr1; obtain ⟨s1, t1, y1⟩ := hs1) | (go_at_call 38; refine ((H2 _ (by exact gb_trans hgw hg1)).out).mono ?_; rintro e w2 ⟨rfl, hg2⟩; have hr2 := FA _ (gb_trans hg1 hg2); have hs2 := FB _ (gb_trans hg1 hg2); obtain ⟨p2, q2, r2⟩ := hr2; obtain ⟨s2, t2, y2⟩ := hs2))
          go_ret
          exact ⟨by rw [hE.out]; simp, gb_trans (gb_trans hgw hg1) hg2⟩
        | true =>
          cases x3 with
          | false =>
            go_wp2_with (first | (go_at_call 37; refine ((H1 _ (by exact hgw)).out).mono ?_; rintro e w1 ⟨rfl, hg1⟩; have hr1 := FA _ hg1; have hs1 := FB _ hg1; obtain ⟨p1, q1, r1⟩ := hr1; obtain ⟨s1, t1, y1⟩ := hs1) | (go_at_call 38; refine ((H2 _ (by exact gb_trans hgw hg1)).out).mono ?_; rintro e w2 ⟨rfl, hg2⟩; have hr2 := FA _ (gb_trans hg1 hg2); have hs2 := FB _ (gb_trans hg1 hg2); obtain ⟨p2, q2, r2⟩ := hr2; obtain ⟨s2, t2, y2⟩ := hs2) | (go_at_call 39; refine ((H3 _ (by exact gb_trans (gb_trans hgw hg1) hg2)).out).mono ?_; rintro e w3 ⟨rfl, hg3⟩; have hr3 := FA _ (gb_trans (gb_trans hg1 hg2) hg3); have hs3 := FB _ (gb_trans (gb_trans hg1 hg2) hg3); obtain ⟨p3, q3, r3⟩ := hr3; obtain ⟨s3, t3, y3⟩ := hs3))
            go_ret
            exact ⟨by rw [hE.out]; simp, gb_trans (gb_trans (gb_trans hgw hg1) hg2) hg3⟩
          | true =>
            cases x4 with
            | false =>
              go_wp2_with (first | (go_at_call 37; refine ((H1 _ (by exact hgw)).out).mono ?_; rintro e w1 ⟨rfl, hg1⟩; have hr1 := FA _ hg1; have hs1 := FB _ hg1; obtain ⟨p1, q1, r1⟩ := hr1; obtain ⟨s1, t1, y1⟩ := hs1) | (go_at_call 38; refine ((H2 _ (by exact gb_trans hgw hg1)).out).mono ?_; rintro e w2 ⟨rfl, hg2⟩; have hr2 := FA _ (gb_trans hg1 hg2); have hs2 := FB _ (gb_trans hg1 hg2); obtain ⟨p2, q2, r2⟩ := hr2; obtain ⟨s2, t2, y2⟩ := hs2) | (go_at_call 39; refine ((H3 _ (by exact gb_trans (gb_trans hgw hg1) hg2)).out).mono ?_; rintro e w3 ⟨rfl, hg3⟩; have hr3 := FA _ (gb_trans (gb_trans hg1 hg2) hg3); have hs3 := FB _ (gb_trans (gb_trans hg1 hg2) hg3); obtain ⟨p3, q3, r3⟩ := hr3; obtain ⟨s3, t3, y3⟩ := hs3) | (go_at_call 40; refine ((H4 _ (by exact gb_trans (gb_trans (gb_trans hgw hg1) hg2) hg3)).out).mono ?_; rintro e w4 ⟨rfl, hg4⟩; have hr4 := FA _ (gb_trans (gb_trans (gb_trans hg1 hg2) hg3) hg4); have hs4 := FB _ (gb_trans (gb_trans (gb_trans hg1 hg2) hg3) hg4); obtain ⟨p4, q4, r4⟩ := hr4; obtain ⟨s4, t4, y4⟩ := hs4))
              go_ret
              exact ⟨by rw [hE.out]; simp, gb_trans (gb_trans (gb_trans (gb_trans hgw hg1) hg2) hg3) hg4⟩
            | true =>
              go_wp2_with (first | (go_at_call 37; refine ((H1 _ (by exact hgw)).out).mono ?_; rintro e w1 ⟨rfl, hg1⟩; have hr1 := FA _ hg1; have hs1 := FB _ hg1; obtain ⟨p1, q1, r1⟩ := hr1; obtain ⟨s1, t1, y1⟩ := hs1) | (go_at_call 38; refine ((H2 _ (by exact gb_trans hgw hg1)).out).mono ?_; rintro e w2 ⟨rfl, hg2⟩; have hr2 := FA _ (gb_trans hg1 hg2); have hs2 := FB _ (gb_trans hg1 hg2); obtain ⟨p2, q2, r2⟩ := hr2; obtain ⟨s2, t2, y2⟩ := hs2) | (go_at_call 39; refine ((H3 _ (by exact gb_trans (gb_trans hgw hg1) hg2)).out).mono ?_; rintro e w3 ⟨rfl, hg3⟩; have hr3 := FA _ (gb_trans (gb_trans hg1 hg2) hg3); have hs3 := FB _ (gb_trans (gb_trans hg1 hg2) hg3); obtain ⟨p3, q3, r3⟩ := hr3; obtain ⟨s3, t3, y3⟩ := hs3) | (go_at_call 40; refine ((H4 _ (by exact gb_trans (gb_trans (gb_trans hgw hg1) hg2) hg3)).out).mono ?_; rintro e w4 ⟨rfl, hg4⟩; have hr4 := FA _ (gb_trans (gb_trans (gb_trans hg1 hg2) hg3) hg4); have hs4 := FB _ (gb_trans (gb_trans (gb_trans hg1 hg2) hg3) hg4); obtain ⟨p4, q4, r4⟩ := hr4; obtain ⟨s4, t4, y4⟩ := hs4))
              go_ret
              exact ⟨by rw [hE.out]; simp, gb_trans (gb_trans (gb_trans (gb_trans hgw hg1) hg2) hg3) hg4⟩
    · go_wp2_with fail
      go_ret
      exact ⟨by rw [hE.out]; simp [h2], hgw⟩
  · go_wp2_with fail
    go_ret
    exact ⟨by rw [hE.out]; simp [h1], hgw⟩
set_option maxRecDepth 100000 in
set_option maxHeartbeats 6400000 in
theorem kit_any (a b : Rp) (u3 u4 u5 u6 v3 v4 v5 v6 : Value) (w : World) (ha : RpBd a) (_hb : RpBd b) (hu : RAt w a u3 u4 u5 u6) (hv : RAt w b v3 v4 v5 v6) :
    Calls Tryz.prog 11 #[.agg #[.int .i64 a.status, .int .i64 a.n, u3, u4, u5, u6], .agg #[.int .i64 b.status, .int .i64 b.n, v3, v4, v5, v6]] w fun e w' => e = .returned (.bool (rpE a b)) ∧ w.grownBy w' none := by
  have hE : Hid (rpE a b = ((a.status == b.status) && (a.n == b.n) && eqBy eqD a.spans b.spans && eqBy eqD a.found b.found && eqBy eqD a.texts b.texts && eqBy eqD a.edges b.edges)) := rfl
  have H1 := fun (W : World) (hg : w.grownBy W none) => Lib.hid (sameAdjusted_any a.spans b.spans u3 v3 W ha.b1 ha.b5 (hu.h3.grown hg) (hv.h3.grown hg))
  have H2 := fun (W : World) (hg : w.grownBy W none) => Lib.hid (eq33_any a.found b.found u4 v4 W ha.b2 (hu.h4.grown hg) (hv.h4.grown hg))
  have H3 := fun (W : World) (hg : w.grownBy W none) => Lib.hid (eq34_any a.texts b.texts u5 v5 W ha.b3 (hu.h5.grown hg) (hv.h5.grown hg))
  have H4 := fun (W : World) (hg : w.grownBy W none) => Lib.hid (eq35_any a.edges b.edges u6 v6 W ha.b4 (hu.h6.grown hg) (hv.h6.grown hg))
  have hgw : w.grownBy ((w.alloc (.cells #[.int .i64 a.status, .int .i64 a.n, u3, u4, u5, u6] 52)).alloc (.cells #[.int .i64 b.status, .int .i64 b.n, v3, v4, v5, v6] 52)) none := gb_alloc (gb_alloc (gb_refl w none) _) _
  have e0 := heap_alloc_new w (.cells #[.int .i64 a.status, .int .i64 a.n, u3, u4, u5, u6] 52)
  have e1 := heap_alloc_new (w.alloc (.cells #[.int .i64 a.status, .int .i64 a.n, u3, u4, u5, u6] 52)) (.cells #[.int .i64 b.status, .int .i64 b.n, v3, v4, v5, v6] 52)
  have e0' := (Below.heap_alloc (w.alloc (.cells #[.int .i64 a.status, .int .i64 a.n, u3, u4, u5, u6] 52)) (.cells #[.int .i64 b.status, .int .i64 b.n, v3, v4, v5, v6] 52) w.heap.size (by simp)).trans e0
  rw [show (w.alloc (.cells #[.int .i64 a.status, .int .i64 a.n, u3, u4, u5, u6] 52)).heap.size = w.heap.size + 1 from by simp] at e1
  have FA : ∀ (W : World) (_ : ((w.alloc (.cells #[.int .i64 a.status, .int .i64 a.n, u3, u4, u5, u6] 52)).alloc (.cells #[.int .i64 b.status, .int .i64 b.n, v3, v4, v5, v6] 52)).grownBy W none), W.cell? ⟨w.heap.size, 3, none⟩ = some u4 ∧ W.cell? ⟨w.heap.size, 4, none⟩ = some u5 ∧ W.cell? ⟨w.heap.size, 5, none⟩ = some u6 := fun W hg => ⟨cell_grown (by rw [cell_of_row _ _ _ _ _ _ e0']; rfl) hg (by simp), cell_grown (by rw [cell_of_row _ _ _ _ _ _ e0']; rfl) hg (by simp), cell_grown (by rw [cell_of_row _ _ _ _ _ _ e0']; rfl) hg (by simp)⟩
  have FB : ∀ (W : World) (_ : ((w.alloc (.cells #[.int .i64 a.status, .int .i64 a.n, u3, u4, u5, u6] 52)).alloc (.cells #[.int .i64 b.status, .int .i64 b.n, v3, v4, v5, v6] 52)).grownBy W none), W.cell? ⟨w.heap.size + 1, 3, none⟩ = some v4 ∧ W.cell? ⟨w.heap.size + 1, 4, none⟩ = some v5 ∧ W.cell? ⟨w.heap.size + 1, 5, none⟩ = some v6 := fun W hg => ⟨cell_grown (by rw [cell_of_row _ _ _ _ _ _ e1]; rfl) hg (by simp), cell_grown (by rw [cell_of_row _ _ _ _ _ _ e1]; rfl) hg (by simp), cell_grown (by rw [cell_of_row _ _ _ _ _ _ e1]; rfl) hg (by simp)⟩
  clear e0 e0' e1 hu hv ha
  generalize eqBy eqD a.spans b.spans = x1 at *
  generalize eqBy eqD a.found b.found = x2 at *
  generalize eqBy eqD a.texts b.texts = x3 at *
  generalize eqBy eqD a.edges b.edges = x4 at *
  generalize rpE a b = x at *
  generalize a.status = sa at *
  generalize b.status = sb at *
  generalize a.n = na at *
  generalize b.n = nb at *
  go_enter Tryz.func11, Tryz.ntmps11
  by_cases h1 : sa = sb
  · subst h1
    by_cases h2 : na = nb
    · subst h2
      cases x1 with
      | false =>
        go_wp2_with (first | (go_at_call 16; refine ((H1 _ (by exact hgw)).out).mono ?_; rintro e w1 ⟨rfl, hg1⟩; have hr1 := FA _ hg1; have hs1 := FB _ hg1; obtain ⟨p1, q1, r1⟩ := hr1; obtain ⟨s1, t1, y1⟩ := hs1))
        go_ret
        exact ⟨by rw [hE.out]; simp, gb_trans hgw hg1⟩
      | true =>
        cases x2 with
        | false =>
          go_wp2_with (first | (go_at_call 16; refine ((H1 _ (by exact hgw)).out).mono ?_; rintro e w1 ⟨rfl, hg1⟩; have hr1 := FA _ hg1; have hs1 := FB _ hg1; obtain ⟨p1, q1, r1⟩ := hr1; obtain ⟨s1, t1, y1⟩ := hs1) | (go_at_call 33; refine ((H2 _ (by exact gb_trans hgw hg1)).out).mono ?_; rintro e w2 ⟨rfl, hg2⟩; have hr2 := FA _ (gb_trans hg1 hg2); have hs2 := FB _ (gb_trans hg1 hg2); obtain ⟨p2, q2, r2⟩ := hr2; obtain ⟨s2, t2, y2⟩ := hs2))
          go_ret
          exact ⟨by rw [hE.out]; simp, gb_trans (gb_trans hgw hg1) hg2⟩
        | true =>
          cases x3 with
          | false =>
            go_wp2_with (first | (go_at_call 16; refine ((H1 _ (by exact hgw)).out).mono ?_; rintro e w1 ⟨rfl, hg1⟩; have hr1 := FA _ hg1; have hs1 := FB _ hg1; obtain ⟨p1, q1, r1⟩ := hr1; obtain ⟨s1, t1, y1⟩ := hs1) | (go_at_call 33; refine ((H2 _ (by exact gb_trans hgw hg1)).out).mono ?_; rintro e w2 ⟨rfl, hg2⟩; have hr2 := FA _ (gb_trans hg1 hg2); have hs2 := FB _ (gb_trans hg1 hg2); obtain ⟨p2, q2, r2⟩ := hr2; obtain ⟨s2, t2, y2⟩ := hs2) | (go_at_call 34; refine ((H3 _ (by exact gb_trans (gb_trans hgw hg1) hg2)).out).mono ?_; rintro e w3 ⟨rfl, hg3⟩; have hr3 := FA _ (gb_trans (gb_trans hg1 hg2) hg3); have hs3 := FB _ (gb_trans (gb_trans hg1 hg2) hg3); obtain ⟨p3, q3, r3⟩ := hr3; obtain ⟨s3, t3, y3⟩ := hs3))
            go_ret
            exact ⟨by rw [hE.out]; simp, gb_trans (gb_trans (gb_trans hgw hg1) hg2) hg3⟩
          | true =>
            cases x4 with
            | false =>
              go_wp2_with (first | (go_at_call 16; refine ((H1 _ (by exact hgw)).out).mono ?_; rintro e w1 ⟨rfl, hg1⟩; have hr1 := FA _ hg1; have hs1 := FB _ hg1; obtain ⟨p1, q1, r1⟩ := hr1; obtain ⟨s1, t1, y1⟩ := hs1) | (go_at_call 33; refine ((H2 _ (by exact gb_trans hgw hg1)).out).mono ?_; rintro e w2 ⟨rfl, hg2⟩; have hr2 := FA _ (gb_trans hg1 hg2); have hs2 := FB _ (gb_trans hg1 hg2); obtain ⟨p2, q2, r2⟩ := hr2; obtain ⟨s2, t2, y2⟩ := hs2) | (go_at_call 34; refine ((H3 _ (by exact gb_trans (gb_trans hgw hg1) hg2)).out).mono ?_; rintro e w3 ⟨rfl, hg3⟩; have hr3 := FA _ (gb_trans (gb_trans hg1 hg2) hg3); have hs3 := FB _ (gb_trans (gb_trans hg1 hg2) hg3); obtain ⟨p3, q3, r3⟩ := hr3; obtain ⟨s3, t3, y3⟩ := hs3) | (go_at_call 35; refine ((H4 _ (by exact gb_trans (gb_trans (gb_trans hgw hg1) hg2) hg3)).out).mono ?_; rintro e w4 ⟨rfl, hg4⟩; have hr4 := FA _ (gb_trans (gb_trans (gb_trans hg1 hg2) hg3) hg4); have hs4 := FB _ (gb_trans (gb_trans (gb_trans hg1 hg2) hg3) hg4); obtain ⟨p4, q4, r4⟩ := hr4; obtain ⟨s4, t4, y4⟩ := hs4))
              go_ret
              exact ⟨by rw [hE.out]; simp, gb_trans (gb_trans (gb_trans (gb_trans hgw hg1) hg2) hg3) hg4⟩
            | true =>
              go_wp2_with (first | (go_at_call 16; refine ((H1 _ (by exact hgw)).out).mono ?_; rintro e w1 ⟨rfl, hg1⟩; have hr1 := FA _ hg1; have hs1 := FB _ hg1; obtain ⟨p1, q1, r1⟩ := hr1; obtain ⟨s1, t1, y1⟩ := hs1) | (go_at_call 33; refine ((H2 _ (by exact gb_trans hgw hg1)).out).mono ?_; rintro e w2 ⟨rfl, hg2⟩; have hr2 := FA _ (gb_trans hg1 hg2); have hs2 := FB _ (gb_trans hg1 hg2); obtain ⟨p2, q2, r2⟩ := hr2; obtain ⟨s2, t2, y2⟩ := hs2) | (go_at_call 34; refine ((H3 _ (by exact gb_trans (gb_trans hgw hg1) hg2)).out).mono ?_; rintro e w3 ⟨rfl, hg3⟩; have hr3 := FA _ (gb_trans (gb_trans hg1 hg2) hg3); have hs3 := FB _ (gb_trans (gb_trans hg1 hg2) hg3); obtain ⟨p3, q3, r3⟩ := hr3; obtain ⟨s3, t3, y3⟩ := hs3) | (go_at_call 35; refine ((H4 _ (by exact gb_trans (gb_trans (gb_trans hgw hg1) hg2) hg3)).out).mono ?_; rintro e w4 ⟨rfl, hg4⟩; have hr4 := FA _ (gb_trans (gb_trans (gb_trans hg1 hg2) hg3) hg4); have hs4 := FB _ (gb_trans (gb_trans (gb_trans hg1 hg2) hg3) hg4); obtain ⟨p4, q4, r4⟩ := hr4; obtain ⟨s4, t4, y4⟩ := hs4))
              go_ret
              exact ⟨by rw [hE.out]; simp, gb_trans (gb_trans (gb_trans (gb_trans hgw hg1) hg2) hg3) hg4⟩
    · go_wp2_with fail
      go_ret
      exact ⟨by rw [hE.out]; simp [h2], hgw⟩
  · go_wp2_with fail
    go_ret
    exact ⟨by rw [hE.out]; simp [h1], hgw⟩
end Go.Proofs.YtcmepallgchcjaaGreat
