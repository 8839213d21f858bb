/- ModelSame: the walk. -/
import Derived.Test.YtcmepallgchcjaaGreatC9
namespace Go.Proofs.YtcmepallgchcjaaGreat
open Go.RowKit

theorem AAt.shape {w : World} {l : List Ad} {v : Value} (h : AAt w l v) : ∃ A c, v = .slice A l.length c := by
  obtain ⟨A, c, _, _, _, e, _⟩ := h
  exact ⟨A, c, e⟩
theorem FAt.shape {w : World} {l : List Fd} {v : Value} (h : FAt w l v) : ∃ A c, v = .slice A l.length c := by
  obtain ⟨A, c, _, _, e, _⟩ := h
  exact ⟨A, c, e⟩
theorem SAt.shape {w : World} {l : List ByteArray} {v : Value} (h : SAt w l v) : ∃ A c, v = .slice A l.length c := by
  obtain ⟨A, c, _, _, e, _⟩ := h
  exact ⟨A, c, e⟩
theorem EAt.shape {w : World} {l : List Ed} {v : Value} (h : EAt w l v) : ∃ A c, v = .slice A l.length c := by
  obtain ⟨A, c, _, _, e, _⟩ := h
  exact ⟨A, c, e⟩
theorem sum_wrap {s f t e : Nat} (h1 : s ≤ 140737488355328) (h2 : f ≤ 140737488355328) (h3 : t ≤ 140737488355328) (h4 : e ≤ 140737488355328) :
    wrap64 ((s : Int) + (f : Int)) = (s : Int) + (f : Int) ∧ wrap64 ((s : Int) + (f : Int) + (t : Int)) = (s : Int) + (f : Int) + (t : Int) ∧ wrap64 ((s : Int) + (f : Int) + (t : Int) + (e : Int)) = (s : Int) + (f : Int) + (t : Int) + (e : Int) :=
  ⟨wrap64_id (by omega) (by omega), wrap64_id (by omega) (by omega), wrap64_id (by omega) (by omega)⟩
set_option maxRecDepth 100000 in
set_option maxHeartbeats 6400000 in
theorem modelSame_walk (a b : Rp) (u3 u4 u5 u6 v3 v4 v5 v6 : Value) (w : World) (ha : RpBd a) (hb : RpBd b) (hu : RAt w a u3 u4 u5 u6) (hv : RAt w b v3 v4 v5 v6)
    (hl : ∀ W, w.grownBy W none → Calls Tryz.prog 5 #[] W fun e w' => e = .returned (.bool true) ∧ W.grownBy w' none) :
    Calls Tryz.prog 4 #[.agg #[.int .i64 a.status, .int .i64 a.n, u3, u4, u5, u6], .agg #[.int .i64 b.status, .int .i64 b.n, v3, v4, v5, v6]] w fun e w' => e = .returned (.bool true) ∧ w.grownBy w' none := by
  have Q1 := fun (wK : World) (hg : w.grownBy wK none) => Lib.hid (show QC Tryz.prog wK 14 #[.agg #[.int .i64 a.status, .int .i64 a.n, u3, u4, u5, u6], .agg #[.int .i64 b.status, .int .i64 b.n, v3, v4, v5, v6]] (.bool (rpE a b)) from fun G => (same_any a b _ _ _ _ _ _ _ _ G.W ha hb (hu.grown (gb_trans hg G.h)) (hv.grown (gb_trans hg G.h))).mono fun e w' hh => ⟨hh.1, gb_trans G.h hh.2⟩)
  have Q2 := fun (wK : World) (hg : w.grownBy wK none) => Lib.hid (show QC Tryz.prog wK 11 #[.agg #[.int .i64 a.status, .int .i64 a.n, u3, u4, u5, u6], .agg #[.int .i64 b.status, .int .i64 b.n, v3, v4, v5, v6]] (.bool (rpE a b)) from fun G => (kit_any a b _ _ _ _ _ _ _ _ G.W ha hb (hu.grown (gb_trans hg G.h)) (hv.grown (gb_trans hg G.h))).mono fun e w' hh => ⟨hh.1, gb_trans G.h hh.2⟩)
  have Q3 := fun (wK : World) (hg : w.grownBy wK none) => Lib.hid (show QC Tryz.prog wK 14 #[.agg #[.int .i64 a.status, .int .i64 a.n, u3, u4, u5, u6], .agg #[.int .i64 a.status, .int .i64 a.n, u3, u4, u5, u6]] (.bool true) from fun G => (same_any a a _ _ _ _ _ _ _ _ G.W ha ha (hu.grown (gb_trans hg G.h)) (hu.grown (gb_trans hg G.h))).mono fun e w' hh => ⟨by rw [← rpE_self a]; exact hh.1, gb_trans G.h hh.2⟩)
  have HL := fun (W : World) (hg : w.grownBy W none) => Lib.hid (hl W hg)
  obtain ⟨a1, a2, a3⟩ := sum_wrap ha.b1 ha.b2 ha.b3 ha.b4
  obtain ⟨b1, b2, b3⟩ := sum_wrap hb.b1 hb.b2 hb.b3 hb.b4
  obtain ⟨A3, c3, rfl⟩ := hu.h3.shape
  obtain ⟨A4, c4, rfl⟩ := hu.h4.shape
  obtain ⟨A5, c5, rfl⟩ := hu.h5.shape
  obtain ⟨A6, c6, rfl⟩ := hu.h6.shape
  obtain ⟨B3, d3, rfl⟩ := hv.h3.shape
  obtain ⟨B4, d4, rfl⟩ := hv.h4.shape
  obtain ⟨B5, d5, rfl⟩ := hv.h5.shape
  obtain ⟨B6, d6, rfl⟩ := hv.h6.shape
  clear hu hv ha hb hl
  have hcA := Classical.em ((100 : Int) < (a.spans.length : Int) + (a.found.length : Int) + (a.texts.length : Int) + (a.edges.length : Int))
  have hcB := Classical.em ((100 : Int) < (b.spans.length : Int) + (b.found.length : Int) + (b.texts.length : Int) + (b.edges.length : Int))
  generalize rpE a b = x at *
  generalize a.spans.length = al0 at *
  generalize a.found.length = al1 at *
  generalize a.texts.length = al2 at *
  generalize a.edges.length = al3 at *
  generalize a.status = as_ at *
  generalize a.n = an at *
  generalize b.spans.length = bl0 at *
  generalize b.found.length = bl1 at *
  generalize b.texts.length = bl2 at *
  generalize b.edges.length = bl3 at *
  generalize b.status = bs_ at *
  generalize b.n = bn at *
  have hgw : w.grownBy ((w.alloc (.cells #[.int .i64 as_, .int .i64 an, .slice A3 al0 c3, .slice A4 al1 c4, .slice A5 al2 c5, .slice A6 al3 c6] 52)).alloc (.cells #[.int .i64 bs_, .int .i64 bn, .slice B3 bl0 d3, .slice B4 bl1 d4, .slice B5 bl2 d5, .slice B6 bl3 d6] 52)) none := gb_alloc (gb_alloc (gb_refl w none) _) _
  have e0 := heap_alloc_new w (.cells #[.int .i64 as_, .int .i64 an, .slice A3 al0 c3, .slice A4 al1 c4, .slice A5 al2 c5, .slice A6 al3 c6] 52)
  have e1 := heap_alloc_new (w.alloc (.cells #[.int .i64 as_, .int .i64 an, .slice A3 al0 c3, .slice A4 al1 c4, .slice A5 al2 c5, .slice A6 al3 c6] 52)) (.cells #[.int .i64 bs_, .int .i64 bn, .slice B3 bl0 d3, .slice B4 bl1 d4, .slice B5 bl2 d5, .slice B6 bl3 d6] 52)
  have e0' := (Below.heap_alloc (w.alloc (.cells #[.int .i64 as_, .int .i64 an, .slice A3 al0 c3, .slice A4 al1 c4, .slice A5 al2 c5, .slice A6 al3 c6] 52)) (.cells #[.int .i64 bs_, .int .i64 bn, .slice B3 bl0 d3, .slice B4 bl1 d4, .slice B5 bl2 d5, .slice B6 bl3 d6] 52) w.heap.size (by simp)).trans e0
  rw [show (w.alloc (.cells #[.int .i64 as_, .int .i64 an, .slice A3 al0 c3, .slice A4 al1 c4, .slice A5 al2 c5, .slice A6 al3 c6] 52)).heap.size = w.heap.size + 1 from by simp] at e1
  have FA : ∀ (W : World) (_ : ((w.alloc (.cells #[.int .i64 as_, .int .i64 an, .slice A3 al0 c3, .slice A4 al1 c4, .slice A5 al2 c5, .slice A6 al3 c6] 52)).alloc (.cells #[.int .i64 bs_, .int .i64 bn, .slice B3 bl0 d3, .slice B4 bl1 d4, .slice B5 bl2 d5, .slice B6 bl3 d6] 52)).grownBy W none), W.cell? ⟨w.heap.size, 0, none⟩ = some (.int .i64 as_) ∧ W.cell? ⟨w.heap.size, 1, none⟩ = some (.int .i64 an) ∧ W.cell? ⟨w.heap.size, 2, none⟩ = some (.slice A3 al0 c3) ∧ W.cell? ⟨w.heap.size, 3, none⟩ = some (.slice A4 al1 c4) ∧ W.cell? ⟨w.heap.size, 4, none⟩ = some (.slice A5 al2 c5) ∧ W.cell? ⟨w.heap.size, 5, none⟩ = some (.slice A6 al3 c6) := fun W hg => ⟨cell_grown (by rw [cell_of_row _ _ _ _ _ _ e0']; rfl) hg (by simp), cell_grown (by rw [cell_of_row _ _ _ _ _ _ e0']; rfl) hg (by simp), cell_grown (by rw [cell_of_row _ _ _ _ _ _ e0']; rfl) hg (by simp), cell_grown (by rw [cell_of_row _ _ _ _ _ _ e0']; rfl) hg (by simp), cell_grown (by rw [cell_of_row _ _ _ _ _ _ e0']; rfl) hg (by simp), cell_grown (by rw [cell_of_row _ _ _ _ _ _ e0']; rfl) hg (by simp)⟩
  have FB : ∀ (W : World) (_ : ((w.alloc (.cells #[.int .i64 as_, .int .i64 an, .slice A3 al0 c3, .slice A4 al1 c4, .slice A5 al2 c5, .slice A6 al3 c6] 52)).alloc (.cells #[.int .i64 bs_, .int .i64 bn, .slice B3 bl0 d3, .slice B4 bl1 d4, .slice B5 bl2 d5, .slice B6 bl3 d6] 52)).grownBy W none), W.cell? ⟨w.heap.size + 1, 0, none⟩ = some (.int .i64 bs_) ∧ W.cell? ⟨w.heap.size + 1, 1, none⟩ = some (.int .i64 bn) ∧ W.cell? ⟨w.heap.size + 1, 2, none⟩ = some (.slice B3 bl0 d3) ∧ W.cell? ⟨w.heap.size + 1, 3, none⟩ = some (.slice B4 bl1 d4) ∧ W.cell? ⟨w.heap.size + 1, 4, none⟩ = some (.slice B5 bl2 d5) ∧ W.cell? ⟨w.heap.size + 1, 5, none⟩ = some (.slice B6 bl3 d6) := fun W hg => ⟨cell_grown (by rw [cell_of_row _ _ _ _ _ _ e1]; rfl) hg (by simp), cell_grown (by rw [cell_of_row _ _ _ _ _ _ e1]; rfl) hg (by simp), cell_grown (by rw [cell_of_row _ _ _ _ _ _ e1]; rfl) hg (by simp), cell_grown (by rw [cell_of_row _ _ _ _ _ _ e1]; rfl) hg (by simp), cell_grown (by rw [cell_of_row _ _ _ _ _ _ e1]; rfl) hg (by simp), cell_grown (by rw [cell_of_row _ _ _ _ _ _ e1]; rfl) hg (by simp)⟩
  clear e0 e0' e1
  go_enter Tryz.func4, Tryz.ntmps4
  rcases hcA with hcA | hcA
  · clear hcB
    go_wp2_with (first | (go_at_call 5; refine ((HL _ (by exact hgw)).out).mono ?_; rintro e w1 ⟨rfl, hg1⟩; have hfa := FA _ hg1; have hfb := FB _ hg1; obtain ⟨p0, p1, p2, p3, p4, p5⟩ := hfa; obtain ⟨q0, q1, q2, q3, q4, q5⟩ := hfb))
    go_ret
    exact ⟨rfl, gb_trans hgw hg1⟩
  · rcases hcB with hcB | hcB
    · go_wp2_with (first | (go_at_call 5; refine ((HL _ (by exact hgw)).out).mono ?_; rintro e w1 ⟨rfl, hg1⟩; have hfa := FA _ hg1; have hfb := FB _ hg1; obtain ⟨p0, p1, p2, p3, p4, p5⟩ := hfa; obtain ⟨q0, q1, q2, q3, q4, q5⟩ := hfb))
      go_ret
      exact ⟨rfl, gb_trans hgw hg1⟩
    · have dA := decide_eq_false hcA
      have dB := decide_eq_false hcB
      clear hcA hcB
      go_wp2_with (first | (go_at_call 5; refine ((HL _ (by exact hgw)).out).mono ?_; rintro e w1 ⟨rfl, hg1⟩; have hfa := FA _ hg1; have hfb := FB _ hg1; obtain ⟨p0, p1, p2, p3, p4, p5⟩ := hfa; obtain ⟨q0, q1, q2, q3, q4, q5⟩ := hfb))
      have hgk := gb_trans hgw hg1
      have PA0 : ∀ G : Grown w1, G.W.cell? ⟨w.heap.size, 0, none⟩ = some (.int .i64 as_) := fun G => (FA _ (gb_trans hg1 G.h)).1
      have PA1 : ∀ G : Grown w1, G.W.cell? ⟨w.heap.size, 1, none⟩ = some (.int .i64 an) := fun G => (FA _ (gb_trans hg1 G.h)).2.1
      have PA2 : ∀ G : Grown w1, G.W.cell? ⟨w.heap.size, 2, none⟩ = some (.slice A3 al0 c3) := fun G => (FA _ (gb_trans hg1 G.h)).2.2.1
      have PA3 : ∀ G : Grown w1, G.W.cell? ⟨w.heap.size, 3, none⟩ = some (.slice A4 al1 c4) := fun G => (FA _ (gb_trans hg1 G.h)).2.2.2.1
      have PA4 : ∀ G : Grown w1, G.W.cell? ⟨w.heap.size, 4, none⟩ = some (.slice A5 al2 c5) := fun G => (FA _ (gb_trans hg1 G.h)).2.2.2.2.1
      have PA5 : ∀ G : Grown w1, G.W.cell? ⟨w.heap.size, 5, none⟩ = some (.slice A6 al3 c6) := fun G => (FA _ (gb_trans hg1 G.h)).2.2.2.2.2
      have PB0 : ∀ G : Grown w1, G.W.cell? ⟨w.heap.size + 1, 0, none⟩ = some (.int .i64 bs_) := fun G => (FB _ (gb_trans hg1 G.h)).1
      have PB1 : ∀ G : Grown w1, G.W.cell? ⟨w.heap.size + 1, 1, none⟩ = some (.int .i64 bn) := fun G => (FB _ (gb_trans hg1 G.h)).2.1
      have PB2 : ∀ G : Grown w1, G.W.cell? ⟨w.heap.size + 1, 2, none⟩ = some (.slice B3 bl0 d3) := fun G => (FB _ (gb_trans hg1 G.h)).2.2.1
      have PB3 : ∀ G : Grown w1, G.W.cell? ⟨w.heap.size + 1, 3, none⟩ = some (.slice B4 bl1 d4) := fun G => (FB _ (gb_trans hg1 G.h)).2.2.2.1
      have PB4 : ∀ G : Grown w1, G.W.cell? ⟨w.heap.size + 1, 4, none⟩ = some (.slice B5 bl2 d5) := fun G => (FB _ (gb_trans hg1 G.h)).2.2.2.2.1
      have PB5 : ∀ G : Grown w1, G.W.cell? ⟨w.heap.size + 1, 5, none⟩ = some (.slice B6 bl3 d6) := fun G => (FB _ (gb_trans hg1 G.h)).2.2.2.2.2
      have k1 := Q1 w1 hgk
      have k2 := Q2 w1 hgk
      have k3 := Q3 w1 hgk
      clear Q1 Q2 Q3 HL FA FB a1 a2 a3 b1 b2 b3 dA dB p0 p1 p2 p3 p4 p5 q0 q1 q2 q3 q4 q5
      refine wp_region_grown 13 0 (by simp only [List.take_succ_cons, List.take_zero]; rfl) (by kernel_rfl) (gb_drew (gb_refl _ _)) (by kernel_rfl) (by kernel_rfl) (by kernel_rfl) (by kernel_rfl) ?_
      repeat go_big_quiet_step (first
        | (rename_i G; with_reducible exact k1.out.at G)
        | (rename_i G; with_reducible exact k2.out.at G)
        | (rename_i G; with_reducible exact k3.out.at G))
      refine wpQuiet_nil ?_
      intro G
      refine wpAny_done (by kernel_rfl) ?_ _
      have hgG := gb_trans hgk G.h
      go_wp2_with fail
      go_ret
      exact ⟨rfl, hgG⟩
end Go.Proofs.YtcmepallgchcjaaGreat
