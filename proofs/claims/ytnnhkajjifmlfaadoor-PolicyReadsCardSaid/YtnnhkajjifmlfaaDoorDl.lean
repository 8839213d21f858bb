/- Policies, the document's reader: is a node too long: the walk. -/
import Derived.Test.YtnnhkajjifmlfaaDoorDj
namespace Go.Proofs.YtnnhkajjifmlfaaDoor.Pl
open Go.RowKit Go.Maps

set_option maxHeartbeats 3200000 in
theorem rlong_any (x : PN) (w : World) : Calls Tryd.prog 116 #[nodeV x] w fun e w' => e = .returned (.bool (longN x)) ∧ w.grownBy w' none := by
  obtain ⟨r, hr, hT⟩ : ∃ r, longN x = r ∧ Hid (longN x = r) := ⟨_, rfl, rfl⟩
  rw [hr]
  clear hr
  rw [longN_of] at hT
  go_enter Tryd.func116, Tryd.ntmps116
  by_cases h1 : (128 : Int) < (x.a.size : Int)
  · obtain rfl : r = true := by rw [← hT.out, decide_eq_true h1]; rfl
    clear hT
    go_wp2_with fail
    go_ret
    exact ⟨rfl, gb_alloc (gb_refl _ _) _⟩
  rw [decide_eq_false h1, Bool.false_or] at hT
  by_cases h2 : (128 : Int) < (x.b.size : Int)
  · obtain rfl : r = true := by rw [← hT.out, decide_eq_true h2]; rfl
    clear hT
    go_wp2_with fail
    go_ret
    exact ⟨rfl, gb_alloc (gb_refl _ _) _⟩
  rw [decide_eq_false h2, Bool.false_or] at hT
  by_cases h3 : x.k = 3
  · have hb3 : (x.k == 3) = true := by simp [h3]
    have hb6 : (x.k == 6) = false := by simp [h3]
    rw [hb3, hb6, Bool.false_and, Bool.or_false, Bool.true_and] at hT
    clear h3
    by_cases h4 : (4611686018427387903 : Int) < x.n
    · obtain rfl : r = true := by rw [← hT.out, decide_eq_true h4]
      clear hT
      go_wp2_with fail
      go_ret
      exact ⟨rfl, gb_alloc (gb_refl _ _) _⟩
    · obtain rfl : r = false := by rw [← hT.out, decide_eq_false h4]
      clear hT
      go_wp2_with fail
      go_ret
      exact ⟨rfl, gb_alloc (gb_refl _ _) _⟩
  have hb3 : (x.k == 3) = false := by simpa using h3
  rw [hb3, Bool.false_and, Bool.false_or] at hT
  by_cases h5 : x.k = 6
  · have hb6 : (x.k == 6) = true := by simp [h5]
    rw [hb6, Bool.true_and] at hT
    clear h3 h5
    by_cases h4 : (1000 : Int) < x.n
    · obtain rfl : r = true := by rw [← hT.out, decide_eq_true h4]
      clear hT
      go_wp2_with fail
      go_ret
      exact ⟨rfl, gb_alloc (gb_refl _ _) _⟩
    · obtain rfl : r = false := by rw [← hT.out, decide_eq_false h4]
      clear hT
      go_wp2_with fail
      go_ret
      exact ⟨rfl, gb_alloc (gb_refl _ _) _⟩
  · have hb6 : (x.k == 6) = false := by simpa using h5
    obtain rfl : r = false := by rw [← hT.out, hb6]; rfl
    clear hT h3 h5
    go_wp2_with fail
    go_ret
    exact ⟨rfl, gb_alloc (gb_refl _ _) _⟩
end Go.Proofs.YtnnhkajjifmlfaaDoor.Pl
/-! Policies, the document's reader: a node is put: the walk. -/
namespace Go.Proofs.YtnnhkajjifmlfaaDoor.Pl
open Go.RowKit Go.Maps

/-- the document's reader and its nodes, all in memory from B on -/
def QR (B R : Nat) (s : ByteArray) (ρ : RQ) (w : World) : Prop :=
  B ≤ R ∧ ∃ (A : Option Addr) (c : Nat), RB w R s ρ (.slice A ρ.ns.length c) ∧ w.ownsRow B 64 6 (.slice A ρ.ns.length c) ρ.ns.length (nodesC ρ.ns) ∧ (Value.slice A ρ.ns.length c).ownBlock ≠ some R
theorem QR.qs1 {B R : Nat} {s : ByteArray} {ρ τ : RQ} {w w' : World} {A : Option Addr} {c : Nat} (hB : B ≤ R) (hown : w.ownsRow B 64 6 (.slice A ρ.ns.length c) ρ.ns.length (nodesC ρ.ns)) (hne : (Value.slice A ρ.ns.length c).ownBlock ≠ some R)
    (hR : RB w' R s τ (.slice A ρ.ns.length c)) (hg : w.grownBy w' (some R)) (hns : τ.ns = ρ.ns) (hBw : B ≤ w.heap.size) : QR B R s τ w' ∧ Below B w w' := by
  refine ⟨⟨hB, A, c, ?_, ?_, ?_⟩, below_gb hg hBw (by rintro g e; cases e; exact hB)⟩
  · rw [hns]; exact hR
  · rw [hns]; exact hown.kept hg (.inr hne)
  · rw [hns]; exact hne
theorem QR.gr {B R : Nat} {s : ByteArray} {ρ : RQ} {w : World} (h : QR B R s ρ w) : B ≤ w.heap.size := by
  obtain ⟨h1, A, c, h2, _⟩ := h
  have := h2.lt
  omega
def QI (B R : Nat) (s : ByteArray) (w : World) (v : Int) (τ : RQ) (e : Ending) (w' : World) : Prop :=
  e = .returned (.int .i64 v) ∧ QR B R s τ w' ∧ Below B w w'
theorem rput_end {B R : Nat} {s : ByteArray} {ρ σ : RQ} {x : PN} {w W w4 : World} {o : Obj} {A : Option Addr} {c gg cap : Nat} (hτ : (putR x ρ).2 = { σ with ns := ρ.ns ++ [x] }) (hB : B ≤ R) (hBw : B ≤ w.heap.size) (hRl : R < w.heap.size) (hg1 : w.grownBy W (some R))
    (hown : W.ownsRow B 64 6 (.slice A ρ.ns.length c) ρ.ns.length (nodesC ρ.ns)) (hne : (Value.slice A ρ.ns.length c).ownBlock ≠ some R) (hR4 : RB w4 R s σ (.slice A ρ.ns.length c))
    (hown4 : w4.ownsRow B 64 6 (.slice (some ⟨gg, 0, none⟩) (ρ.ns.length + 1) cap) (ρ.ns.length + 1) (nodesC ρ.ns ++ nodeC x)) (hgrow : (W.alloc o).drew.grownBy w4 (Value.slice A ρ.ns.length c).ownBlock)
    (hat : (Value.slice A ρ.ns.length c).ownBlock = some gg ∨ gg = W.heap.size + 1) :
    QR B R s (putR x ρ).2 (w4.setCell ⟨R, 7, none⟩ (.slice (some ⟨gg, 0, none⟩) (ρ.ns.length + 1) cap)) ∧ Below B w (w4.setCell ⟨R, 7, none⟩ (.slice (some ⟨gg, 0, none⟩) (ρ.ns.length + 1) cap)) := by
  have hW := hg1.size
  have hgR : gg ≠ R := by
    rintro rfl
    rcases hat with e | e
    · exact hne e
    · omega
  have hbW : B ≤ (W.alloc o).drew.heap.size := by show B ≤ (W.alloc o).heap.size; simp; omega
  have hs4 := hgrow.size
  refine ⟨⟨hB, some ⟨gg, 0, none⟩, cap, ?_, ?_, ?_⟩, ?_⟩
  · have e : (putR x ρ).2.ns.length = ρ.ns.length + 1 := by unfold putR; simp
    rw [e, hτ]
    exact (hR4.set7 _).ns (ρ.ns ++ [x])
  · have e : (putR x ρ).2.ns.length = ρ.ns.length + 1 := by unfold putR; simp
    have e2 : nodesC (putR x ρ).2.ns = nodesC ρ.ns ++ nodeC x := nodesC_snoc _ _
    rw [e, e2]
    exact hown4.kept (gb_setR (gb_refl w4 (some R)) 7 _) (.inr (by simp only [Value.ownBlock, ne_eq, Option.some.injEq]; exact hgR))
  · simp only [Value.ownBlock, ne_eq, Option.some.injEq]; exact hgR
  · have h1 : Below B w W := below_gb hg1 hBw (by rintro g e; cases e; exact hB)
    have h2 : Below B W (W.alloc o).drew := below_gb (gb_drew (gb_alloc (gb_refl W none) o)) (by omega) (by simp)
    have h3 : Below B (W.alloc o).drew w4 := below_gb hgrow hbW (fun g e => (hown.lt g e).1)
    have h4 : Below B w4 (w4.setCell ⟨R, 7, none⟩ (.slice (some ⟨gg, 0, none⟩) (ρ.ns.length + 1) cap)) := below_gb (gb_setR (gb_refl w4 (some R)) 7 _) (by omega) (by rintro g e; cases e; exact hB)
    exact ((h1.trans h2).trans h3).trans h4
theorem gb_row {w w' : World} (hgk : w.grownBy w' none) (R : Nat) : w.grownBy w' (some R) := ⟨hgk.os, hgk.tape, hgk.output, hgk.size, fun j hj _ => hgk.block j hj (by simp)⟩
set_option maxRecDepth 100000 in
set_option maxHeartbeats 6400000 in
theorem rput_any (B R : Nat) (s : ByteArray) (ρ : RQ) (x : PN) (w : World) (h : QR B R s ρ w) (hn : ρ.ns.length ≤ 1000000) :
    Calls Tryd.prog 115 #[.pointer (some ⟨R, 0, none⟩), nodeV x] w (QI B R s w (putR x ρ).1 (putR x ρ).2) := by
  have hBw := h.gr
  obtain ⟨hB, A, c, hR, hown, hne⟩ := h
  obtain ⟨i0, hi0, hz0, hz1, hz2⟩ := info_parts info64
  have hRl := hR.lt
  have hLg := fun W => Lib.hid (rlong_any x W)
  have hτ0 : Hid ((putR x ρ).2 = { ρ with lg := ρ.lg || longN x, ns := ρ.ns ++ [x] }) := rfl
  have hX := heap_alloc_new w (.cells #[.int .i64 x.k, .int .i64 x.n, .string x.a, .string x.b, .int .i64 x.l, .int .i64 x.r] 64)
  have hR1 := hR.alloc (.cells #[.int .i64 x.k, .int .i64 x.n, .string x.a, .string x.b, .int .i64 x.l, .int .i64 x.r] 64)
  have hown1 := hown.alloc (.cells #[.int .i64 x.k, .int .i64 x.n, .string x.a, .string x.b, .int .i64 x.l, .int .i64 x.r] 64)
  have hsz1 : (w.alloc (.cells #[.int .i64 x.k, .int .i64 x.n, .string x.a, .string x.b, .int .i64 x.l, .int .i64 x.r] 64)).heap.size = w.heap.size + 1 := by simp
  have hg1 := gb_alloc (gb_refl w none) (.cells #[.int .i64 x.k, .int .i64 x.n, .string x.a, .string x.b, .int .i64 x.l, .int .i64 x.r] 64)
  go_enter Tryd.func115, Tryd.ntmps115
  generalize longN x = g at hLg hτ0
  cases g with
  | true =>
    have hτ : Hid ((putR x ρ).2 = { ρ with lg := true, ns := ρ.ns ++ [x] }) := by unfold Hid; rw [hτ0.out]; simp
    clear hτ0
    go_wp2_with (first
      | (go_at_call 116; refine ((hLg _).out).mono ?_; rintro e w1 ⟨rfl, hgl⟩; have hR2 := hR1.kept hgl (by simp); have hown2 := hown1.kept hgl (Classical.em _); have hX2 := (hgl.block w.heap.size (by simp) (by simp)).trans hX; have hg2 := gb_trans hg1 hgl; have hsz2 : w.heap.size < w1.heap.size := (Array.getElem?_eq_some_iff.1 hX2).1; have f6 := hR2.f 6; have c6 := hR2.c6))
    refine name_world (p := fun W => RB W R s { ρ with lg := true } (.slice A ρ.ns.length c) ∧ W.ownsRow B 64 6 (.slice A ρ.ns.length c) ρ.ns.length (nodesC ρ.ns) ∧ W.heap[w.heap.size]? = some (.cells #[.int .i64 x.k, .int .i64 x.n, .string x.a, .string x.b, .int .i64 x.l, .int .i64 x.r] 64 (0, 0)) ∧ w.grownBy W (some R) ∧ w.heap.size < W.heap.size) ⟨by have := hR2.set6 true; exact this, hown2.kept (gb_setR (gb_refl w1 (some R)) 6 (.bool true)) (.inr hne), (Below.heap_setCell w1 ⟨R, 6, none⟩ (.bool true) w.heap.size (Nat.ne_of_gt hRl)).trans hX2, gb_setR (gb_row hg2 R) 6 (.bool true), by simpa [World.setCell] using hsz2⟩ ?_
    clear hX hR1 hown1 hsz1 hg1 hR2 hown2 hX2 hg2 hsz2 f6 c6 hgl hR hown
    rintro W ⟨hR1, hown1, hX, hg1, hwW⟩
    have c7 := hR1.c7
    have f7 := hR1.f 7
    have x0 : W.cell? ⟨w.heap.size, 0, none⟩ = some (.int .i64 x.k) := by rw [cell_of_row W _ 0 _ _ _ hX]; rfl
    have x1 : W.cell? ⟨w.heap.size, 1, none⟩ = some (.int .i64 x.n) := by rw [cell_of_row W _ 1 _ _ _ hX]; rfl
    have x2 : W.cell? ⟨w.heap.size, 2, none⟩ = some (.string x.a) := by rw [cell_of_row W _ 2 _ _ _ hX]; rfl
    have x3 : W.cell? ⟨w.heap.size, 3, none⟩ = some (.string x.b) := by rw [cell_of_row W _ 3 _ _ _ hX]; rfl
    have x4 : W.cell? ⟨w.heap.size, 4, none⟩ = some (.int .i64 x.l) := by rw [cell_of_row W _ 4 _ _ _ hX]; rfl
    have x5 : W.cell? ⟨w.heap.size, 5, none⟩ = some (.int .i64 x.r) := by rw [cell_of_row W _ 5 _ _ _ hX]; rfl
    have hRW : R < W.heap.size := hR1.lt
    have hne' : some R ≠ (Value.slice A ρ.ns.length c).ownBlock := fun e => hne e.symm
    have hBW : B ≤ W.heap.size := by omega
    clear hX
    refine wp_region_noPanic ?_
    go_region_law (first
      | (refine step_append_lies _ (by rfl) _ _ _ (by rfl) B 64 i0 _ 6 64 Tryd.underlying46 hi0 hz0 hz1 hz2 rfl (by omega) (.slice A ρ.ns.length c) ρ.ns.length (nodesC ρ.ns) (by rfl) (own_drew (hown1.alloc _))
          ⟨W.heap.size, 0, none⟩ 1 1 (nodeC x) (by rfl) (by rfl) (World.news_of_block (cs := #[.int .i64 x.k, .int .i64 x.n, .string x.a, .string x.b, .int .i64 x.l, .int .i64 x.r]) (t := 64) (fr := (0, 0)) (new_drew W _)) (by simp [nodeC, Value.oneCell'])
          (by omega) (by unfold maxLen; omega) (by omega) (by simp; omega) (W.heap.size + 1) (by simp) ?_; intro gg cap w4 hown4 hgrow hat hlt4; have hR4 := (hR1.alloc _).drew.kept hgrow hne'; have d7 := hR4.c7; have e7 := hR4.f 7))
    all_goals refine NoPanic.normal ?_
    all_goals go_wp2_with fail
    all_goals go_ret
    all_goals
      obtain ⟨q1, q2⟩ := rput_end (x := x) hτ.out hB hBw hRl hg1 hown1 hne hR4 hown4 hgrow hat
      exact ⟨by unfold putR; simp, q1, q2⟩
  | false =>
    have hτ : Hid ((putR x ρ).2 = { ρ with lg := ρ.lg, ns := ρ.ns ++ [x] }) := by unfold Hid; rw [hτ0.out]; simp
    clear hτ0
    go_wp2_with (first
      | (go_at_call 116; refine ((hLg _).out).mono ?_; rintro e w1 ⟨rfl, hgl⟩; have hR2 := hR1.kept hgl (by simp); have hown2 := hown1.kept hgl (Classical.em _); have hX2 := (hgl.block w.heap.size (by simp) (by simp)).trans hX; have hg2 := gb_trans hg1 hgl; have hsz2 : w.heap.size < w1.heap.size := (Array.getElem?_eq_some_iff.1 hX2).1; have f6 := hR2.f 6; have c6 := hR2.c6))
    refine name_world (p := fun W => RB W R s { ρ with lg := ρ.lg } (.slice A ρ.ns.length c) ∧ W.ownsRow B 64 6 (.slice A ρ.ns.length c) ρ.ns.length (nodesC ρ.ns) ∧ W.heap[w.heap.size]? = some (.cells #[.int .i64 x.k, .int .i64 x.n, .string x.a, .string x.b, .int .i64 x.l, .int .i64 x.r] 64 (0, 0)) ∧ w.grownBy W (some R) ∧ w.heap.size < W.heap.size) ⟨hR2, hown2, hX2, gb_row hg2 R, hsz2⟩ ?_
    clear hX hR1 hown1 hsz1 hg1 hR2 hown2 hX2 hg2 hsz2 f6 c6 hgl hR hown
    rintro W ⟨hR1, hown1, hX, hg1, hwW⟩
    have c7 := hR1.c7
    have f7 := hR1.f 7
    have x0 : W.cell? ⟨w.heap.size, 0, none⟩ = some (.int .i64 x.k) := by rw [cell_of_row W _ 0 _ _ _ hX]; rfl
    have x1 : W.cell? ⟨w.heap.size, 1, none⟩ = some (.int .i64 x.n) := by rw [cell_of_row W _ 1 _ _ _ hX]; rfl
    have x2 : W.cell? ⟨w.heap.size, 2, none⟩ = some (.string x.a) := by rw [cell_of_row W _ 2 _ _ _ hX]; rfl
    have x3 : W.cell? ⟨w.heap.size, 3, none⟩ = some (.string x.b) := by rw [cell_of_row W _ 3 _ _ _ hX]; rfl
    have x4 : W.cell? ⟨w.heap.size, 4, none⟩ = some (.int .i64 x.l) := by rw [cell_of_row W _ 4 _ _ _ hX]; rfl
    have x5 : W.cell? ⟨w.heap.size, 5, none⟩ = some (.int .i64 x.r) := by rw [cell_of_row W _ 5 _ _ _ hX]; rfl
    have hRW : R < W.heap.size := hR1.lt
    have hne' : some R ≠ (Value.slice A ρ.ns.length c).ownBlock := fun e => hne e.symm
    have hBW : B ≤ W.heap.size := by omega
    clear hX
    refine wp_region_noPanic ?_
    go_region_law (first
      | (refine step_append_lies _ (by rfl) _ _ _ (by rfl) B 64 i0 _ 6 64 Tryd.underlying46 hi0 hz0 hz1 hz2 rfl (by omega) (.slice A ρ.ns.length c) ρ.ns.length (nodesC ρ.ns) (by rfl) (own_drew (hown1.alloc _))
          ⟨W.heap.size, 0, none⟩ 1 1 (nodeC x) (by rfl) (by rfl) (World.news_of_block (cs := #[.int .i64 x.k, .int .i64 x.n, .string x.a, .string x.b, .int .i64 x.l, .int .i64 x.r]) (t := 64) (fr := (0, 0)) (new_drew W _)) (by simp [nodeC, Value.oneCell'])
          (by omega) (by unfold maxLen; omega) (by omega) (by simp; omega) (W.heap.size + 1) (by simp) ?_; intro gg cap w4 hown4 hgrow hat hlt4; have hR4 := (hR1.alloc _).drew.kept hgrow hne'; have d7 := hR4.c7; have e7 := hR4.f 7))
    all_goals refine NoPanic.normal ?_
    all_goals go_wp2_with fail
    all_goals go_ret
    all_goals
      obtain ⟨q1, q2⟩ := rput_end (x := x) hτ.out hB hBw hRl hg1 hown1 hne hR4 hown4 hgrow hat
      exact ⟨by unfold putR; simp, q1, q2⟩
end Go.Proofs.YtnnhkajjifmlfaaDoor.Pl
