/- PolicyTables: the law's walk: what is not gone through. -/
import Derived.Test.YtnnhkajjifmlfaaDoorEh
namespace Go.Proofs.YtnnhkajjifmlfaaDoor.Pl
open Go.RowKit Go.Maps

/-- the law's four boxes -/
structure TW (w : World) (N : Nat) (vp vq : Value) (hi lo hi2 lo2 : Nat) : Prop where
  p : w.cell? ⟨N, 0, none⟩ = some vp
  q : w.cell? ⟨N + 1, 0, none⟩ = some vq
  t0 : w.cell? ⟨N + 2, 0, none⟩ = some (.int .u64 hi)
  t1 : w.cell? ⟨N + 2, 1, none⟩ = some (.int .u64 lo)
  u0 : w.cell? ⟨N + 3, 0, none⟩ = some (.int .u64 hi2)
  u1 : w.cell? ⟨N + 3, 1, none⟩ = some (.int .u64 lo2)
  n : N + 4 ≤ w.heap.size
theorem TW.grown {w w' : World} {N : Nat} {vp vq : Value} {hi lo hi2 lo2 : Nat} (h : TW w N vp vq hi lo hi2 lo2) (hg : w.grownBy w' none) : TW w' N vp vq hi lo hi2 lo2 :=
  ⟨cell_grown h.p hg (by simp), cell_grown h.q hg (by simp), cell_grown h.t0 hg (by simp), cell_grown h.t1 hg (by simp), cell_grown h.u0 hg (by simp), cell_grown h.u1 hg (by simp), Nat.le_trans h.n hg.size⟩
abbrev boxP (v : Value) : Obj := .cells #[v] 48
abbrev boxT (a b : Nat) : Obj := .cells #[.int .u64 a, .int .u64 b] 57
abbrev four (w : World) (vp vq : Value) (hi lo hi2 lo2 : Nat) : World := (((w.alloc (boxP vp)).alloc (boxP vq)).alloc (boxT hi lo)).alloc (boxT hi2 lo2)
theorem four_gb (w : World) (vp vq : Value) (hi lo hi2 lo2 : Nat) : w.grownBy (four w vp vq hi lo hi2 lo2) none := gb_alloc (gb_alloc (gb_alloc (gb_alloc (gb_refl _ _) _) _) _) _
theorem four_tw (w : World) (vp vq : Value) (hi lo hi2 lo2 : Nat) : TW (four w vp vq hi lo hi2 lo2) w.heap.size vp vq hi lo hi2 lo2 := by
  have e1 : (w.alloc (boxP vp)).heap.size = w.heap.size + 1 := by simp
  have e2 : ((w.alloc (boxP vp)).alloc (boxP vq)).heap.size = w.heap.size + 2 := by simp
  have e3 : (((w.alloc (boxP vp)).alloc (boxP vq)).alloc (boxT hi lo)).heap.size = w.heap.size + 3 := by simp
  have b0 : (four w vp vq hi lo hi2 lo2).heap[w.heap.size]? = some (boxP vp) := (Below.heap_alloc _ _ _ (by simp only [e3]; omega)).trans ((Below.heap_alloc _ _ _ (by simp only [e2]; omega)).trans ((Below.heap_alloc _ _ _ (by simp)).trans (heap_alloc_new w _)))
  have b1 : (four w vp vq hi lo hi2 lo2).heap[w.heap.size + 1]? = some (boxP vq) := (Below.heap_alloc _ _ _ (by simp only [e3]; omega)).trans ((Below.heap_alloc _ _ _ (by simp)).trans (by rw [← e1]; exact heap_alloc_new _ _))
  have b2 : (four w vp vq hi lo hi2 lo2).heap[w.heap.size + 2]? = some (boxT hi lo) := (Below.heap_alloc _ _ _ (by simp)).trans (by rw [← e2]; exact heap_alloc_new _ _)
  have b3 : (four w vp vq hi lo hi2 lo2).heap[w.heap.size + 3]? = some (boxT hi2 lo2) := by rw [← e3]; exact heap_alloc_new _ _
  refine ⟨?_, ?_, ?_, ?_, ?_, ?_, by simp [four]⟩
  · rw [cell_of_row _ _ 0 _ _ _ b0]; rfl
  · rw [cell_of_row _ _ 0 _ _ _ b1]; rfl
  · rw [cell_of_row _ _ 0 _ _ _ b2]; rfl
  · rw [cell_of_row _ _ 1 _ _ _ b2]; rfl
  · rw [cell_of_row _ _ 0 _ _ _ b3]; rfl
  · rw [cell_of_row _ _ 1 _ _ _ b3]; rfl
/-- what the walk is given -/
structure TGiven (w : World) (p q : List PN) (S S' : Nat → Prop) (vp vq : Value) (hi lo hi2 lo2 : Nat) (l : List Ad) (u : Value) : Prop where
  np : NodesAt w S vp p
  nq : NodesAt w S' vq q
  sp : ∀ b, S b → b < w.heap.size
  sq : ∀ b, S' b → b < w.heap.size
  lp : p.length ≤ 140737488355328
  lq : q.length ≤ 140737488355328
  h1 : hi < 18446744073709551616
  h2 : lo < 18446744073709551616
  h3 : hi2 < 18446744073709551616
  h4 : lo2 < 18446744073709551616
  ll : l.length ≤ 140737488355328
  bd : ABd l
  au : AAt w l u
  lives : ∀ W, w.grownBy W none → Calls Tryd.prog 32 #[] W fun e w' => e = .returned (.bool true) ∧ W.grownBy w' none
theorem NodesAt.on {w w' : World} {S : Nat → Prop} {v : Value} {l : List PN} (h : NodesAt w S v l) (hS : ∀ b, S b → b < w.heap.size) (hg : w.grownBy w' none) : NodesAt w' S v l ∧ ∀ b, S b → b < w'.heap.size :=
  ⟨h.grown hg (fun b hb => ⟨hS b hb, by simp⟩), fun b hb => Nat.lt_of_lt_of_le (hS b hb) hg.size⟩
set_option maxRecDepth 100000 in
set_option maxHeartbeats 12800000 in
theorem tables_p30 {w : World} {p q : List PN} {S S' : Nat → Prop} {vp vq : Value} {hi lo hi2 lo2 : Nat} {l : List Ad} {u : Value} (h : TGiven w p q S S' vp vq hi lo hi2 lo2 l u) (h1 : 30 < p.length) :
    Calls Tryd.prog 11 #[.agg #[vp], .agg #[vq], .agg #[.int .u64 hi, .int .u64 lo], .agg #[.int .u64 hi2, .int .u64 lo2], u] w fun e w' => e = .returned (.bool true) ∧ w.grownBy w' none := by
  have hL := fun W (hg : w.grownBy W none) => Lib.hid (h.lives W hg)
  have hSp := fun W (hg : w.grownBy W none) => Lib.hid (small_any p S vp W h.lp (h.np.on h.sp hg).1 (h.np.on h.sp hg).2)
  have hSq := fun W (hg : w.grownBy W none) => Lib.hid (small_any q S' vq W h.lq (h.nq.on h.sq hg).1 (h.nq.on h.sq hg).2)
  have hSa := fun W (hg : w.grownBy W none) => Lib.hid (smallAdj_any l u 64 200 W (by omega) h.ll h.bd (h.au.grown hg))
  obtain ⟨A, ca, rfl, hA⟩ := id h.np
  obtain ⟨A', cb, rfl, hA'⟩ := id h.nq
  have a0 := four_gb w (.slice A p.length ca) (.slice A' q.length cb) hi lo hi2 lo2
  have T0 := four_tw w (.slice A p.length ca) (.slice A' q.length cb) hi lo hi2 lo2
  obtain ⟨c5, c6, c7, d7, _, _, _⟩ := id T0
  have h1I : (30 : Int) < (p.length : Int) := by omega
  clear hA hA' h
  go_enter Tryd.func11, Tryd.ntmps11
  go_wp2_with (first
    | (go_at_call 39; have hmk := hg5; refine ((hCq _ a5).out).mono ?_; rintro e w6 ⟨rfl, hg6⟩; have a6 := gb_trans a5 hg6; have T6 := T5.grown hg6; clear c5 c6 c7 d7; obtain ⟨c5, c6, c7, d7, _, _, _⟩ := id T6)
    | (go_at_call 39; have hmk := hg4; refine ((hCp _ a4).out).mono ?_; rintro e w5 ⟨rfl, hg5⟩; have a5 := gb_trans a4 hg5; have T5 := T4.grown hg5; clear c5 c6 c7 d7; obtain ⟨c5, c6, c7, d7, _, _, _⟩ := id T5)
    | (go_at_call 38; have hmk := hg3; refine ((hSa _ a3).out).mono ?_; rintro e w4 ⟨y, rfl, hg4⟩; have a4 := gb_trans a3 hg4; have T4 := T3.grown hg4; clear c5 c6 c7 d7; obtain ⟨c5, c6, c7, d7, _, _, _⟩ := id T4; cases y)
    | (go_at_call 37; have hmk := hg2; refine ((hSq _ a2).out).mono ?_; rintro e w3 ⟨rfl, hg3⟩; have a3 := gb_trans a2 hg3; have T3 := T2.grown hg3; clear c5 c6 c7 d7; obtain ⟨c5, c6, c7, d7, _, _, _⟩ := id T3)
    | (go_at_call 37; have hmk := hg1; refine ((hSp _ a1).out).mono ?_; rintro e w2 ⟨rfl, hg2⟩; have a2 := gb_trans a1 hg2; have T2 := T1.grown hg2; clear c5 c6 c7 d7; obtain ⟨c5, c6, c7, d7, _, _, _⟩ := id T2)
    | (go_at_call 32; refine ((hL _ a0).out).mono ?_; rintro e w1 ⟨rfl, hg1⟩; have a1 := gb_trans a0 hg1; have T1 := T0.grown hg1; clear c5 c6 c7 d7; obtain ⟨c5, c6, c7, d7, _, _, _⟩ := id T1))
  all_goals go_ret
  all_goals exact ⟨rfl, by assumption⟩
set_option maxRecDepth 100000 in
set_option maxHeartbeats 12800000 in
theorem tables_q30 {w : World} {p q : List PN} {S S' : Nat → Prop} {vp vq : Value} {hi lo hi2 lo2 : Nat} {l : List Ad} {u : Value} (h : TGiven w p q S S' vp vq hi lo hi2 lo2 l u) (h1 : p.length ≤ 30) (h2 : 30 < q.length) :
    Calls Tryd.prog 11 #[.agg #[vp], .agg #[vq], .agg #[.int .u64 hi, .int .u64 lo], .agg #[.int .u64 hi2, .int .u64 lo2], u] w fun e w' => e = .returned (.bool true) ∧ w.grownBy w' none := by
  have hL := fun W (hg : w.grownBy W none) => Lib.hid (h.lives W hg)
  have hSp := fun W (hg : w.grownBy W none) => Lib.hid (small_any p S vp W h.lp (h.np.on h.sp hg).1 (h.np.on h.sp hg).2)
  have hSq := fun W (hg : w.grownBy W none) => Lib.hid (small_any q S' vq W h.lq (h.nq.on h.sq hg).1 (h.nq.on h.sq hg).2)
  have hSa := fun W (hg : w.grownBy W none) => Lib.hid (smallAdj_any l u 64 200 W (by omega) h.ll h.bd (h.au.grown hg))
  obtain ⟨A, ca, rfl, hA⟩ := id h.np
  obtain ⟨A', cb, rfl, hA'⟩ := id h.nq
  have a0 := four_gb w (.slice A p.length ca) (.slice A' q.length cb) hi lo hi2 lo2
  have T0 := four_tw w (.slice A p.length ca) (.slice A' q.length cb) hi lo hi2 lo2
  obtain ⟨c5, c6, c7, d7, _, _, _⟩ := id T0
  have h1I : ¬ (30 : Int) < (p.length : Int) := by omega
  have h2I : (30 : Int) < (q.length : Int) := by omega
  clear hA hA' h
  go_enter Tryd.func11, Tryd.ntmps11
  go_wp2_with (first
    | (go_at_call 39; have hmk := hg5; refine ((hCq _ a5).out).mono ?_; rintro e w6 ⟨rfl, hg6⟩; have a6 := gb_trans a5 hg6; have T6 := T5.grown hg6; clear c5 c6 c7 d7; obtain ⟨c5, c6, c7, d7, _, _, _⟩ := id T6)
    | (go_at_call 39; have hmk := hg4; refine ((hCp _ a4).out).mono ?_; rintro e w5 ⟨rfl, hg5⟩; have a5 := gb_trans a4 hg5; have T5 := T4.grown hg5; clear c5 c6 c7 d7; obtain ⟨c5, c6, c7, d7, _, _, _⟩ := id T5)
    | (go_at_call 38; have hmk := hg3; refine ((hSa _ a3).out).mono ?_; rintro e w4 ⟨y, rfl, hg4⟩; have a4 := gb_trans a3 hg4; have T4 := T3.grown hg4; clear c5 c6 c7 d7; obtain ⟨c5, c6, c7, d7, _, _, _⟩ := id T4; cases y)
    | (go_at_call 37; have hmk := hg2; refine ((hSq _ a2).out).mono ?_; rintro e w3 ⟨rfl, hg3⟩; have a3 := gb_trans a2 hg3; have T3 := T2.grown hg3; clear c5 c6 c7 d7; obtain ⟨c5, c6, c7, d7, _, _, _⟩ := id T3)
    | (go_at_call 37; have hmk := hg1; refine ((hSp _ a1).out).mono ?_; rintro e w2 ⟨rfl, hg2⟩; have a2 := gb_trans a1 hg2; have T2 := T1.grown hg2; clear c5 c6 c7 d7; obtain ⟨c5, c6, c7, d7, _, _, _⟩ := id T2)
    | (go_at_call 32; refine ((hL _ a0).out).mono ?_; rintro e w1 ⟨rfl, hg1⟩; have a1 := gb_trans a0 hg1; have T1 := T0.grown hg1; clear c5 c6 c7 d7; obtain ⟨c5, c6, c7, d7, _, _, _⟩ := id T1))
  all_goals go_ret
  all_goals exact ⟨rfl, by assumption⟩
set_option maxRecDepth 100000 in
set_option maxHeartbeats 12800000 in
theorem tables_psm {w : World} {p q : List PN} {S S' : Nat → Prop} {vp vq : Value} {hi lo hi2 lo2 : Nat} {l : List Ad} {u : Value} (h : TGiven w p q S S' vp vq hi lo hi2 lo2 l u) (h1 : p.length ≤ 30) (h2 : q.length ≤ 30) (h3 : smallP p = false) :
    Calls Tryd.prog 11 #[.agg #[vp], .agg #[vq], .agg #[.int .u64 hi, .int .u64 lo], .agg #[.int .u64 hi2, .int .u64 lo2], u] w fun e w' => e = .returned (.bool true) ∧ w.grownBy w' none := by
  have hL := fun W (hg : w.grownBy W none) => Lib.hid (h.lives W hg)
  have hSp := fun W (hg : w.grownBy W none) => Lib.hid (small_any p S vp W h.lp (h.np.on h.sp hg).1 (h.np.on h.sp hg).2)
  have hSq := fun W (hg : w.grownBy W none) => Lib.hid (small_any q S' vq W h.lq (h.nq.on h.sq hg).1 (h.nq.on h.sq hg).2)
  have hSa := fun W (hg : w.grownBy W none) => Lib.hid (smallAdj_any l u 64 200 W (by omega) h.ll h.bd (h.au.grown hg))
  rw [h3] at hSp
  obtain ⟨A, ca, rfl, hA⟩ := id h.np
  obtain ⟨A', cb, rfl, hA'⟩ := id h.nq
  have a0 := four_gb w (.slice A p.length ca) (.slice A' q.length cb) hi lo hi2 lo2
  have T0 := four_tw w (.slice A p.length ca) (.slice A' q.length cb) hi lo hi2 lo2
  obtain ⟨c5, c6, c7, d7, _, _, _⟩ := id T0
  have h1I : ¬ (30 : Int) < (p.length : Int) := by omega
  have h2I : ¬ (30 : Int) < (q.length : Int) := by omega
  clear hA hA' h
  go_enter Tryd.func11, Tryd.ntmps11
  go_wp2_with (first
    | (go_at_call 39; have hmk := hg5; refine ((hCq _ a5).out).mono ?_; rintro e w6 ⟨rfl, hg6⟩; have a6 := gb_trans a5 hg6; have T6 := T5.grown hg6; clear c5 c6 c7 d7; obtain ⟨c5, c6, c7, d7, _, _, _⟩ := id T6)
    | (go_at_call 39; have hmk := hg4; refine ((hCp _ a4).out).mono ?_; rintro e w5 ⟨rfl, hg5⟩; have a5 := gb_trans a4 hg5; have T5 := T4.grown hg5; clear c5 c6 c7 d7; obtain ⟨c5, c6, c7, d7, _, _, _⟩ := id T5)
    | (go_at_call 38; have hmk := hg3; refine ((hSa _ a3).out).mono ?_; rintro e w4 ⟨y, rfl, hg4⟩; have a4 := gb_trans a3 hg4; have T4 := T3.grown hg4; clear c5 c6 c7 d7; obtain ⟨c5, c6, c7, d7, _, _, _⟩ := id T4; cases y)
    | (go_at_call 37; have hmk := hg2; refine ((hSq _ a2).out).mono ?_; rintro e w3 ⟨rfl, hg3⟩; have a3 := gb_trans a2 hg3; have T3 := T2.grown hg3; clear c5 c6 c7 d7; obtain ⟨c5, c6, c7, d7, _, _, _⟩ := id T3)
    | (go_at_call 37; have hmk := hg1; refine ((hSp _ a1).out).mono ?_; rintro e w2 ⟨rfl, hg2⟩; have a2 := gb_trans a1 hg2; have T2 := T1.grown hg2; clear c5 c6 c7 d7; obtain ⟨c5, c6, c7, d7, _, _, _⟩ := id T2)
    | (go_at_call 32; refine ((hL _ a0).out).mono ?_; rintro e w1 ⟨rfl, hg1⟩; have a1 := gb_trans a0 hg1; have T1 := T0.grown hg1; clear c5 c6 c7 d7; obtain ⟨c5, c6, c7, d7, _, _, _⟩ := id T1))
  all_goals go_ret
  all_goals exact ⟨rfl, by assumption⟩
set_option maxRecDepth 100000 in
set_option maxHeartbeats 12800000 in
theorem tables_qsm {w : World} {p q : List PN} {S S' : Nat → Prop} {vp vq : Value} {hi lo hi2 lo2 : Nat} {l : List Ad} {u : Value} (h : TGiven w p q S S' vp vq hi lo hi2 lo2 l u) (h1 : p.length ≤ 30) (h2 : q.length ≤ 30) (h3 : smallP p = true) (h4 : smallP q = false) :
    Calls Tryd.prog 11 #[.agg #[vp], .agg #[vq], .agg #[.int .u64 hi, .int .u64 lo], .agg #[.int .u64 hi2, .int .u64 lo2], u] w fun e w' => e = .returned (.bool true) ∧ w.grownBy w' none := by
  have hL := fun W (hg : w.grownBy W none) => Lib.hid (h.lives W hg)
  have hSp := fun W (hg : w.grownBy W none) => Lib.hid (small_any p S vp W h.lp (h.np.on h.sp hg).1 (h.np.on h.sp hg).2)
  have hSq := fun W (hg : w.grownBy W none) => Lib.hid (small_any q S' vq W h.lq (h.nq.on h.sq hg).1 (h.nq.on h.sq hg).2)
  have hSa := fun W (hg : w.grownBy W none) => Lib.hid (smallAdj_any l u 64 200 W (by omega) h.ll h.bd (h.au.grown hg))
  rw [h3] at hSp
  rw [h4] at hSq
  obtain ⟨A, ca, rfl, hA⟩ := id h.np
  obtain ⟨A', cb, rfl, hA'⟩ := id h.nq
  have a0 := four_gb w (.slice A p.length ca) (.slice A' q.length cb) hi lo hi2 lo2
  have T0 := four_tw w (.slice A p.length ca) (.slice A' q.length cb) hi lo hi2 lo2
  obtain ⟨c5, c6, c7, d7, _, _, _⟩ := id T0
  have h1I : ¬ (30 : Int) < (p.length : Int) := by omega
  have h2I : ¬ (30 : Int) < (q.length : Int) := by omega
  clear hA hA' h
  go_enter Tryd.func11, Tryd.ntmps11
  go_wp2_with (first
    | (go_at_call 39; have hmk := hg5; refine ((hCq _ a5).out).mono ?_; rintro e w6 ⟨rfl, hg6⟩; have a6 := gb_trans a5 hg6; have T6 := T5.grown hg6; clear c5 c6 c7 d7; obtain ⟨c5, c6, c7, d7, _, _, _⟩ := id T6)
    | (go_at_call 39; have hmk := hg4; refine ((hCp _ a4).out).mono ?_; rintro e w5 ⟨rfl, hg5⟩; have a5 := gb_trans a4 hg5; have T5 := T4.grown hg5; clear c5 c6 c7 d7; obtain ⟨c5, c6, c7, d7, _, _, _⟩ := id T5)
    | (go_at_call 38; have hmk := hg3; refine ((hSa _ a3).out).mono ?_; rintro e w4 ⟨y, rfl, hg4⟩; have a4 := gb_trans a3 hg4; have T4 := T3.grown hg4; clear c5 c6 c7 d7; obtain ⟨c5, c6, c7, d7, _, _, _⟩ := id T4; cases y)
    | (go_at_call 37; have hmk := hg2; refine ((hSq _ a2).out).mono ?_; rintro e w3 ⟨rfl, hg3⟩; have a3 := gb_trans a2 hg3; have T3 := T2.grown hg3; clear c5 c6 c7 d7; obtain ⟨c5, c6, c7, d7, _, _, _⟩ := id T3)
    | (go_at_call 37; have hmk := hg1; refine ((hSp _ a1).out).mono ?_; rintro e w2 ⟨rfl, hg2⟩; have a2 := gb_trans a1 hg2; have T2 := T1.grown hg2; clear c5 c6 c7 d7; obtain ⟨c5, c6, c7, d7, _, _, _⟩ := id T2)
    | (go_at_call 32; refine ((hL _ a0).out).mono ?_; rintro e w1 ⟨rfl, hg1⟩; have a1 := gb_trans a0 hg1; have T1 := T0.grown hg1; clear c5 c6 c7 d7; obtain ⟨c5, c6, c7, d7, _, _, _⟩ := id T1))
  all_goals go_ret
  all_goals exact ⟨rfl, by assumption⟩
set_option maxRecDepth 100000 in
set_option maxHeartbeats 12800000 in
theorem tables_pck {w : World} {p q : List PN} {S S' : Nat → Prop} {vp vq : Value} {hi lo hi2 lo2 : Nat} {l : List Ad} {u : Value} (h : TGiven w p q S S' vp vq hi lo hi2 lo2 l u) (h1 : p.length ≤ 30) (h2 : q.length ≤ 30) (h3 : smallP p = true) (h4 : smallP q = true) (h5 : checkN p ≠ 0) :
    Calls Tryd.prog 11 #[.agg #[vp], .agg #[vq], .agg #[.int .u64 hi, .int .u64 lo], .agg #[.int .u64 hi2, .int .u64 lo2], u] w fun e w' => e = .returned (.bool true) ∧ w.grownBy w' none := by
  have hL := fun W (hg : w.grownBy W none) => Lib.hid (h.lives W hg)
  have hSp := fun W (hg : w.grownBy W none) => Lib.hid (small_any p S vp W h.lp (h.np.on h.sp hg).1 (h.np.on h.sp hg).2)
  have hSq := fun W (hg : w.grownBy W none) => Lib.hid (small_any q S' vq W h.lq (h.nq.on h.sq hg).1 (h.nq.on h.sq hg).2)
  have hSa := fun W (hg : w.grownBy W none) => Lib.hid (smallAdj_any l u 64 200 W (by omega) h.ll h.bd (h.au.grown hg))
  have hCp := fun W (hg : w.grownBy W none) => Lib.hid (check_any p S vp W (by omega) (h.np.on h.sp hg).1 (h.np.on h.sp hg).2)
  have hCq := fun W (hg : w.grownBy W none) => Lib.hid (check_any q S' vq W (by omega) (h.nq.on h.sq hg).1 (h.nq.on h.sq hg).2)
  rw [h3] at hSp
  rw [h4] at hSq
  have h5b : (checkN p != 0) = true := by simpa using h5
  generalize checkN p = cp at *
  clear h5
  obtain ⟨A, ca, rfl, hA⟩ := id h.np
  obtain ⟨A', cb, rfl, hA'⟩ := id h.nq
  have a0 := four_gb w (.slice A p.length ca) (.slice A' q.length cb) hi lo hi2 lo2
  have T0 := four_tw w (.slice A p.length ca) (.slice A' q.length cb) hi lo hi2 lo2
  obtain ⟨c5, c6, c7, d7, _, _, _⟩ := id T0
  have h1I : ¬ (30 : Int) < (p.length : Int) := by omega
  have h2I : ¬ (30 : Int) < (q.length : Int) := by omega
  clear hA hA' h
  go_enter Tryd.func11, Tryd.ntmps11
  go_wp2_with (first
    | (go_at_call 39; have hmk := hg5; refine ((hCq _ a5).out).mono ?_; rintro e w6 ⟨rfl, hg6⟩; have a6 := gb_trans a5 hg6; have T6 := T5.grown hg6; clear c5 c6 c7 d7; obtain ⟨c5, c6, c7, d7, _, _, _⟩ := id T6)
    | (go_at_call 39; have hmk := hg4; refine ((hCp _ a4).out).mono ?_; rintro e w5 ⟨rfl, hg5⟩; have a5 := gb_trans a4 hg5; have T5 := T4.grown hg5; clear c5 c6 c7 d7; obtain ⟨c5, c6, c7, d7, _, _, _⟩ := id T5)
    | (go_at_call 38; have hmk := hg3; refine ((hSa _ a3).out).mono ?_; rintro e w4 ⟨y, rfl, hg4⟩; have a4 := gb_trans a3 hg4; have T4 := T3.grown hg4; clear c5 c6 c7 d7; obtain ⟨c5, c6, c7, d7, _, _, _⟩ := id T4; cases y)
    | (go_at_call 37; have hmk := hg2; refine ((hSq _ a2).out).mono ?_; rintro e w3 ⟨rfl, hg3⟩; have a3 := gb_trans a2 hg3; have T3 := T2.grown hg3; clear c5 c6 c7 d7; obtain ⟨c5, c6, c7, d7, _, _, _⟩ := id T3)
    | (go_at_call 37; have hmk := hg1; refine ((hSp _ a1).out).mono ?_; rintro e w2 ⟨rfl, hg2⟩; have a2 := gb_trans a1 hg2; have T2 := T1.grown hg2; clear c5 c6 c7 d7; obtain ⟨c5, c6, c7, d7, _, _, _⟩ := id T2)
    | (go_at_call 32; refine ((hL _ a0).out).mono ?_; rintro e w1 ⟨rfl, hg1⟩; have a1 := gb_trans a0 hg1; have T1 := T0.grown hg1; clear c5 c6 c7 d7; obtain ⟨c5, c6, c7, d7, _, _, _⟩ := id T1))
  all_goals go_ret
  all_goals exact ⟨rfl, by assumption⟩
set_option maxRecDepth 100000 in
set_option maxHeartbeats 12800000 in
theorem tables_qck {w : World} {p q : List PN} {S S' : Nat → Prop} {vp vq : Value} {hi lo hi2 lo2 : Nat} {l : List Ad} {u : Value} (h : TGiven w p q S S' vp vq hi lo hi2 lo2 l u) (h1 : p.length ≤ 30) (h2 : q.length ≤ 30) (h3 : smallP p = true) (h4 : smallP q = true) (h5 : checkN p = 0) (h6 : checkN q ≠ 0) :
    Calls Tryd.prog 11 #[.agg #[vp], .agg #[vq], .agg #[.int .u64 hi, .int .u64 lo], .agg #[.int .u64 hi2, .int .u64 lo2], u] w fun e w' => e = .returned (.bool true) ∧ w.grownBy w' none := by
  have hL := fun W (hg : w.grownBy W none) => Lib.hid (h.lives W hg)
  have hSp := fun W (hg : w.grownBy W none) => Lib.hid (small_any p S vp W h.lp (h.np.on h.sp hg).1 (h.np.on h.sp hg).2)
  have hSq := fun W (hg : w.grownBy W none) => Lib.hid (small_any q S' vq W h.lq (h.nq.on h.sq hg).1 (h.nq.on h.sq hg).2)
  have hSa := fun W (hg : w.grownBy W none) => Lib.hid (smallAdj_any l u 64 200 W (by omega) h.ll h.bd (h.au.grown hg))
  have hCp := fun W (hg : w.grownBy W none) => Lib.hid (check_any p S vp W (by omega) (h.np.on h.sp hg).1 (h.np.on h.sp hg).2)
  have hCq := fun W (hg : w.grownBy W none) => Lib.hid (check_any q S' vq W (by omega) (h.nq.on h.sq hg).1 (h.nq.on h.sq hg).2)
  rw [h3] at hSp
  rw [h4] at hSq
  rw [h5] at hCp
  have h6b : (checkN q != 0) = true := by simpa using h6
  generalize checkN q = cq at *
  clear h6
  obtain ⟨A, ca, rfl, hA⟩ := id h.np
  obtain ⟨A', cb, rfl, hA'⟩ := id h.nq
  have a0 := four_gb w (.slice A p.length ca) (.slice A' q.length cb) hi lo hi2 lo2
  have T0 := four_tw w (.slice A p.length ca) (.slice A' q.length cb) hi lo hi2 lo2
  obtain ⟨c5, c6, c7, d7, _, _, _⟩ := id T0
  have h1I : ¬ (30 : Int) < (p.length : Int) := by omega
  have h2I : ¬ (30 : Int) < (q.length : Int) := by omega
  clear hA hA' h
  go_enter Tryd.func11, Tryd.ntmps11
  go_wp2_with (first
    | (go_at_call 39; have hmk := hg5; refine ((hCq _ a5).out).mono ?_; rintro e w6 ⟨rfl, hg6⟩; have a6 := gb_trans a5 hg6; have T6 := T5.grown hg6; clear c5 c6 c7 d7; obtain ⟨c5, c6, c7, d7, _, _, _⟩ := id T6)
    | (go_at_call 39; have hmk := hg4; refine ((hCp _ a4).out).mono ?_; rintro e w5 ⟨rfl, hg5⟩; have a5 := gb_trans a4 hg5; have T5 := T4.grown hg5; clear c5 c6 c7 d7; obtain ⟨c5, c6, c7, d7, _, _, _⟩ := id T5)
    | (go_at_call 38; have hmk := hg3; refine ((hSa _ a3).out).mono ?_; rintro e w4 ⟨y, rfl, hg4⟩; have a4 := gb_trans a3 hg4; have T4 := T3.grown hg4; clear c5 c6 c7 d7; obtain ⟨c5, c6, c7, d7, _, _, _⟩ := id T4; cases y)
    | (go_at_call 37; have hmk := hg2; refine ((hSq _ a2).out).mono ?_; rintro e w3 ⟨rfl, hg3⟩; have a3 := gb_trans a2 hg3; have T3 := T2.grown hg3; clear c5 c6 c7 d7; obtain ⟨c5, c6, c7, d7, _, _, _⟩ := id T3)
    | (go_at_call 37; have hmk := hg1; refine ((hSp _ a1).out).mono ?_; rintro e w2 ⟨rfl, hg2⟩; have a2 := gb_trans a1 hg2; have T2 := T1.grown hg2; clear c5 c6 c7 d7; obtain ⟨c5, c6, c7, d7, _, _, _⟩ := id T2)
    | (go_at_call 32; refine ((hL _ a0).out).mono ?_; rintro e w1 ⟨rfl, hg1⟩; have a1 := gb_trans a0 hg1; have T1 := T0.grown hg1; clear c5 c6 c7 d7; obtain ⟨c5, c6, c7, d7, _, _, _⟩ := id T1))
  all_goals go_ret
  all_goals exact ⟨rfl, by assumption⟩
end Go.Proofs.YtnnhkajjifmlfaaDoor.Pl
