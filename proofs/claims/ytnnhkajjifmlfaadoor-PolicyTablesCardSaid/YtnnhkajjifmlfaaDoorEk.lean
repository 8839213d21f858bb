/- PolicyTables: the law's walk: what is put together. -/
import Derived.Test.YtnnhkajjifmlfaaDoorEm
import Derived.Deep.RegionHeld3
import Derived.Deep.DeepCutAuto
namespace Go.Proofs.YtnnhkajjifmlfaaDoor.Pl
open Go.RowKit Go.Maps

set_option maxRecDepth 100000 in
set_option maxHeartbeats 25600000 in
theorem tables_main {w : World} {p q : List PN} {S S' : Nat → Prop} {vp vq : Value} {hi lo hi2 lo2 : Nat} {l : List Ad} {u : Value} (h : TGiven w p q S S' vp vq hi lo hi2 lo2 l u) (h1 : p.length ≤ 30) (h2 : q.length ≤ 30) (h3 : smallP p = true) (h4 : smallP q = true) (h5 : checkN p = 0) (h6 : checkN q = 0) :
    Calls Tryd.prog 11 #[.agg #[vp], .agg #[vq], .agg #[.int .u64 hi, .int .u64 lo], .agg #[.int .u64 hi2, .int .u64 lo2], u] w fun e w' => e = .returned (.bool true) ∧ w.grownBy w' none := by
  have hL := fun W (hg : w.grownBy W none) => Lib.hid (h.lives W hg)
  have hSp := fun W (hg : w.grownBy W none) => Lib.hid (small_any p S vp W h.lp (h.np.on h.sp hg).1 (h.np.on h.sp hg).2)
  have hSq := fun W (hg : w.grownBy W none) => Lib.hid (small_any q S' vq W h.lq (h.nq.on h.sq hg).1 (h.nq.on h.sq hg).2)
  have hSa := fun W (hg : w.grownBy W none) => Lib.hid (smallAdj_any l u 64 200 W (by omega) h.ll h.bd (h.au.grown hg))
  have hCp := fun W (hg : w.grownBy W none) => Lib.hid (check_any p S vp W (by omega) (h.np.on h.sp hg).1 (h.np.on h.sp hg).2)
  have hCq := fun W (hg : w.grownBy W none) => Lib.hid (check_any q S' vq W (by omega) (h.nq.on h.sq hg).1 (h.nq.on h.sq hg).2)
  have hHp := fun W (hg : w.grownBy W none) => Lib.hid (holds_any p S vp hi lo l u W (by omega) (h.np.on h.sp hg).1 (h.np.on h.sp hg).2 plc_of_check h.h1 h.h2 h.ll h.bd (h.au.grown hg))
  have hHq := fun W (hg : w.grownBy W none) => Lib.hid (holds_any q S' vq hi lo l u W (by omega) (h.nq.on h.sq hg).1 (h.nq.on h.sq hg).2 plc_of_check h.h1 h.h2 h.ll h.bd (h.au.grown hg))
  obtain ⟨t8, t9, t10⟩ := tables (shareN hi lo) l h5 h6 h1 h2
  have pl0 := (plc_of_check h5).2
  have ql0 := (plc_of_check h6).2
  rw [h3] at hSp
  rw [h4] at hSq
  rw [h5] at hCp
  rw [h6] at hCq
  rw [holds_zero h5] at hHp
  rw [holds_zero h6] at hHq
  obtain ⟨i0, hi0, hz0, hz1, hz2⟩ := info_parts info64
  have hp0 := Lib.hid h5
  have hq0 := Lib.hid h6
  obtain ⟨A, ca, rfl, hA⟩ := id h.np
  obtain ⟨A', cb, rfl, hA'⟩ := id h.nq
  obtain ⟨bA, oA, rfl, hSA, hcp⟩ := hA pl0
  obtain ⟨bB, oB, rfl, hSB, hcq⟩ := hA' ql0
  clear hA hA'
  have a0 := four_gb w (.slice (some ⟨bA, oA, none⟩) p.length ca) (.slice (some ⟨bB, oB, none⟩) q.length cb) hi lo hi2 lo2
  have T0 := four_tw w (.slice (some ⟨bA, oA, none⟩) p.length ca) (.slice (some ⟨bB, oB, none⟩) q.length cb) hi lo hi2 lo2
  obtain ⟨c5, c6, c7, d7, -, -, -⟩ := id T0
  obtain ⟨ra, hra⟩ : ∃ a, (holdsN p (shareN hi lo) l).1 = a := ⟨_, rfl⟩
  obtain ⟨rb, hrb⟩ : ∃ a, (holdsN q (shareN hi lo) l).1 = a := ⟨_, rfl⟩
  rw [hra] at hHp t8 t9 t10
  rw [hrb] at hHq t9 t10
  have h1I : ¬ (30 : Int) < (p.length : Int) := by omega
  have h2I : ¬ (30 : Int) < (q.length : Int) := by omega
  clear h5 h6 h3 h4 hrb
  go_enter Tryd.func11, Tryd.ntmps11
  go_wp2_with (first
    | (go_at_call 40; have hmk := hg7; refine ((hHq _ a7).out).mono ?_; rintro e w8 ⟨rfl, hg8⟩; have a8 := gb_trans a7 hg8; have T8 := T7.grown hg8; clear c5 c6 c7 d7; obtain ⟨c5, c6, c7, d7, -, -, -⟩ := id T8)
    | (go_at_call 40; have hmk := hg6; refine ((hHp _ a6).out).mono ?_; rintro e w7 ⟨rfl, hg7⟩; have a7 := gb_trans a6 hg7; have T7 := T6.grown hg7; clear c5 c6 c7 d7; obtain ⟨c5, c6, c7, d7, -, -, -⟩ := id T7)
    | (go_at_call 39; have hmk := hg5; refine ((hCq _ a5).out).mono ?_; rintro e w6 ⟨rfl, hg6⟩; have a6 := gb_trans a5 hg6; have T6 := T5.grown hg6; clear c5 c6 c7 d7; obtain ⟨c5, c6, c7, d7, -, -, -⟩ := id T6)
    | (go_at_call 39; have hmk := hg4; refine ((hCp _ a4).out).mono ?_; rintro e w5 ⟨rfl, hg5⟩; have a5 := gb_trans a4 hg5; have T5 := T4.grown hg5; clear c5 c6 c7 d7; obtain ⟨c5, c6, c7, d7, -, -, -⟩ := id T5)
    | (go_at_call 38; have hmk := hg3; refine ((hSa _ a3).out).mono ?_; rintro e w4 ⟨y, rfl, hg4⟩; have a4 := gb_trans a3 hg4; have T4 := T3.grown hg4; clear c5 c6 c7 d7; obtain ⟨c5, c6, c7, d7, -, -, -⟩ := id T4; cases y)
    | (go_at_call 37; have hmk := hg2; refine ((hSq _ a2).out).mono ?_; rintro e w3 ⟨rfl, hg3⟩; have a3 := gb_trans a2 hg3; have T3 := T2.grown hg3; clear c5 c6 c7 d7; obtain ⟨c5, c6, c7, d7, -, -, -⟩ := id T3)
    | (go_at_call 37; have hmk := hg1; refine ((hSp _ a1).out).mono ?_; rintro e w2 ⟨rfl, hg2⟩; have a2 := gb_trans a1 hg2; have T2 := T1.grown hg2; clear c5 c6 c7 d7; obtain ⟨c5, c6, c7, d7, -, -, -⟩ := id T2)
    | (go_at_call 32; refine ((hL _ a0).out).mono ?_; rintro e w1 ⟨rfl, hg1⟩; have a1 := gb_trans a0 hg1; have T1 := T0.grown hg1; clear c5 c6 c7 d7; obtain ⟨c5, c6, c7, d7, -, -, -⟩ := id T1))
  · go_ret
    exact ⟨rfl, by assumption⟩
  clear hL hSp hSq hSa hCp hCq hHp hHq T0 T1 T2 T3 T4 T5 T6 T7 a0 a1 a2 a3 a4 a5 a6 a7 hg1 hg2 hg3 hg4 hg5 hg6 hg7 hg8
  go_quiet (fail)
  generalize hW8 : w8.drewN _ = W
  have hgW : w8.grownBy W none := by rw [← hW8]; exact gb_drewN (gb_refl _ _) _
  have T := T8.grown hgW
  have aW := gb_trans a8 hgW
  clear hW8 hgW c5 c6 c7 d7 T8 a8
  clear hmk
  have hbA : bA < W.heap.size := Nat.lt_of_lt_of_le (h.sp bA hSA) aW.size
  have hbB : bB < W.heap.size := Nat.lt_of_lt_of_le (h.sq bB hSB) aW.size
  have hcpW : ∀ i (hi : i < p.length), NodeAt W bA (oA + i * 6) p[i] := fun i hi => (hcp i hi).grown aW (h.sp bA hSA)
  have hcqW : ∀ i (hi : i < q.length), NodeAt W bB (oB + i * 6) q[i] := fun i hi => (hcq i hi).grown aW (h.sq bB hSB)
  have hgE := gb_alloc (gb_refl W none) (.cells #[] 64)
  have c5 := cell_grown T.p hgE (by simp)
  have oE := own_empty (B := W.heap.size) (heap_alloc_new W (.cells #[] 64)) (Nat.le_refl _)
  have nE := cells_nodes (fun i hi => (hcpW i hi).grown hgE hbA)
  go_wp2_with (first
    | (at_builtin; refine wpList_append_own_at _ rfl _ _ 46 rfl W.heap.size 64 i0 _ 6 64 Tryd.underlying46 hi0 hz0 hz1 hz2 rfl (by decide) (.slice (some ⟨W.heap.size, 0, none⟩) 0 0) 0 [] rfl oE ⟨bA, oA, none⟩ p.length ca (nodesC p) rfl (nodesC_len p) nE (one_nodes p) (by unfold maxLen; omega) (by omega) (by simp) ?_; intro v3 w3 hown3 hg3 _ hat3))
  have hown : w3.ownsRow W.heap.size 64 6 v3 p.length (nodesC p) := by rw [Nat.zero_add] at hown3; exact hown3
  have hg0 : W.grownBy w3 none := gb_own (Nat.le_refl _) hgE oE hg3
  clear hown3 hg3 hat3 c5 oE nE hgE hmk
  have hPq := (plc_of_check hq0.out).1
  go_loopg [17, 18] q.length (fun z u17 u18 wr => ∃ i : Nat, i ≤ q.length ∧ z = q.length - i ∧ u18 = .int .i64 i ∧ wr.ownsRow W.heap.size 64 6 u17 (p.length + i) (nodesC (p ++ (q.take i).map (shiftN p.length))) ∧ W.grownBy wr none)
  case atStart => exact ⟨0, Nat.zero_le _, rfl, rfl, by simpa using hown, hg0⟩
  case round =>
    clear hown hg0
    obtain ⟨i, hil, rfl, rfl, hown, hg⟩ := hrel
    by_cases hlt : i < q.length
    · have hiI : (i : Int) < (q.length : Int) := by omega
      have hplI : (0 : Int) < (p.length : Int) := by omega
      have hwW := hg.size
      have hcx := (hcqW i hlt).grown hg hbB
      obtain ⟨hk1, hk9, hpl, hpr⟩ := hPq i hlt
      have hq1 := Lib.hid (show wrap64 ((i : Int) + 1) = ((i + 1 : Nat) : Int) from (wrap64_id (by omega) (by omega)).trans (by omega))
      have hstep := Lib.hid (both_step p q p.length hlt)
      have t1 := cell_grown T.q hg (by simp)
      clear hcpW hcqW hPq hcp hcq h T t8 t9 t10 hra
      generalize hxs : p ++ (q.take i).map (shiftN p.length) = xs at *
      generalize q[i] = x at *
      obtain ⟨xk, xn, xa, xb, xl, xr⟩ := x
      obtain ⟨c0, c1, c2, c3, c4, c5⟩ := hcx
      simp only at c0 c1 c2 c3 c4 c5 hk1 hk9 hpl hpr
      have hkc : xk < 7 ∨ xk = 7 ∨ 7 < xk := by omega
      rcases hkc with hk | rfl | hk
      · have hk' : ¬ (7 < xk) := by omega
        have hk'' : ¬ (7 ≤ xk) := by omega
        have hsh : shiftN (p.length : Nat) ⟨xk, xn, xa, xb, xl, xr⟩ = ⟨xk, xn, xa, xb, xl, xr⟩ := by unfold shiftN; simp only; rw [if_neg (by omega), if_neg (by omega)]
        rw [hsh] at hstep
        have hownN := hown.alloc (.cells #[.int .i64 xk, .int .i64 xn, .string xa, .string xb, .int .i64 (xl), .int .i64 (xr)] 64)
        have hgN := gb_alloc hg (.cells #[.int .i64 xk, .int .i64 xn, .string xa, .string xb, .int .i64 (xl), .int .i64 (xr)] 64)
        clear hsh hpl hpr
        go_wp2_with (first
          | (at_builtin; refine wpList_append_own_at _ rfl _ _ 46 rfl W.heap.size 64 i0 _ 6 64 Tryd.underlying46 hi0 hz0 hz1 hz2 rfl (by decide) u17 _ _ rfl (hownN.alloc _) ⟨wr.heap.size + 1, 0, none⟩ 1 1 (nodeC ⟨xk, xn, xa, xb, xl, xr⟩) rfl rfl (news_two _ _ _ rfl) (by simp [nodeC, Value.oneCell']) (by unfold maxLen; omega) (by omega) (by simp; omega) ?_; intro v3 w3 hown3 hg3 _ hat3))
        go_roundg (q.length - (i + 1))
        case measure => omega
        case rel => exact ⟨i + 1, hlt, rfl, by first | rw [hq1.out] | go_num, by rw [hstep.out, nodesC_snoc]; exact hown3, own_gb (gb_alloc hgN _) (hownN.alloc _) (Nat.le_refl _) hg3⟩
      · have hpl' := hpl (by omega)
        have hw1 := Lib.hid (show wrap64 (xl + (p.length : Int)) = xl + (p.length : Int) from wrap64_id (by omega) (by omega))
        have hsh : shiftN (p.length : Nat) ⟨7, xn, xa, xb, xl, xr⟩ = ⟨7, xn, xa, xb, xl + (p.length : Int), xr⟩ := by unfold shiftN; simp only; rw [if_pos (by omega), if_neg (by omega)]
        rw [hsh] at hstep
        have hownN := hown.alloc (.cells #[.int .i64 7, .int .i64 xn, .string xa, .string xb, .int .i64 (xl + (p.length : Int)), .int .i64 (xr)] 64)
        have hgN := gb_alloc hg (.cells #[.int .i64 7, .int .i64 xn, .string xa, .string xb, .int .i64 (xl + (p.length : Int)), .int .i64 (xr)] 64)
        clear hsh hpl hpr
        go_wp2_with (first
          | (at_builtin; refine wpList_append_own_at _ rfl _ _ 46 rfl W.heap.size 64 i0 _ 6 64 Tryd.underlying46 hi0 hz0 hz1 hz2 rfl (by decide) u17 _ _ rfl (hownN.alloc _) ⟨wr.heap.size + 1, 0, none⟩ 1 1 (nodeC ⟨7, xn, xa, xb, xl + (p.length : Int), xr⟩) rfl rfl (news_two _ _ _ rfl) (by simp [nodeC, Value.oneCell']) (by unfold maxLen; omega) (by omega) (by simp; omega) ?_; intro v3 w3 hown3 hg3 _ hat3))
        go_roundg (q.length - (i + 1))
        case measure => omega
        case rel => exact ⟨i + 1, hlt, rfl, by first | rw [hq1.out] | go_num, by rw [hstep.out, nodesC_snoc]; exact hown3, own_gb (gb_alloc hgN _) (hownN.alloc _) (Nat.le_refl _) hg3⟩
      · have hpl' := hpl (by omega)
        have hpr' := hpr (by omega)
        have hk7 : 7 ≤ xk := by omega
        have hw1 := Lib.hid (show wrap64 (xl + (p.length : Int)) = xl + (p.length : Int) from wrap64_id (by omega) (by omega))
        have hw2 := Lib.hid (show wrap64 (xr + (p.length : Int)) = xr + (p.length : Int) from wrap64_id (by omega) (by omega))
        have hsh : shiftN (p.length : Nat) ⟨xk, xn, xa, xb, xl, xr⟩ = ⟨xk, xn, xa, xb, xl + (p.length : Int), xr + (p.length : Int)⟩ := by unfold shiftN; simp only; rw [if_pos (by omega), if_pos (by omega)]
        rw [hsh] at hstep
        have hownN := hown.alloc (.cells #[.int .i64 xk, .int .i64 xn, .string xa, .string xb, .int .i64 (xl + (p.length : Int)), .int .i64 (xr + (p.length : Int))] 64)
        have hgN := gb_alloc hg (.cells #[.int .i64 xk, .int .i64 xn, .string xa, .string xb, .int .i64 (xl + (p.length : Int)), .int .i64 (xr + (p.length : Int))] 64)
        clear hsh hpl hpr
        go_wp2_with (first
          | (at_builtin; refine wpList_append_own_at _ rfl _ _ 46 rfl W.heap.size 64 i0 _ 6 64 Tryd.underlying46 hi0 hz0 hz1 hz2 rfl (by decide) u17 _ _ rfl (hownN.alloc _) ⟨wr.heap.size + 1, 0, none⟩ 1 1 (nodeC ⟨xk, xn, xa, xb, xl + (p.length : Int), xr + (p.length : Int)⟩) rfl rfl (news_two _ _ _ rfl) (by simp [nodeC, Value.oneCell']) (by unfold maxLen; omega) (by omega) (by simp; omega) ?_; intro v3 w3 hown3 hg3 _ hat3))
        go_roundg (q.length - (i + 1))
        case measure => omega
        case rel => exact ⟨i + 1, hlt, rfl, by first | rw [hq1.out] | go_num, by rw [hstep.out, nodesC_snoc]; exact hown3, own_gb (gb_alloc hgN _) (hownN.alloc _) (Nat.le_refl _) hg3⟩
    · obtain rfl : i = q.length := by omega
      clear hil
      rw [List.take_length] at hown
      have hni : ¬ ((q.length : Int) < (q.length : Int)) := by omega
      have hplI : (0 : Int) < (p.length : Int) := by omega
      have hqlI : (0 : Int) < (q.length : Int) := by omega
      have aR := gb_trans aW hg
      have hw1 := Lib.hid (show IntKind.i64.wrap ((p.length : Int) - 1) = (p.length : Int) - 1 from by rw [IntKind.wrap_i64]; omega)
      obtain ⟨g17, c17, rfl, hgB, hgS⟩ := hown.form (by omega)
      have nP : ∀ W', wr.grownBy W' none → ∀ j u, (nodesC p)[j]? = some u → W'.cell? ((⟨bA, oA, none⟩ : Addr).add j) = some u := fun W' hg' => cells_nodes (fun i hi => (hcpW i hi).grown (gb_trans hg hg') hbA)
      have nQ : ∀ W', wr.grownBy W' none → ∀ j u, (nodesC (bothL p q))[j]? = some u → W'.cell? ((⟨g17, 0, none⟩ : Addr).add j) = some u := fun W' hg' => (hown.kept hg' (.inr (by simp [Value.ownBlock]))).cells rfl
      have lQ : (nodesC (bothL p q)).length = (p.length + q.length) * 6 := hown.1
      have kS : ∀ W', wr.grownBy W' none → W'.cell? ⟨w.heap.size, 0, none⟩ = some (.slice (some ⟨bA, oA, none⟩) p.length ca) ∧ W'.cell? ⟨w.heap.size + 1 + 1, 0, none⟩ = some (.int .u64 hi) ∧ W'.cell? ⟨w.heap.size + 1 + 1, 1, none⟩ = some (.int .u64 lo) := fun W' hg' => ⟨cell_grown T.p (gb_trans hg hg') (by simp), cell_grown T.t0 (gb_trans hg hg') (by simp), cell_grown T.t1 (gb_trans hg hg') (by simp)⟩
      have hln : (notL p).length = p.length + 1 := by simp [notL]
      have hw2 := Lib.hid (wrap_pred h1 h2)
      have hK6 : ∀ W', wr.grownBy W' none → ∀ i (hi : i < p.length), W'.cell? ⟨bA, oA + i * 6, none⟩ = some (.int .i64 p[i].k) := fun W' hg' i hi => ((hcpW i hi).grown (gb_trans hg hg') hbA).1
      have hP0 : ∀ W', wr.grownBy W' none → W'.cell? ⟨w.heap.size, 0, none⟩ = some (.slice (some ⟨bA, oA, none⟩) p.length ca) ∧ W'.cell? ⟨w.heap.size + 1 + 1 + 1, 0, none⟩ = some (.int .u64 hi2) ∧ W'.cell? ⟨w.heap.size + 1 + 1 + 1, 1, none⟩ = some (.int .u64 lo2) := fun W' hg' => ⟨cell_grown T.p (gb_trans hg hg') (by simp), cell_grown T.u0 (gb_trans hg hg') (by simp), cell_grown T.u1 (gb_trans hg hg') (by simp)⟩
      have hH2 := fun W (hg : w.grownBy W none) (h6 : ∀ x ∈ p, x.k ≠ 6) => Lib.hid (show Calls Tryd.prog 40 #[.agg #[.slice (some ⟨bA, oA, none⟩) p.length ca], .agg #[.int .u64 hi2, .int .u64 lo2], u] W fun e w' => e = .returned (.tuple #[.bool ra, .int .i64 0]) ∧ W.grownBy w' none from by
        have := holds_any p S (.slice (some ⟨bA, oA, none⟩) p.length ca) hi2 lo2 l u W (by omega) (h.np.on h.sp hg).1 (h.np.on h.sp hg).2 plc_of_check h.h3 h.h4 h.ll h.bd (h.au.grown hg)
        rw [holds_sh (shareN hi2 lo2) (shareN hi lo) l h6, hra, holds_zero hp0.out] at this
        exact this)
      clear hcpW hcqW hPq hcp hcq hown
      go_upto_region 18 with fail
      go_cut [20, 21] (fun s20 s21 wx => s20 = .bool (!ra) ∧ s21 = .int .i64 0 ∧ wr.grownBy wx none)
      case first =>
        refine reg18 h1 pl0 h.h1 h.h2 h.ll h.bd (fun W' hg' => h.au.grown (gb_trans aR hg')) kS nP t8 ?_
        intro y120 y121 y122 y123 y124 y125 y126 y127 y128 y129 y130 y131 y132 y133 y134 y135 W6 g6w
        go_wp2_with fail
        go_meet
        exact ⟨rfl, rfl, g6w⟩
      case rest =>
      obtain ⟨rfl, rfl, hg18⟩ := hcut
      rename World => w18
      have aR18 := gb_trans aR hg18
      have kS18 := fun W' (hg' : w18.grownBy W' none) => kS W' (gb_trans hg18 hg')
      go_upto_region 19 with fail
      go_cut [22, 23] (fun s22 s23 wx => s22 = .bool (ra && rb) ∧ s23 = .int .i64 0 ∧ w18.grownBy wx none)
      case first =>
        refine reg19 h1 h2 pl0 h.h1 h.h2 h.ll h.bd (fun W' hg' => h.au.grown (gb_trans aR18 hg')) kS18 lQ (fun W' hg' => nQ _ (gb_trans hg18 hg')) t9 ?_
        intro y136 y137 y138 y139 y140 y141 y142 y143 y144 y145 y146 y147 y148 y149 y150 y151 y152 y153 y154 W6 g6w
        go_wp2_with fail
        go_meet
        exact ⟨rfl, rfl, g6w⟩
      case rest =>
      obtain ⟨rfl, rfl, hg19⟩ := hcut
      rename World => w19
      have hg19w := gb_trans hg18 hg19
      have aR19 := gb_trans aR hg19w
      have kS19 := fun W' (hg' : w19.grownBy W' none) => kS W' (gb_trans hg19w hg')
      go_upto_region 20 with fail
      go_cut [24, 25] (fun s24 s25 wx => s24 = .bool (ra || rb) ∧ s25 = .int .i64 0 ∧ w19.grownBy wx none)
      case first =>
        refine reg20 h1 h2 pl0 h.h1 h.h2 h.ll h.bd (fun W' hg' => h.au.grown (gb_trans aR19 hg')) kS19 lQ (fun W' hg' => nQ _ (gb_trans hg19w hg')) t10 ?_
        intro y155 y156 y157 y158 y159 y160 y161 y162 y163 y164 y165 y166 y167 y168 y169 y170 y171 y172 y173 W6 g6w
        go_wp2_with fail
        go_meet
        exact ⟨rfl, rfl, g6w⟩
      case rest =>
      obtain ⟨rfl, rfl, hg20⟩ := hcut
      rename World => w20
      have hg20w := gb_trans hg19w hg20
      have aR20 := gb_trans aR hg20w
      have hP20 := hP0 _ hg20w
      have hK20 := hK6 _ hg20w
      have hH20 := hH2 _ aR20
      clear kS kS18 kS19 nP nQ lQ hP0 hK6 hH2 hln hw1 hw2 t8 t9 t10 hra h T hi0 hz0 hz1 hz2 hp0 hq0
      obtain ⟨d5, e0, e1⟩ := hP20
      have hend : ∀ {W : World}, w20.grownBy W none → w.grownBy W none := fun hgz => gb_trans aR20 hgz
      go_upto_region 21 with fail
      go_cut [204] (fun s204 wx => s204 = .bool false ∧ wx = w20)
      case first =>
        cases ra <;> cases rb
        all_goals (go_wp2_with fail; go_meet; exact ⟨rfl, rfl⟩)
      case rest =>
      obtain ⟨e204, e20⟩ := hcut
      subst e204
      subst e20
      go_wp2_with fail
      go_loopg [26] p.length (fun z u26 wr2 => ∃ i : Nat, i ≤ p.length ∧ z = p.length - i ∧ u26 = .int .i64 i ∧ (∀ j (hj : j < p.length), j < i → p[j].k ≠ 6) ∧ wr2 = wc)
      case atStart => exact ⟨0, Nat.zero_le _, rfl, rfl, fun _ _ h => absurd h (by omega), rfl⟩
      case round =>
        obtain ⟨i, hil, rfl, rfl, h6, rfl⟩ := hrel
        by_cases hlt : i < p.length
        · have hiI : (i : Int) < (p.length : Int) := by omega
          have hc := hK20 i hlt
          by_cases hk : p[i].k = 6
          · rw [hk] at hc
            go_wp2_with fail
            go_ret
            exact ⟨rfl, aR20⟩
          · have h6n : ∀ j (hj : j < p.length), j < i + 1 → p[j].k ≠ 6 := fun j hj hji => by
              rcases Nat.lt_or_ge j i with h | h
              · exact h6 j hj h
              · obtain rfl : j = i := by omega
                exact hk
            go_wp2_with fail
            go_roundg (p.length - (i + 1))
            case measure => omega
            case rel => exact ⟨i + 1, hlt, rfl, by go_num, h6n, rfl⟩
        · have hni : ¬ ((i : Int) < (p.length : Int)) := by omega
          have h6' : ∀ x ∈ p, x.k ≠ 6 := fun x hx => by
            obtain ⟨j, hj, rfl⟩ := List.getElem_of_mem hx
            exact h6 j hj (by omega)
          go_wp2_with (first
            | (go_at_call 40; refine ((hH20 h6').out).mono ?_; rintro e w21 ⟨rfl, hg21⟩))
          go_ret
          exact ⟨rfl, hend hg21⟩
end Go.Proofs.YtnnhkajjifmlfaaDoor.Pl
