/- Policies: the text of &: the walk. -/
import Derived.Test.YtnnhkajjifmlfaaDoorPx
namespace Go.Proofs.YtnnhkajjifmlfaaDoor.Pl
open Go.RowKit Go.Maps

set_option maxRecDepth 100000 in
set_option maxHeartbeats 25600000 in
theorem tell_bin8 {l : List PN} {lo : Nat} {t u : PT} (hT : TellT l lo t) (hU : TellT l (lo + t.size) u) (hokt : t.ok = true) (hoku : u.ok = true) (hsz : t.size + u.size ≤ 1000000) (hlen : l.length ≤ 1000000) (ht : Stands l lo (.bin 8 t u)) : TellT l lo (.bin 8 t u) := by
  intro S v w h hS hP
  have hle := ht.len
  have htop := ht.top (by simp only [PT.size] at *; omega)
  have htx := tx_len t hokt
  have hux := tx_len u hoku
  have hA1 := fun (W : World) (bk : Nat) (hg : w.grownBy W none) (hb : ∀ j, j < ([9] : List Int).length → W.cell? ⟨bk, 0 + j, none⟩ = some (.int .i64 (([9] : List Int).getD j 0))) =>
    Lib.hid (held_any hT hlen (by omega) ht.left [9] t.isOr (top_bin hokt _).2 (by decide) bk 1 S v W (h.grown hg (fun b hb => ⟨hS b hb, by simp⟩)) (fun b hb => Nat.lt_of_lt_of_le (hS b hb) hg.size) (hP.to hg) hb)
  have hB := fun (W : World) (bk : Nat) (hg : w.grownBy W none) (hb : ∀ j, j < ([8, 9] : List Int).length → W.cell? ⟨bk, 0 + j, none⟩ = some (.int .i64 (([8, 9] : List Int).getD j 0))) =>
    Lib.hid (held_any hU hlen (by omega) ht.right [8, 9] u.isBin (top_bin hoku _).1 (by decide) bk 2 S v W (h.grown hg (fun b hb => ⟨hS b hb, by simp⟩)) (fun b hb => Nat.lt_of_lt_of_le (hS b hb) hg.size) (hP.to hg) hb)
  obtain ⟨A, c2, rfl, hA⟩ := h
  simp only [PT.size] at hle htop ⊢
  obtain ⟨bb, o, rfl, hSb, hcell⟩ := hA (by omega)
  obtain ⟨c0, c1, c2', c3, c4, c5⟩ := hcell (lo + (t.size + u.size + 1) - 1) (by omega)
  rw [htop] at c0 c1 c2' c3 c4 c5
  rw [show lo + (t.size + u.size + 1) - 1 = lo + t.size + u.size by omega] at c0 c1 c2' c3 c4 c5
  have e1 : ((lo + (t.size + u.size + 1) : Nat) : Int) - 1 = ((lo + t.size + u.size : Nat) : Int) := by omega
  rw [e1]
  simp only [PT.top] at c0 c1 c2' c3 c4 c5
  have hF := fun (W : World) (hg : w.grownBy W none) => Lib.hid (formatInt_w 0 (by omega) (by omega) W (hP.to hg))
  have hp1 := par_le t.isOr t.tx
  have hp2 := par_le u.isBin u.tx
  have h1 : ∀ W, (Op.stringOp .add (bs (par t.isOr t.tx)) ⟨#[32, 38, 32]⟩).run Tryd.prog W = .ok (.string (bs (par t.isOr t.tx ++ [32, 38, 32]))) W := fun W => add_run (b := [32, 38, 32]) rfl (by omega) (by simp) W
  have h2 : ∀ W, (Op.stringOp .add (bs (par t.isOr t.tx ++ [32, 38, 32])) (bs (par u.isBin u.tx))).run Tryd.prog W = .ok (.string (bs (PT.bin 8 t u).tx)) W := fun W => add_run (by rw [PT.tx, if_pos rfl]; simp) (by simp; omega) (by omega) W
  clear hp1 hp2
  obtain ⟨i, hi⟩ : ∃ i : Nat, lo + t.size + u.size = i := ⟨_, rfl⟩
  rw [hi] at c0 c1 c2' c3 c4 c5 hB
  rw [hi]
  have hiI : (i : Int) < (l.length : Int) := by omega
  obtain ⟨j, hj⟩ : ∃ j : Int, j = ((lo + t.size : Nat) : Int) - 1 := ⟨_, rfl⟩
  rw [← hj] at c4 hA1
  obtain ⟨j2, hj2⟩ : ∃ j2 : Int, j2 = (i : Int) - 1 := ⟨_, rfl⟩
  rw [← hj2] at c5 hB
  generalize bs (PT.bin 8 t u).tx = Z at *
  generalize bs (par t.isOr t.tx ++ [32, 38, 32]) = Y at *
  generalize bs (par t.isOr t.tx) = X1 at *
  generalize bs (par u.isBin u.tx) = X2 at *
  generalize bs (Lib.itoa 0) = N at *
  clear hA hcell htop e1 htx hux hT hU hj hj2 hi
  go_enter Tryd.func66, Tryd.ntmps66
  go_wp2_with (first
    | (go_at_call 95; refine ((hF _ (gb_alloc (gb_refl _ _) _)).out).mono ?_; rintro e w1 ⟨rfl, hg1⟩; have d4 := cell_grown (w' := w1) (node_c4 w ⟨8, 0, ⟨#[]⟩, ⟨#[]⟩, j, j2⟩) hg1 (by simp); have d5 := cell_grown (w' := w1) (node_c5 w ⟨8, 0, ⟨#[]⟩, ⟨#[]⟩, j, j2⟩) hg1 (by simp); have d0 := cell_grown (w' := w1) (node_c0 w ⟨8, 0, ⟨#[]⟩, ⟨#[]⟩, j, j2⟩) hg1 (by simp)))
  have g1 := gb_trans (gb_alloc (gb_refl w none) _) hg1
  have hl1 : w.heap.size < w1.heap.size := World.block_lt_of_cell? w1 _ d5
  have R21 : RowAt ((w1.alloc (.cells #[.int .i64 9] 3)).alloc (.cells #[.int .i64 8, .int .i64 9] 3)) (w1.heap.size + 1) [8, 9] := by
    have := row2 (w1.alloc (.cells #[.int .i64 9] 3))
    rw [size1] at this
    exact this
  have R11 : RowAt ((w1.alloc (.cells #[.int .i64 8, .int .i64 9] 3)).alloc (.cells #[.int .i64 9] 3)) (w1.heap.size + 1) [9] := by
    have := row1 (w1.alloc (.cells #[.int .i64 8, .int .i64 9] 3))
    rw [size1] at this
    exact this
  have R12 := RowAt.alloc (row1 w1) (.cells #[.int .i64 8, .int .i64 9] 3)
  have R22 := RowAt.alloc (row2 w1) (.cells #[.int .i64 9] 3)
  go_region_law (first
    | (go_simp; go_at_call 111; have hmk := hg5; first
        | (refine ((hB _ _ (by exact hga5) (by exact hr5)).out).mono ?_; rintro e w6 ⟨rfl, hg6⟩; have hgF := gb_trans hga5 hg6)
        | (refine ((hB _ _ (by exact gb_alloc hga5 _) (by exact row2 _)).out).mono ?_; rintro e w6 ⟨rfl, hg6⟩; have hgF := gb_trans (gb_alloc hga5 (.cells #[.int .i64 8, .int .i64 9] 3)) hg6))
    | (go_simp; go_at_call 111; first
        | (refine ((hA1 _ _ (by exact gb_alloc (gb_drew g1) _) (by exact row1 _)).out).mono ?_; rintro e w5 ⟨rfl, hg5⟩; have k5 := cell_grown (w' := w5) (by exact gcell d5) hg5 (by simp); have hl5 : w.heap.size < w5.heap.size := World.block_lt_of_cell? w5 _ k5; have hga5 := gb_trans (gb_alloc (gb_drew g1) (.cells #[.int .i64 9] 3)) hg5)
        | (refine ((hA1 _ _ (by exact gb_alloc (gb_alloc (gb_drew g1) _) _) (by exact R12)).out).mono ?_; rintro e w5 ⟨rfl, hg5⟩; have hr5 := RowAt.kept (by exact R21) hg5; have k5 := cell_grown (w' := w5) (by exact gcell2 d5) hg5 (by simp); have hl5 : w.heap.size < w5.heap.size := World.block_lt_of_cell? w5 _ k5; have hga5 := gb_trans (gb_alloc (gb_alloc (gb_drew g1) (.cells #[.int .i64 9] 3)) (.cells #[.int .i64 8, .int .i64 9] 3)) hg5)
        | (refine ((hA1 _ _ (by exact gb_alloc (gb_alloc (gb_drew g1) _) _) (by exact R11)).out).mono ?_; rintro e w5 ⟨rfl, hg5⟩; have hr5 := RowAt.kept (by exact R22) hg5; have k5 := cell_grown (w' := w5) (by exact gcell2 d5) hg5 (by simp); have hl5 : w.heap.size < w5.heap.size := World.block_lt_of_cell? w5 _ k5; have hga5 := gb_trans (gb_alloc (gb_alloc (gb_drew g1) (.cells #[.int .i64 8, .int .i64 9] 3)) (.cells #[.int .i64 9] 3)) hg5)))
  all_goals go_wp2_with fail
  all_goals go_ret
  all_goals first
    | exact ⟨rfl, hgF⟩
    | exact ⟨rfl, gb_drew hgF⟩
end Go.Proofs.YtnnhkajjifmlfaaDoor.Pl
