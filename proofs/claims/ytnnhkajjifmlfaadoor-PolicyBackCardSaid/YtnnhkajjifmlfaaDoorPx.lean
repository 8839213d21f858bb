/- Policies: a tree's text: the walks. -/
import Derived.Test.YtnnhkajjifmlfaaDoorPw
namespace Go.Proofs.YtnnhkajjifmlfaaDoor.Pl
open Go.RowKit Go.Maps

theorem size1 (w : World) (o : Obj) : (w.alloc o).heap.size = w.heap.size + 1 := by simp
theorem par_le (p : Bool) (l : List UInt8) : (par p l).length ≤ l.length + 2 := by unfold par; split <;> simp
theorem gcell {w : World} {a : Addr} {v : Value} {o : Obj} (h : w.cell? a = some v) : (w.drew.alloc o).cell? a = some v := by
  have : a.block < w.heap.size := World.block_lt_of_cell? w a h
  exact (World.cell?_of_block (w := w) (Below.heap_alloc w o a.block this)).trans h
theorem gcell2 {w : World} {a : Addr} {v : Value} {o o' : Obj} (h : w.cell? a = some v) : ((w.alloc o).alloc o').drew.cell? a = some v :=
  (gcell (o := o') (gcell (o := o) h))
/-- a row of kinds in memory -/
def RowAt (w : World) (bk : Nat) (ks : List Int) : Prop := ∀ j, j < ks.length → w.cell? ⟨bk, 0 + j, none⟩ = some (.int .i64 (ks.getD j 0))
theorem RowAt.alloc {w : World} {bk : Nat} {ks : List Int} (h : RowAt w bk ks) (o : Obj) : RowAt (w.alloc o) bk ks := fun j hj => gcell (h j hj)
theorem RowAt.kept {w w' : World} {bk : Nat} {ks : List Int} (h : RowAt w bk ks) (hg : w.grownBy w' none) : RowAt w' bk ks := fun j hj =>
  (World.cell?_of_block (w := w) (hg.block bk (World.block_lt_of_cell? w _ (h j hj)) (by simp))).trans (h j hj)
theorem row2 (w : World) : ∀ j, j < ([8, 9] : List Int).length → (w.alloc (.cells #[.int .i64 8, .int .i64 9] 3)).cell? ⟨w.heap.size, 0 + j, none⟩ = some (.int .i64 (([8, 9] : List Int).getD j 0)) := by
  intro j hj
  rw [cell_of_row _ _ (0 + j) _ _ _ (heap_alloc_new w _), Nat.zero_add]
  have : j = 0 ∨ j = 1 := by simp at hj; omega
  rcases this with rfl | rfl <;> rfl
theorem row1 (w : World) : ∀ j, j < ([9] : List Int).length → (w.alloc (.cells #[.int .i64 9] 3)).cell? ⟨w.heap.size, 0 + j, none⟩ = some (.int .i64 (([9] : List Int).getD j 0)) := by
  intro j hj
  rw [cell_of_row _ _ (0 + j) _ _ _ (heap_alloc_new w _), Nat.zero_add]
  have : j = 0 := by simp at hj; omega
  subst this; rfl
theorem node_c5 (w : World) (x : PN) : (w.alloc (.cells #[.int .i64 x.k, .int .i64 x.n, .string x.a, .string x.b, .int .i64 x.l, .int .i64 x.r] 64)).cell? ⟨w.heap.size, 5, none⟩ = some (.int .i64 x.r) := by
  rw [cell_of_row _ _ 5 _ _ _ (heap_alloc_new w _)]; rfl
set_option maxRecDepth 100000 in
set_option maxHeartbeats 3200000 in
theorem tell_not {l : List PN} {lo : Nat} {t : PT} (hT : TellT l lo t) (hok : t.ok = true) (hsz : t.size ≤ 1000000) (hlen : l.length ≤ 1000000) (ht : Stands l lo (.not t)) : TellT l lo (.not t) := by
  intro S v w h hS hP
  have hle := ht.len
  have htop := ht.top (by simp only [PT.size] at *; omega)
  have htx := tx_len t hok
  have hHe := fun (W : World) (bk : Nat) (hg : w.grownBy W none) (hb : ∀ j, j < ([8, 9] : List Int).length → W.cell? ⟨bk, 0 + j, none⟩ = some (.int .i64 (([8, 9] : List Int).getD j 0))) =>
    Lib.hid (held_any hT hlen (by omega) ht.not [8, 9] t.isBin (top_bin hok lo).1 (by decide) bk 2 S v W (h.grown hg (fun b hb => ⟨hS b hb, by simp⟩)) (fun b hb => Nat.lt_of_lt_of_le (hS b hb) hg.size) (hP.to hg) hb)
  obtain ⟨A, c2, rfl, hA⟩ := h
  simp only [PT.size] at hle htop ⊢
  obtain ⟨bb, o, rfl, hSb, hcell⟩ := hA (by omega)
  obtain ⟨c0, c1, c2', c3, c4, c5⟩ := hcell (lo + (t.size + 1) - 1) (by omega)
  rw [htop] at c0 c1 c2' c3 c4 c5
  rw [show lo + (t.size + 1) - 1 = lo + t.size by omega] at c0 c1 c2' c3 c4 c5
  have e1 : ((lo + (t.size + 1) : Nat) : Int) - 1 = ((lo + t.size : Nat) : Int) := by omega
  rw [e1]
  simp only [PT.top] at c0 c1 c2' c3 c4 c5
  have hF := fun (W : World) (hg : w.grownBy W none) => Lib.hid (formatInt_w 0 (by omega) (by omega) W (hP.to hg))
  have hpl : (par t.isBin t.tx).length ≤ 500000000 := by have := par_le t.isBin t.tx; omega
  have h1 : ∀ W, (Op.stringOp .add ⟨#[33]⟩ (bs (par t.isBin t.tx))).run Tryd.prog W = .ok (.string (bs (PT.not t).tx)) W := fun W => add_run (a := [33]) rfl (by simp) (by omega) W
  obtain ⟨i, hi⟩ : ∃ i : Nat, lo + t.size = i := ⟨_, rfl⟩
  rw [hi] at c0 c1 c2' c3 c4 c5 hHe
  rw [hi]
  have hiI : (i : Int) < (l.length : Int) := by omega
  have hj : ∃ j : Int, j = (i : Int) - 1 := ⟨_, rfl⟩
  obtain ⟨j, hj⟩ := hj
  rw [← hj] at c4 hHe
  generalize bs (PT.not t).tx = Z at *
  generalize bs (par t.isBin t.tx) = X at *
  generalize bs (Lib.itoa 0) = N at *
  clear hA hcell htop e1 htx hpl hT hj
  go_enter Tryd.func66, Tryd.ntmps66
  go_wp2_with (first
    | (go_at_call 95; refine ((hF _ (gb_alloc (gb_refl _ _) _)).out).mono ?_; rintro e w1 ⟨rfl, hg1⟩; have d4 := cell_grown (w' := w1) (node_c4 w ⟨7, 0, ⟨#[]⟩, ⟨#[]⟩, j, 0⟩) hg1 (by simp); have d0 := cell_grown (w' := w1) (node_c0 w ⟨7, 0, ⟨#[]⟩, ⟨#[]⟩, j, 0⟩) hg1 (by simp))
    | (go_at_call 111; refine ((hHe _ _ (gb_alloc (gb_trans (gb_alloc (gb_refl _ _) _) hg1) _) (row2 _)).out).mono ?_; rintro e w2 ⟨rfl, hg2⟩))
  go_ret
  exact ⟨rfl, gb_trans (gb_alloc (gb_trans (gb_alloc (gb_refl _ _) _) hg1) _) hg2⟩
end Go.Proofs.YtnnhkajjifmlfaaDoor.Pl
