/- Policies: a node is put: the walk. -/
import Derived.Test.YtnnhkajjifmlfaaDoorPh
namespace Go.Proofs.YtnnhkajjifmlfaaDoor.Pl
open Go.RowKit Go.Maps

theorem info64 : (Tryd.prog.info? 64).map (fun i => (i.zero, i.size, i.bytes)) = some (some (nodeV ⟨0, 0, ⟨#[]⟩, ⟨#[]⟩, 0, 0⟩), 6, 64) := by kernel_rfl
theorem nodesC_snoc (l : List PN) (x : PN) : nodesC (l ++ [x]) = nodesC l ++ nodeC x := by unfold nodesC; simp
/-- the reader and its nodes, all in memory from B on -/
def PR (B R : Nat) (s : ByteArray) (σ : PQ) (w : World) : Prop :=
  B ≤ R ∧ ∃ (A : Option Addr) (c : Nat), PB w R s σ (.slice A σ.ns.length c) ∧ w.ownsRow B 64 6 (.slice A σ.ns.length c) σ.ns.length (nodesC σ.ns) ∧ (Value.slice A σ.ns.length c).ownBlock ≠ some R
/-- a method that turns the reader's block alone -/
theorem PR.ps1 {B R : Nat} {s : ByteArray} {σ τ : PQ} {w w' : World} {A : Option Addr} {c : Nat} (hB : B ≤ R) (hown : w.ownsRow B 64 6 (.slice A σ.ns.length c) σ.ns.length (nodesC σ.ns)) (hne : (Value.slice A σ.ns.length c).ownBlock ≠ some R)
    (hR : PB w' R s τ (.slice A σ.ns.length c)) (hg : w.grownBy w' (some R)) (hns : τ.ns = σ.ns) (hBw : B ≤ w.heap.size) : PR B R s τ w' ∧ Below B w w' := by
  refine ⟨⟨hB, A, c, ?_, ?_, ?_⟩, below_gb hg hBw (by rintro g e; cases e; exact hB)⟩
  · rw [hns]; exact hR
  · rw [hns]; exact hown.kept hg (.inr hne)
  · rw [hns]; exact hne
theorem PR.gr {B R : Nat} {s : ByteArray} {σ : PQ} {w : World} (h : PR B R s σ w) : B ≤ w.heap.size := by
  obtain ⟨h1, A, c, h2, _⟩ := h
  have := h2.lt
  omega
theorem own_drew {w : World} {B : Nat} {e : TypeId} {sz : Nat} {v : Value} {n : Nat} {xs : List Value} (h : w.ownsRow B e sz v n xs) : w.drew.ownsRow B e sz v n xs := h
theorem new_drew (w : World) (o : Obj) : (w.alloc o).drew.heap[w.heap.size]? = some o := heap_alloc_new w o
def RI (B R : Nat) (s : ByteArray) (w : World) (v : Int) (τ : PQ) (e : Ending) (w' : World) : Prop :=
  e = .returned (.int .i64 v) ∧ PR B R s τ w' ∧ Below B w w'
theorem put_end {B R : Nat} {s : ByteArray} {σ : PQ} {x : PN} {w W w4 : World} {o : Obj} {A : Option Addr} {c gg cap : Nat} (hB : B ≤ R) (hBw : B ≤ w.heap.size) (hRl : R < w.heap.size) (hg1 : w.grownBy W none)
    (hown : W.ownsRow B 64 6 (.slice A σ.ns.length c) σ.ns.length (nodesC σ.ns)) (hne : (Value.slice A σ.ns.length c).ownBlock ≠ some R) (hR4 : PB w4 R s σ (.slice A σ.ns.length c))
    (hown4 : w4.ownsRow B 64 6 (.slice (some ⟨gg, 0, none⟩) (σ.ns.length + 1) cap) (σ.ns.length + 1) (nodesC σ.ns ++ nodeC x)) (hgrow : (W.alloc o).drew.grownBy w4 (Value.slice A σ.ns.length c).ownBlock)
    (hat : (Value.slice A σ.ns.length c).ownBlock = some gg ∨ gg = W.heap.size + 1) :
    PR B R s (putP x σ).2 (w4.setCell ⟨R, 5, none⟩ (.slice (some ⟨gg, 0, none⟩) (σ.ns.length + 1) cap)) ∧ Below B w (w4.setCell ⟨R, 5, none⟩ (.slice (some ⟨gg, 0, none⟩) (σ.ns.length + 1) cap)) := by
  have hW := hg1.size
  have hgR : gg ≠ R := by
    rintro rfl
    rcases hat with e | e
    · exact hne e
    · omega
  have hbW : B ≤ (W.alloc o).drew.heap.size := by show B ≤ (W.alloc o).heap.size; simp; omega
  have hs4 := hgrow.size
  refine ⟨⟨hB, some ⟨gg, 0, none⟩, cap, ?_, ?_, ?_⟩, ?_⟩
  · have e : (putP x σ).2.ns.length = σ.ns.length + 1 := by unfold putP; simp
    rw [e]
    exact (hR4.set5 _).ns (σ.ns ++ [x])
  · have e : (putP x σ).2.ns.length = σ.ns.length + 1 := by unfold putP; simp
    have e2 : nodesC (putP x σ).2.ns = nodesC σ.ns ++ nodeC x := nodesC_snoc _ _
    rw [e, e2]
    exact hown4.kept (gb_setR (gb_refl w4 (some R)) 5 _) (.inr (by simp only [Value.ownBlock, ne_eq, Option.some.injEq]; exact hgR))
  · simp only [Value.ownBlock, ne_eq, Option.some.injEq]; exact hgR
  · have h1 : Below B w W := below_gb hg1 hBw (by simp)
    have h2 : Below B W (W.alloc o).drew := below_gb (gb_drew (gb_alloc (gb_refl W none) o)) (by omega) (by simp)
    have h3 : Below B (W.alloc o).drew w4 := below_gb hgrow hbW (fun g e => (hown.lt g e).1)
    have h4 : Below B w4 (w4.setCell ⟨R, 5, none⟩ (.slice (some ⟨gg, 0, none⟩) (σ.ns.length + 1) cap)) := below_gb (gb_setR (gb_refl w4 (some R)) 5 _) (by omega) (by rintro g e; cases e; exact hB)
    exact ((h1.trans h2).trans h3).trans h4
set_option maxRecDepth 100000 in
set_option maxHeartbeats 3200000 in
theorem put_any (B R : Nat) (s : ByteArray) (σ : PQ) (x : PN) (w : World) (h : PR B R s σ w) (hn : σ.ns.length ≤ 1000000) :
    Calls Tryd.prog 110 #[.pointer (some ⟨R, 0, none⟩), nodeV x] w (RI B R s w (putP x σ).1 (putP x σ).2) := by
  have hBw := h.gr
  obtain ⟨hB, A, c, hR, hown, hne⟩ := h
  obtain ⟨i0, hi0, hz0, hz1, hz2⟩ := info_parts info64
  have hRl := hR.lt
  have hR1 := hR.alloc (.cells #[.int .i64 x.k, .int .i64 x.n, .string x.a, .string x.b, .int .i64 x.l, .int .i64 x.r] 64)
  have hown1 := hown.alloc (.cells #[.int .i64 x.k, .int .i64 x.n, .string x.a, .string x.b, .int .i64 x.l, .int .i64 x.r] 64)
  have hX : (w.alloc (.cells #[.int .i64 x.k, .int .i64 x.n, .string x.a, .string x.b, .int .i64 x.l, .int .i64 x.r] 64)).heap[w.heap.size]? = some (.cells #[.int .i64 x.k, .int .i64 x.n, .string x.a, .string x.b, .int .i64 x.l, .int .i64 x.r] 64) := heap_alloc_new w _
  have hsz1 : (w.alloc (.cells #[.int .i64 x.k, .int .i64 x.n, .string x.a, .string x.b, .int .i64 x.l, .int .i64 x.r] 64)).heap.size = w.heap.size + 1 := by simp
  have hg1 := gb_alloc (gb_refl w none) (.cells #[.int .i64 x.k, .int .i64 x.n, .string x.a, .string x.b, .int .i64 x.l, .int .i64 x.r] 64)
  go_enter Tryd.func110, Tryd.ntmps110
  go_wp2_with fail
  generalize w.alloc (.cells #[.int .i64 x.k, .int .i64 x.n, .string x.a, .string x.b, .int .i64 x.l, .int .i64 x.r] 64) = W at *
  have c5 := hR1.c5
  have f5 := hR1.f 5
  have x0 : W.cell? ⟨w.heap.size, 0, none⟩ = some (.int .i64 x.k) := by rw [cell_of_row W _ 0 _ _ _ hX]; rfl
  have x1 : W.cell? ⟨w.heap.size, 1, none⟩ = some (.int .i64 x.n) := by rw [cell_of_row W _ 1 _ _ _ hX]; rfl
  have x2 : W.cell? ⟨w.heap.size, 2, none⟩ = some (.string x.a) := by rw [cell_of_row W _ 2 _ _ _ hX]; rfl
  have x3 : W.cell? ⟨w.heap.size, 3, none⟩ = some (.string x.b) := by rw [cell_of_row W _ 3 _ _ _ hX]; rfl
  have x4 : W.cell? ⟨w.heap.size, 4, none⟩ = some (.int .i64 x.l) := by rw [cell_of_row W _ 4 _ _ _ hX]; rfl
  have x5 : W.cell? ⟨w.heap.size, 5, none⟩ = some (.int .i64 x.r) := by rw [cell_of_row W _ 5 _ _ _ hX]; rfl
  have hRW : R < W.heap.size := hR1.lt
  have hwW : w.heap.size < W.heap.size := by omega
  have hne' : some R ≠ (Value.slice A σ.ns.length c).ownBlock := fun e => hne e.symm
  have hBW : B ≤ W.heap.size := by omega
  clear hX hR hown hsz1
  refine wp_region_noPanic ?_
  go_region_law (first
    | (refine step_append_lies _ (by rfl) _ _ _ (by rfl) B 64 i0 _ 6 64 Tryd.underlying46 hi0 hz0 hz1 hz2 rfl (by omega) (.slice A σ.ns.length c) σ.ns.length (nodesC σ.ns) (by rfl) (own_drew (hown1.alloc _))
        ⟨W.heap.size, 0, none⟩ 1 1 (nodeC x) (by rfl) (by rfl) (World.news_of_block (cs := #[.int .i64 x.k, .int .i64 x.n, .string x.a, .string x.b, .int .i64 x.l, .int .i64 x.r]) (t := 64) (fr := (0, 0)) (new_drew W _)) (by simp [nodeC, Value.oneCell'])
        (by omega) (by unfold maxLen; omega) (by omega) (by simp; omega) (W.heap.size + 1) (by simp) ?_; intro gg cap w4 hown4 hgrow hat hlt4; have hR4 := (hR1.alloc _).drew.kept hgrow hne'; have d5 := hR4.c5; have e5 := hR4.f 5))
  all_goals refine NoPanic.normal ?_
  all_goals go_wp2_with fail
  all_goals go_ret
  all_goals
    obtain ⟨q1, q2⟩ := put_end (x := x) hB hBw hRl hg1 hown1 hne hR4 hown4 hgrow hat
    exact ⟨by unfold putP; simp, q1, q2⟩
end Go.Proofs.YtnnhkajjifmlfaaDoor.Pl
