/- The document's Map (31). -/
import Derived.Test.YtnnhkajjifmlfaaDoorTw
import Derived.Deep.AppendLies
namespace Go.Proofs.YtnnhkajjifmlfaaDoor
open Go.RowKit Go.Maps

/-- what Map answers -/
def mapP (names : List ByteArray) (l : List J) : J := .mk 6 0 ⟨#[]⟩ (names.take (min names.length l.length)) (l.take (min names.length l.length))
/-- how a call of Map ends: the parts' own parts lie in S -/
def MapE (w : World) (S : Nat → Prop) (j : J) (e : Ending) (w' : World) : Prop :=
  ∃ y, e = .returned y ∧ JAt w' (fun b => S b ∨ (w.heap.size ≤ b ∧ b < w'.heap.size)) j y ∧ w.grownBy w' none
theorem gb_setN {a w : World} (h : a.grownBy w none) {p : Addr} (hp : a.heap.size ≤ p.block) (u : Value) : a.grownBy (w.setCell p u) none :=
  ⟨h.os, h.tape, h.output, by simpa [World.setCell] using h.size, fun i hi hne => (Below.heap_setCell w p u i (by rintro rfl; omega)).trans (h.block i hi hne)⟩
/-- within the document's Map: the result's block, v's block, both rows -/
structure MM (w wr : World) (S : Nat → Prop) (names : List ByteArray) (list : List J) (nv lv : Value) : Prop where
  sl : ∀ b, S b → b < w.heap.size
  br : JB wr w.heap.size (.int .i64 0) (.int .i64 0) (.string ⟨#[]⟩) (.slice none 0 0) (.slice none 0 0)
  jb : JB wr (w.heap.size + 1) (.int .i64 6) (.int .i64 0) (.string ⟨#[]⟩) nv lv
  hn : wr.ownsRow (w.heap.size + 2) 9 1 nv names.length (names.map Value.string)
  hl : ∃ xs, wr.ownsRow (w.heap.size + 2) 26 5 lv list.length xs ∧ Flat wr S list xs
  gb : w.grownBy wr none
section
variable {w wr : World} {S : Nat → Prop} {names : List ByteArray} {list : List J} {nv lv : Value}
theorem MM.same (h : MM w wr S names list nv lv) {w' : World} (hg : wr.grownBy w' none) : MM w w' S names list nv lv := by
  obtain ⟨xs, h1, h2⟩ := h.hl
  have hs := h.gb.size
  refine ⟨h.sl, h.br.kept hg (by simp), h.jb.kept hg (by simp), h.hn.kept hg (by cases e : nv.ownBlock <;> simp), ⟨xs, h1.kept hg (by cases e : lv.ownBlock <;> simp), h2.keep (fun b hb => hg.block b (Nat.lt_of_lt_of_le (h.sl b hb) hs) (by simp)) (fun _ => id)⟩, gb_trans h.gb hg⟩
theorem MM.drew (h : MM w wr S names list nv lv) : MM w wr.drew S names list nv lv := h.same (gb_drew (gb_refl _ _))
theorem MM.alloc (h : MM w wr S names list nv lv) (o : Obj) : MM w (wr.alloc o) S names list nv lv := h.same (gb_alloc (gb_refl _ _) o)
theorem MM.far (h : MM w wr S names list nv lv) {o : Obj} {w2 : World} {row : Option Nat} (hg : (wr.alloc o).grownBy w2 row) (hr : ∀ k, row = some k → w.heap.size + 2 ≤ k) :
    JB w2 (w.heap.size + 1) (.int .i64 6) (.int .i64 0) (.string ⟨#[]⟩) nv lv := by
  have hno : ∀ b, b ≤ w.heap.size + 1 → some b ≠ row := fun b hb e => by have := hr b e.symm; omega
  exact (h.alloc o).jb.kept hg (hno _ (by omega))
/-- v.Names = append(v.Names, t): behind the store -/
theorem MM.name (h : MM w wr S names list nv lv) {t : ByteArray} {o : Obj} {w2 : World} {g cap m : Nat} (hm : names.length = m)
    (hown : w2.ownsRow (w.heap.size + 2) 9 1 (.slice (some ⟨g, 0, none⟩) (m + 1) cap) (m + 1) (names.map Value.string ++ [.string t])) (hg : (wr.alloc o).grownBy w2 nv.ownBlock) (hat : nv.ownBlock = some g ∨ g = wr.heap.size + 1) :
    MM w (w2.setCell ⟨w.heap.size + 1, 3, none⟩ (.slice (some ⟨g, 0, none⟩) (m + 1) cap)) S (names ++ [t]) list (.slice (some ⟨g, 0, none⟩) (m + 1) cap) lv := by
  subst hm
  obtain ⟨xs, h1, h2⟩ := h.hl
  have hnlt := h.hn.lt
  have hne := own_ne h1 h.hn (by decide)
  have hblk : ∀ b, b < wr.heap.size → nv.ownBlock ≠ some b → w2.heap[b]? = wr.heap[b]? := fun b hb hne => (hg.block b (by simp; omega) (Ne.symm hne)).trans (Below.heap_alloc wr o b hb)
  have hno : ∀ b, b ≤ w.heap.size + 1 → nv.ownBlock ≠ some b := fun b hb e => by have := (hnlt b e).1; omega
  have hws := h.gb.size
  have hgg : w.heap.size + 2 ≤ g := by
    rcases hat with e | e
    · exact (hnlt g e).1
    · have := h.jb.lt; omega
  refine ⟨h.sl, ?_, ?_, ?_, ⟨xs, ?_, ?_⟩, ?_⟩
  · exact JB.far ((hblk _ h.br.lt (hno _ (by omega))).trans h.br) (q := ⟨w.heap.size + 1, 3, none⟩) (by simp) _
  · have hj : JB w2 (w.heap.size + 1) (.int .i64 6) (.int .i64 0) (.string ⟨#[]⟩) nv lv := (hblk _ h.jb.lt (hno _ (by omega))).trans h.jb
    unfold JB at hj ⊢
    simp [World.setCell, Array.getElem?_modify, hj]
  · rw [List.length_append, List.map_append]
    exact ownsRow_setCell_below hown (by simp) _
  · refine ownsRow_setCell_below (h1.alloc o |>.kept hg ?_) (by simp) _
    rcases hne with e | e
    · exact .inl e
    · exact .inr e
  · refine h2.keep (fun b hb => ?_) (fun _ => id)
    have hb1 := h.sl b hb
    rw [Below.heap_setCell _ _ _ _ (by simp; omega)]
    exact hblk b (by omega) (hno b (by omega))
  · exact gb_setN (gb_more (gb_alloc h.gb o) hg (fun k hk => .inr (by have := (hnlt k hk).1; omega))) (by simp) _
/-- v.List = append(v.List, x): behind the store -/
theorem MM.elem (h : MM w wr S names list nv lv) {j : J} {a0 a1 a2 a3 a4 : Value} {xs : List Value} {o : Obj} {w2 : World} {g cap m : Nat} (hm : list.length = m)
    (h1 : wr.ownsRow (w.heap.size + 2) 26 5 lv list.length xs) (h2 : Flat wr S list xs) (hj : JAt wr S j (.agg #[a0, a1, a2, a3, a4]))
    (hown : w2.ownsRow (w.heap.size + 2) 26 5 (.slice (some ⟨g, 0, none⟩) (m + 1) cap) (m + 1) (xs ++ [a0, a1, a2, a3, a4])) (hg : (wr.alloc o).grownBy w2 lv.ownBlock) :
    MM w (w2.setCell ⟨w.heap.size + 1, 4, none⟩ (.slice (some ⟨g, 0, none⟩) (m + 1) cap)) S names (list ++ [j]) nv (.slice (some ⟨g, 0, none⟩) (m + 1) cap) := by
  subst hm
  have hllt := h1.lt
  have hne := own_ne h.hn h1 (by decide)
  have hblk : ∀ b, b < wr.heap.size → lv.ownBlock ≠ some b → w2.heap[b]? = wr.heap[b]? := fun b hb hne => (hg.block b (by simp; omega) (Ne.symm hne)).trans (Below.heap_alloc wr o b hb)
  have hno : ∀ b, b ≤ w.heap.size + 1 → lv.ownBlock ≠ some b := fun b hb e => by have := (hllt b e).1; omega
  have hws := h.gb.size
  refine ⟨h.sl, ?_, ?_, ?_, ⟨xs ++ [a0, a1, a2, a3, a4], ?_, ?_⟩, ?_⟩
  · exact JB.far ((hblk _ h.br.lt (hno _ (by omega))).trans h.br) (q := ⟨w.heap.size + 1, 4, none⟩) (by simp) _
  · have hj : JB w2 (w.heap.size + 1) (.int .i64 6) (.int .i64 0) (.string ⟨#[]⟩) nv lv := (hblk _ h.jb.lt (hno _ (by omega))).trans h.jb
    unfold JB at hj ⊢
    simp [World.setCell, Array.getElem?_modify, hj]
  · refine ownsRow_setCell_below (h.hn.alloc o |>.kept hg ?_) (by simp) _
    rcases hne with e | e
    · exact .inl e
    · exact .inr e
  · rw [List.length_append]
    exact ownsRow_setCell_below hown (by simp) _
  · have hk : ∀ b, S b → (w2.setCell ⟨w.heap.size + 1, 4, none⟩ (.slice (some ⟨g, 0, none⟩) (list.length + 1) cap)).heap[b]? = wr.heap[b]? := fun b hb => by
      have hb1 := h.sl b hb
      rw [Below.heap_setCell _ _ _ _ (by simp; omega)]
      exact hblk b (by omega) (hno b (by omega))
    exact (Flat.snoc hj h2).keep hk (fun _ => id)
  · exact gb_setN (gb_more (gb_alloc h.gb o) hg (fun k hk => .inr (by have := (hllt k hk).1; omega))) (by simp) _
/-- what has been gathered, as a value -/
theorem MM.val (h : MM w wr S names list nv lv) : JAt wr (fun b => S b ∨ (w.heap.size + 2 ≤ b ∧ b < wr.heap.size)) (.mk 6 0 ⟨#[]⟩ names list) (.agg #[.int .i64 6, .int .i64 0, .string ⟨#[]⟩, nv, lv]) := by
  obtain ⟨xs, h1, h2⟩ := h.hl
  exact JAt.of_own h.hn h1 h2 (fun b hb => .inl hb) (fun g hg => .inr (by have := h.hn.lt g hg; omega)) (fun g hg => .inr (by have := h1.lt g hg; omega))
end
end Go.Proofs.YtnnhkajjifmlfaaDoor
