/- (*reader).number: it computes numS. -/
import Derived.Test.YtnnhkajjifmlfaaDoorJa
import Derived.Deep.RegionHeld3
import Derived.Deep.DeepCutAuto
import Derived.Deep.CutBlock
import Derived.Defers
import Derived.Deep.LoopGhost
import Derived.Deep.AppendLies
import Derived.Deep.DrawnRows
import Derived.Deep.RegionLaw
import Derived.RegionTactic
import Derived.ChangeAlike
import Derived.BigRegion
/-! (*reader).number: it computes numS. -/

namespace Go.Proofs.YtnnhkajjifmlfaaDoor
open Go.RowKit Go.Maps

end Go.Proofs.YtnnhkajjifmlfaaDoor

/-! What (*reader).value, many and Parse of package json compute. -/

namespace Go.Proofs.YtnnhkajjifmlfaaDoor
open Go.RowKit

def bare (k n : Int) : J := .mk k n ⟨#[]⟩ [] []
def outD (x : J × PS) : J × PS := (x.1, { x.2 with d := x.2.d - 1 })
/-- a step that goes on, within the text, at one depth -/
structure Goes (s : ByteArray) (σ τ : PS) : Prop where
  ge : σ.p ≤ τ.p
  le : τ.p ≤ s.size
  d : τ.d = σ.d
  er : σ.e ≠ 0 → τ.e ≠ 0
section
variable {s : ByteArray} {σ τ ρ : PS}
theorem Goes.refl (h : σ.p ≤ s.size) : Goes s σ σ := ⟨Nat.le_refl _, h, rfl, id⟩
theorem Goes.trans (h : Goes s σ τ) (k : Goes s τ ρ) : Goes s σ ρ := ⟨Nat.le_trans h.ge k.ge, k.le, k.d.trans h.d, fun e => k.er (h.er e)⟩
end
end Go.Proofs.YtnnhkajjifmlfaaDoor

/-! (*reader).value of package json: one walk for each way through its switch. -/

namespace Go.Proofs.YtnnhkajjifmlfaaDoor
open Go.RowKit Go.Maps

def J.k : J → Int | .mk k _ _ _ _ => k
def J.n : J → Int | .mk _ n _ _ _ => n
def J.t : J → ByteArray | .mk _ _ t _ _ => t
/-- what a reader of values leaves: the value in new memory, the reader's block alone turned -/
def VP (s : ByteArray) (R : Nat) (w : World) (x : J × PS) (e : Ending) (w' : World) : Prop :=
  ∃ (A1 : Option Addr) (n1 c1 : Nat) (A2 : Option Addr) (n2 c2 : Nat) (S : Nat → Prop),
    e = .returned (.agg #[.int .i64 x.1.k, .int .i64 x.1.n, .string x.1.t, .slice A1 n1 c1, .slice A2 n2 c2]) ∧
    JAt w' S x.1 (.agg #[.int .i64 x.1.k, .int .i64 x.1.n, .string x.1.t, .slice A1 n1 c1, .slice A2 n2 c2]) ∧
    (∀ b, S b → w.heap.size ≤ b ∧ b < w'.heap.size) ∧ RD w' R s x.2 ∧ w.grownBy w' (some R)
theorem VP.bare {s : ByteArray} {R : Nat} {w w' : World} {k n : Int} {t : ByteArray} {σ : PS} (h1 : RD w' R s σ) (h2 : w.grownBy w' (some R)) :
    VP s R w (.mk k n t [] [], σ) (.returned (.agg #[.int .i64 k, .int .i64 n, .string t, .slice none 0 0, .slice none 0 0])) w' :=
  ⟨none, 0, 0, none, 0, 0, fun _ => False, rfl, .bare k n t, fun _ h => h.elim, h1, h2⟩
end Go.Proofs.YtnnhkajjifmlfaaDoor

/-! (*reader).value of package json, whole, given many. -/

namespace Go.Proofs.YtnnhkajjifmlfaaDoor
open Go.RowKit Go.Maps

theorem put5_heap {w : World} {B b : Nat} (h : b ≠ B) (a0 a1 a2 a3 a4 : Value) : (put5 w B a0 a1 a2 a3 a4).heap[b]? = w.heap[b]? := by
  unfold put5
  rw [Below.heap_setCell _ _ _ _ h, Below.heap_setCell _ _ _ _ h, Below.heap_setCell _ _ _ _ h, Below.heap_setCell _ _ _ _ h, Below.heap_setCell _ _ _ _ h]
theorem put5_size (w : World) (B : Nat) (a0 a1 a2 a3 a4 : Value) : (put5 w B a0 a1 a2 a3 a4).heap.size = w.heap.size := by
  simp [put5, World.setCell]

end Go.Proofs.YtnnhkajjifmlfaaDoor

/-! What holds at each round's head of (*reader).many of package json, and what each step does to it. -/

namespace Go.Proofs.YtnnhkajjifmlfaaDoor
open Go.RowKit Go.Maps

structure MI (w wr : World) (s : ByteArray) (R : Nat) (τ : PS) (kind : Int) (names : List ByteArray) (list : List J) (nv lv : Value) : Prop where
  rl : R < w.heap.size
  rd : RD wr R s τ
  jb : JB wr (w.heap.size + 2) (.int .i64 kind) (.int .i64 0) (.string ⟨#[]⟩) nv lv
  bx : wr.heap[w.heap.size]? = some (.cells #[.pointer (some ⟨R, 0, none⟩)] 66 (0, 0))
  br : JB wr (w.heap.size + 1) (.int .i64 0) (.int .i64 0) (.string ⟨#[]⟩) (.slice none 0 0) (.slice none 0 0)
  hn : wr.ownsRow (w.heap.size + 3) 9 1 nv names.length (names.map Value.string)
  hl : ∃ xs S, wr.ownsRow (w.heap.size + 3) 26 5 lv list.length xs ∧ Flat wr S list xs ∧ ∀ b, S b → w.heap.size + 3 ≤ b ∧ b < wr.heap.size ∧ nv.ownBlock ≠ some b ∧ lv.ownBlock ≠ some b
  gb : w.grownBy wr (some R)

section
variable {w wr : World} {s : ByteArray} {R : Nat} {τ : PS} {kind : Int} {names : List ByteArray} {list : List J} {nv lv : Value}
theorem blk_kept {g : Nat} {o : Obj} {w' : World} {row : Option Nat} (h : wr.heap[g]? = some o) (hg : wr.grownBy w' row) (hne : some g ≠ row) : w'.heap[g]? = some o :=
  (hg.block g (Array.getElem?_eq_some_iff.1 h).1 hne).trans h
theorem MI.cells (h : MI w wr s R τ kind names list nv lv) : wr.cell? ⟨w.heap.size, 0, none⟩ = some (.pointer (some ⟨R, 0, none⟩)) := by
  rw [cell_of_row wr _ 0 _ _ _ h.bx]; rfl
/-- a call that turns the reader's block alone -/
theorem MI.same (h : MI w wr s R τ kind names list nv lv) {w' : World} {τ' : PS} (hR : RD w' R s τ') (hg : wr.grownBy w' (some R)) : MI w w' s R τ' kind names list nv lv := by
  have hl := h.rl
  obtain ⟨xs, S, h1, h2, h3⟩ := h.hl
  refine ⟨hl, hR, h.jb.kept hg (by simp; omega), blk_kept h.bx hg (by simp; omega), h.br.kept hg (by simp; omega), own_keptR h.hn hg (by omega), ⟨xs, S, own_keptR h1 hg (by omega), h2.keep (fun b hb => hg.block b (h3 b hb).2.1 (by have := (h3 b hb).1; simp; omega)) (fun _ => id), fun b hb => ⟨(h3 b hb).1, Nat.lt_of_lt_of_le (h3 b hb).2.1 hg.size, (h3 b hb).2.2⟩⟩, gb_trans h.gb hg⟩
theorem MI.drewN (h : MI w wr s R τ kind names list nv lv) (n : Nat) : MI w (wr.drewN n) s R τ kind names list nv lv := h.same (h.rd.drewN n) (gb_drewN (gb_refl _ _) n)
theorem MI.drew (h : MI w wr s R τ kind names list nv lv) : MI w wr.drew s R τ kind names list nv lv := h.same h.rd.drew (gb_drew (gb_refl _ _))
theorem own_ne {w : World} {b1 b2 e1 e2 z1 z2 n1 n2 : Nat} {v1 v2 : Value} {x1 x2 : List Value} (h1 : w.ownsRow b1 e1 z1 v1 n1 x1) (h2 : w.ownsRow b2 e2 z2 v2 n2 x2) (he : e1 ≠ e2) : v1.ownBlock = none ∨ v1.ownBlock ≠ v2.ownBlock := by
  rcases h1.2 with ⟨rfl, _⟩ | ⟨g, cap, cur, rfl, _, hh, _⟩
  · exact .inl rfl
  · refine .inr fun e => ?_
    rcases h2.2 with ⟨rfl, _⟩ | ⟨g', cap', cur', rfl, _, hh', _⟩
    · simp [Value.ownBlock] at e
    · simp only [Value.ownBlock, Option.some.injEq] at e
      subst e
      rw [hh] at hh'
      injection hh' with hh'
      injection hh' with _ ht
      exact he ht
/-- v.Names = append(v.Names, t): behind the store -/
theorem MI.name (h : MI w wr s R τ kind names list nv lv) {t : ByteArray} {o : Obj} {w2 : World} {g cap : Nat}
    (hown : w2.ownsRow (w.heap.size + 3) 9 1 (.slice (some ⟨g, 0, none⟩) (names.length + 1) cap) (names.length + 1) (names.map Value.string ++ [.string t])) (hg : (wr.alloc o).grownBy w2 nv.ownBlock) (hat : nv.ownBlock = some g ∨ g = wr.heap.size + 1) :
    MI w (w2.setCell ⟨w.heap.size + 2, 3, none⟩ (.slice (some ⟨g, 0, none⟩) (names.length + 1) cap)) s R τ kind (names ++ [t]) list (.slice (some ⟨g, 0, none⟩) (names.length + 1) cap) lv := by
  have hrl := h.rl
  obtain ⟨xs, S, h1, h2, h3⟩ := h.hl
  have hnlt := h.hn.lt
  have hllt := h1.lt
  have hne := own_ne h1 h.hn (by decide)
  have hblk : ∀ b, b < wr.heap.size → nv.ownBlock ≠ some b → w2.heap[b]? = wr.heap[b]? := fun b hb hne => (hg.block b (by simp; omega) (Ne.symm hne)).trans (Below.heap_alloc wr o b hb)
  have hno : ∀ b, b ≤ w.heap.size + 2 → nv.ownBlock ≠ some b := fun b hb e => by have := (hnlt b e).1; omega
  have hsz : wr.heap.size + 1 ≤ w2.heap.size := by have := hg.size; simpa using this
  have hgg : w.heap.size + 3 ≤ g := by
    rcases hat with e | e
    · exact (hnlt g e).1
    · have := h.jb.lt; omega
  have hglt : g ≠ w.heap.size + 2 := by omega
  refine ⟨hrl, ?_, ?_, ?_, ?_, ?_, ⟨xs, S, ?_, ?_, ?_⟩, ?_⟩
  · exact RD.far ((hblk R h.rd.lt (hno R (by omega))).trans h.rd) (q := ⟨w.heap.size + 2, 3, none⟩) (by simp; omega) _
  · have hj : JB w2 (w.heap.size + 2) (.int .i64 kind) (.int .i64 0) (.string ⟨#[]⟩) nv lv := (hblk _ h.jb.lt (hno _ (by omega))).trans h.jb
    unfold JB at hj ⊢
    simp [World.setCell, Array.getElem?_modify, hj]
  · rw [Below.heap_setCell _ _ _ _ (by simp)]
    exact (hblk _ (by have := h.jb.lt; omega) (hno _ (by omega))).trans h.bx
  · exact JB.far ((hblk _ h.br.lt (hno _ (by omega))).trans h.br) (q := ⟨w.heap.size + 2, 3, none⟩) (by simp) _
  · rw [List.length_append, List.map_append]
    exact ownsRow_setCell_below hown (by simp) _
  · refine ownsRow_setCell_below (h1.alloc o |>.kept hg ?_) (by simp) _
    rcases hne with e | e
    · exact .inl e
    · exact .inr e
  · refine h2.keep (fun b hb => ?_) (fun _ => id)
    rw [Below.heap_setCell _ _ _ _ (by have := (h3 b hb).1; simp; omega)]
    exact hblk b (h3 b hb).2.1 (h3 b hb).2.2.1
  · intro b hb
    obtain ⟨q1, q2, q3, q4⟩ := h3 b hb
    refine ⟨q1, by simp [World.setCell]; omega, ?_, q4⟩
    simp only [Value.ownBlock, ne_eq, Option.some.injEq]
    rintro rfl
    rcases hat with e | e
    · exact q3 e
    · omega
  · exact gb_set (g := R) (gb_more (gb_alloc h.gb o) hg (fun k hk => .inr (by have := (hnlt k hk).1; omega))) (.inr (by simp)) _
/-- v.List = append(v.List, x): behind the store; x: what a call that began in a world of H0 blocks has left -/
theorem MI.elem (h : MI w wr s R τ kind names list nv lv) {j : J} {a0 a1 a2 a3 a4 : Value} {S' : Nat → Prop} {H0 : Nat} {xs : List Value} {S : Nat → Prop} {o : Obj} {w2 : World} {g cap : Nat}
    (h1 : wr.ownsRow (w.heap.size + 3) 26 5 lv list.length xs) (h2 : Flat wr S list xs) (h3 : ∀ b, S b → w.heap.size + 3 ≤ b ∧ b < wr.heap.size ∧ nv.ownBlock ≠ some b ∧ lv.ownBlock ≠ some b)
    (hj : JAt wr S' j (.agg #[a0, a1, a2, a3, a4])) (hS' : ∀ b, S' b → H0 ≤ b ∧ b < wr.heap.size) (hH : w.heap.size + 3 ≤ H0) (hnH : ∀ k, nv.ownBlock = some k → k < H0) (hlH : ∀ k, lv.ownBlock = some k → k < H0)
    (hown : w2.ownsRow (w.heap.size + 3) 26 5 (.slice (some ⟨g, 0, none⟩) (list.length + 1) cap) (list.length + 1) (xs ++ [a0, a1, a2, a3, a4])) (hg : (wr.alloc o).grownBy w2 lv.ownBlock) (hat : lv.ownBlock = some g ∨ g = wr.heap.size + 1) :
    MI w (w2.setCell ⟨w.heap.size + 2, 4, none⟩ (.slice (some ⟨g, 0, none⟩) (list.length + 1) cap)) s R τ kind names (list ++ [j]) nv (.slice (some ⟨g, 0, none⟩) (list.length + 1) cap) := by
  have hrl := h.rl
  have hnlt := h.hn.lt
  have hllt := h1.lt
  have hne := own_ne h.hn h1 (by decide)
  have hblk : ∀ b, b < wr.heap.size → lv.ownBlock ≠ some b → w2.heap[b]? = wr.heap[b]? := fun b hb hne => (hg.block b (by simp; omega) (Ne.symm hne)).trans (Below.heap_alloc wr o b hb)
  have hno : ∀ b, b ≤ w.heap.size + 2 → lv.ownBlock ≠ some b := fun b hb e => by have := (hllt b e).1; omega
  have hsz : wr.heap.size + 1 ≤ w2.heap.size := by have := hg.size; simpa using this
  refine ⟨hrl, ?_, ?_, ?_, ?_, ?_, ⟨xs ++ [a0, a1, a2, a3, a4], fun b => S b ∨ S' b, ?_, ?_, ?_⟩, ?_⟩
  · exact RD.far ((hblk R h.rd.lt (hno R (by omega))).trans h.rd) (q := ⟨w.heap.size + 2, 4, none⟩) (by simp; omega) _
  · have hj : JB w2 (w.heap.size + 2) (.int .i64 kind) (.int .i64 0) (.string ⟨#[]⟩) nv lv := (hblk _ h.jb.lt (hno _ (by omega))).trans h.jb
    unfold JB at hj ⊢
    simp [World.setCell, Array.getElem?_modify, hj]
  · rw [Below.heap_setCell _ _ _ _ (by simp)]
    exact (hblk _ (by have := h.jb.lt; omega) (hno _ (by omega))).trans h.bx
  · exact JB.far ((hblk _ h.br.lt (hno _ (by omega))).trans h.br) (q := ⟨w.heap.size + 2, 4, none⟩) (by simp) _
  · refine ownsRow_setCell_below (h.hn.alloc o |>.kept hg ?_) (by simp) _
    rcases hne with e | e
    · exact .inl e
    · exact .inr e
  · rw [List.length_append]
    exact ownsRow_setCell_below hown (by simp) _
  · have hk : ∀ b, S b ∨ S' b → (w2.setCell ⟨w.heap.size + 2, 4, none⟩ (.slice (some ⟨g, 0, none⟩) (list.length + 1) cap)).heap[b]? = wr.heap[b]? := by
      intro b hb
      have hb1 : w.heap.size + 3 ≤ b ∧ b < wr.heap.size ∧ lv.ownBlock ≠ some b := by
        rcases hb with hb | hb
        · exact ⟨(h3 b hb).1, (h3 b hb).2.1, (h3 b hb).2.2.2⟩
        · have := hS' b hb
          exact ⟨by omega, this.2, fun e => by have := hlH b e; omega⟩
      rw [Below.heap_setCell _ _ _ _ (by simp; omega)]
      exact hblk b hb1.2.1 hb1.2.2
    exact Flat.snoc (hj.keep (fun b hb => hk b (.inr hb)) (fun _ => .inr)) (h2.keep (fun b hb => hk b (.inl hb)) (fun _ => .inl))
  · intro b hb
    have hb1 : w.heap.size + 3 ≤ b ∧ b < wr.heap.size ∧ nv.ownBlock ≠ some b ∧ lv.ownBlock ≠ some b := by
      rcases hb with hb | hb
      · exact h3 b hb
      · have := hS' b hb
        exact ⟨by omega, this.2, fun e => (by have := hnH b e; omega), fun e => (by have := hlH b e; omega)⟩
    obtain ⟨q1, q2, q3, q4⟩ := hb1
    refine ⟨q1, by simp [World.setCell]; omega, q3, ?_⟩
    simp only [Value.ownBlock, ne_eq, Option.some.injEq]
    rintro rfl
    rcases hat with e | e
    · exact q4 e
    · omega
  · exact gb_set (g := R) (gb_more (gb_alloc h.gb o) hg (fun k hk => .inr (by have := (hllt k hk).1; omega))) (.inr (by simp)) _
theorem MI.alloc (h : MI w wr s R τ kind names list nv lv) (o : Obj) : MI w (wr.alloc o) s R τ kind names list nv lv := h.same (h.rd.alloc o) (gb_alloc (gb_refl _ _) o)
theorem MI.far (h : MI w wr s R τ kind names list nv lv) {o : Obj} {w2 : World} {row : Option Nat} (hg : (wr.alloc o).grownBy w2 row) (hr : ∀ k, row = some k → w.heap.size + 3 ≤ k) :
    w2.cell? ⟨w.heap.size, 0, none⟩ = some (.pointer (some ⟨R, 0, none⟩)) ∧ JB w2 (w.heap.size + 2) (.int .i64 kind) (.int .i64 0) (.string ⟨#[]⟩) nv lv := by
  have ha := h.alloc o
  have hno : ∀ b, b ≤ w.heap.size + 2 → some b ≠ row := fun b hb e => by have := hr b e.symm; omega
  refine ⟨?_, ha.jb.kept hg (hno _ (by omega))⟩
  rw [cell_of_row w2 _ 0 _ _ _ (blk_kept ha.bx hg (hno _ (by omega)))]; rfl
/-- what has been gathered, as a value -/
theorem MI.val (h : MI w wr s R τ kind names list nv lv) : ∃ S : Nat → Prop, JAt wr S (.mk kind 0 ⟨#[]⟩ names list) (.agg #[.int .i64 kind, .int .i64 0, .string ⟨#[]⟩, nv, lv]) ∧ ∀ b, S b → w.heap.size + 3 ≤ b ∧ b < wr.heap.size := by
  obtain ⟨xs, S, h1, h2, h3⟩ := h.hl
  refine ⟨fun b => S b ∨ nv.ownBlock = some b ∨ lv.ownBlock = some b, JAt.of_own h.hn h1 h2 (fun _ => .inl) (fun g hg => .inr (.inl hg)) (fun g hg => .inr (.inr hg)), ?_⟩
  rintro b (hb | hb | hb)
  · exact ⟨(h3 b hb).1, (h3 b hb).2.1⟩
  · exact h.hn.lt b hb
  · exact h1.lt b hb
end
end Go.Proofs.YtnnhkajjifmlfaaDoor

/-! (*reader).many of package json: the way that is nested too deep; the deferred closure. -/

namespace Go.Proofs.YtnnhkajjifmlfaaDoor
open Go.RowKit Go.Maps

end Go.Proofs.YtnnhkajjifmlfaaDoor

/-! (*reader).many of package json: a list, given value. -/

namespace Go.Proofs.YtnnhkajjifmlfaaDoor
open Go.RowKit Go.Maps
attribute [local go_sem ↓] Go.wp_at_zero Go.wp_at_succ
theorem info26 : (Tryd.prog.info? 26).map (fun i => (i.zero, i.size, i.bytes)) = some (some (.agg #[.int .i64 0, .int .i64 0, .string ⟨#[]⟩, .slice none 0 0, .slice none 0 0]), 5, 80) := by kernel_rfl
theorem info9 : (Tryd.prog.info? 9).map (fun i => (i.zero, i.size, i.bytes)) = some (some (.string ⟨#[]⟩), 1, 16) := by kernel_rfl

/-- behind the door: the value lies in the result's block, the depth is one less -/
theorem MI.done {w wr : World} {s : ByteArray} {R : Nat} {τ : PS} {kind : Int} {names : List ByteArray} {list : List J} {A1 A2 : Option Addr} {n1 c1 n2 c2 : Nat}
    (h : MI w wr s R τ kind names list (.slice A1 n1 c1) (.slice A2 n2 c2)) :
    VP s R w (outD (.mk kind 0 ⟨#[]⟩ names list, τ)) (.returned (.agg #[.int .i64 kind, .int .i64 0, .string ⟨#[]⟩, .slice A1 n1 c1, .slice A2 n2 c2]))
      ((put5 wr (w.heap.size + 1) (.int .i64 kind) (.int .i64 0) (.string ⟨#[]⟩) (.slice A1 n1 c1) (.slice A2 n2 c2)).setCell ⟨R, 4, none⟩ (.int .i64 (τ.d - 1))) := by
  obtain ⟨S, hj, hS⟩ := h.val
  have hl := h.rl
  refine ⟨A1, n1, c1, A2, n2, c2, S, rfl, hj.keep (fun b hb => ?_) (fun _ => id), fun b hb => ⟨by have := hS b hb; omega, ?_⟩, (h.rd.put5 (B := w.heap.size + 1) (by omega) _ _ _ _ _).set4 _, gb_setR (gb_put5 h.gb (by omega) _ _ _ _ _) _ _⟩
  · have := hS b hb
    rw [Below.heap_setCell _ _ _ _ (by simp; omega), put5_heap (by omega)]
  · have := hS b hb
    simp only [World.setCell, Array.size_modify]
    rw [put5_size]; exact this.2

end Go.Proofs.YtnnhkajjifmlfaaDoor

/-! (*reader).many of package json: a map, given value. -/

namespace Go.Proofs.YtnnhkajjifmlfaaDoor
open Go.RowKit Go.Maps
attribute [local go_sem ↓] Go.wp_at_zero Go.wp_at_succ

end Go.Proofs.YtnnhkajjifmlfaaDoor

/-! json.Parse: it computes parseS. -/

namespace Go.Proofs.YtnnhkajjifmlfaaDoor
open Go.RowKit Go.Maps

theorem RD.new {w : World} {n : Nat} (s : ByteArray) (hn : w.heap.size = n) : RD (w.alloc (.cells #[.string s, .int .i64 0, .int .i64 0, .int .i64 0, .int .i64 0] 68)) n s ⟨0, 0, 0, 0⟩ := by
  subst hn; exact heap_alloc_new w _
end Go.Proofs.YtnnhkajjifmlfaaDoor
/-! The reference's reader of values: words, its small methods. -/
/-! The reference's reader of values: words, its small methods. -/

namespace Go.Proofs.YtnnhkajjifmlfaaDoor
open Go.RowKit Go.Maps

structure QS where
  p : Nat
  bad : Int
  e : Int
def RQ (w : World) (R : Nat) (s : ByteArray) (q : QS) : Prop :=
  w.heap[R]? = some (.cells #[.string s, .int .i64 q.p, .int .i64 q.bad, .int .i64 q.e] 72 (0, 0))
section
variable {w w' : World} {R : Nat} {s : ByteArray} {q : QS}
theorem RQ.lt (h : RQ w R s q) : R < w.heap.size := (Array.getElem?_eq_some_iff.1 h).1
theorem RQ.c0 (h : RQ w R s q) : w.cell? ⟨R, 0, none⟩ = some (.string s) := by rw [cell_of_row w R 0 _ _ _ h]; rfl
theorem RQ.c1 (h : RQ w R s q) : w.cell? ⟨R, 1, none⟩ = some (.int .i64 q.p) := by rw [cell_of_row w R 1 _ _ _ h]; rfl
theorem RQ.c2 (h : RQ w R s q) : w.cell? ⟨R, 2, none⟩ = some (.int .i64 q.bad) := by rw [cell_of_row w R 2 _ _ _ h]; rfl
theorem RQ.c3 (h : RQ w R s q) : w.cell? ⟨R, 3, none⟩ = some (.int .i64 q.e) := by rw [cell_of_row w R 3 _ _ _ h]; rfl
theorem RQ.f (h : RQ w R s q) (i : Nat) : w.frozen? ⟨R, i, none⟩ = false := by unfold RQ at h; simp [World.frozen?, h]
theorem RQ.alloc (h : RQ w R s q) (o : Obj) : RQ (w.alloc o) R s q := (Below.heap_alloc w o R h.lt).trans h
theorem RQ.drewN (h : RQ w R s q) (n : Nat) : RQ (w.drewN n) R s q := h
theorem RQ.drew (h : RQ w R s q) : RQ w.drew R s q := h
theorem RQ.far (h : RQ w R s q) {a : Addr} (hq : R ≠ a.block) (u : Value) : RQ (w.setCell a u) R s q := (Below.heap_setCell w a u R hq).trans h
theorem RQ.kept (h : RQ w R s q) {row : Option Nat} (hg : w.grownBy w' row) (hne : some R ≠ row) : RQ w' R s q := (hg.block R h.lt hne).trans h
theorem RQ.put5 {B : Nat} (h : RQ w R s q) (hne : R ≠ B) (a b c d e : Value) : RQ (YtnnhkajjifmlfaaDoor.put5 w B a b c d e) R s q :=
  ((((h.far (a := ⟨B, 0, none⟩) hne a).far (a := ⟨B, 1, none⟩) hne b).far (a := ⟨B, 2, none⟩) hne c).far (a := ⟨B, 3, none⟩) hne d).far (a := ⟨B, 4, none⟩) hne e
end
end Go.Proofs.YtnnhkajjifmlfaaDoor

/-! The reference's reader: must, hexOf. -/

namespace Go.Proofs.YtnnhkajjifmlfaaDoor
open Go.RowKit Go.Maps

end Go.Proofs.YtnnhkajjifmlfaaDoor

/-! The reference's reader: escape. -/

namespace Go.Proofs.YtnnhkajjifmlfaaDoor
open Go.RowKit Go.Maps

end Go.Proofs.YtnnhkajjifmlfaaDoor

/-! The reference's reader: quotedText. -/

namespace Go.Proofs.YtnnhkajjifmlfaaDoor
open Go.RowKit Go.Maps

end Go.Proofs.YtnnhkajjifmlfaaDoor

/-! The reference's reader: number, to the loop's end. -/

namespace Go.Proofs.YtnnhkajjifmlfaaDoor
open Go.RowKit Go.Maps

end Go.Proofs.YtnnhkajjifmlfaaDoor

/-! The reference's reader: number. -/

namespace Go.Proofs.YtnnhkajjifmlfaaDoor
open Go.RowKit Go.Maps

end Go.Proofs.YtnnhkajjifmlfaaDoor

/-! The reference's value and many: what they compute; what holds at each round's head of many. -/
/-! The reference's value and many: what they compute; what holds at each round's head of many. -/

namespace Go.Proofs.YtnnhkajjifmlfaaDoor
open Go.RowKit Go.Maps

/-- what a reader of values leaves: the value in new memory, the reader's block alone turned -/
def VQ (s : ByteArray) (R : Nat) (w : World) (x : J × QS) (e : Ending) (w' : World) : Prop :=
  ∃ (A1 : Option Addr) (n1 c1 : Nat) (A2 : Option Addr) (n2 c2 : Nat) (S : Nat → Prop),
    e = .returned (.agg #[.int .i64 x.1.k, .int .i64 x.1.n, .string x.1.t, .slice A1 n1 c1, .slice A2 n2 c2]) ∧
    JAt w' S x.1 (.agg #[.int .i64 x.1.k, .int .i64 x.1.n, .string x.1.t, .slice A1 n1 c1, .slice A2 n2 c2]) ∧
    (∀ b, S b → w.heap.size ≤ b ∧ b < w'.heap.size) ∧ RQ w' R s x.2 ∧ w.grownBy w' (some R)
theorem VQ.bare {s : ByteArray} {R : Nat} {w w' : World} {k n : Int} {t : ByteArray} {q : QS} (h1 : RQ w' R s q) (h2 : w.grownBy w' (some R)) :
    VQ s R w (.mk k n t [] [], q) (.returned (.agg #[.int .i64 k, .int .i64 n, .string t, .slice none 0 0, .slice none 0 0])) w' :=
  ⟨none, 0, 0, none, 0, 0, fun _ => False, rfl, .bare k n t, fun _ h => h.elim, h1, h2⟩
structure MQ (w wr : World) (s : ByteArray) (R : Nat) (τ : QS) (kind : Int) (names : List ByteArray) (list : List J) (nv lv : Value) : Prop where
  rl : R < w.heap.size
  rd : RQ wr R s τ
  jb : JB wr (w.heap.size) (.int .i64 kind) (.int .i64 0) (.string ⟨#[]⟩) nv lv
  br : JB wr (w.heap.size + 1) (.int .i64 0) (.int .i64 0) (.string ⟨#[]⟩) (.slice none 0 0) (.slice none 0 0)
  hn : wr.ownsRow (w.heap.size + 2) 9 1 nv names.length (names.map Value.string)
  hl : ∃ xs S, wr.ownsRow (w.heap.size + 2) 26 5 lv list.length xs ∧ Flat wr S list xs ∧ ∀ b, S b → w.heap.size + 2 ≤ b ∧ b < wr.heap.size ∧ nv.ownBlock ≠ some b ∧ lv.ownBlock ≠ some b
  gb : w.grownBy wr (some R)

section
variable {w wr : World} {s : ByteArray} {R : Nat} {τ : QS} {kind : Int} {names : List ByteArray} {list : List J} {nv lv : Value}
/-- a call that turns the reader's block alone -/
theorem MQ.same (h : MQ w wr s R τ kind names list nv lv) {w' : World} {τ' : QS} (hR : RQ w' R s τ') (hg : wr.grownBy w' (some R)) : MQ w w' s R τ' kind names list nv lv := by
  have hl := h.rl
  obtain ⟨xs, S, h1, h2, h3⟩ := h.hl
  refine ⟨hl, hR, h.jb.kept hg (by simp; omega), h.br.kept hg (by simp; omega), own_keptR h.hn hg (by omega), ⟨xs, S, own_keptR h1 hg (by omega), h2.keep (fun b hb => hg.block b (h3 b hb).2.1 (by have := (h3 b hb).1; simp; omega)) (fun _ => id), fun b hb => ⟨(h3 b hb).1, Nat.lt_of_lt_of_le (h3 b hb).2.1 hg.size, (h3 b hb).2.2⟩⟩, gb_trans h.gb hg⟩
theorem MQ.drewN (h : MQ w wr s R τ kind names list nv lv) (n : Nat) : MQ w (wr.drewN n) s R τ kind names list nv lv := h.same (h.rd.drewN n) (gb_drewN (gb_refl _ _) n)
theorem MQ.drew (h : MQ w wr s R τ kind names list nv lv) : MQ w wr.drew s R τ kind names list nv lv := h.same h.rd.drew (gb_drew (gb_refl _ _))
/-- v.Names = append(v.Names, t): behind the store -/
theorem MQ.name (h : MQ w wr s R τ kind names list nv lv) {t : ByteArray} {o : Obj} {w2 : World} {g cap : Nat}
    (hown : w2.ownsRow (w.heap.size + 2) 9 1 (.slice (some ⟨g, 0, none⟩) (names.length + 1) cap) (names.length + 1) (names.map Value.string ++ [.string t])) (hg : (wr.alloc o).grownBy w2 nv.ownBlock) (hat : nv.ownBlock = some g ∨ g = wr.heap.size + 1) :
    MQ w (w2.setCell ⟨w.heap.size, 3, none⟩ (.slice (some ⟨g, 0, none⟩) (names.length + 1) cap)) s R τ kind (names ++ [t]) list (.slice (some ⟨g, 0, none⟩) (names.length + 1) cap) lv := by
  have hrl := h.rl
  obtain ⟨xs, S, h1, h2, h3⟩ := h.hl
  have hnlt := h.hn.lt
  have hllt := h1.lt
  have hne := own_ne h1 h.hn (by decide)
  have hblk : ∀ b, b < wr.heap.size → nv.ownBlock ≠ some b → w2.heap[b]? = wr.heap[b]? := fun b hb hne => (hg.block b (by simp; omega) (Ne.symm hne)).trans (Below.heap_alloc wr o b hb)
  have hno : ∀ b, b ≤ w.heap.size → nv.ownBlock ≠ some b := fun b hb e => by have := (hnlt b e).1; omega
  have hno1 : nv.ownBlock ≠ some (w.heap.size + 1) := fun e => by have := (hnlt _ e).1; omega
  have hsz : wr.heap.size + 1 ≤ w2.heap.size := by have := hg.size; simpa using this
  have hgg : w.heap.size + 2 ≤ g := by
    rcases hat with e | e
    · exact (hnlt g e).1
    · have := h.jb.lt; omega
  have hglt : g ≠ w.heap.size := by omega
  refine ⟨hrl, ?_, ?_, ?_, ?_, ⟨xs, S, ?_, ?_, ?_⟩, ?_⟩
  · exact RQ.far ((hblk R h.rd.lt (hno R (by omega))).trans h.rd) (a := ⟨w.heap.size, 3, none⟩) (by simp; omega) _
  · have hj : JB w2 (w.heap.size) (.int .i64 kind) (.int .i64 0) (.string ⟨#[]⟩) nv lv := (hblk _ h.jb.lt (hno _ (by omega))).trans h.jb
    unfold JB at hj ⊢
    simp [World.setCell, Array.getElem?_modify, hj]
  · exact JB.far ((hblk _ h.br.lt (hno1)).trans h.br) (q := ⟨w.heap.size, 3, none⟩) (by simp) _
  · rw [List.length_append, List.map_append]
    exact ownsRow_setCell_below hown (by simp) _
  · refine ownsRow_setCell_below (h1.alloc o |>.kept hg ?_) (by simp) _
    rcases hne with e | e
    · exact .inl e
    · exact .inr e
  · refine h2.keep (fun b hb => ?_) (fun _ => id)
    rw [Below.heap_setCell _ _ _ _ (by have := (h3 b hb).1; simp; omega)]
    exact hblk b (h3 b hb).2.1 (h3 b hb).2.2.1
  · intro b hb
    obtain ⟨q1, q2, q3, q4⟩ := h3 b hb
    refine ⟨q1, by simp [World.setCell]; omega, ?_, q4⟩
    simp only [Value.ownBlock, ne_eq, Option.some.injEq]
    rintro rfl
    rcases hat with e | e
    · exact q3 e
    · omega
  · exact gb_set (g := R) (gb_more (gb_alloc h.gb o) hg (fun k hk => .inr (by have := (hnlt k hk).1; omega))) (.inr (by simp)) _
/-- v.List = append(v.List, x): behind the store; x: what a call that began in a world of H0 blocks has left -/
theorem MQ.elem (h : MQ w wr s R τ kind names list nv lv) {j : J} {a0 a1 a2 a3 a4 : Value} {S' : Nat → Prop} {H0 : Nat} {xs : List Value} {S : Nat → Prop} {o : Obj} {w2 : World} {g cap : Nat}
    (h1 : wr.ownsRow (w.heap.size + 2) 26 5 lv list.length xs) (h2 : Flat wr S list xs) (h3 : ∀ b, S b → w.heap.size + 2 ≤ b ∧ b < wr.heap.size ∧ nv.ownBlock ≠ some b ∧ lv.ownBlock ≠ some b)
    (hj : JAt wr S' j (.agg #[a0, a1, a2, a3, a4])) (hS' : ∀ b, S' b → H0 ≤ b ∧ b < wr.heap.size) (hH : w.heap.size + 2 ≤ H0) (hnH : ∀ k, nv.ownBlock = some k → k < H0) (hlH : ∀ k, lv.ownBlock = some k → k < H0)
    (hown : w2.ownsRow (w.heap.size + 2) 26 5 (.slice (some ⟨g, 0, none⟩) (list.length + 1) cap) (list.length + 1) (xs ++ [a0, a1, a2, a3, a4])) (hg : (wr.alloc o).grownBy w2 lv.ownBlock) (hat : lv.ownBlock = some g ∨ g = wr.heap.size + 1) :
    MQ w (w2.setCell ⟨w.heap.size, 4, none⟩ (.slice (some ⟨g, 0, none⟩) (list.length + 1) cap)) s R τ kind names (list ++ [j]) nv (.slice (some ⟨g, 0, none⟩) (list.length + 1) cap) := by
  have hrl := h.rl
  have hnlt := h.hn.lt
  have hllt := h1.lt
  have hne := own_ne h.hn h1 (by decide)
  have hblk : ∀ b, b < wr.heap.size → lv.ownBlock ≠ some b → w2.heap[b]? = wr.heap[b]? := fun b hb hne => (hg.block b (by simp; omega) (Ne.symm hne)).trans (Below.heap_alloc wr o b hb)
  have hno : ∀ b, b ≤ w.heap.size → lv.ownBlock ≠ some b := fun b hb e => by have := (hllt b e).1; omega
  have hno1 : lv.ownBlock ≠ some (w.heap.size + 1) := fun e => by have := (hllt _ e).1; omega
  have hsz : wr.heap.size + 1 ≤ w2.heap.size := by have := hg.size; simpa using this
  refine ⟨hrl, ?_, ?_, ?_, ?_, ⟨xs ++ [a0, a1, a2, a3, a4], fun b => S b ∨ S' b, ?_, ?_, ?_⟩, ?_⟩
  · exact RQ.far ((hblk R h.rd.lt (hno R (by omega))).trans h.rd) (a := ⟨w.heap.size, 4, none⟩) (by simp; omega) _
  · have hj : JB w2 (w.heap.size) (.int .i64 kind) (.int .i64 0) (.string ⟨#[]⟩) nv lv := (hblk _ h.jb.lt (hno _ (by omega))).trans h.jb
    unfold JB at hj ⊢
    simp [World.setCell, Array.getElem?_modify, hj]
  · exact JB.far ((hblk _ h.br.lt (hno1)).trans h.br) (q := ⟨w.heap.size, 4, none⟩) (by simp) _
  · refine ownsRow_setCell_below (h.hn.alloc o |>.kept hg ?_) (by simp) _
    rcases hne with e | e
    · exact .inl e
    · exact .inr e
  · rw [List.length_append]
    exact ownsRow_setCell_below hown (by simp) _
  · have hk : ∀ b, S b ∨ S' b → (w2.setCell ⟨w.heap.size, 4, none⟩ (.slice (some ⟨g, 0, none⟩) (list.length + 1) cap)).heap[b]? = wr.heap[b]? := by
      intro b hb
      have hb1 : w.heap.size + 2 ≤ b ∧ b < wr.heap.size ∧ lv.ownBlock ≠ some b := by
        rcases hb with hb | hb
        · exact ⟨(h3 b hb).1, (h3 b hb).2.1, (h3 b hb).2.2.2⟩
        · have := hS' b hb
          exact ⟨by omega, this.2, fun e => by have := hlH b e; omega⟩
      rw [Below.heap_setCell _ _ _ _ (by simp; omega)]
      exact hblk b hb1.2.1 hb1.2.2
    exact Flat.snoc (hj.keep (fun b hb => hk b (.inr hb)) (fun _ => .inr)) (h2.keep (fun b hb => hk b (.inl hb)) (fun _ => .inl))
  · intro b hb
    have hb1 : w.heap.size + 2 ≤ b ∧ b < wr.heap.size ∧ nv.ownBlock ≠ some b ∧ lv.ownBlock ≠ some b := by
      rcases hb with hb | hb
      · exact h3 b hb
      · have := hS' b hb
        exact ⟨by omega, this.2, fun e => (by have := hnH b e; omega), fun e => (by have := hlH b e; omega)⟩
    obtain ⟨q1, q2, q3, q4⟩ := hb1
    refine ⟨q1, by simp [World.setCell]; omega, q3, ?_⟩
    simp only [Value.ownBlock, ne_eq, Option.some.injEq]
    rintro rfl
    rcases hat with e | e
    · exact q4 e
    · omega
  · exact gb_set (g := R) (gb_more (gb_alloc h.gb o) hg (fun k hk => .inr (by have := (hllt k hk).1; omega))) (.inr (by simp)) _
theorem MQ.alloc (h : MQ w wr s R τ kind names list nv lv) (o : Obj) : MQ w (wr.alloc o) s R τ kind names list nv lv := h.same (h.rd.alloc o) (gb_alloc (gb_refl _ _) o)
theorem MQ.far (h : MQ w wr s R τ kind names list nv lv) {o : Obj} {w2 : World} {row : Option Nat} (hg : (wr.alloc o).grownBy w2 row) (hr : ∀ k, row = some k → w.heap.size + 2 ≤ k) :
    JB w2 (w.heap.size) (.int .i64 kind) (.int .i64 0) (.string ⟨#[]⟩) nv lv := by
  have ha := h.alloc o
  have hno : ∀ b, b ≤ w.heap.size → some b ≠ row := fun b hb e => by have := hr b e.symm; omega
  exact ha.jb.kept hg (hno _ (by omega))
/-- what has been gathered, as a value -/
theorem MQ.val (h : MQ w wr s R τ kind names list nv lv) : ∃ S : Nat → Prop, JAt wr S (.mk kind 0 ⟨#[]⟩ names list) (.agg #[.int .i64 kind, .int .i64 0, .string ⟨#[]⟩, nv, lv]) ∧ ∀ b, S b → w.heap.size + 2 ≤ b ∧ b < wr.heap.size := by
  obtain ⟨xs, S, h1, h2, h3⟩ := h.hl
  refine ⟨fun b => S b ∨ nv.ownBlock = some b ∨ lv.ownBlock = some b, JAt.of_own h.hn h1 h2 (fun _ => .inl) (fun g hg => .inr (.inl hg)) (fun g hg => .inr (.inr hg)), ?_⟩
  rintro b (hb | hb | hb)
  · exact ⟨(h3 b hb).1, (h3 b hb).2.1⟩
  · exact h.hn.lt b hb
  · exact h1.lt b hb
end
end Go.Proofs.YtnnhkajjifmlfaaDoor

/-! The reference's reader goes on, within the text. -/

namespace Go.Proofs.YtnnhkajjifmlfaaDoor
open Go.RowKit Go.Maps

structure QGo (s : ByteArray) (q r : QS) : Prop where
  ge : q.p ≤ r.p
  le : r.p ≤ s.size
  er : 0 ≤ q.bad → 0 ≤ r.bad
section
variable {s : ByteArray} {q r t : QS}
theorem QGo.refl (h : q.p ≤ s.size) : QGo s q q := ⟨Nat.le_refl _, h, id⟩
theorem QGo.trans (h : QGo s q r) (k : QGo s r t) : QGo s q t := ⟨Nat.le_trans h.ge k.ge, k.le, fun e => k.er (h.er e)⟩
end
end Go.Proofs.YtnnhkajjifmlfaaDoor

/-! The reference's value: one walk for each way through its switch. -/

namespace Go.Proofs.YtnnhkajjifmlfaaDoor
open Go.RowKit Go.Maps

section
variable {w : World} {B : Nat} {a0 a1 a2 a3 a4 : Value}
end
/-- within the reference's value: the reader's block R, v's block B, the result's block -/
structure VI (w wr : World) (s : ByteArray) (R : Nat) (q : QS) (B : Nat) (a0 a1 a2 a3 a4 : Value) : Prop where
  rl : R < w.heap.size
  rd : RQ wr R s q
  jb : JB wr B a0 a1 a2 a3 a4
  br : JB wr w.heap.size (.int .i64 0) (.int .i64 0) (.string ⟨#[]⟩) (.slice none 0 0) (.slice none 0 0)
  bl : w.heap.size < B
  gb : w.grownBy wr (some R)
section
variable {w wr : World} {s : ByteArray} {R : Nat} {q r : QS} {B : Nat} {a0 a1 a2 a3 a4 : Value}
theorem VI.same (h : VI w wr s R q B a0 a1 a2 a3 a4) {w' : World} (hR : RQ w' R s r) (hg : wr.grownBy w' (some R)) : VI w w' s R r B a0 a1 a2 a3 a4 := by
  have h1 := h.rl; have h2 := h.bl
  exact ⟨h1, hR, h.jb.kept hg (by simp; omega), h.br.kept hg (by simp; omega), h2, gb_trans h.gb hg⟩
theorem VI.drewN (h : VI w wr s R q B a0 a1 a2 a3 a4) (n : Nat) : VI w (wr.drewN n) s R q B a0 a1 a2 a3 a4 := h.same (h.rd.drewN n) (gb_drewN (gb_refl _ _) n)
theorem JB.put5far {x0 x1 x2 x3 x4 : Value} {C : Nat} (h : JB w C x0 x1 x2 x3 x4) (hne : C ≠ B) : JB (YtnnhkajjifmlfaaDoor.put5 w B a0 a1 a2 a3 a4) C x0 x1 x2 x3 x4 := by
  unfold JB at h ⊢; rw [put5_heap hne]; exact h
theorem VI.put5 (h : VI w wr s R q B a0 a1 a2 a3 a4) (x0 x1 x2 x3 x4 : Value) : VI w (YtnnhkajjifmlfaaDoor.put5 wr B x0 x1 x2 x3 x4) s R q B x0 x1 x2 x3 x4 := by
  have h1 := h.rl; have h2 := h.bl
  exact ⟨h1, h.rd.put5 (by omega) _ _ _ _ _, h.jb.put5 _ _ _ _ _, h.br.put5far (by omega), h2, gb_put5 h.gb (by omega) _ _ _ _ _⟩
theorem VI.done {k n : Int} {t : ByteArray} (h : VI w wr s R q B (.int .i64 k) (.int .i64 n) (.string t) (.slice none 0 0) (.slice none 0 0)) :
    VQ s R w (.mk k n t [] [], q) (.returned (.agg #[.int .i64 k, .int .i64 n, .string t, .slice none 0 0, .slice none 0 0])) (YtnnhkajjifmlfaaDoor.put5 wr w.heap.size (.int .i64 k) (.int .i64 n) (.string t) (.slice none 0 0) (.slice none 0 0)) := by
  have h1 := h.rl
  exact VQ.bare (h.rd.put5 (by omega) _ _ _ _ _) (gb_put5 h.gb (Nat.le_refl _) _ _ _ _ _)
theorem VQ.put {x0 x1 x2 x3 x4 : Value} {w2 w3 w5 : World} {j : J} {r3 : QS} {A1 A2 : Option Addr} {m1 d1 m2 d2 : Nat} {S : Nat → Prop} (h3 : VI w w2 s R q B a0 a1 a2 a3 a4)
    (hj : JAt w3 S j (.agg #[.int .i64 j.k, .int .i64 j.n, .string j.t, .slice A1 m1 d1, .slice A2 m2 d2])) (hS : ∀ b, S b → w2.heap.size ≤ b ∧ b < w3.heap.size)
    (h5 : VI w w5 s R r3 B x0 x1 x2 x3 x4) (hg5 : (YtnnhkajjifmlfaaDoor.put5 w3 B (.int .i64 j.k) (.int .i64 j.n) (.string j.t) (.slice A1 m1 d1) (.slice A2 m2 d2)).grownBy w5 (some R)) :
    VQ s R w (j, r3) (.returned (.agg #[.int .i64 j.k, .int .i64 j.n, .string j.t, .slice A1 m1 d1, .slice A2 m2 d2])) (YtnnhkajjifmlfaaDoor.put5 w5 w.heap.size (.int .i64 j.k) (.int .i64 j.n) (.string j.t) (.slice A1 m1 d1) (.slice A2 m2 d2)) := by
  have h1 := h3.rl
  have h2 := h3.bl
  have h4 := h3.jb.lt
  have hs5 := hg5.size
  rw [put5_size] at hs5
  refine ⟨A1, m1, d1, A2, m2, d2, S, rfl, hj.keep (fun b hb => ?_) (fun _ => id), fun b hb => ?_, h5.rd.put5 (by omega) _ _ _ _ _, gb_put5 h5.gb (Nat.le_refl _) _ _ _ _ _⟩
  · have := hS b hb
    rw [put5_heap (by omega), hg5.block b (by rw [put5_size]; omega) (by simp; omega), put5_heap (by omega)]
  · have := hS b hb
    rw [put5_size]; omega
end
end Go.Proofs.YtnnhkajjifmlfaaDoor

/-! The reference's value whole, given many; many nested too deep. -/

namespace Go.Proofs.YtnnhkajjifmlfaaDoor
open Go.RowKit Go.Maps

/-- what many leaves: v in the result's block -/
theorem MQ.done {w wr : World} {s : ByteArray} {R : Nat} {τ : QS} {kind : Int} {names : List ByteArray} {list : List J} {A1 A2 : Option Addr} {n1 c1 n2 c2 : Nat}
    (h : MQ w wr s R τ kind names list (.slice A1 n1 c1) (.slice A2 n2 c2)) :
    VQ s R w (.mk kind 0 ⟨#[]⟩ names list, τ) (.returned (.agg #[.int .i64 kind, .int .i64 0, .string ⟨#[]⟩, .slice A1 n1 c1, .slice A2 n2 c2]))
      (put5 wr (w.heap.size + 1) (.int .i64 kind) (.int .i64 0) (.string ⟨#[]⟩) (.slice A1 n1 c1) (.slice A2 n2 c2)) := by
  obtain ⟨S, hj, hS⟩ := h.val
  have hl := h.rl
  refine ⟨A1, n1, c1, A2, n2, c2, S, rfl, hj.keep (fun b hb => ?_) (fun _ => id), fun b hb => ⟨by have := hS b hb; omega, ?_⟩, h.rd.put5 (B := w.heap.size + 1) (by omega) _ _ _ _ _, gb_put5 h.gb (by omega) _ _ _ _ _⟩
  · have := hS b hb
    rw [put5_heap (by omega)]
  · have := hS b hb
    rw [put5_size]; exact this.2

end Go.Proofs.YtnnhkajjifmlfaaDoor

/-! The reference's many: a list, given value. -/

namespace Go.Proofs.YtnnhkajjifmlfaaDoor
open Go.RowKit Go.Maps
attribute [local go_sem ↓] Go.wp_at_zero Go.wp_at_succ

end Go.Proofs.YtnnhkajjifmlfaaDoor

/-! The reference's many: a map, given value. -/

namespace Go.Proofs.YtnnhkajjifmlfaaDoor
open Go.RowKit Go.Maps
attribute [local go_sem ↓] Go.wp_at_zero Go.wp_at_succ

end Go.Proofs.YtnnhkajjifmlfaaDoor

/-! The reference's Parse: it computes parseQ. -/

namespace Go.Proofs.YtnnhkajjifmlfaaDoor
open Go.RowKit Go.Maps

theorem RQ.new {w : World} {n : Nat} (s : ByteArray) (hn : w.heap.size = n) : RQ (w.alloc (.cells #[.string s, .int .i64 0, .int .i64 (-1), .int .i64 0] 72)) n s ⟨0, -1, 0⟩ := by
  subst hn; exact heap_alloc_new w _

end Go.Proofs.YtnnhkajjifmlfaaDoor

/-! Both readers tell the same of any text: their states side by side; words, escapes, texts. -/
/-! Both readers tell the same of any text: their states side by side; words, escapes, texts. -/

namespace Go.Proofs.YtnnhkajjifmlfaaDoor
open Go.RowKit Go.Maps

/-- two readers' states -/
def Sm (σ : PS) (q : QS) : Prop := (σ.e = 0 ∧ q.bad < 0 ∧ σ.p = q.p) ∨ (σ.e ≠ 0 ∧ ¬ q.bad < 0 ∧ σ.e = q.e ∧ σ.bad = q.bad)
section
variable {s : ByteArray} {σ : PS} {q : QS}
theorem Sm.p (h : Sm σ q) (he : σ.e = 0) : σ.p = q.p := by
  rcases h with ⟨_, _, c⟩ | ⟨a, _⟩
  · exact c
  · exact absurd he a
end
end Go.Proofs.YtnnhkajjifmlfaaDoor

/-! Both readers tell the same of any text: numbers. -/

namespace Go.Proofs.YtnnhkajjifmlfaaDoor
open Go.RowKit Go.Maps

/-- the number that digits tell, with one ahead -/
def dval : List UInt8 → Nat → Nat
  | [], a => a
  | c :: r, a => dval r (a * 10 + (c.toNat - 48))
def digs (l : List UInt8) : Prop := ∀ c ∈ l, 48 ≤ c.toNat ∧ c.toNat ≤ 57
theorem wrap64_id {x : Int} (h1 : -9223372036854775808 ≤ x) (h2 : x ≤ 9223372036854775807) : wrap64 x = x := by unfold wrap64; omega
end Go.Proofs.YtnnhkajjifmlfaaDoor

/-! Both readers tell the same of any text: values. -/

namespace Go.Proofs.YtnnhkajjifmlfaaDoor
open Go.RowKit Go.Maps

section
variable {s : ByteArray} {σ : PS} {q : QS}
theorem Sm.d {τ : PS} {r : QS} (h : Sm τ r) (d : Int) : Sm { τ with d := d } r := h
end
end Go.Proofs.YtnnhkajjifmlfaaDoor

/-! How long the lists of a value are that is read. -/

namespace Go.Proofs.YtnnhkajjifmlfaaDoor
open Go.RowKit Go.Maps

inductive JLen (n : Nat) : J → Prop
  | mk {k m : Int} {t : ByteArray} {names : List ByteArray} {list : List J} (h1 : names.length ≤ n) (h2 : list.length ≤ n) (h3 : ∀ j ∈ list, JLen n j) : JLen n (.mk k m t names list)
theorem JLen.bare (N : Nat) (k m : Int) (t : ByteArray) : JLen N (.mk k m t [] []) := .mk (Nat.zero_le _) (Nat.zero_le _) (fun j hj => by cases hj)
section
variable {s : ByteArray} {N : Nat}
end
end Go.Proofs.YtnnhkajjifmlfaaDoor

/-! Values are the same: bootprintkit's SameStrings and SameJson say so of equal values. -/

namespace Go.Proofs.YtnnhkajjifmlfaaDoor
open Go.RowKit Go.Maps

theorem cell_lt {w : World} {b o : Nat} {v : Value} (h : w.cell? ⟨b, o, none⟩ = some v) : b < w.heap.size := by
  unfold World.cell? at h
  rcases Nat.lt_or_ge b w.heap.size with h1 | h1
  · exact h1
  · simp [Array.getElem?_eq_none h1] at h
theorem cell_grown {w w' : World} {b o : Nat} {v : Value} {row : Option Nat} (h : w.cell? ⟨b, o, none⟩ = some v) (hg : w.grownBy w' row) (hr : some b ≠ row) : w'.cell? ⟨b, o, none⟩ = some v :=
  (World.cell?_of_block (w := w) (a := ⟨b, o, none⟩) (hg.block b (cell_lt h) hr)).trans h

end Go.Proofs.YtnnhkajjifmlfaaDoor

/-! Values are the same: SameJson. -/

namespace Go.Proofs.YtnnhkajjifmlfaaDoor
open Go.RowKit Go.Maps

end Go.Proofs.YtnnhkajjifmlfaaDoor

/-! JsonReads: the walk. -/

namespace Go.Proofs.YtnnhkajjifmlfaaDoor
open Go.RowKit Go.Maps

end Go.Proofs.YtnnhkajjifmlfaaDoor
