/- (*reader).number: it computes numS. -/
import Derived.Test.YtnnhkajjifmlfaaDoorJa
import Derived.Deep.RegionHeld3
import Derived.Deep.DeepCutAuto
import Derived.Deep.CutBlock
import Derived.Defers
import Derived.Deep.LoopGhost
import Derived.Deep.AppendLies
import Derived.Deep.DrawnRows
import Derived.Deep.RegionLaw
import Derived.RegionTactic
import Derived.ChangeAlike
import Derived.BigRegion
/-! (*reader).number: it computes numS. -/

namespace Go.Proofs.YtnnhkajjifmlfaaDoor
open Go.RowKit Go.Maps

end Go.Proofs.YtnnhkajjifmlfaaDoor

/-! What (*reader).value, many and Parse of package json compute. -/

namespace Go.Proofs.YtnnhkajjifmlfaaDoor
open Go.RowKit

def bare (k n : Int) : J := .mk k n ⟨#[]⟩ [] []
def outD (x : J × PS) : J × PS := (x.1, { x.2 with d := x.2.d - 1 })
/-- a step that goes on, within the text, at one depth -/
structure Goes (s : ByteArray) (σ τ : PS) : Prop where
  ge : σ.p ≤ τ.p
  le : τ.p ≤ s.size
  d : τ.d = σ.d
  er : σ.e ≠ 0 → τ.e ≠ 0
section
variable {s : ByteArray} {σ τ ρ : PS}
theorem Goes.refl (h : σ.p ≤ s.size) : Goes s σ σ := ⟨Nat.le_refl _, h, rfl, id⟩
theorem Goes.trans (h : Goes s σ τ) (k : Goes s τ ρ) : Goes s σ ρ := ⟨Nat.le_trans h.ge k.ge, k.le, k.d.trans h.d, fun e => k.er (h.er e)⟩
end
end Go.Proofs.YtnnhkajjifmlfaaDoor

/-! (*reader).value of package json: one walk for each way through its switch. -/

namespace Go.Proofs.YtnnhkajjifmlfaaDoor
open Go.RowKit Go.Maps

def J.k : J → Int | .mk k _ _ _ _ => k
def J.n : J → Int | .mk _ n _ _ _ => n
def J.t : J → ByteArray | .mk _ _ t _ _ => t
/-- what a reader of values leaves: the value in new memory, the reader's block alone turned -/
def VP (s : ByteArray) (R : Nat) (w : World) (x : J × PS) (e : Ending) (w' : World) : Prop :=
  ∃ (A1 : Option Addr) (n1 c1 : Nat) (A2 : Option Addr) (n2 c2 : Nat) (S : Nat → Prop),
    e = .returned (.agg #[.int .i64 x.1.k, .int .i64 x.1.n, .string x.1.t, .slice A1 n1 c1, .slice A2 n2 c2]) ∧
    JAt w' S x.1 (.agg #[.int .i64 x.1.k, .int .i64 x.1.n, .string x.1.t, .slice A1 n1 c1, .slice A2 n2 c2]) ∧
    (∀ b, S b → w.heap.size ≤ b ∧ b < w'.heap.size) ∧ RD w' R s x.2 ∧ w.grownBy w' (some R)
theorem VP.bare {s : ByteArray} {R : Nat} {w w' : World} {k n : Int} {t : ByteArray} {σ : PS} (h1 : RD w' R s σ) (h2 : w.grownBy w' (some R)) :
    VP s R w (.mk k n t [] [], σ) (.returned (.agg #[.int .i64 k, .int .i64 n, .string t, .slice none 0 0, .slice none 0 0])) w' :=
  ⟨none, 0, 0, none, 0, 0, fun _ => False, rfl, .bare k n t, fun _ h => h.elim, h1, h2⟩
end Go.Proofs.YtnnhkajjifmlfaaDoor

/-! (*reader).value of package json, whole, given many. -/

namespace Go.Proofs.YtnnhkajjifmlfaaDoor
open Go.RowKit Go.Maps

theorem put5_heap {w : World} {B b : Nat} (h : b ≠ B) (a0 a1 a2 a3 a4 : Value) : (put5 w B a0 a1 a2 a3 a4).heap[b]? = w.heap[b]? := by
  unfold put5
  rw [Below.heap_setCell _ _ _ _ h, Below.heap_setCell _ _ _ _ h, Below.heap_setCell _ _ _ _ h, Below.heap_setCell _ _ _ _ h, Below.heap_setCell _ _ _ _ h]
theorem put5_size (w : World) (B : Nat) (a0 a1 a2 a3 a4 : Value) : (put5 w B a0 a1 a2 a3 a4).heap.size = w.heap.size := by
  simp [put5, World.setCell]

end Go.Proofs.YtnnhkajjifmlfaaDoor

/-! What holds at each round's head of (*reader).many of package json, and what each step does to it. -/

namespace Go.Proofs.YtnnhkajjifmlfaaDoor
open Go.RowKit Go.Maps

structure MI (w wr : World) (s : ByteArray) (R : Nat) (τ : PS) (kind : Int) (names : List ByteArray) (list : List J) (nv lv : Value) : Prop where
  rl : R < w.heap.size
  rd : RD wr R s τ
  jb : JB wr (w.heap.size + 2) (.int .i64 kind) (.int .i64 0) (.string ⟨#[]⟩) nv lv
  bx : wr.heap[w.heap.size]? = some (.cells #[.pointer (some ⟨R, 0, none⟩)] 66 (0, 0))
  br : JB wr (w.heap.size + 1) (.int .i64 0) (.int .i64 0) (.string ⟨#[]⟩) (.slice none 0 0) (.slice none 0 0)
  hn : wr.ownsRow (w.heap.size + 3) 9 1 nv names.length (names.map Value.string)
  hl : ∃ xs S, wr.ownsRow (w.heap.size + 3) 26 5 lv list.length xs ∧ Flat wr S list xs ∧ ∀ b, S b → w.heap.size + 3 ≤ b ∧ b < wr.heap.size ∧ nv.ownBlock ≠ some b ∧ lv.ownBlock ≠ some b
  gb : w.grownBy wr (some R)

section
variable {w wr : World} {s : ByteArray} {R : Nat} {τ : PS} {kind : Int} {names : List ByteArray} {list : List J} {nv lv : Value}
theorem blk_kept {g : Nat} {o : Obj} {w' : World} {row : Option Nat} (h : wr.heap[g]? = some o) (hg : wr.grownBy w' row) (hne : some g ≠ row) : w'.heap[g]? = some o :=
  (hg.block g (Array.getElem?_eq_some_iff.1 h).1 hne).trans h
theorem MI.cells (h : MI w wr s R τ kind names list nv lv) : wr.cell? ⟨w.heap.size, 0, none⟩ = some (.pointer (some ⟨R, 0, none⟩)) := by
  rw [cell_of_row wr _ 0 _ _ _ h.bx]; rfl
/-- a call that turns the reader's block alone -/
theorem MI.same (h : MI w wr s R τ kind names list nv lv) {w' : World} {τ' : PS} (hR : RD w' R s τ') (hg : wr.grownBy w' (some R)) : MI w w' s R τ' kind names list nv lv := by
  have hl := h.rl
  obtain ⟨xs, S, h1, h2, h3⟩ := h.hl
  refine ⟨hl, hR, h.jb.kept hg (by simp; omega), blk_kept h.bx hg (by simp; omega), h.br.kept hg (by simp; omega), own_keptR h.hn hg (by omega), ⟨xs, S, own_keptR h1 hg (by omega), h2.keep (fun b hb => hg.block b (h3 b hb).2.1 (by have := (h3 b hb).1; simp; omega)) (fun _ => id), fun b hb => ⟨(h3 b hb).1, Nat.lt_of_lt_of_le (h3 b hb).2.1 hg.size, (h3 b hb).2.2⟩⟩, gb_trans h.gb hg⟩
theorem MI.drewN (h : MI w wr s R τ kind names list nv lv) (n : Nat) : MI w (wr.drewN n) s R τ kind names list nv lv := h.same (h.rd.drewN n) (gb_drewN (gb_refl _ _) n)
theorem MI.drew (h : MI w wr s R τ kind names list nv lv) : MI w wr.drew s R τ kind names list nv lv := h.same h.rd.drew (gb_drew (gb_refl _ _))
theorem own_ne {w : World} {b1 b2 e1 e2 z1 z2 n1 n2 : Nat} {v1 v2 : Value} {x1 x2 : List Value} (h1 : w.ownsRow b1 e1 z1 v1 n1 x1) (h2 : w.ownsRow b2 e2 z2 v2 n2 x2) (he : e1 ≠ e2) : v1.ownBlock = none ∨ v1.ownBlock ≠ v2.ownBlock := by
  rcases h1.2 with ⟨rfl, _⟩ | ⟨g, cap, cur, rfl, _, hh, _⟩
  · exact .inl rfl
  · refine .inr fun e => ?_
    rcases h2.2 with ⟨rfl, _⟩ | ⟨g', cap', cur', rfl, _, hh', _⟩
    · simp [Value.ownBlock] at e
    · simp only [Value.ownBlock, Option.some.injEq] at e
      subst e
      rw [hh] at hh'
      injection hh' with hh'
      injection hh' with _ ht
      exact he ht
/-- v.Names = append(v.Names, t): behind the store -/
theorem MI.name (h : MI w wr s R τ kind names list nv lv) {t : ByteArray} {o : Obj} {w2 : World} {g cap : Nat}
    (hown : w2.ownsRow (w.heap.size + 3) 9 1 (.slice (some ⟨g, 0, none⟩) (names.length + 1) cap) (names.length + 1) (names.map Value.string ++ [.string t])) (hg : (wr.alloc o).grownBy w2 nv.ownBlock) (hat : nv.ownBlock = some g ∨ g = wr.heap.size + 1) :
    MI w (w2.setCell ⟨w.heap.size + 2, 3, none⟩ (.slice (some ⟨g, 0, none⟩) (names.length + 1) cap)) s R τ kind (names ++ [t]) list (.slice (some ⟨g, 0, none⟩) (names.length + 1) cap) lv := by
  have hrl := h.rl
  obtain ⟨xs, S, h1, h2, h3⟩ := h.hl
  have hnlt := h.hn.lt
  have hllt := h1.lt
  have hne := own_ne h1 h.hn (by decide)
  have hblk : ∀ b, b < wr.heap.size → nv.ownBlock ≠ some b → w2.heap[b]? = wr.heap[b]? := fun b hb hne => (hg.block b (by simp; omega) (Ne.symm hne)).trans (Below.heap_alloc wr o b hb)
  have hno : ∀ b, b ≤ w.heap.size + 2 → nv.ownBlock ≠ some b := fun b hb e => by have := (hnlt b e).1; omega
  have hsz : wr.heap.size + 1 ≤ w2.heap.size := by have := hg.size; simpa using this
  have hgg : w.heap.size + 3 ≤ g := by
    rcases hat with e | e
    · exact (hnlt g e).1
    · have := h.jb.lt; omega
  have hglt : g ≠ w.heap.size + 2 := by omega
  refine ⟨hrl, ?_, ?_, ?_, ?_, ?_, ⟨xs, S, ?_, ?_, ?_⟩, ?_⟩
  · exact RD.far ((hblk R h.rd.lt (hno R (by omega))).trans h.rd) (q := ⟨w.heap.size + 2, 3, none⟩) (by simp; omega) _
  · have hj : JB w2 (w.heap.size + 2) (.int .i64 kind) (.int .i64 0) (.string ⟨#[]⟩) nv lv := (hblk _ h.jb.lt (hno _ (by omega))).trans h.jb
    unfold JB at hj ⊢
    simp [World.setCell, Array.getElem?_modify, hj]
  · rw [Below.heap_setCell _ _ _ _ (by simp)]
    exact (hblk _ (by have := h.jb.lt; omega) (hno _ (by omega))).trans h.bx
  · exact JB.far ((hblk _ h.br.lt (hno _ (by omega))).trans h.br) (q := ⟨w.heap.size + 2, 3, none⟩) (by simp) _
  · rw [List.length_append, List.map_append]
    exact ownsRow_setCell_below hown (by simp) _
  · refine ownsRow_setCell_below (h1.alloc o |>.kept hg ?_) (by simp) _
    rcases hne with e | e
    · exact .inl e
    · exact .inr e
  · refine h2.keep (fun b hb => ?_) (fun _ => id)
    rw [Below.heap_setCell _ _ _ _ (by have := (h3 b hb).1; simp; omega)]
    exact hblk b (h3 b hb).2.1 (h3 b hb).2.2.1
  · intro b hb
    obtain ⟨q1, q2, q3, q4⟩ := h3 b hb
    refine ⟨q1, by simp [World.setCell]; omega, ?_, q4⟩
    simp only [Value.ownBlock, ne_eq, Option.some.injEq]
    rintro rfl
    rcases hat with e | e
    · exact q3 e
    · omega
  · exact gb_set (g := R) (gb_more (gb_alloc h.gb o) hg (fun k hk => .inr (by have := (hnlt k hk).1; omega))) (.inr (by simp)) _
theorem MI.alloc (h : MI w wr s R τ kind names list nv lv) (o : Obj) : MI w (wr.alloc o) s R τ kind names list nv lv := h.same (h.rd.alloc o) (gb_alloc (gb_refl _ _) o)
theorem MI.far (h : MI w wr s R τ kind names list nv lv) {o : Obj} {w2 : World} {row : Option Nat} (hg : (wr.alloc o).grownBy w2 row) (hr : ∀ k, row = some k → w.heap.size + 3 ≤ k) :
    w2.cell? ⟨w.heap.size, 0, none⟩ = some (.pointer (some ⟨R, 0, none⟩)) ∧ JB w2 (w.heap.size + 2) (.int .i64 kind) (.int .i64 0) (.string ⟨#[]⟩) nv lv := by
  have ha := h.alloc o
  have hno : ∀ b, b ≤ w.heap.size + 2 → some b ≠ row := fun b hb e => by have := hr b e.symm; omega
  refine ⟨?_, ha.jb.kept hg (hno _ (by omega))⟩
  rw [cell_of_row w2 _ 0 _ _ _ (blk_kept ha.bx hg (hno _ (by omega)))]; rfl
/-- what has been gathered, as a value -/
theorem MI.val (h : MI w wr s R τ kind names list nv lv) : ∃ S : Nat → Prop, JAt wr S (.mk kind 0 ⟨#[]⟩ names list) (.agg #[.int .i64 kind, .int .i64 0, .string ⟨#[]⟩, nv, lv]) ∧ ∀ b, S b → w.heap.size + 3 ≤ b ∧ b < wr.heap.size := by
  obtain ⟨xs, S, h1, h2, h3⟩ := h.hl
  refine ⟨fun b => S b ∨ nv.ownBlock = some b ∨ lv.ownBlock = some b, JAt.of_own h.hn h1 h2 (fun _ => .inl) (fun g hg => .inr (.inl hg)) (fun g hg => .inr (.inr hg)), ?_⟩
  rintro b (hb | hb | hb)
  · exact ⟨(h3 b hb).1, (h3 b hb).2.1⟩
  · exact h.hn.lt b hb
  · exact h1.lt b hb
/-- at the start -/
theorem MI.start (w : World) (s : ByteArray) (R : Nat) (τ : PS) (kind : Int) (h : RD w R s τ) :
    MI w (((w.alloc (.cells #[.pointer (some ⟨R, 0, none⟩)] 66)).alloc (.cells #[.int .i64 0, .int .i64 0, .string ⟨#[]⟩, .slice none 0 0, .slice none 0 0] 26)).alloc (.cells #[.int .i64 kind, .int .i64 0, .string ⟨#[]⟩, .slice none 0 0, .slice none 0 0] 26)) s R τ kind [] [] (.slice none 0 0) (.slice none 0 0) := by
  refine ⟨h.lt, ((h.alloc _).alloc _).alloc _, ?_, ?_, ?_, World.ownsRow_nil _ _ _ _, ⟨[], fun _ => False, World.ownsRow_nil _ _ _ _, rfl, fun _ hb => hb.elim⟩, gb_alloc (gb_alloc (gb_alloc (gb_refl w _) _) _) _⟩
  · have := JB.new ((w.alloc (.cells #[.pointer (some ⟨R, 0, none⟩)] 66)).alloc (.cells #[.int .i64 0, .int .i64 0, .string ⟨#[]⟩, .slice none 0 0, .slice none 0 0] 26)) (.int .i64 kind) (.int .i64 0) (.string ⟨#[]⟩) (.slice none 0 0) (.slice none 0 0)
    simpa using this
  · rw [Below.heap_alloc _ _ _ (by simp; omega), Below.heap_alloc _ _ _ (by simp)]
    exact heap_alloc_new w _
  · refine JB.alloc ?_ _
    have := JB.new (w.alloc (.cells #[.pointer (some ⟨R, 0, none⟩)] 66)) (.int .i64 0) (.int .i64 0) (.string ⟨#[]⟩) (.slice none 0 0) (.slice none 0 0)
    simpa using this
end
end Go.Proofs.YtnnhkajjifmlfaaDoor

/-! (*reader).many of package json: the way that is nested too deep; the deferred closure. -/

namespace Go.Proofs.YtnnhkajjifmlfaaDoor
open Go.RowKit Go.Maps

end Go.Proofs.YtnnhkajjifmlfaaDoor

/-! (*reader).many of package json: a list, given value. -/

namespace Go.Proofs.YtnnhkajjifmlfaaDoor
open Go.RowKit Go.Maps
attribute [local go_sem ↓] Go.wp_at_zero Go.wp_at_succ
/-- behind the door: the value lies in the result's block, the depth is one less -/
theorem MI.done {w wr : World} {s : ByteArray} {R : Nat} {τ : PS} {kind : Int} {names : List ByteArray} {list : List J} {A1 A2 : Option Addr} {n1 c1 n2 c2 : Nat}
    (h : MI w wr s R τ kind names list (.slice A1 n1 c1) (.slice A2 n2 c2)) :
    VP s R w (outD (.mk kind 0 ⟨#[]⟩ names list, τ)) (.returned (.agg #[.int .i64 kind, .int .i64 0, .string ⟨#[]⟩, .slice A1 n1 c1, .slice A2 n2 c2]))
      ((put5 wr (w.heap.size + 1) (.int .i64 kind) (.int .i64 0) (.string ⟨#[]⟩) (.slice A1 n1 c1) (.slice A2 n2 c2)).setCell ⟨R, 4, none⟩ (.int .i64 (τ.d - 1))) := by
  obtain ⟨S, hj, hS⟩ := h.val
  have hl := h.rl
  refine ⟨A1, n1, c1, A2, n2, c2, S, rfl, hj.keep (fun b hb => ?_) (fun _ => id), fun b hb => ⟨by have := hS b hb; omega, ?_⟩, (h.rd.put5 (B := w.heap.size + 1) (by omega) _ _ _ _ _).set4 _, gb_setR (gb_put5 h.gb (by omega) _ _ _ _ _) _ _⟩
  · have := hS b hb
    rw [Below.heap_setCell _ _ _ _ (by simp; omega), put5_heap (by omega)]
  · have := hS b hb
    simp only [World.setCell, Array.size_modify]
    rw [put5_size]; exact this.2

end Go.Proofs.YtnnhkajjifmlfaaDoor

/-! (*reader).many of package json: a map, given value. -/

namespace Go.Proofs.YtnnhkajjifmlfaaDoor
open Go.RowKit Go.Maps
attribute [local go_sem ↓] Go.wp_at_zero Go.wp_at_succ

end Go.Proofs.YtnnhkajjifmlfaaDoor

/-! json.Parse: it computes parseS. -/

namespace Go.Proofs.YtnnhkajjifmlfaaDoor
open Go.RowKit Go.Maps

/-- a value in new memory -/
def RP (w : World) (x : J × Int × Int) (e : Ending) (w' : World) : Prop :=
  ∃ (A1 : Option Addr) (n1 c1 : Nat) (A2 : Option Addr) (n2 c2 : Nat) (S : Nat → Prop),
    e = .returned (.tuple #[.agg #[.int .i64 x.1.k, .int .i64 x.1.n, .string x.1.t, .slice A1 n1 c1, .slice A2 n2 c2], .int .i64 x.2.1, .int .i64 x.2.2]) ∧
    JAt w' S x.1 (.agg #[.int .i64 x.1.k, .int .i64 x.1.n, .string x.1.t, .slice A1 n1 c1, .slice A2 n2 c2]) ∧
    (∀ b, S b → w.heap.size ≤ b ∧ b < w'.heap.size) ∧ w.grownBy w' none

theorem RD.new {w : World} {n : Nat} (s : ByteArray) (hn : w.heap.size = n) : RD (w.alloc (.cells #[.string s, .int .i64 0, .int .i64 0, .int .i64 0, .int .i64 0] 68)) n s ⟨0, 0, 0, 0⟩ := by
  subst hn; exact heap_alloc_new w _
end Go.Proofs.YtnnhkajjifmlfaaDoor
