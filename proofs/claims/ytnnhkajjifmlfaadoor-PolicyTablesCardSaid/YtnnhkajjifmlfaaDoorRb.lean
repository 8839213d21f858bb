/- The reference's value and many: what they compute; what holds at each round's head of many. -/
import Derived.Test.YtnnhkajjifmlfaaDoorJb
import Derived.Test.YtnnhkajjifmlfaaDoorRa
/-! The reference's value and many: what they compute; what holds at each round's head of many. -/

namespace Go.Proofs.YtnnhkajjifmlfaaDoor
open Go.RowKit Go.Maps

/-- what a reader of values leaves: the value in new memory, the reader's block alone turned -/
def VQ (s : ByteArray) (R : Nat) (w : World) (x : J × QS) (e : Ending) (w' : World) : Prop :=
  ∃ (A1 : Option Addr) (n1 c1 : Nat) (A2 : Option Addr) (n2 c2 : Nat) (S : Nat → Prop),
    e = .returned (.agg #[.int .i64 x.1.k, .int .i64 x.1.n, .string x.1.t, .slice A1 n1 c1, .slice A2 n2 c2]) ∧
    JAt w' S x.1 (.agg #[.int .i64 x.1.k, .int .i64 x.1.n, .string x.1.t, .slice A1 n1 c1, .slice A2 n2 c2]) ∧
    (∀ b, S b → w.heap.size ≤ b ∧ b < w'.heap.size) ∧ RQ w' R s x.2 ∧ w.grownBy w' (some R)
theorem VQ.bare {s : ByteArray} {R : Nat} {w w' : World} {k n : Int} {t : ByteArray} {q : QS} (h1 : RQ w' R s q) (h2 : w.grownBy w' (some R)) :
    VQ s R w (.mk k n t [] [], q) (.returned (.agg #[.int .i64 k, .int .i64 n, .string t, .slice none 0 0, .slice none 0 0])) w' :=
  ⟨none, 0, 0, none, 0, 0, fun _ => False, rfl, .bare k n t, fun _ h => h.elim, h1, h2⟩
structure MQ (w wr : World) (s : ByteArray) (R : Nat) (τ : QS) (kind : Int) (names : List ByteArray) (list : List J) (nv lv : Value) : Prop where
  rl : R < w.heap.size
  rd : RQ wr R s τ
  jb : JB wr (w.heap.size) (.int .i64 kind) (.int .i64 0) (.string ⟨#[]⟩) nv lv
  br : JB wr (w.heap.size + 1) (.int .i64 0) (.int .i64 0) (.string ⟨#[]⟩) (.slice none 0 0) (.slice none 0 0)
  hn : wr.ownsRow (w.heap.size + 2) 9 1 nv names.length (names.map Value.string)
  hl : ∃ xs S, wr.ownsRow (w.heap.size + 2) 26 5 lv list.length xs ∧ Flat wr S list xs ∧ ∀ b, S b → w.heap.size + 2 ≤ b ∧ b < wr.heap.size ∧ nv.ownBlock ≠ some b ∧ lv.ownBlock ≠ some b
  gb : w.grownBy wr (some R)

section
variable {w wr : World} {s : ByteArray} {R : Nat} {τ : QS} {kind : Int} {names : List ByteArray} {list : List J} {nv lv : Value}
/-- a call that turns the reader's block alone -/
theorem MQ.same (h : MQ w wr s R τ kind names list nv lv) {w' : World} {τ' : QS} (hR : RQ w' R s τ') (hg : wr.grownBy w' (some R)) : MQ w w' s R τ' kind names list nv lv := by
  have hl := h.rl
  obtain ⟨xs, S, h1, h2, h3⟩ := h.hl
  refine ⟨hl, hR, h.jb.kept hg (by simp; omega), h.br.kept hg (by simp; omega), own_keptR h.hn hg (by omega), ⟨xs, S, own_keptR h1 hg (by omega), h2.keep (fun b hb => hg.block b (h3 b hb).2.1 (by have := (h3 b hb).1; simp; omega)) (fun _ => id), fun b hb => ⟨(h3 b hb).1, Nat.lt_of_lt_of_le (h3 b hb).2.1 hg.size, (h3 b hb).2.2⟩⟩, gb_trans h.gb hg⟩
theorem MQ.drewN (h : MQ w wr s R τ kind names list nv lv) (n : Nat) : MQ w (wr.drewN n) s R τ kind names list nv lv := h.same (h.rd.drewN n) (gb_drewN (gb_refl _ _) n)
theorem MQ.drew (h : MQ w wr s R τ kind names list nv lv) : MQ w wr.drew s R τ kind names list nv lv := h.same h.rd.drew (gb_drew (gb_refl _ _))
/-- v.Names = append(v.Names, t): behind the store -/
theorem MQ.name (h : MQ w wr s R τ kind names list nv lv) {t : ByteArray} {o : Obj} {w2 : World} {g cap : Nat}
    (hown : w2.ownsRow (w.heap.size + 2) 9 1 (.slice (some ⟨g, 0, none⟩) (names.length + 1) cap) (names.length + 1) (names.map Value.string ++ [.string t])) (hg : (wr.alloc o).grownBy w2 nv.ownBlock) (hat : nv.ownBlock = some g ∨ g = wr.heap.size + 1) :
    MQ w (w2.setCell ⟨w.heap.size, 3, none⟩ (.slice (some ⟨g, 0, none⟩) (names.length + 1) cap)) s R τ kind (names ++ [t]) list (.slice (some ⟨g, 0, none⟩) (names.length + 1) cap) lv := by
  have hrl := h.rl
  obtain ⟨xs, S, h1, h2, h3⟩ := h.hl
  have hnlt := h.hn.lt
  have hllt := h1.lt
  have hne := own_ne h1 h.hn (by decide)
  have hblk : ∀ b, b < wr.heap.size → nv.ownBlock ≠ some b → w2.heap[b]? = wr.heap[b]? := fun b hb hne => (hg.block b (by simp; omega) (Ne.symm hne)).trans (Below.heap_alloc wr o b hb)
  have hno : ∀ b, b ≤ w.heap.size → nv.ownBlock ≠ some b := fun b hb e => by have := (hnlt b e).1; omega
  have hno1 : nv.ownBlock ≠ some (w.heap.size + 1) := fun e => by have := (hnlt _ e).1; omega
  have hsz : wr.heap.size + 1 ≤ w2.heap.size := by have := hg.size; simpa using this
  have hgg : w.heap.size + 2 ≤ g := by
    rcases hat with e | e
    · exact (hnlt g e).1
    · have := h.jb.lt; omega
  have hglt : g ≠ w.heap.size := by omega
  refine ⟨hrl, ?_, ?_, ?_, ?_, ⟨xs, S, ?_, ?_, ?_⟩, ?_⟩
  · exact RQ.far ((hblk R h.rd.lt (hno R (by omega))).trans h.rd) (a := ⟨w.heap.size, 3, none⟩) (by simp; omega) _
  · have hj : JB w2 (w.heap.size) (.int .i64 kind) (.int .i64 0) (.string ⟨#[]⟩) nv lv := (hblk _ h.jb.lt (hno _ (by omega))).trans h.jb
    unfold JB at hj ⊢
    simp [World.setCell, Array.getElem?_modify, hj]
  · exact JB.far ((hblk _ h.br.lt (hno1)).trans h.br) (q := ⟨w.heap.size, 3, none⟩) (by simp) _
  · rw [List.length_append, List.map_append]
    exact ownsRow_setCell_below hown (by simp) _
  · refine ownsRow_setCell_below (h1.alloc o |>.kept hg ?_) (by simp) _
    rcases hne with e | e
    · exact .inl e
    · exact .inr e
  · refine h2.keep (fun b hb => ?_) (fun _ => id)
    rw [Below.heap_setCell _ _ _ _ (by have := (h3 b hb).1; simp; omega)]
    exact hblk b (h3 b hb).2.1 (h3 b hb).2.2.1
  · intro b hb
    obtain ⟨q1, q2, q3, q4⟩ := h3 b hb
    refine ⟨q1, by simp [World.setCell]; omega, ?_, q4⟩
    simp only [Value.ownBlock, ne_eq, Option.some.injEq]
    rintro rfl
    rcases hat with e | e
    · exact q3 e
    · omega
  · exact gb_set (g := R) (gb_more (gb_alloc h.gb o) hg (fun k hk => .inr (by have := (hnlt k hk).1; omega))) (.inr (by simp)) _
theorem MQ.alloc (h : MQ w wr s R τ kind names list nv lv) (o : Obj) : MQ w (wr.alloc o) s R τ kind names list nv lv := h.same (h.rd.alloc o) (gb_alloc (gb_refl _ _) o)
/-- what has been gathered, as a value -/
theorem MQ.val (h : MQ w wr s R τ kind names list nv lv) : ∃ S : Nat → Prop, JAt wr S (.mk kind 0 ⟨#[]⟩ names list) (.agg #[.int .i64 kind, .int .i64 0, .string ⟨#[]⟩, nv, lv]) ∧ ∀ b, S b → w.heap.size + 2 ≤ b ∧ b < wr.heap.size := by
  obtain ⟨xs, S, h1, h2, h3⟩ := h.hl
  refine ⟨fun b => S b ∨ nv.ownBlock = some b ∨ lv.ownBlock = some b, JAt.of_own h.hn h1 h2 (fun _ => .inl) (fun g hg => .inr (.inl hg)) (fun g hg => .inr (.inr hg)), ?_⟩
  rintro b (hb | hb | hb)
  · exact ⟨(h3 b hb).1, (h3 b hb).2.1⟩
  · exact h.hn.lt b hb
  · exact h1.lt b hb
/-- at the start -/
theorem MQ.start (w : World) (s : ByteArray) (R : Nat) (τ : QS) (kind : Int) (h : RQ w R s τ) :
    MQ w ((w.alloc (.cells #[.int .i64 kind, .int .i64 0, .string ⟨#[]⟩, .slice none 0 0, .slice none 0 0] 26)).alloc (.cells #[.int .i64 0, .int .i64 0, .string ⟨#[]⟩, .slice none 0 0, .slice none 0 0] 26)) s R τ kind [] [] (.slice none 0 0) (.slice none 0 0) := by
  refine ⟨h.lt, (h.alloc _).alloc _, ?_, ?_, World.ownsRow_nil _ _ _ _, ⟨[], fun _ => False, World.ownsRow_nil _ _ _ _, rfl, fun _ hb => hb.elim⟩, gb_alloc (gb_alloc (gb_refl w _) _) _⟩
  · exact JB.alloc (JB.new w (.int .i64 kind) (.int .i64 0) (.string ⟨#[]⟩) (.slice none 0 0) (.slice none 0 0)) _
  · have := JB.new (w.alloc (.cells #[.int .i64 kind, .int .i64 0, .string ⟨#[]⟩, .slice none 0 0, .slice none 0 0] 26)) (.int .i64 0) (.int .i64 0) (.string ⟨#[]⟩) (.slice none 0 0) (.slice none 0 0)
    simpa using this
end
end Go.Proofs.YtnnhkajjifmlfaaDoor

/-! The reference's reader goes on, within the text. -/

namespace Go.Proofs.YtnnhkajjifmlfaaDoor
open Go.RowKit Go.Maps

structure QGo (s : ByteArray) (q r : QS) : Prop where
  ge : q.p ≤ r.p
  le : r.p ≤ s.size
  er : 0 ≤ q.bad → 0 ≤ r.bad
section
variable {s : ByteArray} {q r t : QS}
theorem QGo.refl (h : q.p ≤ s.size) : QGo s q q := ⟨Nat.le_refl _, h, id⟩
theorem QGo.trans (h : QGo s q r) (k : QGo s r t) : QGo s q t := ⟨Nat.le_trans h.ge k.ge, k.le, fun e => k.er (h.er e)⟩
end
end Go.Proofs.YtnnhkajjifmlfaaDoor

/-! The reference's value: one walk for each way through its switch. -/

namespace Go.Proofs.YtnnhkajjifmlfaaDoor
open Go.RowKit Go.Maps

section
variable {w : World} {B : Nat} {a0 a1 a2 a3 a4 : Value}
end
/-- within the reference's value: the reader's block R, v's block B, the result's block -/
structure VI (w wr : World) (s : ByteArray) (R : Nat) (q : QS) (B : Nat) (a0 a1 a2 a3 a4 : Value) : Prop where
  rl : R < w.heap.size
  rd : RQ wr R s q
  jb : JB wr B a0 a1 a2 a3 a4
  br : JB wr w.heap.size (.int .i64 0) (.int .i64 0) (.string ⟨#[]⟩) (.slice none 0 0) (.slice none 0 0)
  bl : w.heap.size < B
  gb : w.grownBy wr (some R)
section
variable {w wr : World} {s : ByteArray} {R : Nat} {q r : QS} {B : Nat} {a0 a1 a2 a3 a4 : Value}
theorem VI.same (h : VI w wr s R q B a0 a1 a2 a3 a4) {w' : World} (hR : RQ w' R s r) (hg : wr.grownBy w' (some R)) : VI w w' s R r B a0 a1 a2 a3 a4 := by
  have h1 := h.rl; have h2 := h.bl
  exact ⟨h1, hR, h.jb.kept hg (by simp; omega), h.br.kept hg (by simp; omega), h2, gb_trans h.gb hg⟩
theorem VI.drewN (h : VI w wr s R q B a0 a1 a2 a3 a4) (n : Nat) : VI w (wr.drewN n) s R q B a0 a1 a2 a3 a4 := h.same (h.rd.drewN n) (gb_drewN (gb_refl _ _) n)
theorem JB.put5far {x0 x1 x2 x3 x4 : Value} {C : Nat} (h : JB w C x0 x1 x2 x3 x4) (hne : C ≠ B) : JB (YtnnhkajjifmlfaaDoor.put5 w B a0 a1 a2 a3 a4) C x0 x1 x2 x3 x4 := by
  unfold JB at h ⊢; rw [put5_heap hne]; exact h
theorem VI.put5 (h : VI w wr s R q B a0 a1 a2 a3 a4) (x0 x1 x2 x3 x4 : Value) : VI w (YtnnhkajjifmlfaaDoor.put5 wr B x0 x1 x2 x3 x4) s R q B x0 x1 x2 x3 x4 := by
  have h1 := h.rl; have h2 := h.bl
  exact ⟨h1, h.rd.put5 (by omega) _ _ _ _ _, h.jb.put5 _ _ _ _ _, h.br.put5far (by omega), h2, gb_put5 h.gb (by omega) _ _ _ _ _⟩
theorem VI.start {w1 : World} (hl : R < w.heap.size) (hR1 : RQ w1 R s r) (hg1 : (w.alloc (.cells #[.int .i64 0, .int .i64 0, .string ⟨#[]⟩, .slice none 0 0, .slice none 0 0] 26)).grownBy w1 (some R)) :
    VI w (w1.alloc (.cells #[.int .i64 0, .int .i64 0, .string ⟨#[]⟩, .slice none 0 0, .slice none 0 0] 26)) s R r w1.heap.size (.int .i64 0) (.int .i64 0) (.string ⟨#[]⟩) (.slice none 0 0) (.slice none 0 0) := by
  have hs := hg1.size
  simp only [World.size_alloc] at hs
  have hb := (JB.new w (.int .i64 0) (.int .i64 0) (.string ⟨#[]⟩) (.slice none 0 0) (.slice none 0 0)).kept hg1 (by simp; omega)
  exact ⟨hl, hR1.alloc _, JB.new w1 _ _ _ _ _, hb.alloc _, by omega, gb_alloc (gb_trans (gb_alloc (gb_refl w _) _) hg1) _⟩
theorem VI.done {k n : Int} {t : ByteArray} (h : VI w wr s R q B (.int .i64 k) (.int .i64 n) (.string t) (.slice none 0 0) (.slice none 0 0)) :
    VQ s R w (.mk k n t [] [], q) (.returned (.agg #[.int .i64 k, .int .i64 n, .string t, .slice none 0 0, .slice none 0 0])) (YtnnhkajjifmlfaaDoor.put5 wr w.heap.size (.int .i64 k) (.int .i64 n) (.string t) (.slice none 0 0) (.slice none 0 0)) := by
  have h1 := h.rl
  exact VQ.bare (h.rd.put5 (by omega) _ _ _ _ _) (gb_put5 h.gb (Nat.le_refl _) _ _ _ _ _)
theorem VQ.put {x0 x1 x2 x3 x4 : Value} {w2 w3 w5 : World} {j : J} {r3 : QS} {A1 A2 : Option Addr} {m1 d1 m2 d2 : Nat} {S : Nat → Prop} (h3 : VI w w2 s R q B a0 a1 a2 a3 a4)
    (hj : JAt w3 S j (.agg #[.int .i64 j.k, .int .i64 j.n, .string j.t, .slice A1 m1 d1, .slice A2 m2 d2])) (hS : ∀ b, S b → w2.heap.size ≤ b ∧ b < w3.heap.size)
    (h5 : VI w w5 s R r3 B x0 x1 x2 x3 x4) (hg5 : (YtnnhkajjifmlfaaDoor.put5 w3 B (.int .i64 j.k) (.int .i64 j.n) (.string j.t) (.slice A1 m1 d1) (.slice A2 m2 d2)).grownBy w5 (some R)) :
    VQ s R w (j, r3) (.returned (.agg #[.int .i64 j.k, .int .i64 j.n, .string j.t, .slice A1 m1 d1, .slice A2 m2 d2])) (YtnnhkajjifmlfaaDoor.put5 w5 w.heap.size (.int .i64 j.k) (.int .i64 j.n) (.string j.t) (.slice A1 m1 d1) (.slice A2 m2 d2)) := by
  have h1 := h3.rl
  have h2 := h3.bl
  have h4 := h3.jb.lt
  have hs5 := hg5.size
  rw [put5_size] at hs5
  refine ⟨A1, m1, d1, A2, m2, d2, S, rfl, hj.keep (fun b hb => ?_) (fun _ => id), fun b hb => ?_, h5.rd.put5 (by omega) _ _ _ _ _, gb_put5 h5.gb (Nat.le_refl _) _ _ _ _ _⟩
  · have := hS b hb
    rw [put5_heap (by omega), hg5.block b (by rw [put5_size]; omega) (by simp; omega), put5_heap (by omega)]
  · have := hS b hb
    rw [put5_size]; omega
end
end Go.Proofs.YtnnhkajjifmlfaaDoor

/-! The reference's value whole, given many; many nested too deep. -/

namespace Go.Proofs.YtnnhkajjifmlfaaDoor
open Go.RowKit Go.Maps

/-- what many leaves: v in the result's block -/
theorem MQ.done {w wr : World} {s : ByteArray} {R : Nat} {τ : QS} {kind : Int} {names : List ByteArray} {list : List J} {A1 A2 : Option Addr} {n1 c1 n2 c2 : Nat}
    (h : MQ w wr s R τ kind names list (.slice A1 n1 c1) (.slice A2 n2 c2)) :
    VQ s R w (.mk kind 0 ⟨#[]⟩ names list, τ) (.returned (.agg #[.int .i64 kind, .int .i64 0, .string ⟨#[]⟩, .slice A1 n1 c1, .slice A2 n2 c2]))
      (put5 wr (w.heap.size + 1) (.int .i64 kind) (.int .i64 0) (.string ⟨#[]⟩) (.slice A1 n1 c1) (.slice A2 n2 c2)) := by
  obtain ⟨S, hj, hS⟩ := h.val
  have hl := h.rl
  refine ⟨A1, n1, c1, A2, n2, c2, S, rfl, hj.keep (fun b hb => ?_) (fun _ => id), fun b hb => ⟨by have := hS b hb; omega, ?_⟩, h.rd.put5 (B := w.heap.size + 1) (by omega) _ _ _ _ _, gb_put5 h.gb (by omega) _ _ _ _ _⟩
  · have := hS b hb
    rw [put5_heap (by omega)]
  · have := hS b hb
    rw [put5_size]; exact this.2

end Go.Proofs.YtnnhkajjifmlfaaDoor

/-! The reference's many: a list, given value. -/

namespace Go.Proofs.YtnnhkajjifmlfaaDoor
open Go.RowKit Go.Maps
attribute [local go_sem ↓] Go.wp_at_zero Go.wp_at_succ

end Go.Proofs.YtnnhkajjifmlfaaDoor

/-! The reference's many: a map, given value. -/

namespace Go.Proofs.YtnnhkajjifmlfaaDoor
open Go.RowKit Go.Maps
attribute [local go_sem ↓] Go.wp_at_zero Go.wp_at_succ

end Go.Proofs.YtnnhkajjifmlfaaDoor

/-! The reference's Parse: it computes parseQ. -/

namespace Go.Proofs.YtnnhkajjifmlfaaDoor
open Go.RowKit Go.Maps

theorem RQ.new {w : World} {n : Nat} (s : ByteArray) (hn : w.heap.size = n) : RQ (w.alloc (.cells #[.string s, .int .i64 0, .int .i64 (-1), .int .i64 0] 72)) n s ⟨0, -1, 0⟩ := by
  subst hn; exact heap_alloc_new w _

end Go.Proofs.YtnnhkajjifmlfaaDoor
