/- HTTP: the reader's block; contracts of the library in the walks' words. -/
import Derived.Test.YtdfgnoflohfnmaaGreatDoorH8
import Derived.Test.YtdfgnoflohfnmaaGreatDoorQS
namespace Go.Proofs.YtdfgnoflohfnmaaGreatDoor.Hx
open Go.RowKit Go.Maps

/-- what the reader has, its bytes aside -/
structure RS where
  i : Nat
  m : ByteArray
  p : ByteArray
  qv : Value
  cl : Bool
  bv : Value
  h : Int
  l : Int
  st : Int
  wh : Bool
/-- the reader's block -/
def RB (w : World) (R : Nat) (bw : Value) (σ : RS) : Prop :=
  w.heap[R]? = some (.cells #[bw, .int .i64 (σ.i : Nat), .string σ.m, .string σ.p, σ.qv, .bool σ.cl, σ.bv, .int .i64 σ.h, .int .i64 σ.l, .int .i64 σ.st, .bool σ.wh] 65 (0, 0))
section
variable {w w' : World} {R : Nat} {bw : Value} {σ : RS}
theorem RB.lt (h : RB w R bw σ) : R < w.heap.size := (Array.getElem?_eq_some_iff.1 h).1
theorem RB.c0 (h : RB w R bw σ) : w.cell? ⟨R, 0, none⟩ = some bw := by rw [cell_of_row w R 0 _ _ _ h]; rfl
theorem RB.c1 (h : RB w R bw σ) : w.cell? ⟨R, 1, none⟩ = some (.int .i64 (σ.i : Nat)) := by rw [cell_of_row w R 1 _ _ _ h]; rfl
theorem RB.c2 (h : RB w R bw σ) : w.cell? ⟨R, 2, none⟩ = some (.string σ.m) := by rw [cell_of_row w R 2 _ _ _ h]; rfl
theorem RB.c3 (h : RB w R bw σ) : w.cell? ⟨R, 3, none⟩ = some (.string σ.p) := by rw [cell_of_row w R 3 _ _ _ h]; rfl
theorem RB.c4 (h : RB w R bw σ) : w.cell? ⟨R, 4, none⟩ = some (σ.qv) := by rw [cell_of_row w R 4 _ _ _ h]; rfl
theorem RB.c5 (h : RB w R bw σ) : w.cell? ⟨R, 5, none⟩ = some (.bool σ.cl) := by rw [cell_of_row w R 5 _ _ _ h]; rfl
theorem RB.c6 (h : RB w R bw σ) : w.cell? ⟨R, 6, none⟩ = some (σ.bv) := by rw [cell_of_row w R 6 _ _ _ h]; rfl
theorem RB.c7 (h : RB w R bw σ) : w.cell? ⟨R, 7, none⟩ = some (.int .i64 σ.h) := by rw [cell_of_row w R 7 _ _ _ h]; rfl
theorem RB.c8 (h : RB w R bw σ) : w.cell? ⟨R, 8, none⟩ = some (.int .i64 σ.l) := by rw [cell_of_row w R 8 _ _ _ h]; rfl
theorem RB.c9 (h : RB w R bw σ) : w.cell? ⟨R, 9, none⟩ = some (.int .i64 σ.st) := by rw [cell_of_row w R 9 _ _ _ h]; rfl
theorem RB.c10 (h : RB w R bw σ) : w.cell? ⟨R, 10, none⟩ = some (.bool σ.wh) := by rw [cell_of_row w R 10 _ _ _ h]; rfl
theorem RB.f (h : RB w R bw σ) (i : Nat) : w.frozen? ⟨R, i, none⟩ = false := by unfold RB at h; simp [World.frozen?, h]
theorem RB.set1 (h : RB w R bw σ) (q : Nat) : RB (w.setCell ⟨R, 1, none⟩ (.int .i64 (q : Nat))) R bw { σ with i := q } := by
  unfold RB at h ⊢; simp [World.setCell, Array.getElem?_modify, h]
theorem RB.set2 (h : RB w R bw σ) (q : ByteArray) : RB (w.setCell ⟨R, 2, none⟩ (.string q)) R bw { σ with m := q } := by
  unfold RB at h ⊢; simp [World.setCell, Array.getElem?_modify, h]
theorem RB.set3 (h : RB w R bw σ) (q : ByteArray) : RB (w.setCell ⟨R, 3, none⟩ (.string q)) R bw { σ with p := q } := by
  unfold RB at h ⊢; simp [World.setCell, Array.getElem?_modify, h]
theorem RB.set4 (h : RB w R bw σ) (q : Value) : RB (w.setCell ⟨R, 4, none⟩ (q)) R bw { σ with qv := q } := by
  unfold RB at h ⊢; simp [World.setCell, Array.getElem?_modify, h]
theorem RB.set5 (h : RB w R bw σ) (q : Bool) : RB (w.setCell ⟨R, 5, none⟩ (.bool q)) R bw { σ with cl := q } := by
  unfold RB at h ⊢; simp [World.setCell, Array.getElem?_modify, h]
theorem RB.set6 (h : RB w R bw σ) (q : Value) : RB (w.setCell ⟨R, 6, none⟩ (q)) R bw { σ with bv := q } := by
  unfold RB at h ⊢; simp [World.setCell, Array.getElem?_modify, h]
theorem RB.set7 (h : RB w R bw σ) (q : Int) : RB (w.setCell ⟨R, 7, none⟩ (.int .i64 q)) R bw { σ with h := q } := by
  unfold RB at h ⊢; simp [World.setCell, Array.getElem?_modify, h]
theorem RB.set8 (h : RB w R bw σ) (q : Int) : RB (w.setCell ⟨R, 8, none⟩ (.int .i64 q)) R bw { σ with l := q } := by
  unfold RB at h ⊢; simp [World.setCell, Array.getElem?_modify, h]
theorem RB.set9 (h : RB w R bw σ) (q : Int) : RB (w.setCell ⟨R, 9, none⟩ (.int .i64 q)) R bw { σ with st := q } := by
  unfold RB at h ⊢; simp [World.setCell, Array.getElem?_modify, h]
theorem RB.set10 (h : RB w R bw σ) (q : Bool) : RB (w.setCell ⟨R, 10, none⟩ (.bool q)) R bw { σ with wh := q } := by
  unfold RB at h ⊢; simp [World.setCell, Array.getElem?_modify, h]
theorem RB.drewN (h : RB w R bw σ) (n : Nat) : RB (w.drewN n) R bw σ := h
theorem RB.kept (h : RB w R bw σ) {row : Option Nat} (hg : w.grownBy w' row) (hne : some R ≠ row) : RB w' R bw σ := (hg.block R h.lt hne).trans h
theorem RB.alloc (h : RB w R bw σ) (o : Obj) : RB (w.alloc o) R bw σ := (Below.heap_alloc w o R h.lt).trans h
end
/-- the bytes that the reader reads lie elsewhere -/
def RV (w : World) (R : Nat) (bw : Value) (bs : Bs) : Prop := (bw = .slice none 0 0 ∧ bs = []) ∨ ∃ b o c, bw = .slice (some ⟨b, o, none⟩) bs.length c ∧ bs.length ≤ c ∧ b ≠ R ∧ BA w b o bs
theorem RV.grown {w w' : World} {R : Nat} {bw : Value} {bs : Bs} {row : Option Nat} (h : RV w R bw bs) (hg : w.grownBy w' row) (hr : row = none ∨ row = some R) : RV w' R bw bs := by
  rcases h with h | ⟨b, o, c, e, hc, hb, ha⟩
  · exact .inl h
  · refine .inr ⟨b, o, c, e, hc, hb, ha.grown hg ?_⟩
    rcases hr with rfl | rfl
    · simp
    · simpa using hb
/-- the machine's own number (bytealg.MaxLen) -/
abbrev MX (w : World) (m : Int) : Prop := w.cell? ⟨0, 0, none⟩ = some (.int .i64 m)
theorem MX.grown {w w' : World} {m : Int} {row : Option Nat} (h : MX w m) (hg : w.grownBy w' row) (hr : some 0 ≠ row) : MX w' m := cell_grown h hg hr
/-- what a method of the reader leaves -/
abbrev QS1 (R : Nat) (bw : Value) (w : World) (v : Value) (τ : RS) (e : Ending) (w' : World) : Prop :=
  e = .returned v ∧ RB w' R bw τ ∧ w.grownBy w' (some R)
theorem wrong_any (R : Nat) (bw : Value) (a : Int) (σ : RS) (w : World) (h : RB w R bw σ) :
    Calls Tryz.prog 66 #[.pointer (some ⟨R, 0, none⟩), .int .i64 a] w (QS1 R bw w .nilFunc { σ with st := a }) := by
  have c9 := h.c9
  have f9 := h.f 9
  go_enter Tryz.func66, Tryz.ntmps66
  go_wp2_with fail
  go_ret
  exact ⟨rfl, h.set9 a, gb_setR (gb_refl _ _) _ _⟩
end Go.Proofs.YtdfgnoflohfnmaaGreatDoor.Hx
