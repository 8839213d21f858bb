/- Words for the proofs over package json: the reader's block, and the plain functions that the reader's methods compute. -/
import Derived.Test.YtnnhkajjifmlfaaDoorProg
import Derived.KernelRfl
import Derived.WalkKit
import Derived.Deep.Draws
namespace Go.Proofs.YtnnhkajjifmlfaaDoor
open Go.RowKit

/-- the reader's state: place, error, the fault's place, depth -/
structure PS where
  p : Nat
  e : Int
  bad : Int
  d : Int

def RD (w : World) (R : Nat) (s : ByteArray) (σ : PS) : Prop :=
  w.heap[R]? = some (.cells #[.string s, .int .i64 σ.p, .int .i64 σ.e, .int .i64 σ.bad, .int .i64 σ.d] 68 (0, 0))

section
variable {w w' : World} {R : Nat} {s : ByteArray} {σ : PS}
theorem RD.lt (h : RD w R s σ) : R < w.heap.size := (Array.getElem?_eq_some_iff.1 h).1
theorem RD.c0 (h : RD w R s σ) : w.cell? ⟨R, 0, none⟩ = some (.string s) := by rw [cell_of_row w R 0 _ _ _ h]; rfl
theorem RD.c1 (h : RD w R s σ) : w.cell? ⟨R, 1, none⟩ = some (.int .i64 σ.p) := by rw [cell_of_row w R 1 _ _ _ h]; rfl
theorem RD.c2 (h : RD w R s σ) : w.cell? ⟨R, 2, none⟩ = some (.int .i64 σ.e) := by rw [cell_of_row w R 2 _ _ _ h]; rfl
theorem RD.c3 (h : RD w R s σ) : w.cell? ⟨R, 3, none⟩ = some (.int .i64 σ.bad) := by rw [cell_of_row w R 3 _ _ _ h]; rfl
theorem RD.c4 (h : RD w R s σ) : w.cell? ⟨R, 4, none⟩ = some (.int .i64 σ.d) := by rw [cell_of_row w R 4 _ _ _ h]; rfl
theorem RD.f (h : RD w R s σ) (i : Nat) : w.frozen? ⟨R, i, none⟩ = false := by
  unfold RD at h; simp [World.frozen?, h]
theorem RD.set1 (h : RD w R s σ) (q : Nat) : RD (w.setCell ⟨R, 1, none⟩ (.int .i64 q)) R s { σ with p := q } := by
  unfold RD at h ⊢; simp [World.setCell, Array.getElem?_modify, h]
theorem RD.set2 (h : RD w R s σ) (q : Int) : RD (w.setCell ⟨R, 2, none⟩ (.int .i64 q)) R s { σ with e := q } := by
  unfold RD at h ⊢; simp [World.setCell, Array.getElem?_modify, h]
theorem RD.set3 (h : RD w R s σ) (q : Int) : RD (w.setCell ⟨R, 3, none⟩ (.int .i64 q)) R s { σ with bad := q } := by
  unfold RD at h ⊢; simp [World.setCell, Array.getElem?_modify, h]
theorem RD.set4 (h : RD w R s σ) (q : Int) : RD (w.setCell ⟨R, 4, none⟩ (.int .i64 q)) R s { σ with d := q } := by
  unfold RD at h ⊢; simp [World.setCell, Array.getElem?_modify, h]
theorem RD.alloc (h : RD w R s σ) (o : Obj) : RD (w.alloc o) R s σ := (Below.heap_alloc w o R h.lt).trans h
theorem RD.drewN (h : RD w R s σ) (n : Nat) : RD (w.drewN n) R s σ := h
theorem RD.drew (h : RD w R s σ) : RD w.drew R s σ := h
theorem RD.far (h : RD w R s σ) {q : Addr} (hq : R ≠ q.block) (u : Value) : RD (w.setCell q u) R s σ := (Below.heap_setCell w q u R hq).trans h
theorem RD.kept (h : RD w R s σ) {row : Option Nat} (hg : w.grownBy w' row) (hne : some R ≠ row) : RD w' R s σ := (hg.block R h.lt hne).trans h
end

/-! frames: 'grownBy' of at most one row, step by step -/
section
variable {a b w w' : World} {row : Option Nat}
theorem gb_refl (w : World) (row : Option Nat) : w.grownBy w row := ⟨rfl, rfl, rfl, Nat.le_refl _, fun _ _ _ => rfl⟩
theorem gb_trans (h : a.grownBy b row) (k : b.grownBy w row) : a.grownBy w row :=
  ⟨k.os.trans h.os, k.tape.trans h.tape, k.output.trans h.output, Nat.le_trans h.size k.size, fun i hi hn => (k.block i (Nat.lt_of_lt_of_le hi h.size) hn).trans (h.block i hi hn)⟩
theorem gb_drewN (h : a.grownBy w row) (n : Nat) : a.grownBy (w.drewN n) row := ⟨h.os, h.tape, h.output, h.size, h.block⟩
theorem gb_drew (h : a.grownBy w row) : a.grownBy w.drew row := ⟨h.os, h.tape, h.output, h.size, h.block⟩
theorem gb_alloc (h : a.grownBy w row) (o : Obj) : a.grownBy (w.alloc o) row :=
  ⟨h.os, h.tape, h.output, Nat.le_trans h.size (by simp), fun i hi hne => (Below.heap_alloc w o i (Nat.lt_of_lt_of_le hi h.size)).trans (h.block i hi hne)⟩
theorem gb_set {g : Nat} (h : a.grownBy w (some g)) {p : Addr} (hp : p.block = g ∨ a.heap.size ≤ p.block) (u : Value) : a.grownBy (w.setCell p u) (some g) :=
  ⟨h.os, h.tape, h.output, by simpa [World.setCell] using h.size, fun i hi hne => (Below.heap_setCell w p u i (by
    rintro rfl
    rcases hp with hp | hp
    · exact hne (by rw [hp])
    · omega)).trans (h.block i hi hne)⟩
theorem gb_setR {R : Nat} (h : a.grownBy w (some R)) (i : Nat) (u : Value) : a.grownBy (w.setCell ⟨R, i, none⟩ u) (some R) := gb_set (p := ⟨R, i, none⟩) h (.inl rfl) u
/-- a step that turns a row of its own, made since, or the same row -/
theorem gb_more {row' : Option Nat} (h : a.grownBy w row) (k : w.grownBy w' row') (hr : ∀ g, row' = some g → some g = row ∨ a.heap.size ≤ g) : a.grownBy w' row :=
  ⟨k.os.trans h.os, k.tape.trans h.tape, k.output.trans h.output, Nat.le_trans h.size k.size, fun i hi hn => (k.block i (Nat.lt_of_lt_of_le hi h.size) (by
    intro e
    rcases hr i e.symm with h1 | h1
    · exact hn h1
    · omega)).trans (h.block i hi hn)⟩
theorem gb_below (h : Below a.heap.size a w) (row : Option Nat) : a.grownBy w row := ⟨h.os, h.tape, h.output, h.size, fun i hi _ => h.block i hi⟩
theorem below_gb {B : Nat} (h : a.grownBy w row) (hB : B ≤ a.heap.size) (hr : ∀ g, row = some g → B ≤ g) : Below B a w :=
  ⟨h.os, h.tape, h.output, h.size, fun k hk => h.block k (by omega) (fun e => by have := hr k e.symm; omega)⟩
end

/-! what the reader's methods compute -/
def chr (s : ByteArray) (i : Nat) : Nat := if h : i < s.size then s[i].toNat else 0
theorem chr_lt (s : ByteArray) (i : Nat) : chr s i < 256 := by
  unfold chr; split
  · exact UInt8.toNat_lt _
  · omega
theorem chr_in {s : ByteArray} {i : Nat} (h : i < s.size) : chr s i = s[i].toNat := by simp [chr, h]
theorem chr_out {s : ByteArray} {i : Nat} (h : s.size ≤ i) : chr s i = 0 := by simp [chr, Nat.not_lt.2 h]

def failS (σ : PS) (x q : Int) : PS := if σ.e = 0 then { σ with e := x, bad := q } else σ
def nextS (s : ByteArray) (σ : PS) : Nat := if σ.e = 0 then chr s σ.p else 0
def blank (c : Nat) : Bool := c == 32 || c == 9 || c == 10 || c == 13
/-- the place behind blanks -/
def skipF (s : ByteArray) : Nat → Nat → Nat
  | 0, i => i
  | n + 1, i => if blank (chr s i) then skipF s n (i + 1) else i
def skip (s : ByteArray) (i : Nat) : Nat := skipF s (s.size - i) i
def blanksS (s : ByteArray) (σ : PS) : PS := if σ.e = 0 then { σ with p := skip s σ.p } else σ
def takeB (s : ByteArray) (σ : PS) (c : Int) : Bool := σ.e = 0 && σ.p < s.size && ((chr s σ.p : Int) == c)
def takeS (s : ByteArray) (σ : PS) (c : Int) : PS := if takeB s σ c then { σ with p := σ.p + 1 } else σ
def needS (s : ByteArray) : List Nat → PS → PS
  | [], σ => σ
  | c :: r, σ => needS s r (if takeB s σ c then takeS s σ c else failS σ 4 σ.p)

theorem blank_chr {s : ByteArray} {i : Nat} (h : blank (chr s i) = true) : i < s.size := by
  rcases Nat.lt_or_ge i s.size with h1 | h1
  · exact h1
  · rw [chr_out h1] at h; exact absurd h (by decide)
theorem skip_step {s : ByteArray} {i : Nat} (h : blank (chr s i) = true) : skip s i = skip s (i + 1) := by
  have hi := blank_chr h
  unfold skip
  rw [show s.size - i = (s.size - (i + 1)) + 1 from by omega, skipF, if_pos h]
theorem skip_stop {s : ByteArray} {i : Nat} (h : blank (chr s i) = false) : skip s i = i := by
  unfold skip
  cases s.size - i with
  | zero => rfl
  | succ n => rw [skipF, if_neg (by simp [h])]
theorem skip_le (s : ByteArray) : ∀ (n i : Nat), i ≤ skipF s n i ∧ skipF s n i ≤ i + n
  | 0, i => by simp [skipF]
  | n + 1, i => by
    unfold skipF; split
    · have := skip_le s n (i + 1); omega
    · omega
theorem skip_bd {s : ByteArray} {i : Nat} (h : i ≤ s.size) : i ≤ skip s i ∧ skip s i ≤ s.size := by
  have := skip_le s (s.size - i) i; unfold skip; omega
end Go.Proofs.YtnnhkajjifmlfaaDoor
