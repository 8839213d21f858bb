/- Policies: how far a reader goes, how many nodes it puts. -/
import Derived.Test.YtnnhkajjifmlfaaDoorP5
import Derived.Test.YtnnhkajjifmlfaaDoorShelfP
import Derived.Deep.LoopGhost
import Derived.Deep.AppendLies
import Derived.Deep.CutBlock
import Derived.Deep.DeepCutAuto
import Derived.Deep.DrawnRows
import Derived.Deep.RegionLaw
import Derived.BigQuiet
import Derived.BigRegion
import Derived.RegionTactic
namespace Go.Proofs.YtnnhkajjifmlfaaDoor.Pl
open Go.RowKit

/-- a reader's state as it may be -/
structure Lk (s : ByteArray) (σ : PQ) : Prop where
  ps : σ.p ≤ s.size
  le : σ.ta ≤ σ.p
  lt : σ.k ≠ 0 → σ.ta < σ.p
  xs : σ.x.size ≤ s.size
/-- from one state to a later one: m nodes more at most, beside two for each token -/
structure Gn (s : ByteArray) (m : Nat) (σ τ : PQ) : Prop where
  lk : Lk s τ
  ta : σ.ta ≤ τ.ta
  ns : τ.ns.length + 2 * σ.ta ≤ σ.ns.length + m + 2 * τ.ta
section
variable {s : ByteArray} {σ τ υ : PQ} {m n : Nat}
theorem Gn.refl (h : Lk s σ) : Gn s 0 σ σ := ⟨h, Nat.le_refl _, by omega⟩
theorem Gn.trans (h : Gn s m σ τ) (k : Gn s n τ υ) : Gn s (m + n) σ υ := ⟨k.lk, Nat.le_trans h.ta k.ta, by have := h.ns; have := k.ns; omega⟩
theorem Gn.mono (h : Gn s m σ τ) (k : m ≤ n) : Gn s n σ τ := ⟨h.lk, h.ta, by have := h.ns; omega⟩
theorem Lk.ta_le (h : Lk s σ) : σ.ta ≤ s.size := Nat.le_trans h.le h.ps
theorem ext_le (s : ByteArray) (i j : Nat) : (s.extract i j).size ≤ s.size := by simp [ByteArray.size_extract]; omega
theorem lk_next (h : σ.p ≤ s.size) : Lk s (nextP s σ) ∧ σ.p ≤ (nextP s σ).ta := by
  have hb := bsk_bd h
  unfold nextP
  generalize bsk s σ.p = i at *
  unfold lexAt
  split
  · exact ⟨⟨hb.2, Nat.le_refl _, fun h => absurd rfl h, Nat.zero_le _⟩, hb.1⟩
  · rename_i h1
    split
    · rename_i h2
      obtain ⟨w1, w2⟩ := wsk_pos h2
      exact ⟨⟨w2, by simp only; omega, fun _ => w1, ext_le _ _ _⟩, hb.1⟩
    · split
      · obtain ⟨q1, _, _, q4⟩ := qskF_spec s (s.size - (i + 1)) (i + 1) rfl
        have q4 := q4 (by omega)
        split
        · rename_i h4
          exact ⟨⟨by simp only; omega, by simp only; unfold qsk; omega, fun _ => by simp only; unfold qsk; omega, ext_le _ _ _⟩, hb.1⟩
        · exact ⟨⟨Nat.le_refl _, hb.2, fun _ => by simp only; omega, Nat.zero_le _⟩, hb.1⟩
      · exact ⟨⟨by simp only; omega, by simp only; omega, fun _ => by simp only; omega, ext_le _ _ _⟩, hb.1⟩
theorem gn_next (h : Lk s σ) : Gn s 0 σ (nextP s σ) := by
  obtain ⟨h1, h2⟩ := lk_next (s := s) (σ := σ) h.ps
  refine ⟨h1, Nat.le_trans h.le h2, ?_⟩
  rw [(next_gr s σ).2]
  have := h.le
  omega
/-- a sign is behind: there is room for two nodes -/
theorem gn_sign (h : Lk s σ) (hk : σ.k ≠ 0) : (nextP s σ).ta ≥ σ.ta + 1 ∧ Lk s (nextP s σ) ∧ (nextP s σ).ns = σ.ns := by
  obtain ⟨h1, h2⟩ := lk_next (s := s) (σ := σ) h.ps
  have := h.lt hk
  exact ⟨by omega, h1, (next_gr s σ).2⟩
theorem signB_k0 {c : UInt8} (h : signB c σ = true) : σ.k ≠ 0 := by rw [signB_k h]; decide
theorem gn_fault (h : Lk s σ) : Gn s 0 σ (faultP σ) := by
  unfold faultP
  split
  · exact ⟨⟨h.ps, h.le, h.lt, h.xs⟩, Nat.le_refl _, by simp only; omega⟩
  · exact .refl h
theorem gn_take1 (h : Lk s σ) (k : Int) : Gn s 0 σ (takeP1 k σ) := by
  unfold takeP1; split
  · exact .refl h
  · exact gn_fault h
theorem gn_take (h : Lk s σ) (k : Int) : Gn s 0 σ (takeP s k σ).2 := by
  have h1 := gn_take1 h k
  unfold takeP
  split
  · exact h1
  · exact (h1.trans (gn_next h1.lk)).mono (Nat.le_refl _)
theorem gn_need (h : Lk s σ) (c : UInt8) : Gn s 0 σ (needP s c σ) := by
  unfold needP; split
  · exact gn_next h
  · exact gn_fault h
theorem gn_gr (h : Gn s m σ τ) (g : Bool) : Gn s m σ { τ with gr := g } := ⟨⟨h.lk.ps, h.lk.le, h.lk.lt, h.lk.xs⟩, h.ta, h.ns⟩
theorem gn_num (h : Lk s σ) : Gn s 0 σ (numP s σ).2 := gn_gr (gn_take h 2) _
theorem gn_tag (h : Lk s σ) : Gn s 0 σ (tagP s σ).2 := by
  have h1 := gn_take h 3
  have h2 := gn_need h1.lk 61
  have h3 := gn_take h2.lk 3
  exact ((h1.trans h2).trans h3).mono (Nat.le_refl _)
theorem gn_word (h : Lk s σ) (x : ByteArray) : Gn s 0 σ (wordP s x σ).2 := by
  unfold wordP
  repeat' split
  · exact .refl h
  · exact .refl h
  · exact gn_num h
  · exact gn_num h
  · exact gn_take h 3
  · exact gn_tag h
  · exact .refl h
theorem gn_put (h : Lk s σ) (x : PN) : Gn s 1 σ (putP x σ).2 := by
  unfold putP
  exact ⟨⟨h.ps, h.le, h.lt, h.xs⟩, Nat.le_refl _, by simp⟩
/-- what a reader of things leaves -/
def FGn (s : ByteArray) (F : PQ → Int × PQ) : Prop := ∀ σ, Lk s σ → Gn s 1 σ (F σ).2
theorem gn_one {F : PQ → Int × PQ} (hF : FGn s F) : FGn s (oneP s F) := by
  intro σ h
  unfold oneP
  split
  · have h1 := gn_next h
    have h2 := hF _ h1.lk
    exact ((h1.trans h2).trans (gn_need h2.lk 41)).mono (Nat.le_refl _)
  · have h1 := gn_take h 1
    have h2 := gn_word h1.lk (takeP s 1 σ).1
    exact ((h1.trans h2).trans (gn_put h2.lk _)).mono (Nat.le_refl _)
theorem gn_bang : ∀ (f : Nat) (σ : PQ), Lk s σ → Lk s (bangP s f σ).2 ∧ σ.ta + (bangP s f σ).1 ≤ (bangP s f σ).2.ta ∧ (bangP s f σ).2.ns = σ.ns
  | 0, σ, h => ⟨h, Nat.le_refl _, rfl⟩
  | f + 1, σ, h => by
    unfold bangP
    split
    · rename_i hs
      obtain ⟨h1, h2, h3⟩ := gn_sign h (signB_k0 hs)
      obtain ⟨h4, h5, h6⟩ := gn_bang f _ h2
      exact ⟨h4, by simp only; omega, h6.trans h3⟩
    · exact ⟨h, Nat.le_refl _, rfl⟩
theorem gn_nots : ∀ (n : Nat) (i : Int) (σ : PQ), Lk s σ → Gn s n σ (notsP n i σ).2
  | 0, _, _, h => .refl h
  | n + 1, _, σ, h => by
    have h1 := gn_put h ⟨7, 0, ⟨#[]⟩, ⟨#[]⟩, ‹Int›, 0⟩
    exact (h1.trans (gn_nots n _ _ h1.lk)).mono (by omega)
theorem gn_not {F : PQ → Int × PQ} (hF : FGn s F) : FGn s (notP s F) := by
  intro σ h
  unfold notP
  obtain ⟨h1, h2, h3⟩ := gn_bang (s.size + 1) σ h
  have h4 := gn_one hF _ h1
  have h5 := gn_nots (bangP s (s.size + 1) σ).1 (oneP s F (bangP s (s.size + 1) σ).2).1 _ h4.lk
  refine ⟨h5.lk, ?_, ?_⟩
  · have := h4.ta; have := h5.ta; omega
  · have h6 := h4.ns; rw [h3] at h6; have := h5.ns; omega
theorem gn_many {F : PQ → Int × PQ} (hF : FGn s F) (c : UInt8) (k : Int) : ∀ (f : Nat) (i : Int) (σ : PQ), Lk s σ → Gn s 0 σ (manyP s c k F f i σ).2
  | 0, _, _, h => .refl h
  | f + 1, i, σ, h => by
    unfold manyP
    split
    · rename_i hs
      obtain ⟨h1, h2, h3⟩ := gn_sign h (signB_k0 hs)
      have h4 := hF _ h2
      have h5 := gn_put h4.lk ⟨k, 0, ⟨#[]⟩, ⟨#[]⟩, i, (F (nextP s σ)).1⟩
      have h6 := gn_many hF c k f (putP ⟨k, 0, ⟨#[]⟩, ⟨#[]⟩, i, (F (nextP s σ)).1⟩ (F (nextP s σ)).2).1 _ h5.lk
      refine ⟨h6.lk, ?_, ?_⟩
      · have := h4.ta; have := h5.ta; have := h6.ta; omega
      · have := h4.ns; have := h5.ns; have := h6.ns; rw [h3] at *; omega
    · exact .refl h
theorem gn_and {F : PQ → Int × PQ} (hF : FGn s F) : FGn s (andP s F) := by
  intro σ h
  have h1 := gn_not hF σ h
  exact (h1.trans (gn_many (gn_not hF) 38 8 _ _ _ h1.lk)).mono (Nat.le_refl _)
theorem gn_or {F : PQ → Int × PQ} (hF : FGn s F) : FGn s (orW s F) := by
  intro σ h
  have h1 := gn_and hF σ h
  exact (h1.trans (gn_many (gn_and hF) 124 9 _ _ _ h1.lk)).mono (Nat.le_refl _)
theorem gn_orD (s : ByteArray) : ∀ d, FGn s (orD s d)
  | 0 => fun _ h => (Gn.refl h).mono (by omega)
  | d + 1 => gn_or (gn_orD s d)
end
end Go.Proofs.YtnnhkajjifmlfaaDoor.Pl
/-! Policies: the reader's block; its small methods. -/
namespace Go.Proofs.YtnnhkajjifmlfaaDoor.Pl
open Go.RowKit Go.Maps

def nodeC (x : PN) : List Value := [.int .i64 x.k, .int .i64 x.n, .string x.a, .string x.b, .int .i64 x.l, .int .i64 x.r]
abbrev nodeV (x : PN) : Value := .agg #[.int .i64 x.k, .int .i64 x.n, .string x.a, .string x.b, .int .i64 x.l, .int .i64 x.r]
def nodesC (l : List PN) : List Value := l.flatMap nodeC
/-- the reader's block -/
def PB (w : World) (R : Nat) (s : ByteArray) (σ : PQ) (nv : Value) : Prop :=
  w.heap[R]? = some (.cells #[.string s, .int .i64 σ.p, .int .i64 σ.k, .string σ.x, .int .i64 σ.ta, nv, .int .i64 σ.bad, .bool σ.gr] 95 (0, 0))
section
variable {w w' : World} {R : Nat} {s : ByteArray} {σ : PQ} {nv : Value}
theorem PB.lt (h : PB w R s σ nv) : R < w.heap.size := (Array.getElem?_eq_some_iff.1 h).1
theorem PB.c0 (h : PB w R s σ nv) : w.cell? ⟨R, 0, none⟩ = some (.string s) := by rw [cell_of_row w R 0 _ _ _ h]; rfl
theorem PB.c1 (h : PB w R s σ nv) : w.cell? ⟨R, 1, none⟩ = some (.int .i64 σ.p) := by rw [cell_of_row w R 1 _ _ _ h]; rfl
theorem PB.c2 (h : PB w R s σ nv) : w.cell? ⟨R, 2, none⟩ = some (.int .i64 σ.k) := by rw [cell_of_row w R 2 _ _ _ h]; rfl
theorem PB.c3 (h : PB w R s σ nv) : w.cell? ⟨R, 3, none⟩ = some (.string σ.x) := by rw [cell_of_row w R 3 _ _ _ h]; rfl
theorem PB.c4 (h : PB w R s σ nv) : w.cell? ⟨R, 4, none⟩ = some (.int .i64 σ.ta) := by rw [cell_of_row w R 4 _ _ _ h]; rfl
theorem PB.c5 (h : PB w R s σ nv) : w.cell? ⟨R, 5, none⟩ = some nv := by rw [cell_of_row w R 5 _ _ _ h]; rfl
theorem PB.c6 (h : PB w R s σ nv) : w.cell? ⟨R, 6, none⟩ = some (.int .i64 σ.bad) := by rw [cell_of_row w R 6 _ _ _ h]; rfl
theorem PB.c7 (h : PB w R s σ nv) : w.cell? ⟨R, 7, none⟩ = some (.bool σ.gr) := by rw [cell_of_row w R 7 _ _ _ h]; rfl
theorem PB.f (h : PB w R s σ nv) (i : Nat) : w.frozen? ⟨R, i, none⟩ = false := by unfold PB at h; simp [World.frozen?, h]
theorem PB.set1 (h : PB w R s σ nv) (q : Nat) : PB (w.setCell ⟨R, 1, none⟩ (.int .i64 q)) R s { σ with p := q } nv := by
  unfold PB at h ⊢; simp [World.setCell, Array.getElem?_modify, h]
theorem PB.set2 (h : PB w R s σ nv) (q : Int) : PB (w.setCell ⟨R, 2, none⟩ (.int .i64 q)) R s { σ with k := q } nv := by
  unfold PB at h ⊢; simp [World.setCell, Array.getElem?_modify, h]
theorem PB.set3 (h : PB w R s σ nv) (q : ByteArray) : PB (w.setCell ⟨R, 3, none⟩ (.string q)) R s { σ with x := q } nv := by
  unfold PB at h ⊢; simp [World.setCell, Array.getElem?_modify, h]
theorem PB.set4 (h : PB w R s σ nv) (q : Nat) : PB (w.setCell ⟨R, 4, none⟩ (.int .i64 q)) R s { σ with ta := q } nv := by
  unfold PB at h ⊢; simp [World.setCell, Array.getElem?_modify, h]
theorem PB.set5 (h : PB w R s σ nv) (q : Value) : PB (w.setCell ⟨R, 5, none⟩ q) R s σ q := by
  unfold PB at h ⊢; simp [World.setCell, Array.getElem?_modify, h]
theorem PB.set6 (h : PB w R s σ nv) (q : Int) : PB (w.setCell ⟨R, 6, none⟩ (.int .i64 q)) R s { σ with bad := q } nv := by
  unfold PB at h ⊢; simp [World.setCell, Array.getElem?_modify, h]
theorem PB.set7 (h : PB w R s σ nv) (q : Bool) : PB (w.setCell ⟨R, 7, none⟩ (.bool q)) R s { σ with gr := q } nv := by
  unfold PB at h ⊢; simp [World.setCell, Array.getElem?_modify, h]
theorem PB.alloc (h : PB w R s σ nv) (o : Obj) : PB (w.alloc o) R s σ nv := (Below.heap_alloc w o R h.lt).trans h
theorem PB.drewN (h : PB w R s σ nv) (n : Nat) : PB (w.drewN n) R s σ nv := h
theorem PB.drew (h : PB w R s σ nv) : PB w.drew R s σ nv := h
theorem PB.far (h : PB w R s σ nv) {q : Addr} (hq : R ≠ q.block) (u : Value) : PB (w.setCell q u) R s σ nv := (Below.heap_setCell w q u R hq).trans h
theorem PB.kept (h : PB w R s σ nv) {row : Option Nat} (hg : w.grownBy w' row) (hne : some R ≠ row) : PB w' R s σ nv := (hg.block R h.lt hne).trans h
theorem PB.ns (h : PB w R s σ nv) (l : List PN) : PB w R s { σ with ns := l } nv := h
end
/-- what a method leaves that turns the reader's block alone -/
abbrev PS1 (R : Nat) (s : ByteArray) (nv : Value) (w : World) (v : Value) (τ : PQ) (e : Ending) (w' : World) : Prop :=
  e = .returned v ∧ PB w' R s τ nv ∧ w.grownBy w' (some R)

theorem fault_any (R : Nat) (s : ByteArray) (σ : PQ) (nv : Value) (w : World) (h : PB w R s σ nv) :
    Calls Tryd.prog 65 #[.pointer (some ⟨R, 0, none⟩)] w (PS1 R s nv w (.tuple #[]) (faultP σ)) := by
  have c4 := h.c4
  have c6 := h.c6
  have f6 := h.f 6
  go_enter Tryd.func65, Tryd.ntmps65
  by_cases hb : σ.bad < 0
  · have e : faultP σ = { σ with bad := (σ.ta : Int) } := by unfold faultP; rw [if_pos hb]
    rw [e]
    go_wp2_with fail
    go_end0
    exact ⟨rfl, h.set6 _, gb_setR (gb_refl _ _) _ _⟩
  · have e : faultP σ = σ := by unfold faultP; rw [if_neg hb]
    rw [e]
    go_wp2_with fail
    go_end0
    exact ⟨rfl, h, gb_refl _ _⟩
end Go.Proofs.YtnnhkajjifmlfaaDoor.Pl
