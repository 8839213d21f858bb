/- HTTP: words for the walks: worlds that have grown, rows of bytes, a connection's buffer. -/
import Derived.Test.YtdfgnoflohfnmaaGreatDoorProg
import Derived.Test.YtdfgnoflohfnmaaGreatDoorH2
import Derived.KernelRfl
import Derived.WalkSpells
import Derived.WalkLawsBesides
import Derived.Deep.QuietTactic
import Derived.Maps.RangeWalk
import Derived.Maps.OwnOps
import Derived.Maps.Views
import Derived.Outline
import Derived.Lib.BufferWrite
import Derived.WalkKit
import Derived.Deep.Draws
import Derived.Deep.LoopGhost
import Derived.BigQuiet
import Derived.Lib.Hide
import Derived.RegionTactic
import Derived.Maps.AppendAt
import Derived.Deep.AppendLies
import Derived.Deep.Upon
import Derived.Lib.UnsafeStr
import Derived.Laws.IdiomStrings
namespace Go.Proofs.YtdfgnoflohfnmaaGreatDoor.Hx
open Go.RowKit Go.Maps

/-! frames: 'grownBy' of at most one row, step by step -/
section
variable {a b w w' : World} {row : Option Nat}
theorem gb_refl (w : World) (row : Option Nat) : w.grownBy w row := ⟨rfl, rfl, rfl, Nat.le_refl _, fun _ _ _ => rfl⟩
theorem gb_trans (h : a.grownBy b row) (k : b.grownBy w row) : a.grownBy w row :=
  ⟨k.os.trans h.os, k.tape.trans h.tape, k.output.trans h.output, Nat.le_trans h.size k.size, fun i hi hn => (k.block i (Nat.lt_of_lt_of_le hi h.size) hn).trans (h.block i hi hn)⟩
theorem gb_drewN (h : a.grownBy w row) (n : Nat) : a.grownBy (w.drewN n) row := ⟨h.os, h.tape, h.output, h.size, h.block⟩
theorem gb_drew (h : a.grownBy w row) : a.grownBy w.drew row := ⟨h.os, h.tape, h.output, h.size, h.block⟩
theorem gb_alloc (h : a.grownBy w row) (o : Obj) : a.grownBy (w.alloc o) row :=
  ⟨h.os, h.tape, h.output, Nat.le_trans h.size (by simp), fun i hi hne => (Below.heap_alloc w o i (Nat.lt_of_lt_of_le hi h.size)).trans (h.block i hi hne)⟩
theorem gb_set {g : Nat} (h : a.grownBy w (some g)) {p : Addr} (hp : p.block = g ∨ a.heap.size ≤ p.block) (u : Value) : a.grownBy (w.setCell p u) (some g) :=
  ⟨h.os, h.tape, h.output, by simpa [World.setCell] using h.size, fun i hi hne => (Below.heap_setCell w p u i (by
    rintro rfl
    rcases hp with hp | hp
    · exact hne (by rw [hp])
    · omega)).trans (h.block i hi hne)⟩
theorem gb_setR {R : Nat} (h : a.grownBy w (some R)) (i : Nat) (u : Value) : a.grownBy (w.setCell ⟨R, i, none⟩ u) (some R) := gb_set (p := ⟨R, i, none⟩) h (.inl rfl) u
/-- a step that turns a row of its own, made since, or the same row -/
theorem gb_more {row' : Option Nat} (h : a.grownBy w row) (k : w.grownBy w' row') (hr : ∀ g, row' = some g → some g = row ∨ a.heap.size ≤ g) : a.grownBy w' row :=
  ⟨k.os.trans h.os, k.tape.trans h.tape, k.output.trans h.output, Nat.le_trans h.size k.size, fun i hi hn => (k.block i (Nat.lt_of_lt_of_le hi h.size) (by
    intro e
    rcases hr i e.symm with h1 | h1
    · exact hn h1
    · omega)).trans (h.block i hi hn)⟩
theorem gb_below (h : Below a.heap.size a w) (row : Option Nat) : a.grownBy w row := ⟨h.os, h.tape, h.output, h.size, fun i hi _ => h.block i hi⟩
end

theorem gb_setN {a w : World} {row : Option Nat} {L : Nat} (h : a.grownBy w row) (hL : a.heap.size ≤ L) (i : Nat) (u : Value) : a.grownBy (w.setCell ⟨L, i, none⟩ u) row :=
  ⟨h.os, h.tape, h.output, by simpa [World.setCell] using h.size, fun k hk hne => (Below.heap_setCell w ⟨L, i, none⟩ u k (fun e => by have e : k = L := e; omega)).trans (h.block k hk hne)⟩
theorem gb_row {w w' : World} (h : w.grownBy w' none) (row : Option Nat) : w.grownBy w' row := ⟨h.os, h.tape, h.output, h.size, fun i hi _ => h.block i hi (by simp)⟩
theorem gb_of_below {w w' : World} (h : Below w.heap.size w w') : w.grownBy w' none := gb_below h none
/-- a row that is new is no row that was there -/
theorem gb_new {a w w' : World} {g : Nat} {row : Option Nat} (h : a.grownBy w row) (k : w.grownBy w' (some g)) (hg : a.heap.size ≤ g) : a.grownBy w' row :=
  gb_more h k (fun x hx => by cases hx; exact .inr hg)
theorem cell_grown {w w' : World} {b o : Nat} {v : Value} {row : Option Nat} (h : w.cell? ⟨b, o, none⟩ = some v) (hg : w.grownBy w' row) (hr : some b ≠ row) : w'.cell? ⟨b, o, none⟩ = some v :=
  hg.cell h hr
theorem wrap64_id {x : Int} (h1 : -9223372036854775808 ≤ x) (h2 : x ≤ 9223372036854775807) : wrap64 x = x := by unfold wrap64; omega
theorem wrap_id {x : Int} (h1 : -9223372036854775808 ≤ x) (h2 : x ≤ 9223372036854775807) : IntKind.i64.wrap x = x := by rw [IntKind.wrap_i64]; omega
theorem ba_beq (a b : ByteArray) : (a.toList == b.toList) = decide (a = b) := by
  rw [Bool.eq_iff_iff, beq_iff_eq, decide_eq_true_eq, Lib.toList_data, Lib.toList_data]
  exact ⟨fun h => ByteArray.ext (Array.toList_inj.1 h), fun h => by rw [h]⟩
theorem block_lt {w : World} {b o : Nat} {v : Value} (h : w.cell? ⟨b, o, none⟩ = some v) : b < w.heap.size := World.block_lt_of_cell? w ⟨b, o, none⟩ h
theorem add_lit (b o j : Nat) : (⟨b, o, none⟩ : Addr).add j = ⟨b, o + j, none⟩ := by unfold Addr.add; split <;> simp_all

/-! worlds of which some old blocks may have been turned -/
structure GT (w w' : World) (T : Nat → Prop) : Prop where
  os : w'.os = w.os
  tape : w'.tape = w.tape
  output : w'.output = w.output
  size : w.heap.size ≤ w'.heap.size
  block : ∀ k, k < w.heap.size → ¬ T k → w'.heap[k]? = w.heap[k]?
section
variable {w w1 w' : World} {T T' : Nat → Prop} {row : Option Nat}
theorem GT.of_gb (h : w.grownBy w' row) (hT : ∀ k, row = some k → T k) : GT w w' T := ⟨h.os, h.tape, h.output, h.size, fun k hk hn => h.block k hk (fun e => hn (hT k e.symm))⟩
theorem GT.of_none (h : w.grownBy w' none) : GT w w' T := .of_gb h (fun _ e => by cases e)
theorem GT.of_some {g : Nat} (h : w.grownBy w' (some g)) (hT : T g) : GT w w' T := .of_gb h (fun _ e => by cases e; exact hT)
theorem GT.refl (w : World) (T : Nat → Prop) : GT w w T := .of_none (gb_refl _ _)
/-- blocks that are new at the first world may be turned -/
theorem GT.trans (h : GT w w1 T) (k : GT w1 w' T') (hT : ∀ b, b < w.heap.size → T' b → T b) : GT w w' T :=
  ⟨k.os.trans h.os, k.tape.trans h.tape, k.output.trans h.output, Nat.le_trans h.size k.size, fun b hb hn => (k.block b (Nat.lt_of_lt_of_le hb h.size) (fun e => hn (hT b hb e))).trans (h.block b hb hn)⟩
theorem GT.gb (h : GT w w1 T) (k : w1.grownBy w' row) (hT : ∀ b, b < w.heap.size → row = some b → T b) : GT w w' T :=
  h.trans (T' := fun b => row = some b) (.of_gb k (fun _ e => e)) hT
theorem GT.gbn (h : GT w w1 T) (k : w1.grownBy w' none) : GT w w' T := h.gb k (fun _ _ e => by cases e)
/-- all that may be turned is new -/
theorem GT.grown (h : GT w w' T) (hT : ∀ b, b < w.heap.size → ¬ T b) : w.grownBy w' none := ⟨h.os, h.tape, h.output, h.size, fun k hk _ => h.block k hk (hT k hk)⟩
theorem GT.cell (h : GT w w' T) {b o : Nat} {v : Value} (hc : w.cell? ⟨b, o, none⟩ = some v) (hT : ¬ T b) : w'.cell? ⟨b, o, none⟩ = some v :=
  (World.cell?_of_block (a := ⟨b, o, none⟩) (h.block b (block_lt hc) hT)).trans hc
theorem GT.mono (h : GT w w' T) (hT : ∀ b, b < w.heap.size → T b → T' b) : GT w w' T' := ⟨h.os, h.tape, h.output, h.size, fun k hk hn => h.block k hk (fun e => hn (hT k hk e))⟩
end

/-! bytes that a call owns -/
def OB (B : Nat) (acc : Bs) (v : Value) (w : World) : Prop := w.ownsRow B 5 1 v acc.length (Lib.byteCells acc)
/-- bytes appended: the row that they had is turned, or lies in new memory -/
structure AP (B : Nat) (w : World) (v : Value) (acc : Bs) (v' : Value) (w' : World) : Prop where
  own : OB B acc v' w'
  gb : w.grownBy w' v.ownBlock
  at_ : ∀ g, v'.ownBlock = some g → some g = v.ownBlock ∨ w.heap.size ≤ g
section
variable {B : Nat} {w w1 w2 : World} {v v1 v2 : Value} {acc acc1 acc2 : Bs}
theorem AP.trans (h : AP B w v acc1 v1 w1) (k : AP B w1 v1 acc2 v2 w2) : AP B w v acc2 v2 w2 := by
  refine ⟨k.own, gb_more h.gb k.gb (fun g hg => h.at_ g hg), fun g hg => ?_⟩
  rcases k.at_ g hg with e | e
  · exact h.at_ g e.symm
  · have := h.gb.size; exact .inr (by omega)
theorem AP.refl (h : OB B acc v w) : AP B w v acc v w := ⟨h, gb_refl _ _, fun _g hg => .inl hg.symm⟩
theorem OB.drew (h : OB B acc v w) : OB B acc v w.drew := World.ownsRow.drew h
theorem OB.alloc (h : OB B acc v w) (o : Obj) : OB B acc v (w.alloc o) := World.ownsRow.alloc h o
theorem OB.nil (B : Nat) (w : World) : OB B [] (.slice none 0 0) w := World.ownsRow_nil _ _ _ _
theorem OB.still {w' : World} (h : OB B acc v w) (hg : w.grownBy w' none) : OB B acc v w' := World.ownsRow.kept h hg (by cases e : v.ownBlock <;> simp)
theorem OB.shape (h : OB B acc v w) : ∃ A c, v = .slice A acc.length c := by
  rcases h.2 with ⟨rfl, h0⟩ | ⟨g, cap, cur, rfl, _⟩
  · exact ⟨none, 0, by rw [h0]⟩
  · exact ⟨_, _, rfl⟩
theorem AP.none {w w' : World} {v' : Value} (h : AP w.heap.size w (.slice none 0 0) acc v' w') : w.grownBy w' none := h.gb
theorem news_new {n : Nat} (xs : List Value) (t : TypeId) (hn : w.heap.size = n) : ∀ j u, xs[j]? = some u → (w.alloc (.cells xs.toArray t)).cell? ((⟨n, 0, none⟩ : Addr).add j) = some u := by
  intro j u hj
  subst hn
  have hb := heap_alloc_new w (.cells xs.toArray t)
  rw [add_lit, Nat.zero_add]
  unfold World.cell?
  simp only [hb]
  simp [hj]
theorem byteCells_app (a b : Bs) : Lib.byteCells (a ++ b) = Lib.byteCells a ++ Lib.byteCells b := by simp [Lib.byteCells]
/-- the step of an append, as the walks meet it -/
theorem AP.step {news : Bs} {o : Obj} {m : Nat} (h : AP B w v acc v1 w1) (hm : news.length = m) (hown : w2.ownsRow B 5 1 v2 (acc.length + m) (Lib.byteCells acc ++ Lib.byteCells news)) (hg : (w1.alloc o).grownBy w2 v1.ownBlock)
    (hat : v2.ownBlock = v1.ownBlock ∨ v2.ownBlock = some (w1.alloc o).heap.size) : AP B w v (acc ++ news) v2 w2 := by
  refine h.trans ⟨?_, ?_, ?_⟩
  · show w2.ownsRow B 5 1 v2 (acc ++ news).length (Lib.byteCells (acc ++ news))
    rw [byteCells_app, List.length_append, hm]
    exact hown
  · exact gb_trans (gb_alloc (gb_refl _ _) _) hg
  · intro g hgb
    rcases hat with e | e
    · rw [e] at hgb; exact .inl hgb.symm
    · rw [e] at hgb; injection hgb with hgb; exact .inr (by have : (w1.alloc o).heap.size = w1.heap.size + 1 := by simp
                                                            omega)
/-- a row of bytes made a text -/
theorem OB.conv (h : OB B acc v w) (hne : acc ≠ []) : (convert 22 9 v).run Tryz.prog w = .ok (.string ⟨acc.toArray⟩) w := by
  rcases h.2 with ⟨_, h0⟩ | ⟨g, cap, cur, rfl, _, hh, hn, _, hc, ht⟩
  · exact absurd (List.eq_nil_of_length_eq_zero h0) hne
  · refine run_convert_bytes_back (P := Tryz.prog) w 22 9 5 ⟨g, 0, none⟩ cap acc Tryz.underlying22 Tryz.underlying5 Tryz.underlying9 ?_
    intro j hj
    rw [add_lit, Nat.zero_add]
    rw [cell_of_row w g j cur 5 (0, 0) hh]
    have e1 : (cur.toList.take (acc.length * 1))[j]? = some (.int .u8 (acc[j].toNat : Int)) := by
      rw [ht]
      simp [Lib.byteCells, hj]
    rw [List.getElem?_take_of_lt (by omega)] at e1
    simpa using e1
end

/-! bytes that lie somewhere -/
/-- bytes from an address on -/
def BA (w : World) (b o : Nat) (bs : Bs) : Prop := ∀ i (h : i < bs.length), w.cell? ⟨b, o + i, none⟩ = some (.int .u8 (bs[i].toNat : Int))
section
variable {w w' : World} {b o : Nat} {bs : Bs}
theorem BA.grown {row : Option Nat} (h : BA w b o bs) (hg : w.grownBy w' row) (hr : some b ≠ row) : BA w' b o bs := fun i hi => cell_grown (h i hi) hg hr
theorem BA.gt {T : Nat → Prop} (h : BA w b o bs) (hg : GT w w' T) (hT : ¬ T b) : BA w' b o bs := fun i hi => hg.cell (h i hi) hT
theorem BA.drop (h : BA w b o bs) (k : Nat) : BA w b (o + k) (bs.drop k) := fun i hi => by
  rw [List.length_drop] at hi
  have := h (k + i) (by omega)
  rw [Nat.add_assoc, this]
  congr 3
  rw [List.getElem_drop]
theorem BA.take (h : BA w b o bs) (k : Nat) : BA w b o (bs.take k) := fun i hi => by
  rw [List.length_take] at hi
  rw [h i (by omega), List.getElem_take]
theorem BA.lt (h : BA w b o bs) (h0 : bs ≠ []) : b < w.heap.size := block_lt (h 0 (List.length_pos_iff.mpr h0))
theorem BA.cells (h : BA w b o bs) : ∀ j u, (Lib.byteCells bs)[j]? = some u → w.cell? ((⟨b, o, none⟩ : Addr).add j) = some u := by
  intro j u hj
  have hl : j < bs.length := by
    have := (List.getElem?_eq_some_iff.mp hj).1
    simpa [Lib.byteCells] using this
  rw [add_lit, h j hl, ← hj]
  simp [Lib.byteCells, hl]
theorem BA.str (h : BA w b o bs) (c : Nat) : (convert 22 9 (.slice (some ⟨b, o, none⟩) bs.length c)).run Tryz.prog w = .ok (.string ⟨bs.toArray⟩) w := by
  refine run_convert_bytes_back (P := Tryz.prog) w 22 9 5 ⟨b, o, none⟩ c bs Tryz.underlying22 Tryz.underlying5 Tryz.underlying9 ?_
  intro j hj
  rw [add_lit]
  exact h j hj
end
/-- a slice of bytes -/
def BV (w : World) (v : Value) (bs : Bs) : Prop := ∃ A c, v = .slice A bs.length c ∧ bs.length ≤ c ∧ (bs ≠ [] → ∃ b o, A = some ⟨b, o, none⟩ ∧ BA w b o bs)
/-- .. in one of some blocks -/
def BS (w : World) (S : Nat → Prop) (v : Value) (bs : Bs) : Prop := ∃ A c, v = .slice A bs.length c ∧ bs.length ≤ c ∧ (bs ≠ [] → ∃ b o, A = some ⟨b, o, none⟩ ∧ S b ∧ BA w b o bs)
theorem BS.bv {w : World} {S : Nat → Prop} {v : Value} {bs : Bs} (h : BS w S v bs) : BV w v bs := by
  obtain ⟨A, c, e, hc, h⟩ := h
  exact ⟨A, c, e, hc, fun h0 => by obtain ⟨b, o, e, _, hb⟩ := h h0; exact ⟨b, o, e, hb⟩⟩
theorem BS.gt {w w' : World} {S T : Nat → Prop} {v : Value} {bs : Bs} (h : BS w S v bs) (hg : GT w w' T) (hT : ∀ b, S b → ¬ T b) : BS w' S v bs := by
  obtain ⟨A, c, e, hc, h⟩ := h
  exact ⟨A, c, e, hc, fun h0 => by obtain ⟨b, o, e, hs, hb⟩ := h h0; exact ⟨b, o, e, hs, hb.gt hg (hT b hs)⟩⟩
theorem BS.mono {w : World} {S S' : Nat → Prop} {v : Value} {bs : Bs} (h : BS w S v bs) (hS : ∀ b, b < w.heap.size → S b → S' b) : BS w S' v bs := by
  obtain ⟨A, c, e, hc, h⟩ := h
  exact ⟨A, c, e, hc, fun h0 => by obtain ⟨b, o, e, hs, hb⟩ := h h0; exact ⟨b, o, e, hS b (hb.lt h0) hs, hb⟩⟩

/-! a buffer: a slice to which bytes are appended, from which bytes are cut ahead -/
/-- the bytes that wait, in block b -/
def BF (w : World) (v : Value) (b : Nat) (bs : Bs) : Prop :=
  (v = .slice none 0 0 ∧ bs = []) ∨
  ∃ off cap cur, v = .slice (some ⟨b, off, none⟩) bs.length cap ∧ bs.length ≤ cap ∧ cap ≤ maxLen ∧ w.heap[b]? = some (.cells cur 5 (0, 0)) ∧ off + cap ≤ cur.size ∧ (cur.toList.drop off).take bs.length = Lib.byteCells bs
theorem BF.nil (w : World) (b : Nat) : BF w (.slice none 0 0) b [] := .inl ⟨rfl, rfl⟩
theorem BF.grown {w w' : World} {v : Value} {b : Nat} {bs : Bs} {row : Option Nat} (h : BF w v b bs) (hg : w.grownBy w' row) (hr : some b ≠ row) : BF w' v b bs := by
  rcases h with h | ⟨off, cap, cur, rfl, h1, h2, hb, h3, h4⟩
  · exact .inl h
  · exact .inr ⟨off, cap, cur, rfl, h1, h2, (hg.block b (Array.getElem?_eq_some_iff.1 hb).1 hr).trans hb, h3, h4⟩
theorem BF.gt {w w' : World} {v : Value} {b : Nat} {bs : Bs} {T : Nat → Prop} (h : BF w v b bs) (hg : GT w w' T) (hT : ¬ T b) : BF w' v b bs := by
  rcases h with h | ⟨off, cap, cur, rfl, h1, h2, hb, h3, h4⟩
  · exact .inl h
  · exact .inr ⟨off, cap, cur, rfl, h1, h2, (hg.block b (Array.getElem?_eq_some_iff.1 hb).1 hT).trans hb, h3, h4⟩
theorem BF.ba {w : World} {v : Value} {b : Nat} {bs : Bs} (h : BF w v b bs) (h0 : bs ≠ []) : ∃ off cap, v = .slice (some ⟨b, off, none⟩) bs.length cap ∧ bs.length ≤ cap ∧ cap ≤ maxLen ∧ BA w b off bs := by
  rcases h with ⟨_, h⟩ | ⟨off, cap, cur, rfl, h1, h2, hb, h3, h4⟩
  · exact absurd h h0
  · refine ⟨off, cap, rfl, h1, h2, fun i hi => ?_⟩
    rw [cell_of_row w b (off + i) cur 5 (0, 0) hb]
    have e1 : ((cur.toList.drop off).take bs.length)[i]? = some (.int .u8 (bs[i].toNat : Int)) := by
      rw [h4]
      simp [Lib.byteCells, hi]
    rw [List.getElem?_take_of_lt hi, List.getElem?_drop] at e1
    simpa using e1
theorem BF.shape {w : World} {v : Value} {b : Nat} {bs : Bs} (h : BF w v b bs) : ∃ A c, v = .slice A bs.length c ∧ bs.length ≤ c := by
  rcases h with ⟨rfl, rfl⟩ | ⟨off, cap, cur, rfl, h1, _⟩
  · exact ⟨none, 0, rfl, Nat.le_refl _⟩
  · exact ⟨_, _, rfl, h1⟩
theorem info_u8 : (Tryz.prog.info? 5).map (fun i => (i.zero, i.size, i.bytes)) = some (some (.int .u8 0), 1, 1) := by kernel_rfl
theorem one_bytes (bs : Bs) : ∀ u ∈ Lib.byteCells bs, u.oneCell' = true := by
  intro u hu
  obtain ⟨_, _, rfl⟩ := List.mem_map.1 hu
  rfl
theorem gb_setRow (w : World) (g : Nat) (cs : Array Value) : w.grownBy (w.setRow g cs) (some g) :=
  ⟨rfl, rfl, rfl, by simp, fun k _ hne => setRow_other w g k cs (fun e => hne (by rw [e]))⟩
/-- bytes appended to a buffer -/
theorem run_append_bf {w : World} {v : Value} {b : Nat} {bs news : Bs} {x : Value} {ty : TypeId} (h : BF w v b bs) (hx : BV w x news) (hl : bs.length + news.length ≤ 1000000000) :
    ∃ v' w' b', (Builtin.append_ #[22, 22] ty #[v, x]).run Tryz.prog w = .ok v' w' ∧ BF w' v' b' (bs ++ news) ∧ w.grownBy w' (some b) ∧ (b' = b ∨ w.heap.size ≤ b') := by
  obtain ⟨i0, hi0, hz0, hz1, hz2⟩ := info_parts info_u8
  obtain ⟨A, c, rfl, hc, hx⟩ := hx
  by_cases hn : news = []
  · subst hn
    have hs : Src Tryz.prog i0.size 22 (.slice A 0 c) 0 [] w := by
      cases A with
      | none => exact ⟨.inl ⟨_, Tryz.underlying22⟩, fun _ => rfl, run_firstCells_none w i0.size 0 0 c, run_firstCells_none w.drew i0.size 0 0 c, by simp, fun _ h => by cases h⟩
      | some a => exact Src.ofSlice w Tryz.underlying22 a 0 c [] (by simp) (fun j u h => by simp at h) (fun _ h => by cases h)
    obtain ⟨A', c', rfl, hc'⟩ := h.shape
    exact ⟨_, w, b, run_append_nothing (P := Tryz.prog) w 22 22 ty 5 i0 Tryz.underlying22 hi0 A' bs.length c' hc' _ hs, by rw [List.append_nil]; exact h, gb_refl _ _, .inl rfl⟩
  · obtain ⟨g, o, rfl, hba⟩ := hx hn
    have hp : 0 < news.length := List.length_pos_iff.mpr hn
    have hlen : (Lib.byteCells news).length = news.length * i0.size := by rw [hz1, Lib.byteCells_length]; omega
    rcases h with ⟨rfl, rfl⟩ | ⟨off, cap, cur, rfl, h1, h2, hb, h3, h4⟩
    · have hrun := run_append_nil (P := Tryz.prog) (w := w) 22 ty 5 i0 _ Tryz.underlying22 hi0 hz0 ⟨g, o, none⟩ news.length c (Lib.byteCells news) hlen hba.cells hp (by simp at hl; omega) (by rw [hz2]; simp at hl; omega)
      refine ⟨_, _, w.heap.size, hrun, .inr ⟨0, _, _, rfl, ?_, ?_, heap_alloc_new _ _, ?_, ?_⟩, gb_row (gb_alloc (gb_drew (gb_refl _ _)) _) _, .inr (Nat.le_refl _)⟩
      · exact grownCap_ge _ _ _ _
      · exact grownCap_le_maxLen _ _ _ _ (by unfold maxLen; simp at hl; omega)
      · have := grownCap_ge w news.length 0 5
        simp [size_zeroCells, Lib.byteCells_length, Value.cells]
        omega
      · simp [Lib.byteCells]
    · by_cases hroom : bs.length + news.length ≤ cap
      · have hf := run_firstCells_some (P := Tryz.prog) w i0.size news.length ⟨g, o, none⟩ news.length c (Lib.byteCells news) hlen hba.cells
        have hst := run_storeCells_at Tryz.prog b (off + bs.length) 5 (Lib.byteCells news) 0 cur w hb (by rw [Lib.byteCells_length]; omega) (one_bytes _)
        simp only [Nat.add_zero] at hst
        have hrun : (Builtin.append_ #[22, 22] ty #[.slice (some ⟨b, off, none⟩) bs.length cap, .slice (some ⟨g, o, none⟩) news.length c]).run Tryz.prog w = .ok (.slice (some ⟨b, off, none⟩) (bs.length + news.length) cap) (w.setRow b (cur.toList.take (off + bs.length) ++ Lib.byteCells news ++ cur.toList.drop (off + bs.length + (Lib.byteCells news).length)).toArray) := by
          have e : (⟨b, off, none⟩ : Addr).add (bs.length * i0.size) = ⟨b, off + bs.length, none⟩ := by rw [add_lit, hz1, Nat.mul_one]
          simp [Builtin.append_, run_underlying Tryz.underlying22, sizeOf, typeInfo, hi0, Builtin.lenOf, hroom, hf, e, hst]
        refine ⟨_, _, b, hrun, .inr ⟨off, cap, _, by rw [List.length_append], by rw [List.length_append]; exact hroom, h2, setRow_heap w b cur _ _ _ hb, ?_, ?_⟩, gb_setRow _ _ _, .inl rfl⟩
        · simp [Lib.byteCells_length]
          omega
        · have e1 : (cur.toList.take (off + bs.length)).length = off + bs.length := by rw [List.length_take]; simp; omega
          rw [List.length_append, byteCells_app]
          rw [show ((cur.toList.take (off + bs.length) ++ Lib.byteCells news ++ cur.toList.drop (off + bs.length + (Lib.byteCells news).length)).toArray).toList = cur.toList.take (off + bs.length) ++ (Lib.byteCells news ++ cur.toList.drop (off + bs.length + (Lib.byteCells news).length)) from by simp]
          rw [List.drop_append_of_le_length (by omega), List.drop_take, show off + bs.length - off = bs.length from by omega, h4, List.take_append, Lib.byteCells_length, List.take_of_length_le (by rw [Lib.byteCells_length]; omega), show bs.length + news.length - bs.length = news.length from by omega, List.take_append_of_le_length (by rw [Lib.byteCells_length]; omega), List.take_of_length_le (by rw [Lib.byteCells_length]; omega)]
      · have holds : ∀ j u, (Lib.byteCells bs)[j]? = some u → w.cell? ((⟨b, off, none⟩ : Addr).add j) = some u := by
          intro j u hj
          have hlt : j < bs.length := by
            have := (List.getElem?_eq_some_iff.mp hj).1
            simpa [Lib.byteCells] using this
          rw [add_lit, cell_of_row w b (off + j) cur 5 (0, 0) hb]
          rw [← h4, List.getElem?_take_of_lt hlt, List.getElem?_drop] at hj
          simpa using hj
        have hrun := run_append_grow (P := Tryz.prog) (w := w) 22 ty 5 i0 _ Tryz.underlying22 hi0 hz0 ⟨b, off, none⟩ bs.length cap (Lib.byteCells bs) (by rw [hz1, Lib.byteCells_length]; omega) holds ⟨g, o, none⟩ news.length c (Lib.byteCells news) hlen hba.cells (by omega) (by omega) (growslice_fits (by omega) (by rw [hz2]; omega))
        refine ⟨_, _, w.heap.size, hrun, .inr ⟨0, _, _, by rw [List.length_append], ?_, ?_, heap_alloc_new _ _, ?_, ?_⟩, gb_row (gb_alloc (gb_drew (gb_refl _ _)) _) _, .inr (Nat.le_refl _)⟩
        · rw [List.length_append]; exact grownCap_ge _ _ _ _
        · exact grownCap_le_maxLen _ _ _ _ (by unfold maxLen; omega)
        · have := grownCap_ge w (bs.length + news.length) cap 5
          simp [size_zeroCells, Lib.byteCells_length, Value.cells]
          omega
        · rw [List.length_append, byteCells_app]
          simp only [List.drop_zero, Array.toList_append, List.append_assoc]
          rw [← List.append_assoc]
          exact List.take_left' (by simp [Lib.byteCells])
/-- .. for the walk -/
theorem wpList_append_bf {w : World} {ops : Array Oper} {rest : List Oper} {o : Oper} {a : Act} {Q : Exit → Act → World → Prop} (hgd : o.guard = none) (s x : Operand)
    (ho : o.op = .call { callee := .builtin .append, args := #[s, x], argTypes := #[22, 22] }) {v xv : Value} (hs : a.eval s = v) (hxv : a.eval x = xv) {b : Nat} {bs news : Bs} (h : BF w v b bs) (hx : BV w xv news) (hl : bs.length + news.length ≤ 1000000000)
    (hK : ∀ v' w' b', BF w' v' b' (bs ++ news) → w.grownBy w' (some b) → (b' = b ∨ w.heap.size ≤ b') → wpList Tryz.prog ops Q rest (a.put o.dst v') w') : wpList Tryz.prog ops Q (o :: rest) a w := by
  refine wpList_plain hgd fun K hK' => ?_
  obtain ⟨v', w', b', hrun, h1, h2, h3⟩ := run_append_bf (ty := o.type) h hx hl
  unfold Oper.wp
  simp [execOp, ho, resolve, invoke, builtin, hs, hxv, hrun, Result.andThen]
  exact hK' _ _ (hK v' w' b' h1 h2 h3)
/-- bytes cut ahead: the value as the model has it -/
theorem BF.cut {w : World} {b off cap k : Nat} {bs : Bs} (h : BF w (.slice (some ⟨b, off, none⟩) bs.length cap) b bs) (hk : k ≤ bs.length) (A : Option Addr) (hA : A = some (if cap = k then ⟨b, off, none⟩ else ⟨b, off + k, none⟩)) : BF w (.slice A (bs.length - k) (cap - k)) b (bs.drop k) := by
  rcases h with ⟨h, _⟩ | ⟨off', cap', cur, he, h1, h2, hb, h3, h4⟩
  · cases h
  · simp only [Value.slice.injEq, Option.some.injEq, Addr.mk.injEq, and_true, true_and] at he
    obtain ⟨rfl, rfl⟩ := he
    subst hA
    refine .inr ⟨if cap = k then off else off + k, cap - k, cur, ?_, ?_, by omega, hb, ?_, ?_⟩
    · rw [List.length_drop]; split <;> rfl
    · rw [List.length_drop]; omega
    · split <;> omega
    · rw [List.length_drop]
      by_cases hc : cap = k
      · have : bs.length - k = 0 := by omega
        rw [this]
        have e : bs.drop k = [] := List.drop_eq_nil_of_le (by omega)
        rw [e]; simp [Lib.byteCells]
      · rw [if_neg hc]
        have e : ((cur.toList.drop off).take bs.length).drop k = (Lib.byteCells bs).drop k := by rw [h4]
        rw [List.drop_take, List.drop_drop] at e
        rw [e]
        simp [Lib.byteCells]
end Go.Proofs.YtdfgnoflohfnmaaGreatDoor.Hx
