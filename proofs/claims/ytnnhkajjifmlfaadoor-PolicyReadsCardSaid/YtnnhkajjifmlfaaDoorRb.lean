/- The reference's value and many: what they compute; what holds at each round's head of many. -/
import Derived.Test.YtnnhkajjifmlfaaDoorJb
import Derived.Test.YtnnhkajjifmlfaaDoorRa
/-! The reference's value and many: what they compute; what holds at each round's head of many. -/

namespace Go.Proofs.YtnnhkajjifmlfaaDoor
open Go.RowKit Go.Maps

/-- what a reader of values leaves: the value in new memory, the reader's block alone turned -/
def VQ (s : ByteArray) (R : Nat) (w : World) (x : J × QS) (e : Ending) (w' : World) : Prop :=
  ∃ (A1 : Option Addr) (n1 c1 : Nat) (A2 : Option Addr) (n2 c2 : Nat) (S : Nat → Prop),
    e = .returned (.agg #[.int .i64 x.1.k, .int .i64 x.1.n, .string x.1.t, .slice A1 n1 c1, .slice A2 n2 c2]) ∧
    JAt w' S x.1 (.agg #[.int .i64 x.1.k, .int .i64 x.1.n, .string x.1.t, .slice A1 n1 c1, .slice A2 n2 c2]) ∧
    (∀ b, S b → w.heap.size ≤ b ∧ b < w'.heap.size) ∧ RQ w' R s x.2 ∧ w.grownBy w' (some R)
theorem VQ.bare {s : ByteArray} {R : Nat} {w w' : World} {k n : Int} {t : ByteArray} {q : QS} (h1 : RQ w' R s q) (h2 : w.grownBy w' (some R)) :
    VQ s R w (.mk k n t [] [], q) (.returned (.agg #[.int .i64 k, .int .i64 n, .string t, .slice none 0 0, .slice none 0 0])) w' :=
  ⟨none, 0, 0, none, 0, 0, fun _ => False, rfl, .bare k n t, fun _ h => h.elim, h1, h2⟩
/-- the value that stands next, no blanks before it or behind it -/
def valQ (s : ByteArray) (many : Int → Int → QS → J × QS) (q : QS) : J × QS :=
  if chr s q.p = 110 then (YtnnhkajjifmlfaaDoor.bare 1 0, mustQ s (nats bNull) q)
  else if chr s q.p = 116 then (YtnnhkajjifmlfaaDoor.bare 2 1, mustQ s (nats bTrue) q)
  else if chr s q.p = 102 then (YtnnhkajjifmlfaaDoor.bare 2 0, mustQ s (nats bFalse) q)
  else if chr s q.p = 34 then (.mk 4 0 ⟨(qtQ s q).1.toArray⟩ [] [], (qtQ s q).2)
  else if chr s q.p = 91 then many 5 93 q
  else if chr s q.p = 123 then many 6 125 q
  else if chr s q.p = 45 ∨ (48 ≤ chr s q.p ∧ chr s q.p ≤ 57) then (YtnnhkajjifmlfaaDoor.bare 3 (numQ s q).1, (numQ s q).2)
  else (YtnnhkajjifmlfaaDoor.bare 0 0, failQ q q.p 4)
def valueQ (s : ByteArray) (many : Int → Int → QS → J × QS) (q : QS) : J × QS :=
  if q.bad < 0 then ((valQ s many (blanksQ s q)).1, blanksQ s (valQ s many (blanksQ s q)).2) else (YtnnhkajjifmlfaaDoor.bare 0 0, q)
def nameQ (s : ByteArray) (kind : Int) (names : List ByteArray) (q : QS) : List ByteArray × QS :=
  if kind = 6 then (names ++ [⟨(qtQ s q).1.toArray⟩], mustQ s (nats ⟨#[58]⟩) (blanksQ s (qtQ s q).2)) else (names, q)
def manyQF (s : ByteArray) (val : QS → J × QS) (kind en : Int) : Nat → List ByteArray → List J → QS → J × QS
  | 0, names, list, q => (.mk kind 0 ⟨#[]⟩ names list, q)
  | n + 1, names, list, q =>
    if q.bad < 0 then
      let x := nameQ s kind names q
      let y := val x.2
      if (chr s y.2.p : Int) = en then (.mk kind 0 ⟨#[]⟩ x.1 (list ++ [y.1]), stepQ y.2)
      else manyQF s val kind en n x.1 (list ++ [y.1]) (blanksQ s (mustQ s (nats ⟨#[44]⟩) y.2))
    else (.mk kind 0 ⟨#[]⟩ names list, q)
def manyQW (s : ByteArray) (val : QS → J × QS) (kind en : Int) (q : QS) : J × QS :=
  let x := blanksQ s (stepQ q)
  if (chr s x.p : Int) = en then (YtnnhkajjifmlfaaDoor.bare kind 0, stepQ x)
  else manyQF s val kind en (s.size + 2) [] [] x
def manyQD (s : ByteArray) : Nat → Int → Int → QS → J × QS
  | 0, kind, _, q => (YtnnhkajjifmlfaaDoor.bare kind 0, failQ q q.p 3)
  | k + 1, kind, en, q => manyQW s (valueQ s (manyQD s k)) kind en q
def valueQD (s : ByteArray) (k : Nat) : QS → J × QS := valueQ s (manyQD s k)

structure MQ (w wr : World) (s : ByteArray) (R : Nat) (τ : QS) (kind : Int) (names : List ByteArray) (list : List J) (nv lv : Value) : Prop where
  rl : R < w.heap.size
  rd : RQ wr R s τ
  jb : JB wr (w.heap.size) (.int .i64 kind) (.int .i64 0) (.string ⟨#[]⟩) nv lv
  br : JB wr (w.heap.size + 1) (.int .i64 0) (.int .i64 0) (.string ⟨#[]⟩) (.slice none 0 0) (.slice none 0 0)
  hn : wr.ownsRow (w.heap.size + 2) 9 1 nv names.length (names.map Value.string)
  hl : ∃ xs S, wr.ownsRow (w.heap.size + 2) 26 5 lv list.length xs ∧ Flat wr S list xs ∧ ∀ b, S b → w.heap.size + 2 ≤ b ∧ b < wr.heap.size ∧ nv.ownBlock ≠ some b ∧ lv.ownBlock ≠ some b
  gb : w.grownBy wr (some R)

section
variable {w wr : World} {s : ByteArray} {R : Nat} {τ : QS} {kind : Int} {names : List ByteArray} {list : List J} {nv lv : Value}
/-- a call that turns the reader's block alone -/
theorem MQ.same (h : MQ w wr s R τ kind names list nv lv) {w' : World} {τ' : QS} (hR : RQ w' R s τ') (hg : wr.grownBy w' (some R)) : MQ w w' s R τ' kind names list nv lv := by
  have hl := h.rl
  obtain ⟨xs, S, h1, h2, h3⟩ := h.hl
  refine ⟨hl, hR, h.jb.kept hg (by simp; omega), h.br.kept hg (by simp; omega), own_keptR h.hn hg (by omega), ⟨xs, S, own_keptR h1 hg (by omega), h2.keep (fun b hb => hg.block b (h3 b hb).2.1 (by have := (h3 b hb).1; simp; omega)) (fun _ => id), fun b hb => ⟨(h3 b hb).1, Nat.lt_of_lt_of_le (h3 b hb).2.1 hg.size, (h3 b hb).2.2⟩⟩, gb_trans h.gb hg⟩
theorem MQ.drewN (h : MQ w wr s R τ kind names list nv lv) (n : Nat) : MQ w (wr.drewN n) s R τ kind names list nv lv := h.same (h.rd.drewN n) (gb_drewN (gb_refl _ _) n)
theorem MQ.drew (h : MQ w wr s R τ kind names list nv lv) : MQ w wr.drew s R τ kind names list nv lv := h.same h.rd.drew (gb_drew (gb_refl _ _))
/-- v.Names = append(v.Names, t): behind the store -/
theorem MQ.name (h : MQ w wr s R τ kind names list nv lv) {t : ByteArray} {o : Obj} {w2 : World} {g cap : Nat}
    (hown : w2.ownsRow (w.heap.size + 2) 9 1 (.slice (some ⟨g, 0, none⟩) (names.length + 1) cap) (names.length + 1) (names.map Value.string ++ [.string t])) (hg : (wr.alloc o).grownBy w2 nv.ownBlock) (hat : nv.ownBlock = some g ∨ g = wr.heap.size + 1) :
    MQ w (w2.setCell ⟨w.heap.size, 3, none⟩ (.slice (some ⟨g, 0, none⟩) (names.length + 1) cap)) s R τ kind (names ++ [t]) list (.slice (some ⟨g, 0, none⟩) (names.length + 1) cap) lv := by
  have hrl := h.rl
  obtain ⟨xs, S, h1, h2, h3⟩ := h.hl
  have hnlt := h.hn.lt
  have hllt := h1.lt
  have hne := own_ne h1 h.hn (by decide)
  have hblk : ∀ b, b < wr.heap.size → nv.ownBlock ≠ some b → w2.heap[b]? = wr.heap[b]? := fun b hb hne => (hg.block b (by simp; omega) (Ne.symm hne)).trans (Below.heap_alloc wr o b hb)
  have hno : ∀ b, b ≤ w.heap.size → nv.ownBlock ≠ some b := fun b hb e => by have := (hnlt b e).1; omega
  have hno1 : nv.ownBlock ≠ some (w.heap.size + 1) := fun e => by have := (hnlt _ e).1; omega
  have hsz : wr.heap.size + 1 ≤ w2.heap.size := by have := hg.size; simpa using this
  have hgg : w.heap.size + 2 ≤ g := by
    rcases hat with e | e
    · exact (hnlt g e).1
    · have := h.jb.lt; omega
  have hglt : g ≠ w.heap.size := by omega
  refine ⟨hrl, ?_, ?_, ?_, ?_, ⟨xs, S, ?_, ?_, ?_⟩, ?_⟩
  · exact RQ.far ((hblk R h.rd.lt (hno R (by omega))).trans h.rd) (a := ⟨w.heap.size, 3, none⟩) (by simp; omega) _
  · have hj : JB w2 (w.heap.size) (.int .i64 kind) (.int .i64 0) (.string ⟨#[]⟩) nv lv := (hblk _ h.jb.lt (hno _ (by omega))).trans h.jb
    unfold JB at hj ⊢
    simp [World.setCell, Array.getElem?_modify, hj]
  · exact JB.far ((hblk _ h.br.lt (hno1)).trans h.br) (q := ⟨w.heap.size, 3, none⟩) (by simp) _
  · rw [List.length_append, List.map_append]
    exact ownsRow_setCell_below hown (by simp) _
  · refine ownsRow_setCell_below (h1.alloc o |>.kept hg ?_) (by simp) _
    rcases hne with e | e
    · exact .inl e
    · exact .inr e
  · refine h2.keep (fun b hb => ?_) (fun _ => id)
    rw [Below.heap_setCell _ _ _ _ (by have := (h3 b hb).1; simp; omega)]
    exact hblk b (h3 b hb).2.1 (h3 b hb).2.2.1
  · intro b hb
    obtain ⟨q1, q2, q3, q4⟩ := h3 b hb
    refine ⟨q1, by simp [World.setCell]; omega, ?_, q4⟩
    simp only [Value.ownBlock, ne_eq, Option.some.injEq]
    rintro rfl
    rcases hat with e | e
    · exact q3 e
    · omega
  · exact gb_set (g := R) (gb_more (gb_alloc h.gb o) hg (fun k hk => .inr (by have := (hnlt k hk).1; omega))) (.inr (by simp)) _
theorem MQ.alloc (h : MQ w wr s R τ kind names list nv lv) (o : Obj) : MQ w (wr.alloc o) s R τ kind names list nv lv := h.same (h.rd.alloc o) (gb_alloc (gb_refl _ _) o)
theorem MQ.far (h : MQ w wr s R τ kind names list nv lv) {o : Obj} {w2 : World} {row : Option Nat} (hg : (wr.alloc o).grownBy w2 row) (hr : ∀ k, row = some k → w.heap.size + 2 ≤ k) :
    JB w2 (w.heap.size) (.int .i64 kind) (.int .i64 0) (.string ⟨#[]⟩) nv lv := by
  have ha := h.alloc o
  have hno : ∀ b, b ≤ w.heap.size → some b ≠ row := fun b hb e => by have := hr b e.symm; omega
  exact ha.jb.kept hg (hno _ (by omega))
/-- what has been gathered, as a value -/
theorem MQ.val (h : MQ w wr s R τ kind names list nv lv) : ∃ S : Nat → Prop, JAt wr S (.mk kind 0 ⟨#[]⟩ names list) (.agg #[.int .i64 kind, .int .i64 0, .string ⟨#[]⟩, nv, lv]) ∧ ∀ b, S b → w.heap.size + 2 ≤ b ∧ b < wr.heap.size := by
  obtain ⟨xs, S, h1, h2, h3⟩ := h.hl
  refine ⟨fun b => S b ∨ nv.ownBlock = some b ∨ lv.ownBlock = some b, JAt.of_own h.hn h1 h2 (fun _ => .inl) (fun g hg => .inr (.inl hg)) (fun g hg => .inr (.inr hg)), ?_⟩
  rintro b (hb | hb | hb)
  · exact ⟨(h3 b hb).1, (h3 b hb).2.1⟩
  · exact h.hn.lt b hb
  · exact h1.lt b hb
end
end Go.Proofs.YtnnhkajjifmlfaaDoor

/-! The reference's reader goes on, within the text. -/

namespace Go.Proofs.YtnnhkajjifmlfaaDoor
open Go.RowKit Go.Maps

structure QGo (s : ByteArray) (q r : QS) : Prop where
  ge : q.p ≤ r.p
  le : r.p ≤ s.size
  er : 0 ≤ q.bad → 0 ≤ r.bad
section
variable {s : ByteArray} {q r t : QS}
theorem QGo.refl (h : q.p ≤ s.size) : QGo s q q := ⟨Nat.le_refl _, h, id⟩
theorem QGo.trans (h : QGo s q r) (k : QGo s r t) : QGo s q t := ⟨Nat.le_trans h.ge k.ge, k.le, fun e => k.er (h.er e)⟩
theorem chr_pos {i : Nat} (h : chr s i ≠ 0) : i < s.size := by
  rcases Nat.lt_or_ge i s.size with h1 | h1
  · exact h1
  · exact absurd (chr_out h1) h
end
end Go.Proofs.YtnnhkajjifmlfaaDoor

/-! The reference's value: one walk for each way through its switch. -/

namespace Go.Proofs.YtnnhkajjifmlfaaDoor
open Go.RowKit Go.Maps

section
variable {w : World} {B : Nat} {a0 a1 a2 a3 a4 : Value}
theorem JB.set0 (h : JB w B a0 a1 a2 a3 a4) (x : Value) : JB (w.setCell ⟨B, 0, none⟩ x) B x a1 a2 a3 a4 := by
  unfold JB at h ⊢; simp [World.setCell, Array.getElem?_modify, h]
theorem JB.set1 (h : JB w B a0 a1 a2 a3 a4) (x : Value) : JB (w.setCell ⟨B, 1, none⟩ x) B a0 x a2 a3 a4 := by
  unfold JB at h ⊢; simp [World.setCell, Array.getElem?_modify, h]
theorem JB.set2 (h : JB w B a0 a1 a2 a3 a4) (x : Value) : JB (w.setCell ⟨B, 2, none⟩ x) B a0 a1 x a3 a4 := by
  unfold JB at h ⊢; simp [World.setCell, Array.getElem?_modify, h]
end
/-- within the reference's value: the reader's block R, v's block B, the result's block -/
structure VI (w wr : World) (s : ByteArray) (R : Nat) (q : QS) (B : Nat) (a0 a1 a2 a3 a4 : Value) : Prop where
  rl : R < w.heap.size
  rd : RQ wr R s q
  jb : JB wr B a0 a1 a2 a3 a4
  br : JB wr w.heap.size (.int .i64 0) (.int .i64 0) (.string ⟨#[]⟩) (.slice none 0 0) (.slice none 0 0)
  bl : w.heap.size < B
  gb : w.grownBy wr (some R)
section
variable {w wr : World} {s : ByteArray} {R : Nat} {q r : QS} {B : Nat} {a0 a1 a2 a3 a4 : Value}
theorem VI.same (h : VI w wr s R q B a0 a1 a2 a3 a4) {w' : World} (hR : RQ w' R s r) (hg : wr.grownBy w' (some R)) : VI w w' s R r B a0 a1 a2 a3 a4 := by
  have h1 := h.rl; have h2 := h.bl
  exact ⟨h1, hR, h.jb.kept hg (by simp; omega), h.br.kept hg (by simp; omega), h2, gb_trans h.gb hg⟩
theorem VI.drewN (h : VI w wr s R q B a0 a1 a2 a3 a4) (n : Nat) : VI w (wr.drewN n) s R q B a0 a1 a2 a3 a4 := h.same (h.rd.drewN n) (gb_drewN (gb_refl _ _) n)
theorem VI.set0 (h : VI w wr s R q B a0 a1 a2 a3 a4) (x : Value) : VI w (wr.setCell ⟨B, 0, none⟩ x) s R q B x a1 a2 a3 a4 := by
  have h1 := h.rl; have h2 := h.bl
  exact ⟨h1, h.rd.far (a := ⟨B, 0, none⟩) (by simp; omega) _, h.jb.set0 x, h.br.far (q := ⟨B, 0, none⟩) (by simp; omega) _, h2, gb_set h.gb (.inr (by simp; omega)) _⟩
theorem VI.set1 (h : VI w wr s R q B a0 a1 a2 a3 a4) (x : Value) : VI w (wr.setCell ⟨B, 1, none⟩ x) s R q B a0 x a2 a3 a4 := by
  have h1 := h.rl; have h2 := h.bl
  exact ⟨h1, h.rd.far (a := ⟨B, 1, none⟩) (by simp; omega) _, h.jb.set1 x, h.br.far (q := ⟨B, 1, none⟩) (by simp; omega) _, h2, gb_set h.gb (.inr (by simp; omega)) _⟩
theorem VI.set2 (h : VI w wr s R q B a0 a1 a2 a3 a4) (x : Value) : VI w (wr.setCell ⟨B, 2, none⟩ x) s R q B a0 a1 x a3 a4 := by
  have h1 := h.rl; have h2 := h.bl
  exact ⟨h1, h.rd.far (a := ⟨B, 2, none⟩) (by simp; omega) _, h.jb.set2 x, h.br.far (q := ⟨B, 2, none⟩) (by simp; omega) _, h2, gb_set h.gb (.inr (by simp; omega)) _⟩
theorem JB.put5far {x0 x1 x2 x3 x4 : Value} {C : Nat} (h : JB w C x0 x1 x2 x3 x4) (hne : C ≠ B) : JB (YtnnhkajjifmlfaaDoor.put5 w B a0 a1 a2 a3 a4) C x0 x1 x2 x3 x4 := by
  unfold JB at h ⊢; rw [put5_heap hne]; exact h
theorem VI.put5 (h : VI w wr s R q B a0 a1 a2 a3 a4) (x0 x1 x2 x3 x4 : Value) : VI w (YtnnhkajjifmlfaaDoor.put5 wr B x0 x1 x2 x3 x4) s R q B x0 x1 x2 x3 x4 := by
  have h1 := h.rl; have h2 := h.bl
  exact ⟨h1, h.rd.put5 (by omega) _ _ _ _ _, h.jb.put5 _ _ _ _ _, h.br.put5far (by omega), h2, gb_put5 h.gb (by omega) _ _ _ _ _⟩
theorem VQ.put {x0 x1 x2 x3 x4 : Value} {w2 w3 w5 : World} {j : J} {r3 : QS} {A1 A2 : Option Addr} {m1 d1 m2 d2 : Nat} {S : Nat → Prop} (h3 : VI w w2 s R q B a0 a1 a2 a3 a4)
    (hj : JAt w3 S j (.agg #[.int .i64 j.k, .int .i64 j.n, .string j.t, .slice A1 m1 d1, .slice A2 m2 d2])) (hS : ∀ b, S b → w2.heap.size ≤ b ∧ b < w3.heap.size)
    (h5 : VI w w5 s R r3 B x0 x1 x2 x3 x4) (hg5 : (YtnnhkajjifmlfaaDoor.put5 w3 B (.int .i64 j.k) (.int .i64 j.n) (.string j.t) (.slice A1 m1 d1) (.slice A2 m2 d2)).grownBy w5 (some R)) :
    VQ s R w (j, r3) (.returned (.agg #[.int .i64 j.k, .int .i64 j.n, .string j.t, .slice A1 m1 d1, .slice A2 m2 d2])) (YtnnhkajjifmlfaaDoor.put5 w5 w.heap.size (.int .i64 j.k) (.int .i64 j.n) (.string j.t) (.slice A1 m1 d1) (.slice A2 m2 d2)) := by
  have h1 := h3.rl
  have h2 := h3.bl
  have h4 := h3.jb.lt
  have hs5 := hg5.size
  rw [put5_size] at hs5
  refine ⟨A1, m1, d1, A2, m2, d2, S, rfl, hj.keep (fun b hb => ?_) (fun _ => id), fun b hb => ?_, h5.rd.put5 (by omega) _ _ _ _ _, gb_put5 h5.gb (Nat.le_refl _) _ _ _ _ _⟩
  · have := hS b hb
    rw [put5_heap (by omega), hg5.block b (by rw [put5_size]; omega) (by simp; omega), put5_heap (by omega)]
  · have := hS b hb
    rw [put5_size]; omega
end
end Go.Proofs.YtnnhkajjifmlfaaDoor

/-! The reference's value whole, given many; many nested too deep. -/

namespace Go.Proofs.YtnnhkajjifmlfaaDoor
open Go.RowKit Go.Maps

end Go.Proofs.YtnnhkajjifmlfaaDoor

/-! The reference's many: a list, given value. -/

namespace Go.Proofs.YtnnhkajjifmlfaaDoor
open Go.RowKit Go.Maps
attribute [local go_sem ↓] Go.wp_at_zero Go.wp_at_succ

end Go.Proofs.YtnnhkajjifmlfaaDoor

/-! The reference's many: a map, given value. -/

namespace Go.Proofs.YtnnhkajjifmlfaaDoor
open Go.RowKit Go.Maps
attribute [local go_sem ↓] Go.wp_at_zero Go.wp_at_succ

end Go.Proofs.YtnnhkajjifmlfaaDoor

/-! The reference's Parse: it computes parseQ. -/

namespace Go.Proofs.YtnnhkajjifmlfaaDoor
open Go.RowKit Go.Maps

def endQ (s : ByteArray) (q : QS) : QS := if q.bad < 0 ∧ q.p < s.size then failQ q q.p 4 else q
def topQ (s : ByteArray) : J × QS := ((valueQD s 64 ⟨0, -1, 0⟩).1, endQ s (valueQD s 64 ⟨0, -1, 0⟩).2)
def outQ (x : J × QS) : J × Int × Int := if x.2.bad < 0 then (x.1, 0, 0) else (bare 0 0, x.2.bad, x.2.e)
/-- what the reference's Parse hands back: the value, the place, the error -/
def parseQ (s : ByteArray) : J × Int × Int := if 1048576 < s.size then (bare 0 0, -1, 3) else outQ (topQ s)

theorem RQ.new {w : World} {n : Nat} (s : ByteArray) (hn : w.heap.size = n) : RQ (w.alloc (.cells #[.string s, .int .i64 0, .int .i64 (-1), .int .i64 0] 72)) n s ⟨0, -1, 0⟩ := by
  subst hn; exact heap_alloc_new w _

end Go.Proofs.YtnnhkajjifmlfaaDoor
