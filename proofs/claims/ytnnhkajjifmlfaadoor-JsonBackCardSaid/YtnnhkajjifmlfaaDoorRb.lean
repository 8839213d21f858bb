/- The reference's value and many: what they compute; what holds at each round's head of many. -/
import Derived.Test.YtnnhkajjifmlfaaDoorJb
import Derived.Test.YtnnhkajjifmlfaaDoorRa
/-! The reference's value and many: what they compute; what holds at each round's head of many. -/

namespace Go.Proofs.YtnnhkajjifmlfaaDoor
open Go.RowKit Go.Maps

/-- what a reader of values leaves: the value in new memory, the reader's block alone turned -/
def VQ (s : ByteArray) (R : Nat) (w : World) (x : J × QS) (e : Ending) (w' : World) : Prop :=
  ∃ (A1 : Option Addr) (n1 c1 : Nat) (A2 : Option Addr) (n2 c2 : Nat) (S : Nat → Prop),
    e = .returned (.agg #[.int .i64 x.1.k, .int .i64 x.1.n, .string x.1.t, .slice A1 n1 c1, .slice A2 n2 c2]) ∧
    JAt w' S x.1 (.agg #[.int .i64 x.1.k, .int .i64 x.1.n, .string x.1.t, .slice A1 n1 c1, .slice A2 n2 c2]) ∧
    (∀ b, S b → w.heap.size ≤ b ∧ b < w'.heap.size) ∧ RQ w' R s x.2 ∧ w.grownBy w' (some R)
theorem VQ.bare {s : ByteArray} {R : Nat} {w w' : World} {k n : Int} {t : ByteArray} {q : QS} (h1 : RQ w' R s q) (h2 : w.grownBy w' (some R)) :
    VQ s R w (.mk k n t [] [], q) (.returned (.agg #[.int .i64 k, .int .i64 n, .string t, .slice none 0 0, .slice none 0 0])) w' :=
  ⟨none, 0, 0, none, 0, 0, fun _ => False, rfl, .bare k n t, fun _ h => h.elim, h1, h2⟩
/-- the value that stands next, no blanks before it or behind it -/
def valQ (s : ByteArray) (many : Int → Int → QS → J × QS) (q : QS) : J × QS :=
  if chr s q.p = 110 then (YtnnhkajjifmlfaaDoor.bare 1 0, mustQ s (nats bNull) q)
  else if chr s q.p = 116 then (YtnnhkajjifmlfaaDoor.bare 2 1, mustQ s (nats bTrue) q)
  else if chr s q.p = 102 then (YtnnhkajjifmlfaaDoor.bare 2 0, mustQ s (nats bFalse) q)
  else if chr s q.p = 34 then (.mk 4 0 ⟨(qtQ s q).1.toArray⟩ [] [], (qtQ s q).2)
  else if chr s q.p = 91 then many 5 93 q
  else if chr s q.p = 123 then many 6 125 q
  else if chr s q.p = 45 ∨ (48 ≤ chr s q.p ∧ chr s q.p ≤ 57) then (YtnnhkajjifmlfaaDoor.bare 3 (numQ s q).1, (numQ s q).2)
  else (YtnnhkajjifmlfaaDoor.bare 0 0, failQ q q.p 4)
def valueQ (s : ByteArray) (many : Int → Int → QS → J × QS) (q : QS) : J × QS :=
  if q.bad < 0 then ((valQ s many (blanksQ s q)).1, blanksQ s (valQ s many (blanksQ s q)).2) else (YtnnhkajjifmlfaaDoor.bare 0 0, q)
def nameQ (s : ByteArray) (kind : Int) (names : List ByteArray) (q : QS) : List ByteArray × QS :=
  if kind = 6 then (names ++ [⟨(qtQ s q).1.toArray⟩], mustQ s (nats ⟨#[58]⟩) (blanksQ s (qtQ s q).2)) else (names, q)
def manyQF (s : ByteArray) (val : QS → J × QS) (kind en : Int) : Nat → List ByteArray → List J → QS → J × QS
  | 0, names, list, q => (.mk kind 0 ⟨#[]⟩ names list, q)
  | n + 1, names, list, q =>
    if q.bad < 0 then
      let x := nameQ s kind names q
      let y := val x.2
      if (chr s y.2.p : Int) = en then (.mk kind 0 ⟨#[]⟩ x.1 (list ++ [y.1]), stepQ y.2)
      else manyQF s val kind en n x.1 (list ++ [y.1]) (blanksQ s (mustQ s (nats ⟨#[44]⟩) y.2))
    else (.mk kind 0 ⟨#[]⟩ names list, q)
def manyQW (s : ByteArray) (val : QS → J × QS) (kind en : Int) (q : QS) : J × QS :=
  let x := blanksQ s (stepQ q)
  if (chr s x.p : Int) = en then (YtnnhkajjifmlfaaDoor.bare kind 0, stepQ x)
  else manyQF s val kind en (s.size + 2) [] [] x
def manyQD (s : ByteArray) : Nat → Int → Int → QS → J × QS
  | 0, kind, _, q => (YtnnhkajjifmlfaaDoor.bare kind 0, failQ q q.p 3)
  | k + 1, kind, en, q => manyQW s (valueQ s (manyQD s k)) kind en q
def valueQD (s : ByteArray) (k : Nat) : QS → J × QS := valueQ s (manyQD s k)

structure MQ (w wr : World) (s : ByteArray) (R : Nat) (τ : QS) (kind : Int) (names : List ByteArray) (list : List J) (nv lv : Value) : Prop where
  rl : R < w.heap.size
  rd : RQ wr R s τ
  jb : JB wr (w.heap.size) (.int .i64 kind) (.int .i64 0) (.string ⟨#[]⟩) nv lv
  br : JB wr (w.heap.size + 1) (.int .i64 0) (.int .i64 0) (.string ⟨#[]⟩) (.slice none 0 0) (.slice none 0 0)
  hn : wr.ownsRow (w.heap.size + 2) 9 1 nv names.length (names.map Value.string)
  hl : ∃ xs S, wr.ownsRow (w.heap.size + 2) 26 5 lv list.length xs ∧ Flat wr S list xs ∧ ∀ b, S b → w.heap.size + 2 ≤ b ∧ b < wr.heap.size ∧ nv.ownBlock ≠ some b ∧ lv.ownBlock ≠ some b
  gb : w.grownBy wr (some R)

section
variable {w wr : World} {s : ByteArray} {R : Nat} {τ : QS} {kind : Int} {names : List ByteArray} {list : List J} {nv lv : Value}
/-- a call that turns the reader's block alone -/
theorem MQ.same (h : MQ w wr s R τ kind names list nv lv) {w' : World} {τ' : QS} (hR : RQ w' R s τ') (hg : wr.grownBy w' (some R)) : MQ w w' s R τ' kind names list nv lv := by
  have hl := h.rl
  obtain ⟨xs, S, h1, h2, h3⟩ := h.hl
  refine ⟨hl, hR, h.jb.kept hg (by simp; omega), h.br.kept hg (by simp; omega), own_keptR h.hn hg (by omega), ⟨xs, S, own_keptR h1 hg (by omega), h2.keep (fun b hb => hg.block b (h3 b hb).2.1 (by have := (h3 b hb).1; simp; omega)) (fun _ => id), fun b hb => ⟨(h3 b hb).1, Nat.lt_of_lt_of_le (h3 b hb).2.1 hg.size, (h3 b hb).2.2⟩⟩, gb_trans h.gb hg⟩
theorem MQ.drewN (h : MQ w wr s R τ kind names list nv lv) (n : Nat) : MQ w (wr.drewN n) s R τ kind names list nv lv := h.same (h.rd.drewN n) (gb_drewN (gb_refl _ _) n)
theorem MQ.drew (h : MQ w wr s R τ kind names list nv lv) : MQ w wr.drew s R τ kind names list nv lv := h.same h.rd.drew (gb_drew (gb_refl _ _))
/-- v.Names = append(v.Names, t): behind the store -/
theorem MQ.name (h : MQ w wr s R τ kind names list nv lv) {t : ByteArray} {o : Obj} {w2 : World} {g cap : Nat}
    (hown : w2.ownsRow (w.heap.size + 2) 9 1 (.slice (some ⟨g, 0, none⟩) (names.length + 1) cap) (names.length + 1) (names.map Value.string ++ [.string t])) (hg : (wr.alloc o).grownBy w2 nv.ownBlock) (hat : nv.ownBlock = some g ∨ g = wr.heap.size + 1) :
    MQ w (w2.setCell ⟨w.heap.size, 3, none⟩ (.slice (some ⟨g, 0, none⟩) (names.length + 1) cap)) s R τ kind (names ++ [t]) list (.slice (some ⟨g, 0, none⟩) (names.length + 1) cap) lv := by
  have hrl := h.rl
  obtain ⟨xs, S, h1, h2, h3⟩ := h.hl
  have hnlt := h.hn.lt
  have hllt := h1.lt
  have hne := own_ne h1 h.hn (by decide)
  have hblk : ∀ b, b < wr.heap.size → nv.ownBlock ≠ some b → w2.heap[b]? = wr.heap[b]? := fun b hb hne => (hg.block b (by simp; omega) (Ne.symm hne)).trans (Below.heap_alloc wr o b hb)
  have hno : ∀ b, b ≤ w.heap.size → nv.ownBlock ≠ some b := fun b hb e => by have := (hnlt b e).1; omega
  have hno1 : nv.ownBlock ≠ some (w.heap.size + 1) := fun e => by have := (hnlt _ e).1; omega
  have hsz : wr.heap.size + 1 ≤ w2.heap.size := by have := hg.size; simpa using this
  have hgg : w.heap.size + 2 ≤ g := by
    rcases hat with e | e
    · exact (hnlt g e).1
    · have := h.jb.lt; omega
  have hglt : g ≠ w.heap.size := by omega
  refine ⟨hrl, ?_, ?_, ?_, ?_, ⟨xs, S, ?_, ?_, ?_⟩, ?_⟩
  · exact RQ.far ((hblk R h.rd.lt (hno R (by omega))).trans h.rd) (a := ⟨w.heap.size, 3, none⟩) (by simp; omega) _
  · have hj : JB w2 (w.heap.size) (.int .i64 kind) (.int .i64 0) (.string ⟨#[]⟩) nv lv := (hblk _ h.jb.lt (hno _ (by omega))).trans h.jb
    unfold JB at hj ⊢
    simp [World.setCell, Array.getElem?_modify, hj]
  · exact JB.far ((hblk _ h.br.lt (hno1)).trans h.br) (q := ⟨w.heap.size, 3, none⟩) (by simp) _
  · rw [List.length_append, List.map_append]
    exact ownsRow_setCell_below hown (by simp) _
  · refine ownsRow_setCell_below (h1.alloc o |>.kept hg ?_) (by simp) _
    rcases hne with e | e
    · exact .inl e
    · exact .inr e
  · refine h2.keep (fun b hb => ?_) (fun _ => id)
    rw [Below.heap_setCell _ _ _ _ (by have := (h3 b hb).1; simp; omega)]
    exact hblk b (h3 b hb).2.1 (h3 b hb).2.2.1
  · intro b hb
    obtain ⟨q1, q2, q3, q4⟩ := h3 b hb
    refine ⟨q1, by simp [World.setCell]; omega, ?_, q4⟩
    simp only [Value.ownBlock, ne_eq, Option.some.injEq]
    rintro rfl
    rcases hat with e | e
    · exact q3 e
    · omega
  · exact gb_set (g := R) (gb_more (gb_alloc h.gb o) hg (fun k hk => .inr (by have := (hnlt k hk).1; omega))) (.inr (by simp)) _
/-- v.List = append(v.List, x): behind the store; x: what a call that began in a world of H0 blocks has left -/
theorem MQ.elem (h : MQ w wr s R τ kind names list nv lv) {j : J} {a0 a1 a2 a3 a4 : Value} {S' : Nat → Prop} {H0 : Nat} {xs : List Value} {S : Nat → Prop} {o : Obj} {w2 : World} {g cap : Nat}
    (h1 : wr.ownsRow (w.heap.size + 2) 26 5 lv list.length xs) (h2 : Flat wr S list xs) (h3 : ∀ b, S b → w.heap.size + 2 ≤ b ∧ b < wr.heap.size ∧ nv.ownBlock ≠ some b ∧ lv.ownBlock ≠ some b)
    (hj : JAt wr S' j (.agg #[a0, a1, a2, a3, a4])) (hS' : ∀ b, S' b → H0 ≤ b ∧ b < wr.heap.size) (hH : w.heap.size + 2 ≤ H0) (hnH : ∀ k, nv.ownBlock = some k → k < H0) (hlH : ∀ k, lv.ownBlock = some k → k < H0)
    (hown : w2.ownsRow (w.heap.size + 2) 26 5 (.slice (some ⟨g, 0, none⟩) (list.length + 1) cap) (list.length + 1) (xs ++ [a0, a1, a2, a3, a4])) (hg : (wr.alloc o).grownBy w2 lv.ownBlock) (hat : lv.ownBlock = some g ∨ g = wr.heap.size + 1) :
    MQ w (w2.setCell ⟨w.heap.size, 4, none⟩ (.slice (some ⟨g, 0, none⟩) (list.length + 1) cap)) s R τ kind names (list ++ [j]) nv (.slice (some ⟨g, 0, none⟩) (list.length + 1) cap) := by
  have hrl := h.rl
  have hnlt := h.hn.lt
  have hllt := h1.lt
  have hne := own_ne h.hn h1 (by decide)
  have hblk : ∀ b, b < wr.heap.size → lv.ownBlock ≠ some b → w2.heap[b]? = wr.heap[b]? := fun b hb hne => (hg.block b (by simp; omega) (Ne.symm hne)).trans (Below.heap_alloc wr o b hb)
  have hno : ∀ b, b ≤ w.heap.size → lv.ownBlock ≠ some b := fun b hb e => by have := (hllt b e).1; omega
  have hno1 : lv.ownBlock ≠ some (w.heap.size + 1) := fun e => by have := (hllt _ e).1; omega
  have hsz : wr.heap.size + 1 ≤ w2.heap.size := by have := hg.size; simpa using this
  refine ⟨hrl, ?_, ?_, ?_, ?_, ⟨xs ++ [a0, a1, a2, a3, a4], fun b => S b ∨ S' b, ?_, ?_, ?_⟩, ?_⟩
  · exact RQ.far ((hblk R h.rd.lt (hno R (by omega))).trans h.rd) (a := ⟨w.heap.size, 4, none⟩) (by simp; omega) _
  · have hj : JB w2 (w.heap.size) (.int .i64 kind) (.int .i64 0) (.string ⟨#[]⟩) nv lv := (hblk _ h.jb.lt (hno _ (by omega))).trans h.jb
    unfold JB at hj ⊢
    simp [World.setCell, Array.getElem?_modify, hj]
  · exact JB.far ((hblk _ h.br.lt (hno1)).trans h.br) (q := ⟨w.heap.size, 4, none⟩) (by simp) _
  · refine ownsRow_setCell_below (h.hn.alloc o |>.kept hg ?_) (by simp) _
    rcases hne with e | e
    · exact .inl e
    · exact .inr e
  · rw [List.length_append]
    exact ownsRow_setCell_below hown (by simp) _
  · have hk : ∀ b, S b ∨ S' b → (w2.setCell ⟨w.heap.size, 4, none⟩ (.slice (some ⟨g, 0, none⟩) (list.length + 1) cap)).heap[b]? = wr.heap[b]? := by
      intro b hb
      have hb1 : w.heap.size + 2 ≤ b ∧ b < wr.heap.size ∧ lv.ownBlock ≠ some b := by
        rcases hb with hb | hb
        · exact ⟨(h3 b hb).1, (h3 b hb).2.1, (h3 b hb).2.2.2⟩
        · have := hS' b hb
          exact ⟨by omega, this.2, fun e => by have := hlH b e; omega⟩
      rw [Below.heap_setCell _ _ _ _ (by simp; omega)]
      exact hblk b hb1.2.1 hb1.2.2
    exact Flat.snoc (hj.keep (fun b hb => hk b (.inr hb)) (fun _ => .inr)) (h2.keep (fun b hb => hk b (.inl hb)) (fun _ => .inl))
  · intro b hb
    have hb1 : w.heap.size + 2 ≤ b ∧ b < wr.heap.size ∧ nv.ownBlock ≠ some b ∧ lv.ownBlock ≠ some b := by
      rcases hb with hb | hb
      · exact h3 b hb
      · have := hS' b hb
        exact ⟨by omega, this.2, fun e => (by have := hnH b e; omega), fun e => (by have := hlH b e; omega)⟩
    obtain ⟨q1, q2, q3, q4⟩ := hb1
    refine ⟨q1, by simp [World.setCell]; omega, q3, ?_⟩
    simp only [Value.ownBlock, ne_eq, Option.some.injEq]
    rintro rfl
    rcases hat with e | e
    · exact q4 e
    · omega
  · exact gb_set (g := R) (gb_more (gb_alloc h.gb o) hg (fun k hk => .inr (by have := (hllt k hk).1; omega))) (.inr (by simp)) _
theorem MQ.alloc (h : MQ w wr s R τ kind names list nv lv) (o : Obj) : MQ w (wr.alloc o) s R τ kind names list nv lv := h.same (h.rd.alloc o) (gb_alloc (gb_refl _ _) o)
theorem MQ.far (h : MQ w wr s R τ kind names list nv lv) {o : Obj} {w2 : World} {row : Option Nat} (hg : (wr.alloc o).grownBy w2 row) (hr : ∀ k, row = some k → w.heap.size + 2 ≤ k) :
    JB w2 (w.heap.size) (.int .i64 kind) (.int .i64 0) (.string ⟨#[]⟩) nv lv := by
  have ha := h.alloc o
  have hno : ∀ b, b ≤ w.heap.size → some b ≠ row := fun b hb e => by have := hr b e.symm; omega
  exact ha.jb.kept hg (hno _ (by omega))
/-- what has been gathered, as a value -/
theorem MQ.val (h : MQ w wr s R τ kind names list nv lv) : ∃ S : Nat → Prop, JAt wr S (.mk kind 0 ⟨#[]⟩ names list) (.agg #[.int .i64 kind, .int .i64 0, .string ⟨#[]⟩, nv, lv]) ∧ ∀ b, S b → w.heap.size + 2 ≤ b ∧ b < wr.heap.size := by
  obtain ⟨xs, S, h1, h2, h3⟩ := h.hl
  refine ⟨fun b => S b ∨ nv.ownBlock = some b ∨ lv.ownBlock = some b, JAt.of_own h.hn h1 h2 (fun _ => .inl) (fun g hg => .inr (.inl hg)) (fun g hg => .inr (.inr hg)), ?_⟩
  rintro b (hb | hb | hb)
  · exact ⟨(h3 b hb).1, (h3 b hb).2.1⟩
  · exact h.hn.lt b hb
  · exact h1.lt b hb
/-- at the start -/
theorem MQ.start (w : World) (s : ByteArray) (R : Nat) (τ : QS) (kind : Int) (h : RQ w R s τ) :
    MQ w ((w.alloc (.cells #[.int .i64 kind, .int .i64 0, .string ⟨#[]⟩, .slice none 0 0, .slice none 0 0] 26)).alloc (.cells #[.int .i64 0, .int .i64 0, .string ⟨#[]⟩, .slice none 0 0, .slice none 0 0] 26)) s R τ kind [] [] (.slice none 0 0) (.slice none 0 0) := by
  refine ⟨h.lt, (h.alloc _).alloc _, ?_, ?_, World.ownsRow_nil _ _ _ _, ⟨[], fun _ => False, World.ownsRow_nil _ _ _ _, rfl, fun _ hb => hb.elim⟩, gb_alloc (gb_alloc (gb_refl w _) _) _⟩
  · exact JB.alloc (JB.new w (.int .i64 kind) (.int .i64 0) (.string ⟨#[]⟩) (.slice none 0 0) (.slice none 0 0)) _
  · have := JB.new (w.alloc (.cells #[.int .i64 kind, .int .i64 0, .string ⟨#[]⟩, .slice none 0 0, .slice none 0 0] 26)) (.int .i64 0) (.int .i64 0) (.string ⟨#[]⟩) (.slice none 0 0) (.slice none 0 0)
    simpa using this
end
end Go.Proofs.YtnnhkajjifmlfaaDoor

/-! The reference's reader goes on, within the text. -/

namespace Go.Proofs.YtnnhkajjifmlfaaDoor
open Go.RowKit Go.Maps

structure QGo (s : ByteArray) (q r : QS) : Prop where
  ge : q.p ≤ r.p
  le : r.p ≤ s.size
  er : 0 ≤ q.bad → 0 ≤ r.bad
section
variable {s : ByteArray} {q r t : QS}
theorem QGo.refl (h : q.p ≤ s.size) : QGo s q q := ⟨Nat.le_refl _, h, id⟩
theorem QGo.trans (h : QGo s q r) (k : QGo s r t) : QGo s q t := ⟨Nat.le_trans h.ge k.ge, k.le, fun e => k.er (h.er e)⟩
theorem qgo_fail (h : q.p ≤ s.size) (x y : Int) : QGo s q (failQ q x y) := by
  refine ⟨by rw [failQ_p]; exact Nat.le_refl _, by rw [failQ_p]; exact h, fun e => ?_⟩
  unfold failQ; rw [if_neg (by omega)]; exact e
theorem qgo_blanks (h : q.p ≤ s.size) : QGo s q (blanksQ s q) := by
  have := skip_bd h; exact ⟨this.1, this.2, id⟩
theorem qgo_step (h : q.p < s.size) : QGo s q (stepQ q) := ⟨by simp [stepQ], h, id⟩
theorem chr_pos {i : Nat} (h : chr s i ≠ 0) : i < s.size := by
  rcases Nat.lt_or_ge i s.size with h1 | h1
  · exact h1
  · exact absurd (chr_out h1) h
theorem qgo_must : ∀ (t : List Nat) {q : QS}, (∀ c ∈ t, c ≠ 0) → q.p ≤ s.size → QGo s q (mustQ s t q)
  | [], _, _, h => QGo.refl h
  | c :: r, q, hz, h => by
    unfold mustQ; split
    · split
      · rename_i hc
        have h1 : QGo s q (stepQ q) := qgo_step (chr_pos (by rw [hc]; exact hz c (by simp)))
        exact h1.trans (qgo_must r (fun c hc => hz c (by simp [hc])) h1.le)
      · exact qgo_fail h _ _
    · exact QGo.refl h
theorem qgo_dig (h : q.p ≤ s.size) : QGo s q (digQ s q).2 := by
  have hin : ∀ {r : QS}, ¬ hexQ (chr s r.p) < 0 → r.p < s.size := fun {r} h => chr_pos (fun e => h (by rw [e]; decide))
  unfold digQ; split
  · exact qgo_fail h _ _
  · rename_i h1
    have g1 := qgo_step (hin h1)
    split
    · exact g1.trans (qgo_fail g1.le _ _)
    · rename_i h2; exact g1.trans (qgo_step (hin h2))
theorem qgo_esc (h : q.p ≤ s.size) : QGo s q (escQ s q).2 := by
  unfold escQ; split
  · rename_i h1; exact qgo_step (chr_pos (fun e => absurd h1 (by rw [e]; decide)))
  · have g1 := qgo_must (s := s) (nats ⟨#[117, 48, 48]⟩) (by decide) h
    split
    · exact g1.trans (qgo_dig g1.le)
    · exact g1
theorem qgo_qtF : ∀ (n : Nat) (acc : List UInt8) {q : QS}, q.p ≤ s.size → QGo s q (qtF s n acc q).2
  | 0, _, _, h => QGo.refl h
  | n + 1, acc, q, h => by
    unfold qtF; split
    · split
      · exact qgo_fail h _ _
      · rename_i hc
        have g1 : QGo s q (stepQ q) := qgo_step (by omega)
        split
        · exact g1
        · split
          · have g2 := g1.trans (qgo_esc g1.le); exact g2.trans (qgo_qtF n _ g2.le)
          · exact g1.trans (qgo_qtF n _ g1.le)
    · exact QGo.refl h
theorem qgo_qt (h : q.p ≤ s.size) : QGo s q (qtQ s q).2 := by
  have g := qgo_must (s := s) (nats ⟨#[34]⟩) (by decide) h
  exact g.trans (qgo_qtF _ _ g.le)
theorem qgo_num (h : q.p ≤ s.size) : QGo s q (numQ s q).2 := by
  have h1 : q.p ≤ (sgnQ s q).p ∧ (sgnQ s q).p ≤ s.size := by
    unfold sgnQ negQ; split
    · rename_i e
      have := chr_pos (s := s) (i := q.p) (by simp at e; omega)
      simp [stepQ]; omega
    · exact ⟨Nat.le_refl _, h⟩
  have h2 := num3_at (s := s) _ _ 0 false rfl h1.2
  have h3 := dsk_bd (s := s) h1.2
  have g : QGo s q { q with p := (num3 s (sgnQ s q).p 0 false).2.2 } := ⟨by simp only; omega, by simp only; omega, id⟩
  unfold numQ; simp only
  split
  · exact g.trans (qgo_fail g.le _ _)
  · split
    · exact g.trans (qgo_fail g.le _ _)
    · exact g
theorem qgo_name (h : q.p ≤ s.size) (kind : Int) (names : List ByteArray) : QGo s q (nameQ s kind names q).2 := by
  unfold nameQ; split
  · have g1 := qgo_qt (s := s) h
    have g2 := g1.trans (qgo_blanks g1.le)
    exact g2.trans (qgo_must _ (by decide) g2.le)
  · exact QGo.refl h
def ValGoQ (s : ByteArray) (val : QS → J × QS) : Prop := ∀ q, q.p ≤ s.size → QGo s q (val q).2
theorem qgo_manyF {val : QS → J × QS} (hv : ValGoQ s val) (kind en : Int) (he : en ≠ 0) : ∀ (n : Nat) (names : List ByteArray) (list : List J) {q : QS}, q.p ≤ s.size → QGo s q (manyQF s val kind en n names list q).2
  | 0, _, _, _, h => QGo.refl h
  | n + 1, names, list, q, h => by
    unfold manyQF; split
    · have g2 := qgo_name (s := s) h kind names
      have g3 := g2.trans (hv _ g2.le)
      simp only
      split
      · rename_i hc; exact g3.trans (qgo_step (chr_pos (by omega)))
      · have g4 := g3.trans (qgo_must (nats ⟨#[44]⟩) (by decide) g3.le)
        have g5 := g4.trans (qgo_blanks g4.le)
        exact g5.trans (qgo_manyF hv kind en he n _ _ g5.le)
    · exact QGo.refl h
theorem qgo_manyW {val : QS → J × QS} (hv : ValGoQ s val) (kind en : Int) (he : en ≠ 0) (h : q.p < s.size) : QGo s q (manyQW s val kind en q).2 := by
  have g0 := qgo_step h
  have g1 := g0.trans (qgo_blanks g0.le)
  unfold manyQW; simp only
  split
  · rename_i hc; exact g1.trans (qgo_step (chr_pos (by omega)))
  · exact g1.trans (qgo_manyF hv kind en he _ _ _ g1.le)
theorem qgo_val {many : Int → Int → QS → J × QS} (hm : ∀ kind en q, en ≠ 0 → q.p < s.size → QGo s q (many kind en q).2) (h : q.p ≤ s.size) : QGo s q (valQ s many q).2 := by
  unfold valQ
  repeat' split
  · exact qgo_must _ (by decide) h
  · exact qgo_must _ (by decide) h
  · exact qgo_must _ (by decide) h
  · exact qgo_qt h
  · exact hm _ _ _ (by decide) (chr_pos (by omega))
  · exact hm _ _ _ (by decide) (chr_pos (by omega))
  · exact qgo_num h
  · exact qgo_fail h _ _
theorem qgo_valueQ {many : Int → Int → QS → J × QS} (hm : ∀ kind en q, en ≠ 0 → q.p < s.size → QGo s q (many kind en q).2) : ValGoQ s (valueQ s many) := by
  intro q h
  unfold valueQ; split
  · have g1 := qgo_blanks (s := s) h
    have g2 := g1.trans (qgo_val hm g1.le)
    exact g2.trans (qgo_blanks g2.le)
  · exact QGo.refl h
theorem qgo_manyD : ∀ (k : Nat) (kind en : Int) (q : QS), en ≠ 0 → q.p < s.size → QGo s q (manyQD s k kind en q).2
  | 0, _, _, _, _, h => qgo_fail (Nat.le_of_lt h) _ _
  | k + 1, kind, en, _, he, h => qgo_manyW (qgo_valueQ (qgo_manyD k)) kind en he h
theorem qgo_valueD (k : Nat) : ValGoQ s (valueQD s k) := qgo_valueQ (qgo_manyD k)
end
end Go.Proofs.YtnnhkajjifmlfaaDoor

/-! The reference's value: one walk for each way through its switch. -/

namespace Go.Proofs.YtnnhkajjifmlfaaDoor
open Go.RowKit Go.Maps

section
variable {w : World} {B : Nat} {a0 a1 a2 a3 a4 : Value}
theorem JB.set0 (h : JB w B a0 a1 a2 a3 a4) (x : Value) : JB (w.setCell ⟨B, 0, none⟩ x) B x a1 a2 a3 a4 := by
  unfold JB at h ⊢; simp [World.setCell, Array.getElem?_modify, h]
theorem JB.set1 (h : JB w B a0 a1 a2 a3 a4) (x : Value) : JB (w.setCell ⟨B, 1, none⟩ x) B a0 x a2 a3 a4 := by
  unfold JB at h ⊢; simp [World.setCell, Array.getElem?_modify, h]
theorem JB.set2 (h : JB w B a0 a1 a2 a3 a4) (x : Value) : JB (w.setCell ⟨B, 2, none⟩ x) B a0 a1 x a3 a4 := by
  unfold JB at h ⊢; simp [World.setCell, Array.getElem?_modify, h]
end
/-- within the reference's value: the reader's block R, v's block B, the result's block -/
structure VI (w wr : World) (s : ByteArray) (R : Nat) (q : QS) (B : Nat) (a0 a1 a2 a3 a4 : Value) : Prop where
  rl : R < w.heap.size
  rd : RQ wr R s q
  jb : JB wr B a0 a1 a2 a3 a4
  br : JB wr w.heap.size (.int .i64 0) (.int .i64 0) (.string ⟨#[]⟩) (.slice none 0 0) (.slice none 0 0)
  bl : w.heap.size < B
  gb : w.grownBy wr (some R)
section
variable {w wr : World} {s : ByteArray} {R : Nat} {q r : QS} {B : Nat} {a0 a1 a2 a3 a4 : Value}
theorem VI.same (h : VI w wr s R q B a0 a1 a2 a3 a4) {w' : World} (hR : RQ w' R s r) (hg : wr.grownBy w' (some R)) : VI w w' s R r B a0 a1 a2 a3 a4 := by
  have h1 := h.rl; have h2 := h.bl
  exact ⟨h1, hR, h.jb.kept hg (by simp; omega), h.br.kept hg (by simp; omega), h2, gb_trans h.gb hg⟩
theorem VI.drewN (h : VI w wr s R q B a0 a1 a2 a3 a4) (n : Nat) : VI w (wr.drewN n) s R q B a0 a1 a2 a3 a4 := h.same (h.rd.drewN n) (gb_drewN (gb_refl _ _) n)
theorem VI.set0 (h : VI w wr s R q B a0 a1 a2 a3 a4) (x : Value) : VI w (wr.setCell ⟨B, 0, none⟩ x) s R q B x a1 a2 a3 a4 := by
  have h1 := h.rl; have h2 := h.bl
  exact ⟨h1, h.rd.far (a := ⟨B, 0, none⟩) (by simp; omega) _, h.jb.set0 x, h.br.far (q := ⟨B, 0, none⟩) (by simp; omega) _, h2, gb_set h.gb (.inr (by simp; omega)) _⟩
theorem VI.set1 (h : VI w wr s R q B a0 a1 a2 a3 a4) (x : Value) : VI w (wr.setCell ⟨B, 1, none⟩ x) s R q B a0 x a2 a3 a4 := by
  have h1 := h.rl; have h2 := h.bl
  exact ⟨h1, h.rd.far (a := ⟨B, 1, none⟩) (by simp; omega) _, h.jb.set1 x, h.br.far (q := ⟨B, 1, none⟩) (by simp; omega) _, h2, gb_set h.gb (.inr (by simp; omega)) _⟩
theorem VI.set2 (h : VI w wr s R q B a0 a1 a2 a3 a4) (x : Value) : VI w (wr.setCell ⟨B, 2, none⟩ x) s R q B a0 a1 x a3 a4 := by
  have h1 := h.rl; have h2 := h.bl
  exact ⟨h1, h.rd.far (a := ⟨B, 2, none⟩) (by simp; omega) _, h.jb.set2 x, h.br.far (q := ⟨B, 2, none⟩) (by simp; omega) _, h2, gb_set h.gb (.inr (by simp; omega)) _⟩
theorem JB.put5far {x0 x1 x2 x3 x4 : Value} {C : Nat} (h : JB w C x0 x1 x2 x3 x4) (hne : C ≠ B) : JB (YtnnhkajjifmlfaaDoor.put5 w B a0 a1 a2 a3 a4) C x0 x1 x2 x3 x4 := by
  unfold JB at h ⊢; rw [put5_heap hne]; exact h
theorem VI.put5 (h : VI w wr s R q B a0 a1 a2 a3 a4) (x0 x1 x2 x3 x4 : Value) : VI w (YtnnhkajjifmlfaaDoor.put5 wr B x0 x1 x2 x3 x4) s R q B x0 x1 x2 x3 x4 := by
  have h1 := h.rl; have h2 := h.bl
  exact ⟨h1, h.rd.put5 (by omega) _ _ _ _ _, h.jb.put5 _ _ _ _ _, h.br.put5far (by omega), h2, gb_put5 h.gb (by omega) _ _ _ _ _⟩
theorem VI.start {w1 : World} (hl : R < w.heap.size) (hR1 : RQ w1 R s r) (hg1 : (w.alloc (.cells #[.int .i64 0, .int .i64 0, .string ⟨#[]⟩, .slice none 0 0, .slice none 0 0] 26)).grownBy w1 (some R)) :
    VI w (w1.alloc (.cells #[.int .i64 0, .int .i64 0, .string ⟨#[]⟩, .slice none 0 0, .slice none 0 0] 26)) s R r w1.heap.size (.int .i64 0) (.int .i64 0) (.string ⟨#[]⟩) (.slice none 0 0) (.slice none 0 0) := by
  have hs := hg1.size
  simp only [World.size_alloc] at hs
  have hb := (JB.new w (.int .i64 0) (.int .i64 0) (.string ⟨#[]⟩) (.slice none 0 0) (.slice none 0 0)).kept hg1 (by simp; omega)
  exact ⟨hl, hR1.alloc _, JB.new w1 _ _ _ _ _, hb.alloc _, by omega, gb_alloc (gb_trans (gb_alloc (gb_refl w _) _) hg1) _⟩
theorem VI.done {k n : Int} {t : ByteArray} (h : VI w wr s R q B (.int .i64 k) (.int .i64 n) (.string t) (.slice none 0 0) (.slice none 0 0)) :
    VQ s R w (.mk k n t [] [], q) (.returned (.agg #[.int .i64 k, .int .i64 n, .string t, .slice none 0 0, .slice none 0 0])) (YtnnhkajjifmlfaaDoor.put5 wr w.heap.size (.int .i64 k) (.int .i64 n) (.string t) (.slice none 0 0) (.slice none 0 0)) := by
  have h1 := h.rl
  exact VQ.bare (h.rd.put5 (by omega) _ _ _ _ _) (gb_put5 h.gb (Nat.le_refl _) _ _ _ _ _)
theorem VQ.put {x0 x1 x2 x3 x4 : Value} {w2 w3 w5 : World} {j : J} {r3 : QS} {A1 A2 : Option Addr} {m1 d1 m2 d2 : Nat} {S : Nat → Prop} (h3 : VI w w2 s R q B a0 a1 a2 a3 a4)
    (hj : JAt w3 S j (.agg #[.int .i64 j.k, .int .i64 j.n, .string j.t, .slice A1 m1 d1, .slice A2 m2 d2])) (hS : ∀ b, S b → w2.heap.size ≤ b ∧ b < w3.heap.size)
    (h5 : VI w w5 s R r3 B x0 x1 x2 x3 x4) (hg5 : (YtnnhkajjifmlfaaDoor.put5 w3 B (.int .i64 j.k) (.int .i64 j.n) (.string j.t) (.slice A1 m1 d1) (.slice A2 m2 d2)).grownBy w5 (some R)) :
    VQ s R w (j, r3) (.returned (.agg #[.int .i64 j.k, .int .i64 j.n, .string j.t, .slice A1 m1 d1, .slice A2 m2 d2])) (YtnnhkajjifmlfaaDoor.put5 w5 w.heap.size (.int .i64 j.k) (.int .i64 j.n) (.string j.t) (.slice A1 m1 d1) (.slice A2 m2 d2)) := by
  have h1 := h3.rl
  have h2 := h3.bl
  have h4 := h3.jb.lt
  have hs5 := hg5.size
  rw [put5_size] at hs5
  refine ⟨A1, m1, d1, A2, m2, d2, S, rfl, hj.keep (fun b hb => ?_) (fun _ => id), fun b hb => ?_, h5.rd.put5 (by omega) _ _ _ _ _, gb_put5 h5.gb (Nat.le_refl _) _ _ _ _ _⟩
  · have := hS b hb
    rw [put5_heap (by omega), hg5.block b (by rw [put5_size]; omega) (by simp; omega), put5_heap (by omega)]
  · have := hS b hb
    rw [put5_size]; omega
end
/-- the contract of many, as the reference's value wants it, at one depth -/
def ManyQC (s : ByteArray) (many : Int → Int → QS → J × QS) (D : Int) : Prop :=
  ∀ (kind en : Int) (R : Nat) (q : QS) (w : World), RQ w R s q → q.p < s.size → (kind = 5 ∧ en = 93 ∨ kind = 6 ∧ en = 125) →
    Calls Tryd.prog 91 #[.pointer (some ⟨R, 0, none⟩), .agg #[.int .i64 kind, .int .i64 0, .string ⟨#[]⟩, .slice none 0 0, .slice none 0 0], .int .i64 D, .int .u8 en] w (VQ s R w (many kind en q))

set_option maxRecDepth 100000 in
set_option maxHeartbeats 800000 in
theorem valueQ_null (many : Int → Int → QS → J × QS) (D : Int) (R : Nat) (s : ByteArray) (q : QS) (w : World) (hb : q.bad < 0) (hc : chr s (blanksQ s q).p = 110) (h : RQ w R s q) (hp0 : q.p ≤ s.size) (hs : s.size ≤ 2000000) :
    Calls Tryd.prog 44 #[.pointer (some ⟨R, 0, none⟩), .int .i64 D] w (VQ s R w (valueQ s many q)) := by
  have hp := (qgo_blanks (s := s) hp0).le
  have HV : valueQ s many q = (YtnnhkajjifmlfaaDoor.bare 1 0, blanksQ s (mustQ s (nats bNull) (blanksQ s q))) := by
    unfold valueQ; rw [if_pos hb]; unfold valQ; rw [if_pos (by omega)]
  rw [HV]; clear HV
  have hRl := h.lt
  have c2 := (h.alloc (.cells #[.int .i64 0, .int .i64 0, .string ⟨#[]⟩, .slice none 0 0, .slice none 0 0] 26)).c2
  have hbb : decide ((0 : Int) ≤ q.bad) = false := by simpa using hb
  have Hb := Lib.hid (blanksQ_any R s q (w.alloc (.cells #[.int .i64 0, .int .i64 0, .string ⟨#[]⟩, .slice none 0 0, .slice none 0 0] 26)) (h.alloc _) hp0 hs)
  generalize blanksQ s q = r at *
  have Hn := fun (W : World) (hh : RQ W R s r) => Lib.hid (here_any R s r W hh hp)
  have hn0 := fun (W : World) (hh : RQ W R s r) => (Hn W hh).out
  rw [hc] at hn0
  clear Hn
  have Hn := fun (W : World) (hh : RQ W R s r) => Lib.hid (hn0 W hh)
  clear hn0
  clear hc
  have hp2 : (mustQ s (nats bNull) r).p ≤ s.size := (qgo_must (nats bNull) (by decide) hp).le
  have Hm := fun (W : World) (hh : RQ W R s r) => Lib.hid (mustQ_any R s ⟨#[110, 117, 108, 108]⟩ r W hh hp hs (by decide) (by decide))
  rw [show nats ⟨#[110, 117, 108, 108]⟩ = nats bNull from rfl] at Hm
  generalize mustQ s (nats bNull) r = r2 at *
  have Hb2 := fun (W : World) (hh : RQ W R s r2) => Lib.hid (blanksQ_any R s r2 W hh hp2 hs)
  generalize blanksQ s r2 = r3 at *
  have tok : True := trivial
  go_enter Tryd.func44, Tryd.ntmps44
  go_wp2_with (first
    | (go_at_call 87; clear tok; refine (Hb.out).mono ?_; rintro e w1 ⟨rfl, hR1, hg1⟩; have hV1 := VI.start hRl hR1 hg1; have c11 := hV1.rd.c1)
    | (go_at_call 88; refine ((Hn _ (by exact hV1.rd)).out).mono ?_; rintro e w2 ⟨rfl, n2, rfl⟩)
    | (go_at_call 89; have hV3 := (hV1.drewN n2).set0 (.int .i64 1); refine ((Hm _ (by exact hV3.rd)).out).mono ?_; rintro e w3 ⟨rfl, hR3, hg3⟩; have hV4 := hV3.same hR3 (by exact hg3))
    | (go_at_call 87; refine ((Hb2 _ (by exact hV4.rd)).out).mono ?_; rintro e w5 ⟨rfl, hR5, hg5⟩; have hV5 := hV4.same hR5 (by exact hg5); obtain ⟨m0, m1, m2, m3, m4, mf⟩ := hV5.jb.all; obtain ⟨k0, k1, k2, k3, k4, kf⟩ := hV5.br.all))
  have hJ7 := hV5.br.put5 (.int .i64 1) (.int .i64 0) (.string ⟨#[]⟩) (.slice none 0 0) (.slice none 0 0)
  obtain ⟨q0, q1, q2, q3, q4, qf⟩ := hJ7.all
  unfold put5 at q0 q1 q2 q3 q4
  refine bodyPost_ret (v := .agg #[.int .i64 1, .int .i64 0, .string ⟨#[]⟩, .slice none 0 0, .slice none 0 0]) (by simp [results, Tryd.results44, go_sem, q0, q1, q2, q3, q4]) rfl ?_
  exact hV5.done

set_option maxRecDepth 100000 in
set_option maxHeartbeats 800000 in
theorem valueQ_true (many : Int → Int → QS → J × QS) (D : Int) (R : Nat) (s : ByteArray) (q : QS) (w : World) (hb : q.bad < 0) (hc : chr s (blanksQ s q).p = 116) (h : RQ w R s q) (hp0 : q.p ≤ s.size) (hs : s.size ≤ 2000000) :
    Calls Tryd.prog 44 #[.pointer (some ⟨R, 0, none⟩), .int .i64 D] w (VQ s R w (valueQ s many q)) := by
  have hp := (qgo_blanks (s := s) hp0).le
  have HV : valueQ s many q = (YtnnhkajjifmlfaaDoor.bare 2 1, blanksQ s (mustQ s (nats bTrue) (blanksQ s q))) := by
    unfold valueQ; rw [if_pos hb]; unfold valQ; rw [if_neg (by omega), if_pos (by omega)]
  rw [HV]; clear HV
  have hRl := h.lt
  have c2 := (h.alloc (.cells #[.int .i64 0, .int .i64 0, .string ⟨#[]⟩, .slice none 0 0, .slice none 0 0] 26)).c2
  have hbb : decide ((0 : Int) ≤ q.bad) = false := by simpa using hb
  have Hb := Lib.hid (blanksQ_any R s q (w.alloc (.cells #[.int .i64 0, .int .i64 0, .string ⟨#[]⟩, .slice none 0 0, .slice none 0 0] 26)) (h.alloc _) hp0 hs)
  generalize blanksQ s q = r at *
  have Hn := fun (W : World) (hh : RQ W R s r) => Lib.hid (here_any R s r W hh hp)
  have hn0 := fun (W : World) (hh : RQ W R s r) => (Hn W hh).out
  rw [hc] at hn0
  clear Hn
  have Hn := fun (W : World) (hh : RQ W R s r) => Lib.hid (hn0 W hh)
  clear hn0
  clear hc
  have hp2 : (mustQ s (nats bTrue) r).p ≤ s.size := (qgo_must (nats bTrue) (by decide) hp).le
  have Hm := fun (W : World) (hh : RQ W R s r) => Lib.hid (mustQ_any R s ⟨#[116, 114, 117, 101]⟩ r W hh hp hs (by decide) (by decide))
  rw [show nats ⟨#[116, 114, 117, 101]⟩ = nats bTrue from rfl] at Hm
  generalize mustQ s (nats bTrue) r = r2 at *
  have Hb2 := fun (W : World) (hh : RQ W R s r2) => Lib.hid (blanksQ_any R s r2 W hh hp2 hs)
  generalize blanksQ s r2 = r3 at *
  have tok : True := trivial
  go_enter Tryd.func44, Tryd.ntmps44
  go_wp2_with (first
    | (go_at_call 87; clear tok; refine (Hb.out).mono ?_; rintro e w1 ⟨rfl, hR1, hg1⟩; have hV1 := VI.start hRl hR1 hg1; have c11 := hV1.rd.c1)
    | (go_at_call 88; refine ((Hn _ (by exact hV1.rd)).out).mono ?_; rintro e w2 ⟨rfl, n2, rfl⟩)
    | (go_at_call 89; have hV3 := ((hV1.drewN n2).set0 (.int .i64 2)).set1 (.int .i64 1); refine ((Hm _ (by exact hV3.rd)).out).mono ?_; rintro e w3 ⟨rfl, hR3, hg3⟩; have hV4 := hV3.same hR3 (by exact hg3))
    | (go_at_call 87; refine ((Hb2 _ (by exact hV4.rd)).out).mono ?_; rintro e w5 ⟨rfl, hR5, hg5⟩; have hV5 := hV4.same hR5 (by exact hg5); obtain ⟨m0, m1, m2, m3, m4, mf⟩ := hV5.jb.all; obtain ⟨k0, k1, k2, k3, k4, kf⟩ := hV5.br.all))
  have hJ7 := hV5.br.put5 (.int .i64 2) (.int .i64 1) (.string ⟨#[]⟩) (.slice none 0 0) (.slice none 0 0)
  obtain ⟨q0, q1, q2, q3, q4, qf⟩ := hJ7.all
  unfold put5 at q0 q1 q2 q3 q4
  refine bodyPost_ret (v := .agg #[.int .i64 2, .int .i64 1, .string ⟨#[]⟩, .slice none 0 0, .slice none 0 0]) (by simp [results, Tryd.results44, go_sem, q0, q1, q2, q3, q4]) rfl ?_
  exact hV5.done

set_option maxRecDepth 100000 in
set_option maxHeartbeats 800000 in
theorem valueQ_false (many : Int → Int → QS → J × QS) (D : Int) (R : Nat) (s : ByteArray) (q : QS) (w : World) (hb : q.bad < 0) (hc : chr s (blanksQ s q).p = 102) (h : RQ w R s q) (hp0 : q.p ≤ s.size) (hs : s.size ≤ 2000000) :
    Calls Tryd.prog 44 #[.pointer (some ⟨R, 0, none⟩), .int .i64 D] w (VQ s R w (valueQ s many q)) := by
  have hp := (qgo_blanks (s := s) hp0).le
  have HV : valueQ s many q = (YtnnhkajjifmlfaaDoor.bare 2 0, blanksQ s (mustQ s (nats bFalse) (blanksQ s q))) := by
    unfold valueQ; rw [if_pos hb]; unfold valQ; rw [if_neg (by omega), if_neg (by omega), if_pos (by omega)]
  rw [HV]; clear HV
  have hRl := h.lt
  have c2 := (h.alloc (.cells #[.int .i64 0, .int .i64 0, .string ⟨#[]⟩, .slice none 0 0, .slice none 0 0] 26)).c2
  have hbb : decide ((0 : Int) ≤ q.bad) = false := by simpa using hb
  have Hb := Lib.hid (blanksQ_any R s q (w.alloc (.cells #[.int .i64 0, .int .i64 0, .string ⟨#[]⟩, .slice none 0 0, .slice none 0 0] 26)) (h.alloc _) hp0 hs)
  generalize blanksQ s q = r at *
  have Hn := fun (W : World) (hh : RQ W R s r) => Lib.hid (here_any R s r W hh hp)
  have hn0 := fun (W : World) (hh : RQ W R s r) => (Hn W hh).out
  rw [hc] at hn0
  clear Hn
  have Hn := fun (W : World) (hh : RQ W R s r) => Lib.hid (hn0 W hh)
  clear hn0
  clear hc
  have hp2 : (mustQ s (nats bFalse) r).p ≤ s.size := (qgo_must (nats bFalse) (by decide) hp).le
  have Hm := fun (W : World) (hh : RQ W R s r) => Lib.hid (mustQ_any R s ⟨#[102, 97, 108, 115, 101]⟩ r W hh hp hs (by decide) (by decide))
  rw [show nats ⟨#[102, 97, 108, 115, 101]⟩ = nats bFalse from rfl] at Hm
  generalize mustQ s (nats bFalse) r = r2 at *
  have Hb2 := fun (W : World) (hh : RQ W R s r2) => Lib.hid (blanksQ_any R s r2 W hh hp2 hs)
  generalize blanksQ s r2 = r3 at *
  have tok : True := trivial
  go_enter Tryd.func44, Tryd.ntmps44
  go_wp2_with (first
    | (go_at_call 87; clear tok; refine (Hb.out).mono ?_; rintro e w1 ⟨rfl, hR1, hg1⟩; have hV1 := VI.start hRl hR1 hg1; have c11 := hV1.rd.c1)
    | (go_at_call 88; refine ((Hn _ (by exact hV1.rd)).out).mono ?_; rintro e w2 ⟨rfl, n2, rfl⟩)
    | (go_at_call 89; have hV3 := (hV1.drewN n2).set0 (.int .i64 2); refine ((Hm _ (by exact hV3.rd)).out).mono ?_; rintro e w3 ⟨rfl, hR3, hg3⟩; have hV4 := hV3.same hR3 (by exact hg3))
    | (go_at_call 87; refine ((Hb2 _ (by exact hV4.rd)).out).mono ?_; rintro e w5 ⟨rfl, hR5, hg5⟩; have hV5 := hV4.same hR5 (by exact hg5); obtain ⟨m0, m1, m2, m3, m4, mf⟩ := hV5.jb.all; obtain ⟨k0, k1, k2, k3, k4, kf⟩ := hV5.br.all))
  have hJ7 := hV5.br.put5 (.int .i64 2) (.int .i64 0) (.string ⟨#[]⟩) (.slice none 0 0) (.slice none 0 0)
  obtain ⟨q0, q1, q2, q3, q4, qf⟩ := hJ7.all
  unfold put5 at q0 q1 q2 q3 q4
  refine bodyPost_ret (v := .agg #[.int .i64 2, .int .i64 0, .string ⟨#[]⟩, .slice none 0 0, .slice none 0 0]) (by simp [results, Tryd.results44, go_sem, q0, q1, q2, q3, q4]) rfl ?_
  exact hV5.done

set_option maxRecDepth 100000 in
set_option maxHeartbeats 800000 in
theorem valueQ_text (many : Int → Int → QS → J × QS) (D : Int) (R : Nat) (s : ByteArray) (q : QS) (w : World) (hb : q.bad < 0) (hc : chr s (blanksQ s q).p = 34) (h : RQ w R s q) (hp0 : q.p ≤ s.size) (hs : s.size ≤ 2000000) :
    Calls Tryd.prog 44 #[.pointer (some ⟨R, 0, none⟩), .int .i64 D] w (VQ s R w (valueQ s many q)) := by
  have hp := (qgo_blanks (s := s) hp0).le
  have HV : valueQ s many q = (.mk 4 0 ⟨(qtQ s (blanksQ s q)).1.toArray⟩ [] [], blanksQ s ((qtQ s (blanksQ s q)).2)) := by
    unfold valueQ; rw [if_pos hb]; unfold valQ; rw [if_neg (by omega), if_neg (by omega), if_neg (by omega), if_pos (by omega)]
  rw [HV]; clear HV
  have hRl := h.lt
  have c2 := (h.alloc (.cells #[.int .i64 0, .int .i64 0, .string ⟨#[]⟩, .slice none 0 0, .slice none 0 0] 26)).c2
  have hbb : decide ((0 : Int) ≤ q.bad) = false := by simpa using hb
  have Hb := Lib.hid (blanksQ_any R s q (w.alloc (.cells #[.int .i64 0, .int .i64 0, .string ⟨#[]⟩, .slice none 0 0, .slice none 0 0] 26)) (h.alloc _) hp0 hs)
  generalize blanksQ s q = r at *
  have Hn := fun (W : World) (hh : RQ W R s r) => Lib.hid (here_any R s r W hh hp)
  have hn0 := fun (W : World) (hh : RQ W R s r) => (Hn W hh).out
  rw [hc] at hn0
  clear Hn
  have Hn := fun (W : World) (hh : RQ W R s r) => Lib.hid (hn0 W hh)
  clear hn0
  clear hc
  have hp2 : ((qtQ s r).2).p ≤ s.size := (qgo_qt hp).le
  have Hm := fun (W : World) (hh : RQ W R s r) => Lib.hid (qt_any R s r W hh hp hs)
  generalize (qtQ s r).1 = tx at *
  generalize (qtQ s r).2 = r2 at *
  have Hb2 := fun (W : World) (hh : RQ W R s r2) => Lib.hid (blanksQ_any R s r2 W hh hp2 hs)
  generalize blanksQ s r2 = r3 at *
  have tok : True := trivial
  go_enter Tryd.func44, Tryd.ntmps44
  go_wp2_with (first
    | (go_at_call 87; clear tok; refine (Hb.out).mono ?_; rintro e w1 ⟨rfl, hR1, hg1⟩; have hV1 := VI.start hRl hR1 hg1; have c11 := hV1.rd.c1)
    | (go_at_call 88; refine ((Hn _ (by exact hV1.rd)).out).mono ?_; rintro e w2 ⟨rfl, n2, rfl⟩)
    | (go_at_call 90; have hV3 := (hV1.drewN n2).set0 (.int .i64 4); refine ((Hm _ (by exact hV3.rd)).out).mono ?_; rintro e w3 ⟨rfl, hR3, hg3⟩; have hV4 := (hV3.same hR3 (by exact hg3)).set2 (.string ⟨tx.toArray⟩); obtain ⟨p0, p1, p2, p3, p4, pf⟩ := (hV3.same hR3 (by exact hg3)).jb.all)
    | (go_at_call 87; refine ((Hb2 _ (by exact hV4.rd)).out).mono ?_; rintro e w5 ⟨rfl, hR5, hg5⟩; have hV5 := hV4.same hR5 (by exact hg5); obtain ⟨m0, m1, m2, m3, m4, mf⟩ := hV5.jb.all; obtain ⟨k0, k1, k2, k3, k4, kf⟩ := hV5.br.all))
  have hJ7 := hV5.br.put5 (.int .i64 4) (.int .i64 0) (.string ⟨tx.toArray⟩) (.slice none 0 0) (.slice none 0 0)
  obtain ⟨q0, q1, q2, q3, q4, qf⟩ := hJ7.all
  unfold put5 at q0 q1 q2 q3 q4
  refine bodyPost_ret (v := .agg #[.int .i64 4, .int .i64 0, .string ⟨tx.toArray⟩, .slice none 0 0, .slice none 0 0]) (by simp [results, Tryd.results44, go_sem, q0, q1, q2, q3, q4]) rfl ?_
  exact hV5.done

set_option maxRecDepth 100000 in
set_option maxHeartbeats 800000 in
theorem valueQ_minus (many : Int → Int → QS → J × QS) (D : Int) (R : Nat) (s : ByteArray) (q : QS) (w : World) (hb : q.bad < 0) (hc : chr s (blanksQ s q).p = 45) (h : RQ w R s q) (hp0 : q.p ≤ s.size) (hs : s.size ≤ 2000000) :
    Calls Tryd.prog 44 #[.pointer (some ⟨R, 0, none⟩), .int .i64 D] w (VQ s R w (valueQ s many q)) := by
  have hp := (qgo_blanks (s := s) hp0).le
  have HV : valueQ s many q = (YtnnhkajjifmlfaaDoor.bare 3 (numQ s (blanksQ s q)).1, blanksQ s ((numQ s (blanksQ s q)).2)) := by
    unfold valueQ; rw [if_pos hb]; unfold valQ; rw [if_neg (by omega), if_neg (by omega), if_neg (by omega), if_neg (by omega), if_neg (by omega), if_neg (by omega), if_pos (by omega)]
  rw [HV]; clear HV
  have hRl := h.lt
  have c2 := (h.alloc (.cells #[.int .i64 0, .int .i64 0, .string ⟨#[]⟩, .slice none 0 0, .slice none 0 0] 26)).c2
  have hbb : decide ((0 : Int) ≤ q.bad) = false := by simpa using hb
  have Hb := Lib.hid (blanksQ_any R s q (w.alloc (.cells #[.int .i64 0, .int .i64 0, .string ⟨#[]⟩, .slice none 0 0, .slice none 0 0] 26)) (h.alloc _) hp0 hs)
  generalize blanksQ s q = r at *
  have Hn := fun (W : World) (hh : RQ W R s r) => Lib.hid (here_any R s r W hh hp)
  have hn0 := fun (W : World) (hh : RQ W R s r) => (Hn W hh).out
  rw [hc] at hn0
  clear Hn
  have Hn := fun (W : World) (hh : RQ W R s r) => Lib.hid (hn0 W hh)
  clear hn0
  clear hc
  have hp2 : ((numQ s r).2).p ≤ s.size := (qgo_num hp).le
  have Hm := fun (W : World) (hh : RQ W R s r) => Lib.hid (numQ_any R s r W hh hp hs)
  generalize (numQ s r).1 = nx at *
  generalize (numQ s r).2 = r2 at *
  have Hb2 := fun (W : World) (hh : RQ W R s r2) => Lib.hid (blanksQ_any R s r2 W hh hp2 hs)
  generalize blanksQ s r2 = r3 at *
  have tok : True := trivial
  go_enter Tryd.func44, Tryd.ntmps44
  go_wp2_with (first
    | (go_at_call 87; clear tok; refine (Hb.out).mono ?_; rintro e w1 ⟨rfl, hR1, hg1⟩; have hV1 := VI.start hRl hR1 hg1; have c11 := hV1.rd.c1)
    | (go_at_call 88; refine ((Hn _ (by exact hV1.rd)).out).mono ?_; rintro e w2 ⟨rfl, n2, rfl⟩)
    | (go_at_call 92; have hV3 := (hV1.drewN n2).set0 (.int .i64 3); refine ((Hm _ (by exact hV3.rd)).out).mono ?_; rintro e w3 ⟨rfl, hR3, hg3⟩; have hV4 := (hV3.same hR3 (by exact hg3)).set1 (.int .i64 nx); obtain ⟨p0, p1, p2, p3, p4, pf⟩ := (hV3.same hR3 (by exact hg3)).jb.all)
    | (go_at_call 87; refine ((Hb2 _ (by exact hV4.rd)).out).mono ?_; rintro e w5 ⟨rfl, hR5, hg5⟩; have hV5 := hV4.same hR5 (by exact hg5); obtain ⟨m0, m1, m2, m3, m4, mf⟩ := hV5.jb.all; obtain ⟨k0, k1, k2, k3, k4, kf⟩ := hV5.br.all))
  have hJ7 := hV5.br.put5 (.int .i64 3) (.int .i64 nx) (.string ⟨#[]⟩) (.slice none 0 0) (.slice none 0 0)
  obtain ⟨q0, q1, q2, q3, q4, qf⟩ := hJ7.all
  unfold put5 at q0 q1 q2 q3 q4
  refine bodyPost_ret (v := .agg #[.int .i64 3, .int .i64 nx, .string ⟨#[]⟩, .slice none 0 0, .slice none 0 0]) (by simp [results, Tryd.results44, go_sem, q0, q1, q2, q3, q4]) rfl ?_
  exact hV5.done

set_option maxRecDepth 100000 in
set_option maxHeartbeats 800000 in
theorem valueQ_digit (many : Int → Int → QS → J × QS) (D : Int) (R : Nat) (s : ByteArray) (q : QS) (w : World) (hb : q.bad < 0) (hc : 48 ≤ chr s (blanksQ s q).p ∧ chr s (blanksQ s q).p ≤ 57) (h : RQ w R s q) (hp0 : q.p ≤ s.size) (hs : s.size ≤ 2000000) :
    Calls Tryd.prog 44 #[.pointer (some ⟨R, 0, none⟩), .int .i64 D] w (VQ s R w (valueQ s many q)) := by
  have hp := (qgo_blanks (s := s) hp0).le
  have HV : valueQ s many q = (YtnnhkajjifmlfaaDoor.bare 3 (numQ s (blanksQ s q)).1, blanksQ s ((numQ s (blanksQ s q)).2)) := by
    unfold valueQ; rw [if_pos hb]; unfold valQ; rw [if_neg (by omega), if_neg (by omega), if_neg (by omega), if_neg (by omega), if_neg (by omega), if_neg (by omega), if_pos (by omega)]
  rw [HV]; clear HV
  have hRl := h.lt
  have c2 := (h.alloc (.cells #[.int .i64 0, .int .i64 0, .string ⟨#[]⟩, .slice none 0 0, .slice none 0 0] 26)).c2
  have hbb : decide ((0 : Int) ≤ q.bad) = false := by simpa using hb
  have Hb := Lib.hid (blanksQ_any R s q (w.alloc (.cells #[.int .i64 0, .int .i64 0, .string ⟨#[]⟩, .slice none 0 0, .slice none 0 0] 26)) (h.alloc _) hp0 hs)
  generalize blanksQ s q = r at *
  have Hn := fun (W : World) (hh : RQ W R s r) => Lib.hid (here_any R s r W hh hp)
  obtain ⟨hc1, hc2⟩ := hc
  have hp2 : ((numQ s r).2).p ≤ s.size := (qgo_num hp).le
  have Hm := fun (W : World) (hh : RQ W R s r) => Lib.hid (numQ_any R s r W hh hp hs)
  generalize (numQ s r).1 = nx at *
  generalize (numQ s r).2 = r2 at *
  have Hb2 := fun (W : World) (hh : RQ W R s r2) => Lib.hid (blanksQ_any R s r2 W hh hp2 hs)
  generalize blanksQ s r2 = r3 at *
  have tok : True := trivial
  go_enter Tryd.func44, Tryd.ntmps44
  go_wp2_with (first
    | (go_at_call 87; clear tok; refine (Hb.out).mono ?_; rintro e w1 ⟨rfl, hR1, hg1⟩; have hV1 := VI.start hRl hR1 hg1; have c11 := hV1.rd.c1)
    | (go_at_call 88; refine ((Hn _ (by exact hV1.rd)).out).mono ?_; rintro e w2 ⟨rfl, n2, rfl⟩)
    | (go_at_call 92; have hV3 := (hV1.drewN n2).set0 (.int .i64 3); refine ((Hm _ (by exact hV3.rd)).out).mono ?_; rintro e w3 ⟨rfl, hR3, hg3⟩; have hV4 := (hV3.same hR3 (by exact hg3)).set1 (.int .i64 nx); obtain ⟨p0, p1, p2, p3, p4, pf⟩ := (hV3.same hR3 (by exact hg3)).jb.all)
    | (go_at_call 87; refine ((Hb2 _ (by exact hV4.rd)).out).mono ?_; rintro e w5 ⟨rfl, hR5, hg5⟩; have hV5 := hV4.same hR5 (by exact hg5); obtain ⟨m0, m1, m2, m3, m4, mf⟩ := hV5.jb.all; obtain ⟨k0, k1, k2, k3, k4, kf⟩ := hV5.br.all))
  have hJ7 := hV5.br.put5 (.int .i64 3) (.int .i64 nx) (.string ⟨#[]⟩) (.slice none 0 0) (.slice none 0 0)
  obtain ⟨q0, q1, q2, q3, q4, qf⟩ := hJ7.all
  unfold put5 at q0 q1 q2 q3 q4
  refine bodyPost_ret (v := .agg #[.int .i64 3, .int .i64 nx, .string ⟨#[]⟩, .slice none 0 0, .slice none 0 0]) (by simp [results, Tryd.results44, go_sem, q0, q1, q2, q3, q4]) rfl ?_
  exact hV5.done

set_option maxRecDepth 100000 in
set_option maxHeartbeats 800000 in
theorem valueQ_bad1 (many : Int → Int → QS → J × QS) (D : Int) (R : Nat) (s : ByteArray) (q : QS) (w : World) (hb : q.bad < 0) (hc : chr s (blanksQ s q).p < 48 ∧ chr s (blanksQ s q).p ≠ 110 ∧ chr s (blanksQ s q).p ≠ 102 ∧ chr s (blanksQ s q).p ≠ 116 ∧ chr s (blanksQ s q).p ≠ 34 ∧ chr s (blanksQ s q).p ≠ 45 ∧ ¬ (48 ≤ chr s (blanksQ s q).p ∧ chr s (blanksQ s q).p ≤ 57) ∧ chr s (blanksQ s q).p ≠ 91 ∧ chr s (blanksQ s q).p ≠ 123) (h : RQ w R s q) (hp0 : q.p ≤ s.size) (hs : s.size ≤ 2000000) :
    Calls Tryd.prog 44 #[.pointer (some ⟨R, 0, none⟩), .int .i64 D] w (VQ s R w (valueQ s many q)) := by
  have hp := (qgo_blanks (s := s) hp0).le
  have HV : valueQ s many q = (YtnnhkajjifmlfaaDoor.bare 0 0, blanksQ s (failQ (blanksQ s q) (blanksQ s q).p 4)) := by
    unfold valueQ; rw [if_pos hb]; unfold valQ; rw [if_neg (by omega), if_neg (by omega), if_neg (by omega), if_neg (by omega), if_neg (by omega), if_neg (by omega), if_neg (by omega)]
  rw [HV]; clear HV
  have hRl := h.lt
  have c2 := (h.alloc (.cells #[.int .i64 0, .int .i64 0, .string ⟨#[]⟩, .slice none 0 0, .slice none 0 0] 26)).c2
  have hbb : decide ((0 : Int) ≤ q.bad) = false := by simpa using hb
  have Hb := Lib.hid (blanksQ_any R s q (w.alloc (.cells #[.int .i64 0, .int .i64 0, .string ⟨#[]⟩, .slice none 0 0, .slice none 0 0] 26)) (h.alloc _) hp0 hs)
  generalize blanksQ s q = r at *
  have Hn := fun (W : World) (hh : RQ W R s r) => Lib.hid (here_any R s r W hh hp)
  obtain ⟨h0, h1, h2, h3, h4, h5, h6, h7, h8⟩ := hc
  have b1 : ((chr s r.p : Int) == 110) = false := by simp; omega
  have b2 : ((chr s r.p : Int) == 102) = false := by simp; omega
  have b3 : ((chr s r.p : Int) == 116) = false := by simp; omega
  have b4 : ((chr s r.p : Int) == 34) = false := by simp; omega
  have b5 : ((chr s r.p : Int) == 45) = false := by simp; omega
  have b7 : ((chr s r.p : Int) == 91) = false := by simp; omega
  have b8 : ((chr s r.p : Int) == 123) = false := by simp; omega
  clear h1 h2 h3 h4 h5 h6 h7 h8
  have hp2 : (failQ r r.p 4).p ≤ s.size := (qgo_fail hp _ _).le
  have Hm := fun (W : World) (hh : RQ W R s r) => Lib.hid (failQ_any R s r r.p 4 W hh)
  generalize failQ r r.p 4 = r2 at *
  have Hb2 := fun (W : World) (hh : RQ W R s r2) => Lib.hid (blanksQ_any R s r2 W hh hp2 hs)
  generalize blanksQ s r2 = r3 at *
  have tok : True := trivial
  go_enter Tryd.func44, Tryd.ntmps44
  go_wp2_with (first
    | (go_at_call 87; clear tok; refine (Hb.out).mono ?_; rintro e w1 ⟨rfl, hR1, hg1⟩; have hV1 := VI.start hRl hR1 hg1; have c11 := hV1.rd.c1)
    | (go_at_call 88; refine ((Hn _ (by exact hV1.rd)).out).mono ?_; rintro e w2 ⟨rfl, n2, rfl⟩)
    | (go_at_call 45; have hV3 := hV1.drewN n2; refine ((Hm _ (by exact hV3.rd)).out).mono ?_; rintro e w3 ⟨rfl, hR3, hg3⟩; have hV4 := hV3.same hR3 (by exact hg3))
    | (go_at_call 87; refine ((Hb2 _ (by exact hV4.rd)).out).mono ?_; rintro e w5 ⟨rfl, hR5, hg5⟩; have hV5 := hV4.same hR5 (by exact hg5); obtain ⟨m0, m1, m2, m3, m4, mf⟩ := hV5.jb.all; obtain ⟨k0, k1, k2, k3, k4, kf⟩ := hV5.br.all))
  have hJ7 := hV5.br.put5 (.int .i64 0) (.int .i64 0) (.string ⟨#[]⟩) (.slice none 0 0) (.slice none 0 0)
  obtain ⟨q0, q1, q2, q3, q4, qf⟩ := hJ7.all
  unfold put5 at q0 q1 q2 q3 q4
  refine bodyPost_ret (v := .agg #[.int .i64 0, .int .i64 0, .string ⟨#[]⟩, .slice none 0 0, .slice none 0 0]) (by simp [results, Tryd.results44, go_sem, q0, q1, q2, q3, q4]) rfl ?_
  exact hV5.done

set_option maxRecDepth 100000 in
set_option maxHeartbeats 800000 in
theorem valueQ_bad2 (many : Int → Int → QS → J × QS) (D : Int) (R : Nat) (s : ByteArray) (q : QS) (w : World) (hb : q.bad < 0) (hc : 57 < chr s (blanksQ s q).p ∧ chr s (blanksQ s q).p ≠ 110 ∧ chr s (blanksQ s q).p ≠ 102 ∧ chr s (blanksQ s q).p ≠ 116 ∧ chr s (blanksQ s q).p ≠ 34 ∧ chr s (blanksQ s q).p ≠ 45 ∧ ¬ (48 ≤ chr s (blanksQ s q).p ∧ chr s (blanksQ s q).p ≤ 57) ∧ chr s (blanksQ s q).p ≠ 91 ∧ chr s (blanksQ s q).p ≠ 123) (h : RQ w R s q) (hp0 : q.p ≤ s.size) (hs : s.size ≤ 2000000) :
    Calls Tryd.prog 44 #[.pointer (some ⟨R, 0, none⟩), .int .i64 D] w (VQ s R w (valueQ s many q)) := by
  have hp := (qgo_blanks (s := s) hp0).le
  have HV : valueQ s many q = (YtnnhkajjifmlfaaDoor.bare 0 0, blanksQ s (failQ (blanksQ s q) (blanksQ s q).p 4)) := by
    unfold valueQ; rw [if_pos hb]; unfold valQ; rw [if_neg (by omega), if_neg (by omega), if_neg (by omega), if_neg (by omega), if_neg (by omega), if_neg (by omega), if_neg (by omega)]
  rw [HV]; clear HV
  have hRl := h.lt
  have c2 := (h.alloc (.cells #[.int .i64 0, .int .i64 0, .string ⟨#[]⟩, .slice none 0 0, .slice none 0 0] 26)).c2
  have hbb : decide ((0 : Int) ≤ q.bad) = false := by simpa using hb
  have Hb := Lib.hid (blanksQ_any R s q (w.alloc (.cells #[.int .i64 0, .int .i64 0, .string ⟨#[]⟩, .slice none 0 0, .slice none 0 0] 26)) (h.alloc _) hp0 hs)
  generalize blanksQ s q = r at *
  have Hn := fun (W : World) (hh : RQ W R s r) => Lib.hid (here_any R s r W hh hp)
  obtain ⟨h0, h1, h2, h3, h4, h5, h6, h7, h8⟩ := hc
  have b1 : ((chr s r.p : Int) == 110) = false := by simp; omega
  have b2 : ((chr s r.p : Int) == 102) = false := by simp; omega
  have b3 : ((chr s r.p : Int) == 116) = false := by simp; omega
  have b4 : ((chr s r.p : Int) == 34) = false := by simp; omega
  have b5 : ((chr s r.p : Int) == 45) = false := by simp; omega
  have b7 : ((chr s r.p : Int) == 91) = false := by simp; omega
  have b8 : ((chr s r.p : Int) == 123) = false := by simp; omega
  clear h1 h2 h3 h4 h5 h6 h7 h8
  have hp2 : (failQ r r.p 4).p ≤ s.size := (qgo_fail hp _ _).le
  have Hm := fun (W : World) (hh : RQ W R s r) => Lib.hid (failQ_any R s r r.p 4 W hh)
  generalize failQ r r.p 4 = r2 at *
  have Hb2 := fun (W : World) (hh : RQ W R s r2) => Lib.hid (blanksQ_any R s r2 W hh hp2 hs)
  generalize blanksQ s r2 = r3 at *
  have tok : True := trivial
  go_enter Tryd.func44, Tryd.ntmps44
  go_wp2_with (first
    | (go_at_call 87; clear tok; refine (Hb.out).mono ?_; rintro e w1 ⟨rfl, hR1, hg1⟩; have hV1 := VI.start hRl hR1 hg1; have c11 := hV1.rd.c1)
    | (go_at_call 88; refine ((Hn _ (by exact hV1.rd)).out).mono ?_; rintro e w2 ⟨rfl, n2, rfl⟩)
    | (go_at_call 45; have hV3 := hV1.drewN n2; refine ((Hm _ (by exact hV3.rd)).out).mono ?_; rintro e w3 ⟨rfl, hR3, hg3⟩; have hV4 := hV3.same hR3 (by exact hg3))
    | (go_at_call 87; refine ((Hb2 _ (by exact hV4.rd)).out).mono ?_; rintro e w5 ⟨rfl, hR5, hg5⟩; have hV5 := hV4.same hR5 (by exact hg5); obtain ⟨m0, m1, m2, m3, m4, mf⟩ := hV5.jb.all; obtain ⟨k0, k1, k2, k3, k4, kf⟩ := hV5.br.all))
  have hJ7 := hV5.br.put5 (.int .i64 0) (.int .i64 0) (.string ⟨#[]⟩) (.slice none 0 0) (.slice none 0 0)
  obtain ⟨q0, q1, q2, q3, q4, qf⟩ := hJ7.all
  unfold put5 at q0 q1 q2 q3 q4
  refine bodyPost_ret (v := .agg #[.int .i64 0, .int .i64 0, .string ⟨#[]⟩, .slice none 0 0, .slice none 0 0]) (by simp [results, Tryd.results44, go_sem, q0, q1, q2, q3, q4]) rfl ?_
  exact hV5.done

set_option maxRecDepth 100000 in
set_option maxHeartbeats 800000 in
theorem valueQ_list (many : Int → Int → QS → J × QS) (D : Int) (R : Nat) (s : ByteArray) (q : QS) (w : World) (hgo : ∀ kind en q, en ≠ 0 → q.p < s.size → QGo s q (many kind en q).2) (hM : ManyQC s many D) (hb : q.bad < 0) (hc : chr s (blanksQ s q).p = 91) (h : RQ w R s q) (hp0 : q.p ≤ s.size) (hs : s.size ≤ 2000000) :
    Calls Tryd.prog 44 #[.pointer (some ⟨R, 0, none⟩), .int .i64 D] w (VQ s R w (valueQ s many q)) := by
  have hp := (qgo_blanks (s := s) hp0).le
  have HV : valueQ s many q = ((many 5 93 (blanksQ s q)).1, blanksQ s ((many 5 93 (blanksQ s q)).2)) := by
    unfold valueQ; rw [if_pos hb]; unfold valQ; rw [if_neg (by omega), if_neg (by omega), if_neg (by omega), if_neg (by omega), if_pos (by omega)]
  rw [HV]; clear HV
  have hRl := h.lt
  have c2 := (h.alloc (.cells #[.int .i64 0, .int .i64 0, .string ⟨#[]⟩, .slice none 0 0, .slice none 0 0] 26)).c2
  have hbb : decide ((0 : Int) ≤ q.bad) = false := by simpa using hb
  have Hb := Lib.hid (blanksQ_any R s q (w.alloc (.cells #[.int .i64 0, .int .i64 0, .string ⟨#[]⟩, .slice none 0 0, .slice none 0 0] 26)) (h.alloc _) hp0 hs)
  generalize blanksQ s q = r at *
  have Hn := fun (W : World) (hh : RQ W R s r) => Lib.hid (here_any R s r W hh hp)
  have hn0 := fun (W : World) (hh : RQ W R s r) => (Hn W hh).out
  rw [hc] at hn0
  clear Hn
  have Hn := fun (W : World) (hh : RQ W R s r) => Lib.hid (hn0 W hh)
  clear hn0
  have hlt : r.p < s.size := chr_pos (by omega)
  clear hc
  have hp2 : ((many 5 93 r).2).p ≤ s.size := (hgo 5 93 r (by decide) hlt).le
  have Hm := fun (W : World) (hh : RQ W R s r) => Lib.hid (hM 5 93 R r W hh hlt (by decide))
  generalize (many 5 93 r) = x at *
  obtain ⟨j, r2⟩ := x
  simp only at *
  have Hb2 := fun (W : World) (hh : RQ W R s r2) => Lib.hid (blanksQ_any R s r2 W hh hp2 hs)
  generalize blanksQ s r2 = r3 at *
  have tok : True := trivial
  go_enter Tryd.func44, Tryd.ntmps44
  go_wp2_with (first
    | (go_at_call 87; clear tok; refine (Hb.out).mono ?_; rintro e w1 ⟨rfl, hR1, hg1⟩; have hV1 := VI.start hRl hR1 hg1; have c11 := hV1.rd.c1)
    | (go_at_call 88; refine ((Hn _ (by exact hV1.rd)).out).mono ?_; rintro e w2 ⟨rfl, n2, rfl⟩)
    | (go_at_call 91; have hV3 := (hV1.drewN n2).set0 (.int .i64 5); refine ((Hm _ (by exact hV3.rd)).out).mono ?_; rintro e w3 ⟨A1, y1, z1, A2, y2, z2, S, rfl, hj, hS, hR3, hg3⟩; have hV4 := (hV3.same hR3 (by exact hg3)).put5 (.int .i64 j.k) (.int .i64 j.n) (.string j.t) (.slice A1 y1 z1) (.slice A2 y2 z2); obtain ⟨p0, p1, p2, p3, p4, pf⟩ := (hV3.same hR3 (by exact hg3)).jb.all)
    | (go_at_call 87; refine ((Hb2 _ (by exact hV4.rd)).out).mono ?_; rintro e w5 ⟨rfl, hR5, hg5⟩; have hV5 := hV4.same hR5 (by exact hg5); obtain ⟨m0, m1, m2, m3, m4, mf⟩ := hV5.jb.all; obtain ⟨k0, k1, k2, k3, k4, kf⟩ := hV5.br.all))
  have hJ7 := hV5.br.put5 (.int .i64 j.k) (.int .i64 j.n) (.string j.t) (.slice A1 y1 z1) (.slice A2 y2 z2)
  obtain ⟨q0, q1, q2, q3, q4, qf⟩ := hJ7.all
  unfold put5 at q0 q1 q2 q3 q4
  refine bodyPost_ret (v := .agg #[.int .i64 j.k, .int .i64 j.n, .string j.t, .slice A1 y1 z1, .slice A2 y2 z2]) (by simp [results, Tryd.results44, go_sem, q0, q1, q2, q3, q4]) rfl ?_
  exact VQ.put hV3 hj hS hV5 hg5

set_option maxRecDepth 100000 in
set_option maxHeartbeats 800000 in
theorem valueQ_map (many : Int → Int → QS → J × QS) (D : Int) (R : Nat) (s : ByteArray) (q : QS) (w : World) (hgo : ∀ kind en q, en ≠ 0 → q.p < s.size → QGo s q (many kind en q).2) (hM : ManyQC s many D) (hb : q.bad < 0) (hc : chr s (blanksQ s q).p = 123) (h : RQ w R s q) (hp0 : q.p ≤ s.size) (hs : s.size ≤ 2000000) :
    Calls Tryd.prog 44 #[.pointer (some ⟨R, 0, none⟩), .int .i64 D] w (VQ s R w (valueQ s many q)) := by
  have hp := (qgo_blanks (s := s) hp0).le
  have HV : valueQ s many q = ((many 6 125 (blanksQ s q)).1, blanksQ s ((many 6 125 (blanksQ s q)).2)) := by
    unfold valueQ; rw [if_pos hb]; unfold valQ; rw [if_neg (by omega), if_neg (by omega), if_neg (by omega), if_neg (by omega), if_neg (by omega), if_pos (by omega)]
  rw [HV]; clear HV
  have hRl := h.lt
  have c2 := (h.alloc (.cells #[.int .i64 0, .int .i64 0, .string ⟨#[]⟩, .slice none 0 0, .slice none 0 0] 26)).c2
  have hbb : decide ((0 : Int) ≤ q.bad) = false := by simpa using hb
  have Hb := Lib.hid (blanksQ_any R s q (w.alloc (.cells #[.int .i64 0, .int .i64 0, .string ⟨#[]⟩, .slice none 0 0, .slice none 0 0] 26)) (h.alloc _) hp0 hs)
  generalize blanksQ s q = r at *
  have Hn := fun (W : World) (hh : RQ W R s r) => Lib.hid (here_any R s r W hh hp)
  have hn0 := fun (W : World) (hh : RQ W R s r) => (Hn W hh).out
  rw [hc] at hn0
  clear Hn
  have Hn := fun (W : World) (hh : RQ W R s r) => Lib.hid (hn0 W hh)
  clear hn0
  have hlt : r.p < s.size := chr_pos (by omega)
  clear hc
  have hp2 : ((many 6 125 r).2).p ≤ s.size := (hgo 6 125 r (by decide) hlt).le
  have Hm := fun (W : World) (hh : RQ W R s r) => Lib.hid (hM 6 125 R r W hh hlt (by decide))
  generalize (many 6 125 r) = x at *
  obtain ⟨j, r2⟩ := x
  simp only at *
  have Hb2 := fun (W : World) (hh : RQ W R s r2) => Lib.hid (blanksQ_any R s r2 W hh hp2 hs)
  generalize blanksQ s r2 = r3 at *
  have tok : True := trivial
  go_enter Tryd.func44, Tryd.ntmps44
  go_wp2_with (first
    | (go_at_call 87; clear tok; refine (Hb.out).mono ?_; rintro e w1 ⟨rfl, hR1, hg1⟩; have hV1 := VI.start hRl hR1 hg1; have c11 := hV1.rd.c1)
    | (go_at_call 88; refine ((Hn _ (by exact hV1.rd)).out).mono ?_; rintro e w2 ⟨rfl, n2, rfl⟩)
    | (go_at_call 91; have hV3 := (hV1.drewN n2).set0 (.int .i64 6); refine ((Hm _ (by exact hV3.rd)).out).mono ?_; rintro e w3 ⟨A1, y1, z1, A2, y2, z2, S, rfl, hj, hS, hR3, hg3⟩; have hV4 := (hV3.same hR3 (by exact hg3)).put5 (.int .i64 j.k) (.int .i64 j.n) (.string j.t) (.slice A1 y1 z1) (.slice A2 y2 z2); obtain ⟨p0, p1, p2, p3, p4, pf⟩ := (hV3.same hR3 (by exact hg3)).jb.all)
    | (go_at_call 87; refine ((Hb2 _ (by exact hV4.rd)).out).mono ?_; rintro e w5 ⟨rfl, hR5, hg5⟩; have hV5 := hV4.same hR5 (by exact hg5); obtain ⟨m0, m1, m2, m3, m4, mf⟩ := hV5.jb.all; obtain ⟨k0, k1, k2, k3, k4, kf⟩ := hV5.br.all))
  have hJ7 := hV5.br.put5 (.int .i64 j.k) (.int .i64 j.n) (.string j.t) (.slice A1 y1 z1) (.slice A2 y2 z2)
  obtain ⟨q0, q1, q2, q3, q4, qf⟩ := hJ7.all
  unfold put5 at q0 q1 q2 q3 q4
  refine bodyPost_ret (v := .agg #[.int .i64 j.k, .int .i64 j.n, .string j.t, .slice A1 y1 z1, .slice A2 y2 z2]) (by simp [results, Tryd.results44, go_sem, q0, q1, q2, q3, q4]) rfl ?_
  exact VQ.put hV3 hj hS hV5 hg5
end Go.Proofs.YtnnhkajjifmlfaaDoor

/-! The reference's value whole, given many; many nested too deep. -/

namespace Go.Proofs.YtnnhkajjifmlfaaDoor
open Go.RowKit Go.Maps

theorem valueQ_err (many : Int → Int → QS → J × QS) (D : Int) (R : Nat) (s : ByteArray) (q : QS) (w : World) (hb : ¬ q.bad < 0) (h : RQ w R s q) :
    Calls Tryd.prog 44 #[.pointer (some ⟨R, 0, none⟩), .int .i64 D] w (VQ s R w (valueQ s many q)) := by
  have HV : valueQ s many q = (YtnnhkajjifmlfaaDoor.bare 0 0, q) := by unfold valueQ; rw [if_neg hb]
  rw [HV]; clear HV
  have c2 := (h.alloc (.cells #[.int .i64 0, .int .i64 0, .string ⟨#[]⟩, .slice none 0 0, .slice none 0 0] 26)).c2
  have hbb : decide ((0 : Int) ≤ q.bad) = true := by simpa using hb
  have hJ7 := JB.new w (.int .i64 0) (.int .i64 0) (.string ⟨#[]⟩) (.slice none 0 0) (.slice none 0 0)
  obtain ⟨q0, q1, q2, q3, q4, qf⟩ := hJ7.all
  go_enter Tryd.func44, Tryd.ntmps44
  go_wp2_with fail
  refine bodyPost_ret (v := .agg #[.int .i64 0, .int .i64 0, .string ⟨#[]⟩, .slice none 0 0, .slice none 0 0]) (by simp [results, Tryd.results44, go_sem, q0, q1, q2, q3, q4]) rfl ?_
  exact VQ.bare (h.alloc _) (gb_alloc (gb_refl w _) _)
/-- (*reader).value, given many at that depth -/
theorem valueQ_any (s : ByteArray) (many : Int → Int → QS → J × QS) (D : Int) (hgo : ∀ kind en q, en ≠ 0 → q.p < s.size → QGo s q (many kind en q).2) (hM : ManyQC s many D) (R : Nat) (q : QS) (w : World) (h : RQ w R s q) (hp0 : q.p ≤ s.size) (hs : s.size ≤ 2000000) :
    Calls Tryd.prog 44 #[.pointer (some ⟨R, 0, none⟩), .int .i64 D] w (VQ s R w (valueQ s many q)) := by
  by_cases hb : q.bad < 0
  · by_cases h1 : chr s (blanksQ s q).p = 110
    · exact valueQ_null many D R s q w hb h1 h hp0 hs
    by_cases h2 : chr s (blanksQ s q).p = 102
    · exact valueQ_false many D R s q w hb h2 h hp0 hs
    by_cases h3 : chr s (blanksQ s q).p = 116
    · exact valueQ_true many D R s q w hb h3 h hp0 hs
    by_cases h4 : chr s (blanksQ s q).p = 34
    · exact valueQ_text many D R s q w hb h4 h hp0 hs
    by_cases h5 : chr s (blanksQ s q).p = 45
    · exact valueQ_minus many D R s q w hb h5 h hp0 hs
    by_cases h6 : 48 ≤ chr s (blanksQ s q).p ∧ chr s (blanksQ s q).p ≤ 57
    · exact valueQ_digit many D R s q w hb h6 h hp0 hs
    by_cases h7 : chr s (blanksQ s q).p = 91
    · exact valueQ_list many D R s q w hgo hM hb h7 h hp0 hs
    by_cases h8 : chr s (blanksQ s q).p = 123
    · exact valueQ_map many D R s q w hgo hM hb h8 h hp0 hs
    by_cases h9 : chr s (blanksQ s q).p < 48
    · exact valueQ_bad1 many D R s q w hb ⟨h9, h1, h2, h3, h4, h5, h6, h7, h8⟩ h hp0 hs
    · exact valueQ_bad2 many D R s q w hb ⟨by omega, h1, h2, h3, h4, h5, h6, h7, h8⟩ h hp0 hs
  · exact valueQ_err many D R s q w hb h

/-- what many leaves: v in the result's block -/
theorem MQ.done {w wr : World} {s : ByteArray} {R : Nat} {τ : QS} {kind : Int} {names : List ByteArray} {list : List J} {A1 A2 : Option Addr} {n1 c1 n2 c2 : Nat}
    (h : MQ w wr s R τ kind names list (.slice A1 n1 c1) (.slice A2 n2 c2)) :
    VQ s R w (.mk kind 0 ⟨#[]⟩ names list, τ) (.returned (.agg #[.int .i64 kind, .int .i64 0, .string ⟨#[]⟩, .slice A1 n1 c1, .slice A2 n2 c2]))
      (put5 wr (w.heap.size + 1) (.int .i64 kind) (.int .i64 0) (.string ⟨#[]⟩) (.slice A1 n1 c1) (.slice A2 n2 c2)) := by
  obtain ⟨S, hj, hS⟩ := h.val
  have hl := h.rl
  refine ⟨A1, n1, c1, A2, n2, c2, S, rfl, hj.keep (fun b hb => ?_) (fun _ => id), fun b hb => ⟨by have := hS b hb; omega, ?_⟩, h.rd.put5 (B := w.heap.size + 1) (by omega) _ _ _ _ _, gb_put5 h.gb (by omega) _ _ _ _ _⟩
  · have := hS b hb
    rw [put5_heap (by omega)]
  · have := hS b hb
    rw [put5_size]; exact this.2

set_option maxRecDepth 100000 in
set_option maxHeartbeats 800000 in
theorem manyQ_zero (s : ByteArray) (kind en : Int) (R : Nat) (q : QS) (w : World) (h : RQ w R s q) :
    Calls Tryd.prog 91 #[.pointer (some ⟨R, 0, none⟩), .agg #[.int .i64 kind, .int .i64 0, .string ⟨#[]⟩, .slice none 0 0, .slice none 0 0], .int .i64 0, .int .u8 en] w (VQ s R w (YtnnhkajjifmlfaaDoor.bare kind 0, failQ q q.p 3)) := by
  have hM := MQ.start w s R q kind h
  have c1 := hM.rd.c1
  go_enter Tryd.func91, Tryd.ntmps91
  go_wp2_with (first
    | (go_at_call 45; refine (failQ_any R s q _ _ _ (by exact hM.rd)).mono ?_; rintro e w5 ⟨rfl, hR5, hg5⟩; have hMx := hM.same hR5 (by exact hg5); obtain ⟨m0, m1, m2, m3, m4, mf⟩ := hMx.jb.all; obtain ⟨r0, r1, r2, r3, r4, rf⟩ := hMx.br.all))
  have hJ7 := hMx.br.put5 (.int .i64 kind) (.int .i64 0) (.string ⟨#[]⟩) (.slice none 0 0) (.slice none 0 0)
  obtain ⟨q0, q1, q2, q3, q4, qf⟩ := hJ7.all
  unfold put5 at q0 q1 q2 q3 q4
  refine bodyPost_ret (v := .agg #[.int .i64 kind, .int .i64 0, .string ⟨#[]⟩, .slice none 0 0, .slice none 0 0]) (by simp [results, Tryd.results91, go_sem, q0, q1, q2, q3, q4]) rfl ?_
  exact hMx.done
end Go.Proofs.YtnnhkajjifmlfaaDoor

/-! The reference's many: a list, given value. -/

namespace Go.Proofs.YtnnhkajjifmlfaaDoor
open Go.RowKit Go.Maps
attribute [local go_sem ↓] Go.wp_at_zero Go.wp_at_succ

def ValQC (s : ByteArray) (val : QS → J × QS) (D : Int) : Prop :=
  ∀ (R : Nat) (q : QS) (w : World), RQ w R s q → q.p ≤ s.size → Calls Tryd.prog 44 #[.pointer (some ⟨R, 0, none⟩), .int .i64 D] w (VQ s R w (val q))
theorem must_mu {s : ByteArray} {ρ r : QS} {c : UInt8} (hb : ρ.bad < 0) (hge : ρ.p ≤ r.p) (hr : r.p ≤ s.size) (hc : c.toNat ≠ 0) : muQ s (blanksQ s (mustQ s (nats ⟨#[c]⟩) r)) < muQ s ρ := by
  have h2 : nats ⟨#[c]⟩ = [c.toNat] := rfl
  have g := qgo_must (s := s) (nats ⟨#[c]⟩) (by rw [h2]; simpa using hc) hr
  have gb := qgo_blanks (s := s) g.le
  have hle := gb.le
  have hge2 := gb.ge
  have hbd : (blanksQ s (mustQ s (nats ⟨#[c]⟩) r)).bad = (mustQ s (nats ⟨#[c]⟩) r).bad := rfl
  unfold muQ
  rw [if_pos hb, hbd]
  split
  · rename_i h3
    have hlt : r.p < (mustQ s (nats ⟨#[c]⟩) r).p := by
      rw [h2] at h3 ⊢
      simp only [mustQ] at h3 ⊢
      split
      · rename_i h4
        rw [if_pos h4] at h3
        split
        · simp [stepQ]
        · rename_i h5
          rw [if_neg h5] at h3
          unfold failQ at h3; rw [if_pos h4] at h3
          simp only at h3; omega
      · rename_i h4; rw [if_neg h4] at h3; exact absurd h3 h4
    omega
  · omega

/-- at the start, the reader one byte on -/
theorem MQ.start1 (w : World) (s : ByteArray) (R : Nat) (q : QS) (kind : Int) (h : RQ w R s q) :
    MQ w (((w.setCell ⟨R, 1, none⟩ (.int .i64 (q.p + 1 : Nat))).alloc (.cells #[.int .i64 kind, .int .i64 0, .string ⟨#[]⟩, .slice none 0 0, .slice none 0 0] 26)).alloc (.cells #[.int .i64 0, .int .i64 0, .string ⟨#[]⟩, .slice none 0 0, .slice none 0 0] 26)) s R (stepQ q) kind [] [] (.slice none 0 0) (.slice none 0 0) := by
  have hM := MQ.start (w.setCell ⟨R, 1, none⟩ (.int .i64 (q.p + 1 : Nat))) s R _ kind (h.set1 (q.p + 1))
  have e : (w.setCell ⟨R, 1, none⟩ (.int .i64 (q.p + 1 : Nat))).heap.size = w.heap.size := by simp [World.setCell]
  refine ⟨h.lt, hM.rd, ?_, ?_, ?_, ?_, gb_trans (gb_setR (gb_refl _ _) 1 _) hM.gb⟩
  · have := hM.jb; rw [e] at this; exact this
  · have := hM.br; rw [e] at this; exact this
  · have := hM.hn; rw [e] at this; exact this
  · have := hM.hl; rw [e] at this; exact this
set_option maxRecDepth 100000 in
set_option maxHeartbeats 800000 in
theorem manyQ_list (s : ByteArray) (val : QS → J × QS) (D : Int) (hgo : ValGoQ s val) (hV : ValQC s val (D - 1)) (hD0 : 0 < D) (hD1 : D ≤ 64) (hs : s.size ≤ 2000000)
    (R : Nat) (q : QS) (w : World) (h : RQ w R s q) (hlt : q.p < s.size) :
    Calls Tryd.prog 91 #[.pointer (some ⟨R, 0, none⟩), .agg #[.int .i64 5, .int .i64 0, .string ⟨#[]⟩, .slice none 0 0, .slice none 0 0], .int .i64 D, .int .u8 93] w (VQ s R w (manyQW s val 5 93 q)) := by
  have hM := MQ.start w s R q 5 h
  have hRl := h.lt
  have hDb : (D == 0) = false := by simp; omega
  have hwr : IntKind.wrap .i64 (D - 1) = D - 1 := by
    have e : (D - 1) % 18446744073709551616 = D - 1 := by omega
    simp only [IntKind.wrap, IntKind.bits, IntKind.signed]
    simp [e]; omega
  have hV' : ValQC s val (IntKind.wrap .i64 (D - 1)) := by rw [hwr]; exact hV
  clear hwr
  have c1 := hM.rd.c1
  have f1 := hM.rd.f 1
  have hM5 := MQ.start1 w s R q 5 h
  have hpx := (qgo_blanks (s := s) (q := stepQ q) hlt).le
  have HB := Lib.hid (blanksQ_any R s (stepQ q) _ hM5.rd hlt hs)
  have HM5 := Lib.hid hM5
  clear hM5
  have HW : Hid (manyQW s val 5 93 q = if (chr s (blanksQ s (stepQ q)).p : Int) = 93 then (YtnnhkajjifmlfaaDoor.bare 5 0, stepQ (blanksQ s (stepQ q))) else manyQF s val 5 93 (s.size + 2) [] [] (blanksQ s (stepQ q))) := rfl
  rw [HW.out]
  clear HW
  generalize blanksQ s (stepQ q) = x at *
  by_cases hq : (chr s x.p : Int) = 93
  · rw [if_pos hq]
    have hq1 : chr s x.p = 93 := by omega
    have hxl : x.p < s.size := chr_pos (by omega)
    have Hn := fun (W : World) (hh : RQ W R s x) => here_any R s x W hh hpx
    rw [hq1] at Hn
    clear hq hq1
    go_enter Tryd.func91, Tryd.ntmps91
    go_wp2_with (first
      | (go_at_call 87; refine (HB.out).mono ?_; rintro e w1 ⟨rfl, hR1, hg1⟩; have HM1 := Lib.hid (HM5.out.same hR1 hg1); have cx1 := hR1.c1; have fx1 := hR1.f 1)
      | (go_at_call 88; refine (Hn _ (by exact hR1)).mono ?_; rintro e w2 ⟨rfl, n2, rfl⟩; have hM2 := (HM1.out.drewN n2).same (τ' := stepQ x) (w' := (w1.drewN n2).setCell ⟨R, 1, none⟩ (.int .i64 ((x.p : Int) + 1))) ((hR1.drewN n2).set1 (x.p + 1)) (gb_setR (gb_refl _ _) 1 _); obtain ⟨m0, m1, m2, m3, m4, mf⟩ := hM2.jb.all; obtain ⟨r0, r1, r2, r3, r4, rf⟩ := hM2.br.all))
    have hJ7 := hM2.br.put5 (.int .i64 5) (.int .i64 0) (.string ⟨#[]⟩) (.slice none 0 0) (.slice none 0 0)
    obtain ⟨q0, q1, q2, q3, q4, qf⟩ := hJ7.all
    unfold put5 at q0 q1 q2 q3 q4
    refine bodyPost_ret (v := .agg #[.int .i64 5, .int .i64 0, .string ⟨#[]⟩, .slice none 0 0, .slice none 0 0]) (by simp [results, Tryd.results91, go_sem, q0, q1, q2, q3, q4]) rfl ?_
    exact hM2.done
  · rw [if_neg hq]
    have hqb : ((chr s x.p : Int) == 93) = false := by simpa using hq
    have hmu : muQ s x < s.size + 2 := by unfold muQ; split <;> omega
    go_enter Tryd.func91, Tryd.ntmps91
    go_wp2_with (first
      | (go_at_call 87; refine (HB.out).mono ?_; rintro e w1 ⟨rfl, hR1, hg1⟩; have HM1 := Lib.hid (HM5.out.same hR1 hg1))
      | (go_at_call 88; refine (here_any R s x _ (by exact hR1) hpx).mono ?_; rintro e w2 ⟨rfl, n2, rfl⟩; have HM2 := Lib.hid (HM1.out.drewN n2)))
    obtain ⟨i0, hi0, hz0, hz1, hz2⟩ := info_parts info26
    clear c1 f1 hR1
    go_loopg [] (s.size + 2) (fun k wr => ∃ (names : List ByteArray) (list : List J) (A1 : Option Addr) (n1 c1 : Nat) (A2 : Option Addr) (n2 c2 : Nat) (ρ : QS), ρ.p ≤ s.size ∧ muQ s ρ < k ∧ list.length + k ≤ s.size + 2 ∧
      Hid (manyQF s val 5 93 k names list ρ = manyQF s val 5 93 (s.size + 2) [] [] x) ∧ Hid (MQ w wr s R ρ 5 names list (.slice A1 n1 c1) (.slice A2 n2 c2)))
    case atStart => exact ⟨[], [], none, 0, 0, none, 0, 0, x, hpx, hmu, by simp, rfl, HM2.out⟩
    case round =>
      obtain ⟨names, list, A1, n1, c1, A2, n2, c2, ρ, hρ, hm, hal, HF, HM⟩ := hrel
      clear HM1 HM2 HB HM5 hg1 hq hqb hmu
      obtain ⟨k, rfl⟩ : ∃ k, gk = k + 1 := ⟨gk - 1, by omega⟩
      have ce := HM.out.rd.c2
      by_cases hb : ρ.bad < 0
      · have HF0 : Hid (manyQF s val 5 93 (s.size + 2) [] [] x = if (chr s (val ρ).2.p : Int) = 93 then (.mk 5 0 ⟨#[]⟩ names (list ++ [(val ρ).1]), stepQ (val ρ).2)
            else manyQF s val 5 93 k names (list ++ [(val ρ).1]) (blanksQ s (mustQ s (nats ⟨#[44]⟩) (val ρ).2))) := by
          rw [← HF.out, manyQF, if_pos hb]; rfl
        clear HF
        have gV := hgo _ hρ
        have hge := gV.ge
        have hpV := gV.le
        clear gV
        have HVl := fun (W : World) (hh : RQ W R s ρ) => Lib.hid (hV' R ρ W hh hρ)
        generalize val ρ = y at *
        obtain ⟨j, ρ2⟩ := y
        simp only at *
        have cl1 : wr.cell? ⟨w.heap.size, 4, none⟩ = some (.slice A2 n2 c2) := HM.out.jb.c4
        have cl0 : wr.cell? ⟨w.heap.size, 0, none⟩ = some (.int .i64 5) := HM.out.jb.c0
        have hl0 := HM.out.hl
        have hnl := HM.out.hn.lt
        go_wp2_with fail
        go_cut [] from 39 to 82 (fun wx => ∃ (A3 : Option Addr) (n3 c3 : Nat), Hid (MQ w wx s R ρ2 5 names (list ++ [j]) (.slice A1 n1 c1) (.slice A3 n3 c3)))
        case first =>
          go_region_law (first
            | (go_simp; go_at_call 44; refine ((HVl _ (by exact HM.out.rd.drew)).out).mono ?_; rintro e w3 ⟨A3, n3, c3, A4, n4, c4, S', rfl, hj, hS', hR3, hg3⟩; have HM3 := Lib.hid (HM.out.drew.same hR3 hg3); have cl3 : w3.cell? ⟨w.heap.size, 4, none⟩ = some (.slice A2 n2 c2) := HM3.out.jb.c4; have cl5 : ∀ o, (w3.alloc o).cell? ⟨w.heap.size, 4, none⟩ = some (.slice A2 n2 c2) := fun o => (HM3.out.alloc o).jb.c4; obtain ⟨xs, S, hl1, hl2, hl3⟩ := HM3.out.hl)
            | (refine step_append_lies _ (by rfl) _ _ _ (by rfl) (w.heap.size + 2) 26 i0 _ 5 80 Tryd.underlying24 hi0 hz0 hz1 hz2 rfl (by omega) (.slice A2 n2 c2) list.length xs (by rfl) (hl1.alloc _)
                ⟨w3.heap.size, 0, none⟩ 1 1 [.int .i64 j.k, .int .i64 j.n, .string j.t, .slice A3 n3 c3, .slice A4 n4 c4] (by rfl) (by rfl) (World.news_of_block (cs := #[.int .i64 j.k, .int .i64 j.n, .string j.t, .slice A3 n3 c3, .slice A4 n4 c4]) (t := 26) (fr := (0, 0)) (heap_alloc_new w3 _)) (by simp [Value.oneCell'])
                (by omega) (by unfold maxLen; omega) (by omega) (by simp; have := HM3.out.br.lt; omega) (w3.heap.size + 1) (by simp) ?_; intro gg cap w4 hown4 hgrow hat hlt4; have hj4 := HM3.out.far hgrow (fun k hk => (hl1.lt k hk).1); have cl4 : w4.cell? ⟨w.heap.size, 4, none⟩ = some (.slice A2 n2 c2) := hj4.c4; have fr4 : w4.frozen? ⟨w.heap.size, 4, none⟩ = false := hj4.f 4))
          all_goals go_wp2_with fail
          all_goals go_meet
          all_goals
            obtain ⟨xs0, S0, hl01, _, _⟩ := hl0
            have hbl := HM.out.br.lt
            exact ⟨_, _, _, HM3.out.elem (H0 := wr.heap.size) hl1 hl2 hl3 hj (by simpa using hS') hbl (fun k hk => (hnl k hk).2) (fun k hk => (hl01.lt k hk).2) hown4 hgrow hat⟩
        case rest =>
          obtain ⟨A3, n3, c3, HM3⟩ := hcut
          clear hl0 hnl cl1 cl0 HM HVl
          have cx3 := HM3.out.rd.c1
          have fx3 := HM3.out.rd.f 1
          by_cases hq2 : (chr s ρ2.p : Int) = 93
          · have HF1 : Hid (manyQF s val 5 93 (s.size + 2) [] [] x = (.mk 5 0 ⟨#[]⟩ names (list ++ [j]), stepQ ρ2)) := by rw [HF0.out, if_pos hq2]; rfl
            clear HF0
            have hq3 : chr s ρ2.p = 93 := by omega
            have hxl : ρ2.p < s.size := chr_pos (by omega)
            have Hn := fun (W : World) (hh : RQ W R s ρ2) => here_any R s ρ2 W hh hpV
            rw [hq3] at Hn
            clear hq2 hq3
            go_wp2_with (first
              | (go_at_call 88; refine (Hn _ (by exact HM3.out.rd)).mono ?_; rintro e w5 ⟨rfl, n5, rfl⟩; have hM2 := (HM3.out.drewN n5).same (τ' := stepQ ρ2) (w' := (wc.drewN n5).setCell ⟨R, 1, none⟩ (.int .i64 ((ρ2.p : Int) + 1))) ((HM3.out.rd.drewN n5).set1 (ρ2.p + 1)) (gb_setR (gb_refl _ _) 1 _); obtain ⟨m0, m1, m2, m3, m4, mf⟩ := hM2.jb.all; obtain ⟨r0, r1, r2, r3, r4, rf⟩ := hM2.br.all))
            have hJ7 := hM2.br.put5 (.int .i64 5) (.int .i64 0) (.string ⟨#[]⟩) (.slice A1 n1 c1) (.slice A3 n3 c3)
            obtain ⟨q0, q1, q2, q3, q4, qf⟩ := hJ7.all
            unfold put5 at q0 q1 q2 q3 q4
            refine bodyPost_ret (v := .agg #[.int .i64 5, .int .i64 0, .string ⟨#[]⟩, .slice A1 n1 c1, .slice A3 n3 c3]) (by simp [results, Tryd.results91, go_sem, q0, q1, q2, q3, q4]) rfl ?_
            rw [HF1.out]; exact hM2.done
          · have HF1 : Hid (manyQF s val 5 93 k names (list ++ [j]) (blanksQ s (mustQ s (nats ⟨#[44]⟩) ρ2)) = manyQF s val 5 93 (s.size + 2) [] [] x) := by rw [HF0.out, if_neg hq2]; rfl
            have hqb : ((chr s ρ2.p : Int) == 93) = false := by simpa using hq2
            clear HF0 hq2
            have gN := qgo_must (s := s) (nats ⟨#[44]⟩) (by decide) hpV
            have hpN := gN.le
            have hpB := (qgo_blanks (s := s) gN.le).le
            have hmN : muQ s (blanksQ s (mustQ s (nats ⟨#[44]⟩) ρ2)) < muQ s ρ := must_mu hb hge hpV (by decide)
            clear gN
            have HN := fun (W : World) (hh : RQ W R s ρ2) => Lib.hid (mustQ_any R s ⟨#[44]⟩ ρ2 W hh hpV hs (by decide) (by decide))
            generalize mustQ s (nats ⟨#[44]⟩) ρ2 = ρ3 at *
            have HC := fun (W : World) (hh : RQ W R s ρ3) => Lib.hid (blanksQ_any R s ρ3 W hh hpN hs)
            generalize blanksQ s ρ3 = ρ4 at *
            go_wp2_with (first
              | (go_at_call 88; refine (here_any R s ρ2 _ (by exact HM3.out.rd) hpV).mono ?_; rintro e w5 ⟨rfl, n5, rfl⟩)
              | (go_at_call 89; refine ((HN _ (by exact HM3.out.rd.drewN n5)).out).mono ?_; rintro e w6 ⟨rfl, hR6, hg6⟩; have HM6 := Lib.hid ((HM3.out.drewN n5).same hR6 hg6))
              | (go_at_call 87; refine ((HC _ (by exact hR6)).out).mono ?_; rintro e w7 ⟨rfl, hR7, hg7⟩))
            go_roundg k
            case measure => omega
            case rel => exact ⟨names, list ++ [j], A1, n1, c1, A3, n3, c3, ρ4, hpB, by omega, by simp; omega, HF1, HM6.out.same hR7 hg7⟩
      · have hbb : decide (ρ.bad < 0) = false := by simpa using hb
        have HF1 : Hid (manyQF s val 5 93 (s.size + 2) [] [] x = (.mk 5 0 ⟨#[]⟩ names list, ρ)) := by
          rw [← HF.out, manyQF, if_neg hb]; rfl
        clear HF
        have hM2 := HM.out
        obtain ⟨m0, m1, m2, m3, m4, mf⟩ := hM2.jb.all
        obtain ⟨r0, r1, r2, r3, r4, rf⟩ := hM2.br.all
        go_wp2_with fail
        have hJ7 := hM2.br.put5 (.int .i64 5) (.int .i64 0) (.string ⟨#[]⟩) (.slice A1 n1 c1) (.slice A2 n2 c2)
        obtain ⟨q0, q1, q2, q3, q4, qf⟩ := hJ7.all
        unfold put5 at q0 q1 q2 q3 q4
        refine bodyPost_ret (v := .agg #[.int .i64 5, .int .i64 0, .string ⟨#[]⟩, .slice A1 n1 c1, .slice A2 n2 c2]) (by simp [results, Tryd.results91, go_sem, q0, q1, q2, q3, q4]) rfl ?_
        rw [HF1.out]; exact hM2.done
end Go.Proofs.YtnnhkajjifmlfaaDoor

/-! The reference's many: a map, given value. -/

namespace Go.Proofs.YtnnhkajjifmlfaaDoor
open Go.RowKit Go.Maps
attribute [local go_sem ↓] Go.wp_at_zero Go.wp_at_succ

set_option maxRecDepth 100000 in
set_option maxHeartbeats 1600000 in
theorem manyQ_map (s : ByteArray) (val : QS → J × QS) (D : Int) (hgo : ValGoQ s val) (hV : ValQC s val (D - 1)) (hD0 : 0 < D) (hD1 : D ≤ 64) (hs : s.size ≤ 2000000)
    (R : Nat) (q : QS) (w : World) (h : RQ w R s q) (hlt : q.p < s.size) :
    Calls Tryd.prog 91 #[.pointer (some ⟨R, 0, none⟩), .agg #[.int .i64 6, .int .i64 0, .string ⟨#[]⟩, .slice none 0 0, .slice none 0 0], .int .i64 D, .int .u8 125] w (VQ s R w (manyQW s val 6 125 q)) := by
  have hM := MQ.start w s R q 6 h
  have hRl := h.lt
  have hDb : (D == 0) = false := by simp; omega
  have hwr : IntKind.wrap .i64 (D - 1) = D - 1 := by
    have e : (D - 1) % 18446744073709551616 = D - 1 := by omega
    simp only [IntKind.wrap, IntKind.bits, IntKind.signed]
    simp [e]; omega
  have hV' : ValQC s val (IntKind.wrap .i64 (D - 1)) := by rw [hwr]; exact hV
  clear hwr
  have c1 := hM.rd.c1
  have f1 := hM.rd.f 1
  have hM5 := MQ.start1 w s R q 6 h
  have hpx := (qgo_blanks (s := s) (q := stepQ q) hlt).le
  have HB := Lib.hid (blanksQ_any R s (stepQ q) _ hM5.rd hlt hs)
  have HM5 := Lib.hid hM5
  clear hM5
  have HW : Hid (manyQW s val 6 125 q = if (chr s (blanksQ s (stepQ q)).p : Int) = 125 then (YtnnhkajjifmlfaaDoor.bare 6 0, stepQ (blanksQ s (stepQ q))) else manyQF s val 6 125 (s.size + 2) [] [] (blanksQ s (stepQ q))) := rfl
  rw [HW.out]
  clear HW
  generalize blanksQ s (stepQ q) = x at *
  by_cases hq : (chr s x.p : Int) = 125
  · rw [if_pos hq]
    have hq1 : chr s x.p = 125 := by omega
    have hxl : x.p < s.size := chr_pos (by omega)
    have Hn := fun (W : World) (hh : RQ W R s x) => here_any R s x W hh hpx
    rw [hq1] at Hn
    clear hq hq1
    go_enter Tryd.func91, Tryd.ntmps91
    go_wp2_with (first
      | (go_at_call 87; refine (HB.out).mono ?_; rintro e w1 ⟨rfl, hR1, hg1⟩; have HM1 := Lib.hid (HM5.out.same hR1 hg1); have cx1 := hR1.c1; have fx1 := hR1.f 1)
      | (go_at_call 88; refine (Hn _ (by exact hR1)).mono ?_; rintro e w2 ⟨rfl, n2, rfl⟩; have hM2 := (HM1.out.drewN n2).same (τ' := stepQ x) (w' := (w1.drewN n2).setCell ⟨R, 1, none⟩ (.int .i64 ((x.p : Int) + 1))) ((hR1.drewN n2).set1 (x.p + 1)) (gb_setR (gb_refl _ _) 1 _); obtain ⟨m0, m1, m2, m3, m4, mf⟩ := hM2.jb.all; obtain ⟨r0, r1, r2, r3, r4, rf⟩ := hM2.br.all))
    have hJ7 := hM2.br.put5 (.int .i64 6) (.int .i64 0) (.string ⟨#[]⟩) (.slice none 0 0) (.slice none 0 0)
    obtain ⟨q0, q1, q2, q3, q4, qf⟩ := hJ7.all
    unfold put5 at q0 q1 q2 q3 q4
    refine bodyPost_ret (v := .agg #[.int .i64 6, .int .i64 0, .string ⟨#[]⟩, .slice none 0 0, .slice none 0 0]) (by simp [results, Tryd.results91, go_sem, q0, q1, q2, q3, q4]) rfl ?_
    exact hM2.done
  · rw [if_neg hq]
    have hqb : ((chr s x.p : Int) == 125) = false := by simpa using hq
    have hmu : muQ s x < s.size + 2 := by unfold muQ; split <;> omega
    go_enter Tryd.func91, Tryd.ntmps91
    go_wp2_with (first
      | (go_at_call 87; refine (HB.out).mono ?_; rintro e w1 ⟨rfl, hR1, hg1⟩; have HM1 := Lib.hid (HM5.out.same hR1 hg1))
      | (go_at_call 88; refine (here_any R s x _ (by exact hR1) hpx).mono ?_; rintro e w2 ⟨rfl, n2, rfl⟩; have HM2 := Lib.hid (HM1.out.drewN n2)))
    obtain ⟨i0, hi0, hz0, hz1, hz2⟩ := info_parts info26
    obtain ⟨i9, hi9, hy0, hy1, hy2⟩ := info_parts info9
    clear c1 f1 hR1
    go_loopg [] (s.size + 2) (fun k wr => ∃ (names : List ByteArray) (list : List J) (A1 : Option Addr) (n1 c1 : Nat) (A2 : Option Addr) (n2 c2 : Nat) (ρ : QS), ρ.p ≤ s.size ∧ muQ s ρ < k ∧ list.length + k ≤ s.size + 2 ∧ names.length + k ≤ s.size + 2 ∧
      Hid (manyQF s val 6 125 k names list ρ = manyQF s val 6 125 (s.size + 2) [] [] x) ∧ Hid (MQ w wr s R ρ 6 names list (.slice A1 n1 c1) (.slice A2 n2 c2)))
    case atStart => exact ⟨[], [], none, 0, 0, none, 0, 0, x, hpx, hmu, by simp, by simp, rfl, HM2.out⟩
    case round =>
      obtain ⟨names, list, A1, n1, c1, A2, n2, c2, ρ, hρ, hm, hal, haln, HF, HM⟩ := hrel
      clear HM1 HM2 HB HM5 hg1 hq hqb hmu
      obtain ⟨k, rfl⟩ : ∃ k, gk = k + 1 := ⟨gk - 1, by omega⟩
      have ce := HM.out.rd.c2
      by_cases hb : ρ.bad < 0
      · have HF0 : Hid (manyQF s val 6 125 (s.size + 2) [] [] x = if (chr s (val (mustQ s (nats ⟨#[58]⟩) (blanksQ s (qtQ s ρ).2))).2.p : Int) = 125 then (.mk 6 0 ⟨#[]⟩ (names ++ [⟨(qtQ s ρ).1.toArray⟩]) (list ++ [(val (mustQ s (nats ⟨#[58]⟩) (blanksQ s (qtQ s ρ).2))).1]), stepQ (val (mustQ s (nats ⟨#[58]⟩) (blanksQ s (qtQ s ρ).2))).2)
            else manyQF s val 6 125 k (names ++ [⟨(qtQ s ρ).1.toArray⟩]) (list ++ [(val (mustQ s (nats ⟨#[58]⟩) (blanksQ s (qtQ s ρ).2))).1]) (blanksQ s (mustQ s (nats ⟨#[44]⟩) (val (mustQ s (nats ⟨#[58]⟩) (blanksQ s (qtQ s ρ).2))).2))) := by
          rw [← HF.out, manyQF, if_pos hb]; rfl
        clear HF
        have gT := qgo_qt (s := s) hρ
        have gTb := qgo_blanks (s := s) gT.le
        have gTc := qgo_must (s := s) (nats ⟨#[58]⟩) (by decide) gTb.le
        have gV := hgo _ gTc.le
        have hge := (gT.trans (gTb.trans (gTc.trans gV))).ge
        have hpT := gT.le
        have hpTb := gTb.le
        have hpTc := gTc.le
        have hpV := gV.le
        clear gV gT gTb gTc
        have HTl := fun (W : World) (hh : RQ W R s ρ) => Lib.hid (qt_any R s ρ W hh hρ hs)
        have HTb := fun (W : World) (hh : RQ W R s (qtQ s ρ).2) => Lib.hid (blanksQ_any R s _ W hh hpT hs)
        have HTc := fun (W : World) (hh : RQ W R s (blanksQ s (qtQ s ρ).2)) => Lib.hid (mustQ_any R s ⟨#[58]⟩ _ W hh hpTb hs (by decide) (by decide))
        have HVl := fun (W : World) (hh : RQ W R s (mustQ s (nats ⟨#[58]⟩) (blanksQ s (qtQ s ρ).2))) => Lib.hid (hV' R _ W hh hpTc)
        generalize val (mustQ s (nats ⟨#[58]⟩) (blanksQ s (qtQ s ρ).2)) = y at *
        obtain ⟨j, ρ2⟩ := y
        simp only at *
        generalize (mustQ s (nats ⟨#[58]⟩) (blanksQ s (qtQ s ρ).2)) = ρc at *
        generalize blanksQ s (qtQ s ρ).2 = ρb at *
        generalize (qtQ s ρ) = z at *
        obtain ⟨T, ρt⟩ := z
        simp only at *
        have cn0 : wr.cell? ⟨w.heap.size, 3, none⟩ = some (.slice A1 n1 c1) := HM.out.jb.c3
        have cl0 : wr.cell? ⟨w.heap.size, 0, none⟩ = some (.int .i64 6) := HM.out.jb.c0
        have hn0 := HM.out.hn
        generalize hnames1 : names ++ [⟨T.toArray⟩] = names1 at *
        have Hnames1 := Lib.hid hnames1; clear hnames1
        go_wp2_with fail
        go_cut [] from 39 to 82 (fun wx => ∃ (A3 : Option Addr) (n3 c3 : Nat), Hid (MQ w wx s R ρt 6 names1 list (.slice A3 n3 c3) (.slice A2 n2 c2)))
        case first =>
          go_region_law (first
            | (go_simp; go_at_call 90; refine ((HTl _ (by exact HM.out.rd.drew)).out).mono ?_; rintro e w3 ⟨rfl, hR3, hg3⟩; have HM3 := Lib.hid (HM.out.drew.same hR3 hg3); have cn3 : w3.cell? ⟨w.heap.size, 3, none⟩ = some (.slice A1 n1 c1) := HM3.out.jb.c3; have cn5 : ∀ o, (w3.alloc o).cell? ⟨w.heap.size, 3, none⟩ = some (.slice A1 n1 c1) := fun o => (HM3.out.alloc o).jb.c3; have hn3 := HM3.out.hn)
            | (refine step_append_lies _ (by rfl) _ _ _ (by rfl) (w.heap.size + 2) 9 i9 _ 1 16 Tryd.underlying23 hi9 hy0 hy1 hy2 rfl (by omega) (.slice A1 n1 c1) names.length (names.map Value.string) (by rfl) (hn3.alloc _)
                ⟨w3.heap.size, 0, none⟩ 1 1 [.string ⟨T.toArray⟩] (by rfl) (by rfl) (one_new _ _ rfl) (by simp [Value.oneCell'])
                (by omega) (by unfold maxLen; omega) (by omega) (by simp; have := HM3.out.br.lt; omega) (w3.heap.size + 1) (by simp) ?_; intro gg cap w4 hown4 hgrow hat hlt4; have hj4 := HM3.out.far hgrow (fun k hk => (hn3.lt k hk).1); have cn4 : w4.cell? ⟨w.heap.size, 3, none⟩ = some (.slice A1 n1 c1) := hj4.c3; have fr4 : w4.frozen? ⟨w.heap.size, 3, none⟩ = false := hj4.f 3))
          all_goals go_wp2_with fail
          all_goals go_meet
          all_goals
            rw [← Hnames1.out]
            exact ⟨_, _, _, HM3.out.name hown4 hgrow hat⟩
        case rest =>
        obtain ⟨A4, n4, c4, HMt⟩ := hcut
        have hal1 : names1.length + k ≤ s.size + 2 := by rw [← Hnames1.out, List.length_append]; simp; omega
        clear HM hn0 cn0 cl0 HTl Hnames1
        go_wp2_with (first
          | (go_at_call 87; refine ((HTb _ (by exact HMt.out.rd)).out).mono ?_; rintro e wb ⟨rfl, hRb, hgb⟩; have HMb := Lib.hid (HMt.out.same hRb hgb))
          | (go_at_call 89; refine ((HTc _ (by exact HMb.out.rd)).out).mono ?_; rintro e w1 ⟨rfl, hR1, hg1⟩; have HM := Lib.hid (HMb.out.same hR1 hg1)))
        clear HMt HMb HTb HTc hRb hgb
        have cl1 : w1.cell? ⟨w.heap.size, 4, none⟩ = some (.slice A2 n2 c2) := HM.out.jb.c4
        have hl0 := HM.out.hl
        have hnl := HM.out.hn.lt
        go_cut [] from 39 to 82 (fun wx => ∃ (A3 : Option Addr) (n3 c3 : Nat), Hid (MQ w wx s R ρ2 6 names1 (list ++ [j]) (.slice A4 n4 c4) (.slice A3 n3 c3)))
        case first =>
          go_region_law (first
            | (go_simp; go_at_call 44; refine ((HVl _ (by exact HM.out.rd.drew)).out).mono ?_; rintro e w3 ⟨A5, n5, c5, A6, n6, c6, S', rfl, hj, hS', hR3, hg3⟩; have HM3 := Lib.hid (HM.out.drew.same hR3 hg3); have cl3 : w3.cell? ⟨w.heap.size, 4, none⟩ = some (.slice A2 n2 c2) := HM3.out.jb.c4; have cl5 : ∀ o, (w3.alloc o).cell? ⟨w.heap.size, 4, none⟩ = some (.slice A2 n2 c2) := fun o => (HM3.out.alloc o).jb.c4; obtain ⟨xs, S, hl1, hl2, hl3⟩ := HM3.out.hl)
            | (refine step_append_lies _ (by rfl) _ _ _ (by rfl) (w.heap.size + 2) 26 i0 _ 5 80 Tryd.underlying24 hi0 hz0 hz1 hz2 rfl (by omega) (.slice A2 n2 c2) list.length xs (by rfl) (hl1.alloc _)
                ⟨w3.heap.size, 0, none⟩ 1 1 [.int .i64 j.k, .int .i64 j.n, .string j.t, .slice A5 n5 c5, .slice A6 n6 c6] (by rfl) (by rfl) (World.news_of_block (cs := #[.int .i64 j.k, .int .i64 j.n, .string j.t, .slice A5 n5 c5, .slice A6 n6 c6]) (t := 26) (fr := (0, 0)) (heap_alloc_new w3 _)) (by simp [Value.oneCell'])
                (by omega) (by unfold maxLen; omega) (by omega) (by simp; have := HM3.out.br.lt; omega) (w3.heap.size + 1) (by simp) ?_; intro gg cap w4 hown4 hgrow hat hlt4; have hj4 := HM3.out.far hgrow (fun k hk => (hl1.lt k hk).1); have cl4 : w4.cell? ⟨w.heap.size, 4, none⟩ = some (.slice A2 n2 c2) := hj4.c4; have fr4 : w4.frozen? ⟨w.heap.size, 4, none⟩ = false := hj4.f 4))
          all_goals go_wp2_with fail
          all_goals go_meet
          all_goals
            obtain ⟨xs0, S0, hl01, _, _⟩ := hl0
            have hbl := HM.out.br.lt
            exact ⟨_, _, _, HM3.out.elem (H0 := w1.heap.size) hl1 hl2 hl3 hj (by simpa using hS') hbl (fun k hk => (hnl k hk).2) (fun k hk => (hl01.lt k hk).2) hown4 hgrow hat⟩
        case rest =>
          obtain ⟨A3, n3, c3, HM3⟩ := hcut
          clear hl0 hnl cl1 HM HVl
          have cx3 := HM3.out.rd.c1
          have fx3 := HM3.out.rd.f 1
          by_cases hq2 : (chr s ρ2.p : Int) = 125
          · have HF1 : Hid (manyQF s val 6 125 (s.size + 2) [] [] x = (.mk 6 0 ⟨#[]⟩ names1 (list ++ [j]), stepQ ρ2)) := by rw [HF0.out, if_pos hq2]; rfl
            clear HF0
            have hq3 : chr s ρ2.p = 125 := by omega
            have hxl : ρ2.p < s.size := chr_pos (by omega)
            have Hn := fun (W : World) (hh : RQ W R s ρ2) => here_any R s ρ2 W hh hpV
            rw [hq3] at Hn
            clear hq2 hq3
            go_wp2_with (first
              | (go_at_call 88; refine (Hn _ (by exact HM3.out.rd)).mono ?_; rintro e w5 ⟨rfl, n5, rfl⟩; have hM2 := (HM3.out.drewN n5).same (τ' := stepQ ρ2) (w' := (wc.drewN n5).setCell ⟨R, 1, none⟩ (.int .i64 ((ρ2.p : Int) + 1))) ((HM3.out.rd.drewN n5).set1 (ρ2.p + 1)) (gb_setR (gb_refl _ _) 1 _); obtain ⟨m0, m1, m2, m3, m4, mf⟩ := hM2.jb.all; obtain ⟨r0, r1, r2, r3, r4, rf⟩ := hM2.br.all))
            have hJ7 := hM2.br.put5 (.int .i64 6) (.int .i64 0) (.string ⟨#[]⟩) (.slice A4 n4 c4) (.slice A3 n3 c3)
            obtain ⟨q0, q1, q2, q3, q4, qf⟩ := hJ7.all
            unfold put5 at q0 q1 q2 q3 q4
            refine bodyPost_ret (v := .agg #[.int .i64 6, .int .i64 0, .string ⟨#[]⟩, .slice A4 n4 c4, .slice A3 n3 c3]) (by simp [results, Tryd.results91, go_sem, q0, q1, q2, q3, q4]) rfl ?_
            rw [HF1.out]; exact hM2.done
          · have HF1 : Hid (manyQF s val 6 125 k names1 (list ++ [j]) (blanksQ s (mustQ s (nats ⟨#[44]⟩) ρ2)) = manyQF s val 6 125 (s.size + 2) [] [] x) := by rw [HF0.out, if_neg hq2]; rfl
            have hqb : ((chr s ρ2.p : Int) == 125) = false := by simpa using hq2
            clear HF0 hq2
            have gN := qgo_must (s := s) (nats ⟨#[44]⟩) (by decide) hpV
            have hpN := gN.le
            have hpB := (qgo_blanks (s := s) gN.le).le
            have hmN : muQ s (blanksQ s (mustQ s (nats ⟨#[44]⟩) ρ2)) < muQ s ρ := must_mu hb hge hpV (by decide)
            clear gN
            have HN := fun (W : World) (hh : RQ W R s ρ2) => Lib.hid (mustQ_any R s ⟨#[44]⟩ ρ2 W hh hpV hs (by decide) (by decide))
            generalize mustQ s (nats ⟨#[44]⟩) ρ2 = ρ3 at *
            have HC := fun (W : World) (hh : RQ W R s ρ3) => Lib.hid (blanksQ_any R s ρ3 W hh hpN hs)
            generalize blanksQ s ρ3 = ρ4 at *
            go_wp2_with (first
              | (go_at_call 88; refine (here_any R s ρ2 _ (by exact HM3.out.rd) hpV).mono ?_; rintro e w5 ⟨rfl, n5, rfl⟩)
              | (go_at_call 89; refine ((HN _ (by exact HM3.out.rd.drewN n5)).out).mono ?_; rintro e w6 ⟨rfl, hR6, hg6⟩; have HM6 := Lib.hid ((HM3.out.drewN n5).same hR6 hg6))
              | (go_at_call 87; refine ((HC _ (by exact hR6)).out).mono ?_; rintro e w7 ⟨rfl, hR7, hg7⟩))
            go_roundg k
            case measure => omega
            case rel => exact ⟨names1, list ++ [j], A4, n4, c4, A3, n3, c3, ρ4, hpB, by omega, by simp; omega, by omega, HF1, HM6.out.same hR7 hg7⟩
      · have hbb : decide (ρ.bad < 0) = false := by simpa using hb
        have HF1 : Hid (manyQF s val 6 125 (s.size + 2) [] [] x = (.mk 6 0 ⟨#[]⟩ names list, ρ)) := by
          rw [← HF.out, manyQF, if_neg hb]; rfl
        clear HF
        have hM2 := HM.out
        obtain ⟨m0, m1, m2, m3, m4, mf⟩ := hM2.jb.all
        obtain ⟨r0, r1, r2, r3, r4, rf⟩ := hM2.br.all
        go_wp2_with fail
        have hJ7 := hM2.br.put5 (.int .i64 6) (.int .i64 0) (.string ⟨#[]⟩) (.slice A1 n1 c1) (.slice A2 n2 c2)
        obtain ⟨q0, q1, q2, q3, q4, qf⟩ := hJ7.all
        unfold put5 at q0 q1 q2 q3 q4
        refine bodyPost_ret (v := .agg #[.int .i64 6, .int .i64 0, .string ⟨#[]⟩, .slice A1 n1 c1, .slice A2 n2 c2]) (by simp [results, Tryd.results91, go_sem, q0, q1, q2, q3, q4]) rfl ?_
        rw [HF1.out]; exact hM2.done
end Go.Proofs.YtnnhkajjifmlfaaDoor

/-! The reference's Parse: it computes parseQ. -/

namespace Go.Proofs.YtnnhkajjifmlfaaDoor
open Go.RowKit Go.Maps

theorem manyQ_any (s : ByteArray) (hs : s.size ≤ 2000000) : ∀ (k : Nat), k ≤ 64 → ManyQC s (manyQD s k) k
  | 0, _ => fun kind en R q w h _ _ => manyQ_zero s kind en R q w h
  | k + 1, hk => by
    have hV : ValQC s (valueQ s (manyQD s k)) (((k + 1 : Nat) : Int) - 1) := fun R q w h hp => by
      have e : ((k + 1 : Nat) : Int) - 1 = (k : Int) := by omega
      rw [e]
      exact valueQ_any s (manyQD s k) k (qgo_manyD k) (manyQ_any s hs k (by omega)) R q w h hp hs
    rintro kind en R q w h hlt (⟨rfl, rfl⟩ | ⟨rfl, rfl⟩)
    · exact manyQ_list s _ _ (qgo_valueQ (qgo_manyD k)) hV (by omega) (by omega) hs R q w h hlt
    · exact manyQ_map s _ _ (qgo_valueQ (qgo_manyD k)) hV (by omega) (by omega) hs R q w h hlt
theorem valueQ_top (s : ByteArray) (hs : s.size ≤ 2000000) (R : Nat) (q : QS) (w : World) (h : RQ w R s q) (hp : q.p ≤ s.size) :
    Calls Tryd.prog 44 #[.pointer (some ⟨R, 0, none⟩), .int .i64 64] w (VQ s R w (valueQD s 64 q)) :=
  valueQ_any s (manyQD s 64) 64 (qgo_manyD 64) (manyQ_any s hs 64 (Nat.le_refl _)) R q w h hp hs

def endQ (s : ByteArray) (q : QS) : QS := if q.bad < 0 ∧ q.p < s.size then failQ q q.p 4 else q
def topQ (s : ByteArray) : J × QS := ((valueQD s 64 ⟨0, -1, 0⟩).1, endQ s (valueQD s 64 ⟨0, -1, 0⟩).2)
def outQ (x : J × QS) : J × Int × Int := if x.2.bad < 0 then (x.1, 0, 0) else (bare 0 0, x.2.bad, x.2.e)
/-- what the reference's Parse hands back: the value, the place, the error -/
def parseQ (s : ByteArray) : J × Int × Int := if 1048576 < s.size then (bare 0 0, -1, 3) else outQ (topQ s)

theorem RQ.new {w : World} {n : Nat} (s : ByteArray) (hn : w.heap.size = n) : RQ (w.alloc (.cells #[.string s, .int .i64 0, .int .i64 (-1), .int .i64 0] 72)) n s ⟨0, -1, 0⟩ := by
  subst hn; exact heap_alloc_new w _

set_option maxRecDepth 100000 in
set_option maxHeartbeats 800000 in
theorem parseQ_long (s : ByteArray) (w : World) (hs : 1048576 < s.size) (hs2 : s.size ≤ 9223372036854775807) : Calls Tryd.prog 14 #[.string s] w (RP w (parseQ s)) := by
  have HP : parseQ s = (bare 0 0, -1, 3) := by unfold parseQ; rw [if_pos hs]
  rw [HP]; clear HP
  have hsI : (1048576 : Int) < (s.size : Int) := by omega
  have hJ0 := JB.new w (.int .i64 0) (.int .i64 0) (.string ⟨#[]⟩) (.slice none 0 0) (.slice none 0 0)
  obtain ⟨q0, q1, q2, q3, q4, qf⟩ := hJ0.all
  go_enter Tryd.func14, Tryd.ntmps14
  go_wp2_with fail
  refine bodyPost_ret (v := .tuple #[.agg #[.int .i64 0, .int .i64 0, .string ⟨#[]⟩, .slice none 0 0, .slice none 0 0], .int .i64 (-1), .int .i64 3]) (by simp [results, Tryd.results14, go_sem]) rfl ?_
  exact ⟨none, 0, 0, none, 0, 0, fun _ => False, rfl, .bare _ _ _, fun _ h => h.elim, gb_alloc (gb_refl w _) _⟩

/-- a fault: the zero value, the place, the error -/
theorem RP.err {w wc : World} {x e : Int} (hg : w.grownBy wc none) : RP w (bare 0 0, x, e) (.returned (.tuple #[.agg #[.int .i64 0, .int .i64 0, .string ⟨#[]⟩, .slice none 0 0, .slice none 0 0], .int .i64 x, .int .i64 e])) wc :=
  ⟨none, 0, 0, none, 0, 0, fun _ => False, rfl, .bare _ _ _, fun _ h => h.elim, hg⟩

set_option maxRecDepth 100000 in
set_option maxHeartbeats 800000 in
theorem parseQ_short (s : ByteArray) (w : World) (hs1 : s.size ≤ 1048576) : Calls Tryd.prog 14 #[.string s] w (RP w (parseQ s)) := by
  have HP : Hid (parseQ s = outQ (topQ s)) := by unfold Hid parseQ; rw [if_neg (by omega)]
  rw [HP.out]; clear HP
  have hs : s.size ≤ 2000000 := by omega
  have hsI : (s.size : Int) ≤ 1048576 := by omega
  have HV := fun (R : Nat) (W : World) (hh : RQ W R s ⟨0, -1, 0⟩) => Lib.hid (valueQ_top s hs R ⟨0, -1, 0⟩ W hh (Nat.zero_le _))
  have hpV := (qgo_valueD (s := s) 64 ⟨0, -1, 0⟩ (Nat.zero_le _)).le
  unfold topQ
  generalize valueQD s 64 ⟨0, -1, 0⟩ = y at *
  obtain ⟨j, q1⟩ := y
  simp only at *
  have hJ0 := JB.new w (.int .i64 0) (.int .i64 0) (.string ⟨#[]⟩) (.slice none 0 0) (.slice none 0 0)
  have hR0 := RQ.new (w := w.alloc (.cells #[.int .i64 0, .int .i64 0, .string ⟨#[]⟩, .slice none 0 0, .slice none 0 0] 26)) (n := w.heap.size + 1) s (by simp)
  by_cases hb : q1.bad < 0
  · have hbb : decide (q1.bad < 0) = true := by simpa using hb
    by_cases hlt : q1.p < s.size
    · have hltI : (q1.p : Int) < (s.size : Int) := by omega
      have HO : Hid (outQ (j, endQ s q1) = (bare 0 0, (q1.p : Int), 4)) := by
        have hE : endQ s q1 = { q1 with bad := q1.p, e := 4 } := by unfold endQ; rw [if_pos ⟨hb, hlt⟩]; unfold failQ; rw [if_pos hb]
        unfold Hid; rw [hE]; exact if_neg (show ¬ ((q1.p : Nat) : Int) < 0 by omega)
      have hF : failQ q1 q1.p 4 = { q1 with bad := q1.p, e := 4 } := by unfold failQ; rw [if_pos hb]
      have HFl := fun (R : Nat) (W : World) (hh : RQ W R s q1) => failQ_any R s q1 q1.p 4 W hh
      rw [hF] at HFl
      have HF := fun (R : Nat) (W : World) (hh : RQ W R s q1) => Lib.hid (HFl R W hh)
      clear HFl hF hb
      go_enter Tryd.func14, Tryd.ntmps14
      go_wp2_with (first
        | (go_at_call 44; refine ((HV _ _ (by exact hR0)).out).mono ?_; rintro e w3 ⟨A3, n3, c3, A4, n4, c4, S, rfl, hj, hS, hR3, hg3⟩; have hR4 := hR3.alloc (.cells #[.int .i64 j.k, .int .i64 j.n, .string j.t, .slice A3 n3 c3, .slice A4 n4 c4] 26); have hg4 := gb_alloc hg3 (.cells #[.int .i64 j.k, .int .i64 j.n, .string j.t, .slice A3 n3 c3, .slice A4 n4 c4] 26); have cr1 := hR4.c1; have cr2 := hR4.c2)
        | (go_at_call 45; refine ((HF _ _ (by exact hR4)).out).mono ?_; rintro e w6 ⟨rfl, hR6, hg6⟩; have hg7 := gb_trans hg4 (by exact hg6); have cs2 := hR6.c2; have cs3 := hR6.c3; have hJ6 := (hJ0.alloc _).kept hg7 (by simp); obtain ⟨k0, k1, k2, k3, k4, kf⟩ := hJ6.all))
      go_region
      go_wp2_with fail
      have hg8 : w.grownBy w6 none := gb_more (gb_alloc (gb_alloc (gb_refl w none) _) _) hg7 (by intro g hgx; cases hgx; exact .inr (by omega))
      have q0 : (w6.setCell ⟨w.heap.size, 0, none⟩ (.int .i64 0)).cell? ⟨w.heap.size, 0, none⟩ = some (.int .i64 0) := by unfold JB at hJ6; simp [World.cell?, World.setCell, Array.getElem?_modify, hJ6]
      have q1 : ((w6.setCell ⟨w.heap.size, 0, none⟩ (.int .i64 0)).setCell ⟨w.heap.size, 1, none⟩ (.int .i64 0)).cell? ⟨w.heap.size, 1, none⟩ = some (.int .i64 0) := by unfold JB at hJ6; simp [World.cell?, World.setCell, Array.getElem?_modify, hJ6]
      have q2 : (((w6.setCell ⟨w.heap.size, 0, none⟩ (.int .i64 0)).setCell ⟨w.heap.size, 1, none⟩ (.int .i64 0)).setCell ⟨w.heap.size, 2, none⟩ (.string ⟨#[]⟩)).cell? ⟨w.heap.size, 2, none⟩ = some (.string ⟨#[]⟩) := by unfold JB at hJ6; simp [World.cell?, World.setCell, Array.getElem?_modify, hJ6]
      have q3 : ((((w6.setCell ⟨w.heap.size, 0, none⟩ (.int .i64 0)).setCell ⟨w.heap.size, 1, none⟩ (.int .i64 0)).setCell ⟨w.heap.size, 2, none⟩ (.string ⟨#[]⟩)).setCell ⟨w.heap.size, 3, none⟩ (.slice none 0 0)).cell? ⟨w.heap.size, 3, none⟩ = some (.slice none 0 0) := by unfold JB at hJ6; simp [World.cell?, World.setCell, Array.getElem?_modify, hJ6]
      have q4 : (((((w6.setCell ⟨w.heap.size, 0, none⟩ (.int .i64 0)).setCell ⟨w.heap.size, 1, none⟩ (.int .i64 0)).setCell ⟨w.heap.size, 2, none⟩ (.string ⟨#[]⟩)).setCell ⟨w.heap.size, 3, none⟩ (.slice none 0 0)).setCell ⟨w.heap.size, 4, none⟩ (.slice none 0 0)).cell? ⟨w.heap.size, 4, none⟩ = some (.slice none 0 0) := by unfold JB at hJ6; simp [World.cell?, World.setCell, Array.getElem?_modify, hJ6]
      refine bodyPost_ret (v := .tuple #[.agg #[.int .i64 0, .int .i64 0, .string ⟨#[]⟩, .slice none 0 0, .slice none 0 0], .int .i64 _, .int .i64 4]) (by simp [results, Tryd.results14, go_sem, q0, q1, q2, q3, q4]; rfl) rfl ?_
      rw [HO.out]
      exact RP.err (gb_drew (gb_put5 hg8 (Nat.le_refl _) _ _ _ _ _))
    · have hltI : ¬ (q1.p : Int) < (s.size : Int) := by omega
      have HO : Hid (outQ (j, endQ s q1) = (j, 0, 0)) := by
        have hE : endQ s q1 = q1 := by unfold endQ; exact if_neg (fun h => hlt h.2)
        unfold Hid; rw [hE]; exact if_pos hb
      have hbc : decide ((0 : Int) ≤ q1.bad) = false := by simpa using hb
      clear hb
      go_enter Tryd.func14, Tryd.ntmps14
      go_wp2_with (first
        | (go_at_call 44; refine ((HV _ _ (by exact hR0)).out).mono ?_; rintro e w3 ⟨A3, n3, c3, A4, n4, c4, S, rfl, hj, hS, hR3, hg3⟩; have hR4 := hR3.alloc (.cells #[.int .i64 j.k, .int .i64 j.n, .string j.t, .slice A3 n3 c3, .slice A4 n4 c4] 26); have hg4 := gb_alloc hg3 (.cells #[.int .i64 j.k, .int .i64 j.n, .string j.t, .slice A3 n3 c3, .slice A4 n4 c4] 26); have cr1 := hR4.c1; have cr2 := hR4.c2; have hJ6 := (hJ0.alloc _).kept hg4 (by simp); obtain ⟨k0, k1, k2, k3, k4, kf⟩ := hJ6.all))
      have hJ7 := hJ6.put5 (.int .i64 j.k) (.int .i64 j.n) (.string j.t) (.slice A3 n3 c3) (.slice A4 n4 c4)
      obtain ⟨q0, q1, q2, q3, q4, qf⟩ := hJ7.all
      unfold put5 at q0 q1 q2 q3 q4
      refine bodyPost_ret (v := .tuple #[.agg #[.int .i64 j.k, .int .i64 j.n, .string j.t, .slice A3 n3 c3, .slice A4 n4 c4], .int .i64 0, .int .i64 0]) (by simp [results, Tryd.results14, go_sem, q0, q1, q2, q3, q4]) rfl ?_
      rw [HO.out]
      have hS' : ∀ b, S b → w.heap.size + 2 ≤ b ∧ b < w3.heap.size := fun b hb => by have := hS b hb; simp at this; omega
      have hg8 : w.grownBy _ none := gb_more (gb_alloc (gb_alloc (gb_refl w none) _) _) hg4 (by intro g hgx; cases hgx; exact .inr (by omega))
      refine ⟨A3, n3, c3, A4, n4, c4, S, rfl, hj.keep (fun b hb => ?_) (fun _ => id), fun b hb => ⟨by have := (hS' b hb).1; omega, ?_⟩, gb_put5 hg8 (Nat.le_refl _) _ _ _ _ _⟩
      · have := hS' b hb
        exact (put5_heap (by omega) _ _ _ _ _).trans (Below.heap_alloc _ _ b this.2)
      · have := hS' b hb
        show b < (put5 _ w.heap.size _ _ _ _ _).heap.size
        rw [put5_size]; simp; omega
  · have hbb : decide (q1.bad < 0) = false := by simpa using hb
    have hbc : decide ((0 : Int) ≤ q1.bad) = true := by simpa using hb
    have HO : Hid (outQ (j, endQ s q1) = (bare 0 0, q1.bad, q1.e)) := by
      have hE : endQ s q1 = q1 := by unfold endQ; exact if_neg (fun h => hb h.1)
      unfold Hid; rw [hE]; exact if_neg hb
    go_enter Tryd.func14, Tryd.ntmps14
    go_wp2_with (first
      | (go_at_call 44; refine ((HV _ _ (by exact hR0)).out).mono ?_; rintro e w3 ⟨A3, n3, c3, A4, n4, c4, S, rfl, hj, hS, hR3, hg3⟩; have hR4 := hR3.alloc (.cells #[.int .i64 j.k, .int .i64 j.n, .string j.t, .slice A3 n3 c3, .slice A4 n4 c4] 26); have hg4 := gb_alloc hg3 (.cells #[.int .i64 j.k, .int .i64 j.n, .string j.t, .slice A3 n3 c3, .slice A4 n4 c4] 26); have cr1 := hR4.c1; have cr2 := hR4.c2; have cr3 := hR4.c3; have hJ6 := (hJ0.alloc _).kept hg4 (by simp); obtain ⟨k0, k1, k2, k3, k4, kf⟩ := hJ6.all))
    have hg8 : w.grownBy _ none := gb_more (gb_alloc (gb_alloc (gb_refl w none) _) _) hg4 (by intro g hgx; cases hgx; exact .inr (by omega))
    generalize w3.alloc (.cells #[.int .i64 j.k, .int .i64 j.n, .string j.t, .slice A3 n3 c3, .slice A4 n4 c4] 26) = w6 at *
    go_region
    go_wp2_with fail
    have q0 : (w6.setCell ⟨w.heap.size, 0, none⟩ (.int .i64 0)).cell? ⟨w.heap.size, 0, none⟩ = some (.int .i64 0) := by unfold JB at hJ6; simp [World.cell?, World.setCell, Array.getElem?_modify, hJ6]
    have q1' : ((w6.setCell ⟨w.heap.size, 0, none⟩ (.int .i64 0)).setCell ⟨w.heap.size, 1, none⟩ (.int .i64 0)).cell? ⟨w.heap.size, 1, none⟩ = some (.int .i64 0) := by unfold JB at hJ6; simp [World.cell?, World.setCell, Array.getElem?_modify, hJ6]
    have q2 : (((w6.setCell ⟨w.heap.size, 0, none⟩ (.int .i64 0)).setCell ⟨w.heap.size, 1, none⟩ (.int .i64 0)).setCell ⟨w.heap.size, 2, none⟩ (.string ⟨#[]⟩)).cell? ⟨w.heap.size, 2, none⟩ = some (.string ⟨#[]⟩) := by unfold JB at hJ6; simp [World.cell?, World.setCell, Array.getElem?_modify, hJ6]
    have q3 : ((((w6.setCell ⟨w.heap.size, 0, none⟩ (.int .i64 0)).setCell ⟨w.heap.size, 1, none⟩ (.int .i64 0)).setCell ⟨w.heap.size, 2, none⟩ (.string ⟨#[]⟩)).setCell ⟨w.heap.size, 3, none⟩ (.slice none 0 0)).cell? ⟨w.heap.size, 3, none⟩ = some (.slice none 0 0) := by unfold JB at hJ6; simp [World.cell?, World.setCell, Array.getElem?_modify, hJ6]
    have q4 : (((((w6.setCell ⟨w.heap.size, 0, none⟩ (.int .i64 0)).setCell ⟨w.heap.size, 1, none⟩ (.int .i64 0)).setCell ⟨w.heap.size, 2, none⟩ (.string ⟨#[]⟩)).setCell ⟨w.heap.size, 3, none⟩ (.slice none 0 0)).setCell ⟨w.heap.size, 4, none⟩ (.slice none 0 0)).cell? ⟨w.heap.size, 4, none⟩ = some (.slice none 0 0) := by unfold JB at hJ6; simp [World.cell?, World.setCell, Array.getElem?_modify, hJ6]
    refine bodyPost_ret (v := .tuple #[.agg #[.int .i64 0, .int .i64 0, .string ⟨#[]⟩, .slice none 0 0, .slice none 0 0], .int .i64 q1.bad, .int .i64 q1.e]) (by simp [results, Tryd.results14, go_sem, q0, q1', q2, q3, q4]) rfl ?_
    rw [HO.out]
    exact RP.err (gb_drew (gb_put5 hg8 (Nat.le_refl _) _ _ _ _ _))
end Go.Proofs.YtnnhkajjifmlfaaDoor
