/- Words for the proofs over package json: the reader's block, and the plain functions that the reader's methods compute. -/
import Derived.Test.YtnnhkajjifmlfaaDoorProg
import Derived.KernelRfl
import Derived.WalkKit
import Derived.Deep.Draws
import Derived.WalkSpells
import Derived.WalkLawsBesides
import Derived.Deep.QuietTactic
import Derived.BigQuiet
import Derived.Lib.Hide
import Derived.Shelf.Small.Strs
import Derived.Shelf.LaysM
import Derived.Shelf.LaysC
import Derived.Shelf.Strings.Search1
import Derived.Shelf.Strings.Search2
import Derived.Shelf.Strings.Search3
import Derived.Shelf.Strings.Shaped
import Derived.Deep.LoopGhost
import Derived.Maps.RangeWalk
import Derived.Maps.OwnOps
import Derived.Maps.Views
import Derived.Outline
import Derived.Maps.AppendAt
import Derived.Lib.UnsafeStr
import Derived.Lib.BufferWrite
import Derived.Shelf.Strconv.ParseIntEmpty
import Derived.Shelf.Strconv.Clone
import Derived.Shelf.Strconv.SyntaxError
import Derived.Shelf.Strconv.ToError
import Derived.Shelf.Strconv.Lower
import Derived.Shelf.Strconv.ParseUint10
import Derived.Shelf.Strconv.ParseUint10Empty
import Derived.Shelf.Strconv.ParseUint10Any
import Derived.Shelf.Strconv.ParseInt10
import Derived.Shelf.Strconv.RangeError
import Derived.Shelf.Strconv.ToErrorRange
import Derived.Shelf.Strconv.ParseUintEmpty
import Derived.Shelf.Strconv.ParseUint10b64
import Derived.Shelf.Strconv.ParseUint10b32
import Derived.Shelf.Strconv.ParseUint10b16
import Derived.Shelf.Strconv.ParseUint10b8
import Derived.Shelf.Strconv.ParseUint10At
import Derived.Shelf.Strconv.ParseInt10At64
import Derived.Shelf.Strconv.ParseInt10At32
import Derived.Shelf.Strconv.ParseInt10At16
import Derived.Shelf.Strconv.ParseInt10At8
import Derived.Shelf.Strconv.ParseInt10All
import Derived.Shelf.Strconv.ParseIntPublic10
import Derived.Shelf.Strconv.ErrVarParseInt
/-! Words for the proofs over package json: the reader's block, and the plain functions that the reader's methods compute. -/

namespace Go.Proofs.YtnnhkajjifmlfaaDoor
open Go.RowKit

/-- the reader's state: place, error, the fault's place, depth -/
structure PS where
  p : Nat
  e : Int
  bad : Int
  d : Int

def RD (w : World) (R : Nat) (s : ByteArray) (σ : PS) : Prop :=
  w.heap[R]? = some (.cells #[.string s, .int .i64 σ.p, .int .i64 σ.e, .int .i64 σ.bad, .int .i64 σ.d] 68 (0, 0))

section
variable {w w' : World} {R : Nat} {s : ByteArray} {σ : PS}
theorem RD.lt (h : RD w R s σ) : R < w.heap.size := (Array.getElem?_eq_some_iff.1 h).1
theorem RD.c0 (h : RD w R s σ) : w.cell? ⟨R, 0, none⟩ = some (.string s) := by rw [cell_of_row w R 0 _ _ _ h]; rfl
theorem RD.c1 (h : RD w R s σ) : w.cell? ⟨R, 1, none⟩ = some (.int .i64 σ.p) := by rw [cell_of_row w R 1 _ _ _ h]; rfl
theorem RD.c2 (h : RD w R s σ) : w.cell? ⟨R, 2, none⟩ = some (.int .i64 σ.e) := by rw [cell_of_row w R 2 _ _ _ h]; rfl
theorem RD.c3 (h : RD w R s σ) : w.cell? ⟨R, 3, none⟩ = some (.int .i64 σ.bad) := by rw [cell_of_row w R 3 _ _ _ h]; rfl
theorem RD.c4 (h : RD w R s σ) : w.cell? ⟨R, 4, none⟩ = some (.int .i64 σ.d) := by rw [cell_of_row w R 4 _ _ _ h]; rfl
theorem RD.f (h : RD w R s σ) (i : Nat) : w.frozen? ⟨R, i, none⟩ = false := by
  unfold RD at h; simp [World.frozen?, h]
theorem RD.set4 (h : RD w R s σ) (q : Int) : RD (w.setCell ⟨R, 4, none⟩ (.int .i64 q)) R s { σ with d := q } := by
  unfold RD at h ⊢; simp [World.setCell, Array.getElem?_modify, h]
theorem RD.alloc (h : RD w R s σ) (o : Obj) : RD (w.alloc o) R s σ := (Below.heap_alloc w o R h.lt).trans h
theorem RD.drewN (h : RD w R s σ) (n : Nat) : RD (w.drewN n) R s σ := h
theorem RD.drew (h : RD w R s σ) : RD w.drew R s σ := h
theorem RD.far (h : RD w R s σ) {q : Addr} (hq : R ≠ q.block) (u : Value) : RD (w.setCell q u) R s σ := (Below.heap_setCell w q u R hq).trans h
theorem RD.kept (h : RD w R s σ) {row : Option Nat} (hg : w.grownBy w' row) (hne : some R ≠ row) : RD w' R s σ := (hg.block R h.lt hne).trans h
end

/-! frames: 'grownBy' of at most one row, step by step -/
section
variable {a b w w' : World} {row : Option Nat}
theorem gb_refl (w : World) (row : Option Nat) : w.grownBy w row := ⟨rfl, rfl, rfl, Nat.le_refl _, fun _ _ _ => rfl⟩
theorem gb_trans (h : a.grownBy b row) (k : b.grownBy w row) : a.grownBy w row :=
  ⟨k.os.trans h.os, k.tape.trans h.tape, k.output.trans h.output, Nat.le_trans h.size k.size, fun i hi hn => (k.block i (Nat.lt_of_lt_of_le hi h.size) hn).trans (h.block i hi hn)⟩
theorem gb_drewN (h : a.grownBy w row) (n : Nat) : a.grownBy (w.drewN n) row := ⟨h.os, h.tape, h.output, h.size, h.block⟩
theorem gb_drew (h : a.grownBy w row) : a.grownBy w.drew row := ⟨h.os, h.tape, h.output, h.size, h.block⟩
theorem gb_alloc (h : a.grownBy w row) (o : Obj) : a.grownBy (w.alloc o) row :=
  ⟨h.os, h.tape, h.output, Nat.le_trans h.size (by simp), fun i hi hne => (Below.heap_alloc w o i (Nat.lt_of_lt_of_le hi h.size)).trans (h.block i hi hne)⟩
theorem gb_set {g : Nat} (h : a.grownBy w (some g)) {p : Addr} (hp : p.block = g ∨ a.heap.size ≤ p.block) (u : Value) : a.grownBy (w.setCell p u) (some g) :=
  ⟨h.os, h.tape, h.output, by simpa [World.setCell] using h.size, fun i hi hne => (Below.heap_setCell w p u i (by
    rintro rfl
    rcases hp with hp | hp
    · exact hne (by rw [hp])
    · omega)).trans (h.block i hi hne)⟩
theorem gb_setR {R : Nat} (h : a.grownBy w (some R)) (i : Nat) (u : Value) : a.grownBy (w.setCell ⟨R, i, none⟩ u) (some R) := gb_set (p := ⟨R, i, none⟩) h (.inl rfl) u
/-- a step that turns a row of its own, made since, or the same row -/
theorem gb_more {row' : Option Nat} (h : a.grownBy w row) (k : w.grownBy w' row') (hr : ∀ g, row' = some g → some g = row ∨ a.heap.size ≤ g) : a.grownBy w' row :=
  ⟨k.os.trans h.os, k.tape.trans h.tape, k.output.trans h.output, Nat.le_trans h.size k.size, fun i hi hn => (k.block i (Nat.lt_of_lt_of_le hi h.size) (by
    intro e
    rcases hr i e.symm with h1 | h1
    · exact hn h1
    · omega)).trans (h.block i hi hn)⟩
end

/-! what the reader's methods compute -/
def chr (s : ByteArray) (i : Nat) : Nat := if h : i < s.size then s[i].toNat else 0
theorem chr_in {s : ByteArray} {i : Nat} (h : i < s.size) : chr s i = s[i].toNat := by simp [chr, h]
theorem chr_out {s : ByteArray} {i : Nat} (h : s.size ≤ i) : chr s i = 0 := by simp [chr, Nat.not_lt.2 h]

def blank (c : Nat) : Bool := c == 32 || c == 9 || c == 10 || c == 13
/-- the place behind blanks -/
def skipF (s : ByteArray) : Nat → Nat → Nat
  | 0, i => i
  | n + 1, i => if blank (chr s i) then skipF s n (i + 1) else i
def skip (s : ByteArray) (i : Nat) : Nat := skipF s (s.size - i) i
end Go.Proofs.YtnnhkajjifmlfaaDoor

/-! The reader's small methods of package json: each computes what its plain function says. -/

namespace Go.Proofs.YtnnhkajjifmlfaaDoor
open Go.RowKit

end Go.Proofs.YtnnhkajjifmlfaaDoor

/-! (*reader).blanks and (*reader).need of package json. -/

namespace Go.Proofs.YtnnhkajjifmlfaaDoor
open Go.RowKit

end Go.Proofs.YtnnhkajjifmlfaaDoor

/-! json.short: the map of the bytes that have an escape of their own. -/

namespace Go.Proofs.YtnnhkajjifmlfaaDoor
open Go.RowKit Go.Maps

/-- a map literal's entry -/
theorem wpList_insert_own {H : Type} {P : Program} (w : World) {ops : Array Oper} {rest : List Oper} {o : Oper} {a : Act} {Q : Exit → Act → World → Prop}
    (hg : o.guard = none) (m x v : Operand) (t : TypeId) (hop : o.op = Op.insert t m x v)
    (k e : TypeId) (K : Keyed P k) (ht : P.underlying t = some (.map k e)) (R : Value → Option (DataW H × List MemPlace)) (b n : Nat) (D : DataW H)
    (hm : a.eval m = .map (some b)) (hown : w.ownsMap P k R b n D) (hn : n < maxLen) (key val : Value) (kl : Lit) (hx : a.eval x = key) (hv : a.eval v = val) (hkey : keyOf P k key = some kl)
    (d : DataW H) (ps : List MemPlace) (hval : R val = some (d, ps))
    (hK : ∀ w', w'.ownsMap P k R b (n + 1) (D.put kl d) → w.grownBy w' (some b) → wpList P ops Q rest (a.put o.dst undef) w') :
    wpList P ops Q (o :: rest) a w := by
  refine wpList_plain hg fun K' hK' => ?_
  obtain ⟨w', hrun, r1, r2⟩ := hown.update K ht hn hkey hval
  unfold Oper.wp
  simp [execOp, hop, hm, hx, hv, hrun, Result.andThen]
  exact hK' _ _ (hK w' r1 r2)

theorem lawU8 : Keyed Tryd.prog 5 := int_keyed Tryd.underlying5
def pu (D : DataW Unit) (k v : Int) : DataW Unit := D.put (.int .u8 k) (.lit (.int .u8 v))
def shortD : DataW Unit := pu (pu (pu (pu (pu (pu (pu (.map []) 34 34) 92 92) 8 98) 9 116) 10 110) 12 102) 13 114

theorem short_step {w : World} {ops : Array Oper} {rest : List Oper} {o : Oper} {a : Act} {Q : Exit → Act → World → Prop} (k v : Int)
    (hg : o.guard = none) (hop : o.op = Op.insert 133 (.tmp 1) (.const (.int .u8 k)) (.const (.int .u8 v))) (hk : (Lit.int .u8 k).wf = true) (hv : (Lit.int .u8 v).wf = true)
    (b n : Nat) (D : DataW Unit) (hm : a.eval (.tmp 1) = .map (some b)) (hn : n < maxLen) (hown : w.ownsMap Tryd.prog 5 (plainElem Tryd.prog 5) b n D)
    (hK : ∀ w', w'.ownsMap Tryd.prog 5 (plainElem Tryd.prog 5) b (n + 1) (pu D k v) → w.grownBy w' (some b) → wpList Tryd.prog ops Q rest (a.put o.dst undef) w') :
    wpList Tryd.prog ops Q (o :: rest) a w :=
  wpList_insert_own w hg _ _ _ 133 hop 5 5 lawU8 Tryd.underlying133 _ b n D hm hown hn _ _ _ rfl rfl (keyOf_int_mk Tryd.underlying5 hk) _ [] (plainElem_int Tryd.underlying5 hv) hK

set_option maxHeartbeats 800000 in
theorem short_any (w : World) :
    Calls Tryd.prog 97 #[] w fun e w' => e = .returned (.map (some w.heap.size)) ∧ w'.ownsMap Tryd.prog 5 (plainElem (H := Unit) Tryd.prog 5) w.heap.size 7 shortD ∧ w.grownBy w' none := by
  have hmm := @run_makeMap Tryd.prog
  have h0 := World.ownsMap_made w Tryd.prog 5 (plainElem (H := Unit) Tryd.prog 5)
  go_enter Tryd.func97, Tryd.ntmps97
  go_wp2_with (first
    | (refine short_step 34 34 rfl rfl (by decide) (by decide) w.heap.size 0 _ rfl (by decide) h0 ?_; intro w1 h1 g1)
    | (refine short_step 92 92 rfl rfl (by decide) (by decide) w.heap.size 1 _ rfl (by decide) h1 ?_; intro w2 h2 g2)
    | (refine short_step 8 98 rfl rfl (by decide) (by decide) w.heap.size 2 _ rfl (by decide) h2 ?_; intro w3 h3 g3)
    | (refine short_step 9 116 rfl rfl (by decide) (by decide) w.heap.size 3 _ rfl (by decide) h3 ?_; intro w4 h4 g4)
    | (refine short_step 10 110 rfl rfl (by decide) (by decide) w.heap.size 4 _ rfl (by decide) h4 ?_; intro w5 h5 g5)
    | (refine short_step 12 102 rfl rfl (by decide) (by decide) w.heap.size 5 _ rfl (by decide) h5 ?_; intro w6 h6 g6)
    | (refine short_step 13 114 rfl rfl (by decide) (by decide) w.heap.size 6 _ rfl (by decide) h6 ?_; intro w7 h7 g7))
  go_ret
  refine ⟨rfl, h7, ?_⟩
  have e : ∀ {a b : World}, a.grownBy b (some w.heap.size) → w.heap.size ≤ a.heap.size → w.grownBy a none → w.grownBy b none := fun h _ k =>
    gb_more k h (fun g hg => by cases hg; exact .inr (Nat.le_refl _))
  have k0 : w.grownBy (w.alloc (.map #[] 0)) none := gb_alloc (gb_refl w _) _
  have k1 := e g1 k0.size k0
  have k2 := e g2 k1.size k1
  have k3 := e g3 k2.size k2
  have k4 := e g4 k3.size k3
  have k5 := e g5 k4.size k4
  have k6 := e g6 k5.size k5
  exact e g7 k6.size k6
end Go.Proofs.YtnnhkajjifmlfaaDoor

/-! json.hex and (*reader).escape. -/

namespace Go.Proofs.YtnnhkajjifmlfaaDoor
open Go.RowKit Go.Maps

end Go.Proofs.YtnnhkajjifmlfaaDoor

/-! (*reader).escape. -/

namespace Go.Proofs.YtnnhkajjifmlfaaDoor
open Go.RowKit Go.Maps

/-- the byte that c stands for behind a backslash; -1: none -/
def unesc (c : Int) : Int := if c = 34 then 34 else if c = 92 then 92 else if c = 98 then 8 else if c = 116 then 9 else if c = 110 then 10 else if c = 102 then 12 else if c = 114 then 13 else -1
/-- what the map of escapes holds -/
theorem shortD_at (x c : Int) (h : ∀ zd, shortD.atKey (.int .u8 x) zd = .lit (.int .u8 c)) :
    (x = 8 ∧ c = 98) ∨ (x = 9 ∧ c = 116) ∨ (x = 10 ∧ c = 110) ∨ (x = 12 ∧ c = 102) ∨ (x = 13 ∧ c = 114) ∨ (x = 34 ∧ c = 34) ∨ (x = 92 ∧ c = 92) := by
  have e : shortD = .map [(.int .u8 8, .lit (.int .u8 98)), (.int .u8 9, .lit (.int .u8 116)), (.int .u8 10, .lit (.int .u8 110)), (.int .u8 12, .lit (.int .u8 102)), (.int .u8 13, .lit (.int .u8 114)), (.int .u8 34, .lit (.int .u8 34)), (.int .u8 92, .lit (.int .u8 92))] := by kernel_rfl
  have h0 := h .nil
  rw [e] at h0
  simp only [DataW.atKey, List.find?] at h0
  by_cases h1 : x = 8
  · subst h1; simp [Lit.sameKey] at h0; omega
  by_cases h2 : x = 9
  · subst h2; simp [Lit.sameKey] at h0; omega
  by_cases h3 : x = 10
  · subst h3; simp [Lit.sameKey] at h0; omega
  by_cases h4 : x = 12
  · subst h4; simp [Lit.sameKey] at h0; omega
  by_cases h5 : x = 13
  · subst h5; simp [Lit.sameKey] at h0; omega
  by_cases h6 : x = 34
  · subst h6; simp [Lit.sameKey] at h0; omega
  by_cases h7 : x = 92
  · subst h7; simp [Lit.sameKey] at h0; omega
  · simp [Lit.sameKey, Ne.symm h1, Ne.symm h2, Ne.symm h3, Ne.symm h4, Ne.symm h5, Ne.symm h6, Ne.symm h7] at h0
theorem unesc_hit {x c : Int} (h : ∀ zd, shortD.atKey (.int .u8 x) zd = .lit (.int .u8 c)) : unesc c = x ∧ 0 ≤ x ∧ x < 256 := by
  rcases shortD_at x c h with ⟨rfl, rfl⟩ | ⟨rfl, rfl⟩ | ⟨rfl, rfl⟩ | ⟨rfl, rfl⟩ | ⟨rfl, rfl⟩ | ⟨rfl, rfl⟩ | ⟨rfl, rfl⟩ <;> decide
end Go.Proofs.YtnnhkajjifmlfaaDoor

/-! (*reader).escape, whole. -/

namespace Go.Proofs.YtnnhkajjifmlfaaDoor
open Go.RowKit Go.Maps

theorem unesc_at (c : Int) (h : 0 ≤ unesc c) : (∀ zd, shortD.atKey (.int .u8 (unesc c)) zd = .lit (.int .u8 c)) ∧ Maps.has shortD (.int .u8 (unesc c)) = true := by
  unfold unesc at h ⊢
  by_cases h1 : c = 34
  · subst h1; exact ⟨fun zd => by kernel_rfl, by kernel_rfl⟩
  by_cases h2 : c = 92
  · subst h2; exact ⟨fun zd => by kernel_rfl, by kernel_rfl⟩
  by_cases h3 : c = 98
  · subst h3; exact ⟨fun zd => by kernel_rfl, by kernel_rfl⟩
  by_cases h4 : c = 116
  · subst h4; exact ⟨fun zd => by kernel_rfl, by kernel_rfl⟩
  by_cases h5 : c = 110
  · subst h5; exact ⟨fun zd => by kernel_rfl, by kernel_rfl⟩
  by_cases h6 : c = 102
  · subst h6; exact ⟨fun zd => by kernel_rfl, by kernel_rfl⟩
  by_cases h7 : c = 114
  · subst h7; exact ⟨fun zd => by kernel_rfl, by kernel_rfl⟩
  · simp only [h1, h2, h3, h4, h5, h6, h7, if_false] at h; omega

end Go.Proofs.YtnnhkajjifmlfaaDoor

/-! (*reader).escape and (*reader).text. -/

namespace Go.Proofs.YtnnhkajjifmlfaaDoor
open Go.RowKit Go.Maps

theorem info5 : (Tryd.prog.info? 5).map (fun i => (i.zero, i.size, i.bytes)) = some (some (.int .u8 0), 1, 1) := by kernel_rfl
end Go.Proofs.YtnnhkajjifmlfaaDoor

/-! (*reader).text: it computes textS. -/

namespace Go.Proofs.YtnnhkajjifmlfaaDoor
open Go.RowKit Go.Maps

theorem own_keptR {w w' : World} {base e size n R : Nat} {v : Value} {xs : List Value} (h : w.ownsRow base e size v n xs) (hg : w.grownBy w' (some R)) (hR : R < base) : w'.ownsRow base e size v n xs :=
  h.kept hg (by
    rcases hv : v.ownBlock with _ | k
    · exact .inl rfl
    · have := (h.lt k hv).1
      exact .inr (by simp; omega))
theorem gb_own {a w w' : World} {base e size n : Nat} {v : Value} {xs : List Value} {row : Option Nat} (h : a.grownBy w row) (k : w.grownBy w' v.ownBlock) (ho : w.ownsRow base e size v n xs) (hb : a.heap.size ≤ base) : a.grownBy w' row :=
  gb_more h k (fun g hg => .inr (Nat.le_trans hb (ho.lt g hg).1))

end Go.Proofs.YtnnhkajjifmlfaaDoor

/-! (*reader).number: the plain functions, ParseInt's three ways in one. -/

namespace Go.Proofs.YtnnhkajjifmlfaaDoor
open Go.RowKit Go.Maps

/-- the package-level variables of the library that are read -/
structure Gv (w : World) : Prop where
  syn : ∃ tp p, w.var? Tryd.prog "strconv.ErrSyntax" = some #[.iface tp p]
  rng : ∃ tp p, w.var? Tryd.prog "strconv.ErrRange" = some #[.iface tp p]
theorem glob_syn : Tryd.prog.globalNamed "strconv.ErrSyntax" = some 2 := by kernel_rfl
theorem glob_rng : Tryd.prog.globalNamed "strconv.ErrRange" = some 3 := by kernel_rfl
theorem var_kept {w w' : World} {n : String} {g : Nat} {cs : Array Value} (hg : Tryd.prog.globalNamed n = some g) (h : w.var? Tryd.prog n = some cs) (hb : w'.heap[g]? = w.heap[g]?) : w'.var? Tryd.prog n = some cs := by
  unfold World.var? at h ⊢
  simp only [hg, Option.bind_some] at h ⊢
  rw [hb]; exact h
theorem var_lt {w : World} {n : String} {g : Nat} {cs : Array Value} (hg : Tryd.prog.globalNamed n = some g) (h : w.var? Tryd.prog n = some cs) : g < w.heap.size := by
  unfold World.var? at h
  simp only [hg, Option.bind_some] at h
  rcases Nat.lt_or_ge g w.heap.size with h1 | h1
  · exact h1
  · rw [Array.getElem?_eq_none h1] at h; cases h
theorem Gv.kept {w w' : World} {row : Option Nat} (h : Gv w) (hg : w.grownBy w' row) (hr : ∀ g, row = some g → 6 ≤ g) : Gv w' := by
  obtain ⟨⟨t1, p1, h1⟩, ⟨t2, p2, h2⟩⟩ := h
  refine ⟨⟨t1, p1, var_kept glob_syn h1 (hg.block 2 (var_lt glob_syn h1) ?_)⟩, ⟨t2, p2, var_kept glob_rng h2 (hg.block 3 (var_lt glob_rng h2) ?_)⟩⟩
  · intro e; have := hr 2 e.symm; omega
  · intro e; have := hr 3 e.symm; omega

theorem Gv.drewN {w : World} (h : Gv w) (n : Nat) : Gv (w.drewN n) := h.kept (gb_drewN (gb_refl w none) n) (by simp)
theorem Gv.drew {w : World} (h : Gv w) : Gv w.drew := h.kept (gb_drew (gb_refl w none)) (by simp)
theorem Gv.alloc {w : World} (h : Gv w) (o : Obj) : Gv (w.alloc o) := h.kept (gb_alloc (gb_refl w none) o) (by simp)
def PIok (l : List UInt8) : Bool := match Lib.parseIntB 64 l with | .ok _ => true | _ => false
def PIn (l : List UInt8) : Int := match Lib.parseIntB 64 l with | .ok v => v | .range => Lib.intSat 64 l | _ => 0
/-- a block that holds an api.Json -/
def JB (w : World) (B : Nat) (a b c d e : Value) : Prop := w.heap[B]? = some (.cells #[a, b, c, d, e] 26 (0, 0))
section
variable {w w' : World} {B : Nat} {a b c d e : Value}
theorem JB.lt (h : JB w B a b c d e) : B < w.heap.size := (Array.getElem?_eq_some_iff.1 h).1
theorem JB.c0 (h : JB w B a b c d e) : w.cell? ⟨B, 0, none⟩ = some a := by rw [cell_of_row w B 0 _ _ _ h]; rfl
theorem JB.c1 (h : JB w B a b c d e) : w.cell? ⟨B, 1, none⟩ = some b := by rw [cell_of_row w B 1 _ _ _ h]; rfl
theorem JB.c2 (h : JB w B a b c d e) : w.cell? ⟨B, 2, none⟩ = some c := by rw [cell_of_row w B 2 _ _ _ h]; rfl
theorem JB.c3 (h : JB w B a b c d e) : w.cell? ⟨B, 3, none⟩ = some d := by rw [cell_of_row w B 3 _ _ _ h]; rfl
theorem JB.c4 (h : JB w B a b c d e) : w.cell? ⟨B, 4, none⟩ = some e := by rw [cell_of_row w B 4 _ _ _ h]; rfl
theorem JB.f (h : JB w B a b c d e) (i : Nat) : w.frozen? ⟨B, i, none⟩ = false := by unfold JB at h; simp [World.frozen?, h]
theorem JB.all (h : JB w B a b c d e) : w.cell? ⟨B, 0, none⟩ = some a ∧ w.cell? ⟨B, 1, none⟩ = some b ∧ w.cell? ⟨B, 2, none⟩ = some c ∧ w.cell? ⟨B, 3, none⟩ = some d ∧ w.cell? ⟨B, 4, none⟩ = some e ∧ ∀ i, w.frozen? ⟨B, i, none⟩ = false := ⟨h.c0, h.c1, h.c2, h.c3, h.c4, h.f⟩
def put5 (w : World) (B : Nat) (a b c d e : Value) : World := ((((w.setCell ⟨B, 0, none⟩ a).setCell ⟨B, 1, none⟩ b).setCell ⟨B, 2, none⟩ c).setCell ⟨B, 3, none⟩ d).setCell ⟨B, 4, none⟩ e
theorem JB.put5 (h : JB w B a b c d e) (a' b' c' d' e' : Value) : JB (put5 w B a' b' c' d' e') B a' b' c' d' e' := by
  unfold JB at h ⊢; simp [YtnnhkajjifmlfaaDoor.put5, World.setCell, Array.getElem?_modify, h]
theorem gb_put5 {a0 : World} {row : Option Nat} (h : a0.grownBy w row) (hB : a0.heap.size ≤ B) (a b c d e : Value) : a0.grownBy (YtnnhkajjifmlfaaDoor.put5 w B a b c d e) row := by
  have s : ∀ {v : World} (_ : a0.grownBy v row) (i : Nat) (u : Value), a0.grownBy (v.setCell ⟨B, i, none⟩ u) row := fun k i u =>
    ⟨k.os, k.tape, k.output, by simpa [World.setCell] using k.size, fun j hj hne => (Below.heap_setCell _ ⟨B, i, none⟩ u j (by simp; omega)).trans (k.block j hj hne)⟩
  exact s (s (s (s (s h _ _) _ _) _ _) _ _) _ _
theorem RD.put5 {R : Nat} {s : ByteArray} {σ : PS} (h : RD w R s σ) (hne : R ≠ B) (a b c d e : Value) : RD (YtnnhkajjifmlfaaDoor.put5 w B a b c d e) R s σ :=
  ((((h.far (q := ⟨B, 0, none⟩) hne a).far (q := ⟨B, 1, none⟩) hne b).far (q := ⟨B, 2, none⟩) hne c).far (q := ⟨B, 3, none⟩) hne d).far (q := ⟨B, 4, none⟩) hne e
theorem JB.new (w : World) (a b c d e : Value) : JB (w.alloc (.cells #[a, b, c, d, e] 26)) w.heap.size a b c d e := heap_alloc_new w _
theorem JB.alloc (h : JB w B a b c d e) (o : Obj) : JB (w.alloc o) B a b c d e := (Below.heap_alloc w o B h.lt).trans h
theorem JB.drewN (h : JB w B a b c d e) (n : Nat) : JB (w.drewN n) B a b c d e := h
theorem JB.drew (h : JB w B a b c d e) : JB w.drew B a b c d e := h
theorem JB.kept (h : JB w B a b c d e) {row : Option Nat} (hg : w.grownBy w' row) (hne : some B ≠ row) : JB w' B a b c d e := (hg.block B h.lt hne).trans h
theorem JB.far (h : JB w B a b c d e) {q : Addr} (hq : B ≠ q.block) (u : Value) : JB (w.setCell q u) B a b c d e := (Below.heap_setCell w q u B hq).trans h
end
def isDig (c : Nat) : Bool := decide (48 ≤ c) && decide (c ≤ 57)
theorem sub_size {s : ByteArray} {d q : Nat} (hq : q ≤ s.size) : (s.extract d q).size = q - d := by simp [ByteArray.size_extract]; omega
end Go.Proofs.YtnnhkajjifmlfaaDoor

/-! Values of package api's Json as data, and how they lie in memory. -/

namespace Go.Proofs.YtnnhkajjifmlfaaDoor
open Go.RowKit

inductive J where
  | mk (kind num : Int) (text : ByteArray) (names : List ByteArray) (list : List J)

def StrsAt (w : World) (S : Nat → Prop) (v : Value) (l : List ByteArray) : Prop :=
  ∃ A c, v = .slice A l.length c ∧ l.length ≤ c ∧ (0 < l.length → ∃ b o, A = some ⟨b, o, none⟩ ∧ S b ∧ ∀ i (h : i < l.length), w.cell? ⟨b, o + i, none⟩ = some (.string l[i]))

inductive JAt (w : World) (S : Nat → Prop) : J → Value → Prop
  | mk {k n : Int} {t : ByteArray} {names : List ByteArray} {list : List J} {nv : Value} {A : Option Addr} {c b o : Nat} (V : Nat → Value)
    (hn : StrsAt w S nv names) (hc : list.length ≤ c) (ha : 0 < list.length → A = some ⟨b, o, none⟩ ∧ S b)
    (hcell : ∀ i, i < list.length → ∃ a0 a1 a2 a3 a4, V i = .agg #[a0, a1, a2, a3, a4] ∧ w.cell? ⟨b, o + i * 5, none⟩ = some a0 ∧ w.cell? ⟨b, o + i * 5 + 1, none⟩ = some a1 ∧ w.cell? ⟨b, o + i * 5 + 2, none⟩ = some a2 ∧ w.cell? ⟨b, o + i * 5 + 3, none⟩ = some a3 ∧ w.cell? ⟨b, o + i * 5 + 4, none⟩ = some a4)
    (hrec : ∀ i (h : i < list.length), JAt w S list[i] (V i)) :
    JAt w S (.mk k n t names list) (.agg #[.int .i64 k, .int .i64 n, .string t, nv, .slice A list.length c])

section
variable {w w' : World} {S S' : Nat → Prop}
theorem StrsAt.keep {v : Value} {l : List ByteArray} (h : StrsAt w S v l) (hk : ∀ b, S b → w'.heap[b]? = w.heap[b]?) (hs : ∀ b, S b → S' b) : StrsAt w' S' v l := by
  obtain ⟨A, c, rfl, hc, h⟩ := h
  refine ⟨A, c, rfl, hc, fun h0 => ?_⟩
  obtain ⟨b, o, rfl, hb, hcell⟩ := h h0
  exact ⟨b, o, rfl, hs b hb, fun i hi => (World.cell?_of_block (w := w) (a := ⟨b, o + i, none⟩) (hk b hb)).trans (hcell i hi)⟩
theorem JAt.keep {j : J} {v : Value} (h : JAt w S j v) (hk : ∀ b, S b → w'.heap[b]? = w.heap[b]?) (hs : ∀ b, S b → S' b) : JAt w' S' j v := by
  induction h with
  | @mk k n t names list nv A c b o V hn hc ha hcell hrec ih =>
    refine .mk (b := b) (o := o) V (hn.keep hk hs) hc (fun h0 => ⟨(ha h0).1, hs _ (ha h0).2⟩) (fun i hi => ?_) ih
    obtain ⟨a0, a1, a2, a3, a4, e, h0, h1, h2, h3, h4⟩ := hcell i hi
    have hb := hk b (ha (by omega)).2
    have t : ∀ q, w'.cell? ⟨b, q, none⟩ = w.cell? ⟨b, q, none⟩ := fun q => World.cell?_of_block (w := w) (a := ⟨b, q, none⟩) hb
    exact ⟨a0, a1, a2, a3, a4, e, by rw [t]; exact h0, by rw [t]; exact h1, by rw [t]; exact h2, by rw [t]; exact h3, by rw [t]; exact h4⟩
/-- a value without parts -/
theorem JAt.bare (k n : Int) (t : ByteArray) : JAt w S (.mk k n t [] []) (.agg #[.int .i64 k, .int .i64 n, .string t, .slice none 0 0, .slice none 0 0]) :=
  .mk (b := 0) (o := 0) (fun _ => undef) ⟨none, 0, rfl, Nat.le_refl _, fun h => absurd h (by simp)⟩ (Nat.le_refl _) (fun h => absurd h (by simp)) (fun i hi => absurd hi (by simp)) (fun i hi => absurd hi (by simp))
end

/-- a list's cells, and what they read as -/
def Flat (w : World) (S : Nat → Prop) : List J → List Value → Prop
  | [], xs => xs = []
  | j :: r, xs => ∃ a b c d e ys, xs = a :: b :: c :: d :: e :: ys ∧ JAt w S j (.agg #[a, b, c, d, e]) ∧ Flat w S r ys
section
variable {w w' : World} {S S' : Nat → Prop}
theorem Flat.keep (hk : ∀ b, S b → w'.heap[b]? = w.heap[b]?) (hs : ∀ b, S b → S' b) : ∀ {l : List J} {xs : List Value}, Flat w S l xs → Flat w' S' l xs
  | [], _, h => h
  | _ :: _, _, ⟨a, b, c, d, e, ys, hx, hj, hr⟩ => ⟨a, b, c, d, e, ys, hx, hj.keep hk hs, Flat.keep hk hs hr⟩
theorem Flat.length : ∀ {l : List J} {xs : List Value}, Flat w S l xs → xs.length = l.length * 5
  | [], _, h => by subst h; rfl
  | _ :: _, _, ⟨a', b', c', d', e', ys, hx, _, hr⟩ => by subst hx; simp [Flat.length hr]; omega
theorem Flat.get : ∀ {l : List J} {xs : List Value}, Flat w S l xs → ∀ i (h : i < l.length), ∃ a b c d e, xs[i * 5]? = some a ∧ xs[i * 5 + 1]? = some b ∧ xs[i * 5 + 2]? = some c ∧ xs[i * 5 + 3]? = some d ∧ xs[i * 5 + 4]? = some e ∧ JAt w S l[i] (.agg #[a, b, c, d, e])
  | _ :: _, _, ⟨a, b, c, d, e, ys, hx, hj, hr⟩, 0, _ => by subst hx; exact ⟨a, b, c, d, e, rfl, rfl, rfl, rfl, rfl, hj⟩
  | _ :: r, _, ⟨a', b', c', d', e', ys, hx, _, hr⟩, i + 1, h => by
    subst hx
    obtain ⟨a, b, c, d, e, h0, h1, h2, h3, h4, hj⟩ := Flat.get hr i (by simpa using h)
    have s : ∀ q, (a' :: b' :: c' :: d' :: e' :: ys)[(i + 1) * 5 + q]? = ys[i * 5 + q]? := fun q => by
      rw [show (i + 1) * 5 + q = (i * 5 + q) + 5 from by omega]; simp
    exact ⟨a, b, c, d, e, (s 0).trans h0, (s 1).trans h1, (s 2).trans h2, (s 3).trans h3, (s 4).trans h4, hj⟩
/-- what a function has gathered is a value -/
theorem JAt.of_own {k n : Int} {t : ByteArray} {names : List ByteArray} {list : List J} {nv lv : Value} {base base' : Nat} {xs : List Value} {e e' : TypeId}
    (hN : w.ownsRow base e 1 nv names.length (names.map Value.string)) (hL : w.ownsRow base' e' 5 lv list.length xs) (hF : Flat w S list xs)
    (hs : ∀ b, S b → S' b) (h1 : ∀ g, nv.ownBlock = some g → S' g) (h2 : ∀ g, lv.ownBlock = some g → S' g) :
    JAt w S' (.mk k n t names list) (.agg #[.int .i64 k, .int .i64 n, .string t, nv, lv]) := by
  have hNS : StrsAt w S' nv names := by
    rcases hN.2 with ⟨rfl, h0⟩ | ⟨g, cap, cur, rfl, _, _, hc, _⟩
    · have : names = [] := List.eq_nil_of_length_eq_zero h0
      subst this
      exact ⟨none, 0, rfl, Nat.le_refl _, fun h => absurd h (by simp)⟩
    · refine ⟨_, cap, rfl, hc, fun _ => ⟨g, 0, rfl, h1 g rfl, fun i hi => ?_⟩⟩
      have := hN.cells (g := g) rfl i (.string names[i]) (by simp [hi])
      rw [← this]; unfold Addr.add; split <;> simp_all
  have hlen := hF.length
  have hV : ∀ i, i < list.length → ∃ v : Value, ∃ a b c d e, v = .agg #[a, b, c, d, e] ∧ xs[i * 5]? = some a ∧ xs[i * 5 + 1]? = some b ∧ xs[i * 5 + 2]? = some c ∧ xs[i * 5 + 3]? = some d ∧ xs[i * 5 + 4]? = some e ∧ (∀ h : i < list.length, JAt w S list[i] v) := fun i hi => by
    obtain ⟨a, b, c, d, e, r0, r1, r2, r3, r4, hj⟩ := hF.get i hi
    exact ⟨_, a, b, c, d, e, rfl, r0, r1, r2, r3, r4, fun _ => hj⟩
  have hW : ∃ V : Nat → Value, ∀ i, i < list.length → ∃ a b c d e, V i = .agg #[a, b, c, d, e] ∧ xs[i * 5]? = some a ∧ xs[i * 5 + 1]? = some b ∧ xs[i * 5 + 2]? = some c ∧ xs[i * 5 + 3]? = some d ∧ xs[i * 5 + 4]? = some e ∧ (∀ h : i < list.length, JAt w S list[i] (V i)) :=
    ⟨fun i => if h : i < list.length then (hV i h).choose else undef, fun i hi => by dsimp only; rw [dif_pos hi]; exact (hV i hi).choose_spec⟩
  obtain ⟨V, hV⟩ := hW
  rcases hL.2 with ⟨rfl, h0⟩ | ⟨g, cap, cur, rfl, _, _, hc, _⟩
  · have : list = [] := List.eq_nil_of_length_eq_zero h0
    subst this
    exact .mk (b := 0) (o := 0) V hNS (Nat.le_refl _) (fun h => absurd h (by simp)) (fun i hi => absurd hi (by simp)) (fun i hi => absurd hi (by simp))
  · have ad : ∀ q, (⟨g, 0, none⟩ : Addr).add q = ⟨g, 0 + q, none⟩ := fun q => by unfold Addr.add; split <;> simp_all
    refine .mk (b := g) (o := 0) V hNS hc (fun _ => ⟨rfl, h2 g rfl⟩) (fun i hi => ?_) (fun i hi => ?_)
    · obtain ⟨a, b, c, d, e, hv, r0, r1, r2, r3, r4, _⟩ := hV i hi
      have t : ∀ q u, xs[q]? = some u → w.cell? ⟨g, 0 + q, none⟩ = some u := fun q u hq => by rw [← ad]; exact hL.cells (g := g) rfl q u hq
      exact ⟨a, b, c, d, e, hv, t _ _ r0, t _ _ r1, t _ _ r2, t _ _ r3, t _ _ r4⟩
    · obtain ⟨a, b, c, d, e, hv, _, _, _, _, _, hj⟩ := hV i hi
      exact (hj hi).keep (fun _ _ => rfl) hs
end
end Go.Proofs.YtnnhkajjifmlfaaDoor
