/- HTTP: what Target holds between two rounds. -/
import Derived.Test.YtdfgnoflohfnmaaGreatDoorHk
namespace Go.Proofs.YtdfgnoflohfnmaaGreatDoor.Hx
open Go.RowKit Go.Maps Go.Shelf

/-- where Target's boxes lie: the result's, ok's, the iterator's three; the loop's own blocks from base on -/
structure TG (w0 : World) (R K n base : Nat) : Prop where
  g1 : w0.heap.size ≤ R
  g2 : R < K
  g3 : K < n
  g4 : n + 2 < base
structure TI (w0 : World) (m : Int) (R K n base : Nat) (st : Bool × Pr) (W : World) : Prop where
  row : ∃ v, W.cell? ⟨R, 0, none⟩ = some v ∧ W.ownsRow base 60 2 v st.2.length (prCells st.2)
  fr : W.frozen? ⟨R, 0, none⟩ = false
  ok : W.cell? ⟨K, 0, none⟩ = some (.bool st.1)
  fk : W.frozen? ⟨K, 0, none⟩ = false
  b1 : W.cell? ⟨n + 1, 0, none⟩ = some (.string ⟨#[38]⟩)
  b2 : W.cell? ⟨n + 2, 0, none⟩ = some (.int .i64 0)
  fs : W.frozen? ⟨n, 0, none⟩ = false
  hn : n < W.heap.size
  mx : MX W m
  mz : 0 < w0.heap.size
  gb : w0.grownBy W none
section
variable {w0 W W' : World} {m : Int} {R K n base : Nat} {st : Bool × Pr}
theorem frozen_gb {b : Nat} {row : Option Nat} (hb : b < W.heap.size) (hg : W.grownBy W' row) (hr : some b ≠ row) : W'.frozen? ⟨b, 0, none⟩ = W.frozen? ⟨b, 0, none⟩ := World.frozen?_of_block (hg.block b hb hr)
/-- a turn of a block beyond the boxes, not the row's -/
theorem TI.turn (h : TI w0 m R K n base st W) (G : TG w0 R K n base) {row : Option Nat} (hg : W.grownBy W' row) (hl : ∀ l, row = some l → base ≤ l) (hv : ∀ v l, W.cell? ⟨R, 0, none⟩ = some v → row = some l → v.ownBlock ≠ some l) : TI w0 m R K n base st W' := by
  have g1 := G.g1
  have g2 := G.g2
  have g3 := G.g3
  have g4 := G.g4
  have hz := h.mz
  have ne : ∀ b, b < base → some b ≠ row := fun b hb e => by have := hl b e.symm; omega
  obtain ⟨v, hv1, hv2⟩ := h.row
  have hR := block_lt hv1
  have hK := block_lt h.ok
  refine ⟨⟨v, cell_grown hv1 hg (ne _ (by omega)), hv2.kept hg ?_⟩, (frozen_gb hR hg (ne _ (by omega))).trans h.fr, cell_grown h.ok hg (ne _ (by omega)), (frozen_gb hK hg (ne _ (by omega))).trans h.fk, cell_grown h.b1 hg (ne _ (by omega)), cell_grown h.b2 hg (ne _ (by omega)), (frozen_gb h.hn hg (ne _ (by omega))).trans h.fs, Nat.lt_of_lt_of_le h.hn hg.size, h.mx.grown hg (ne _ (by omega)), h.mz, ?_⟩
  · cases row with
    | none => cases e : v.ownBlock <;> simp
    | some l => exact .inr (hv v l hv1 rfl)
  · exact gb_more h.gb hg (fun g e => .inr (by have := hl g e; omega))
theorem TI.alloc (h : TI w0 m R K n base st W) (G : TG w0 R K n base) (o : Obj) : TI w0 m R K n base st (W.alloc o) := h.turn G (gb_alloc (gb_refl W none) o) (fun l e => by cases e) (fun v l _ e => by cases e)
theorem TI.still (h : TI w0 m R K n base st W) (G : TG w0 R K n base) (hg : W.grownBy W' none) : TI w0 m R K n base st W' := h.turn G hg (fun l e => by cases e) (fun v l _ e => by cases e)
theorem TI.put (h : TI w0 m R K n base st W) (G : TG w0 R K n base) {l : Nat} {o : Obj} (o' : Obj) (hl : base ≤ l) (ho : W.heap[l]? = some o) (hc : o.isCells = false) : TI w0 m R K n base st (W.putObj l o') := by
  refine h.turn G (grownBy_putObj' W l o') (fun x e => by cases e; exact hl) (fun v x hv e => ?_)
  cases e
  obtain ⟨v2, hv1, hv2⟩ := h.row
  rw [hv] at hv1
  cases hv1
  rcases hv2.2 with ⟨rfl, _⟩ | ⟨g, cap, cur, rfl, _, hg, _⟩
  · simp [Value.ownBlock]
  · intro e
    have e : g = l := by simpa [Value.ownBlock] using e
    subst e
    rw [hg] at ho
    cases ho
    simp [Obj.isCells] at hc
/-- the iterator's own box turns -/
theorem TI.box (h : TI w0 m R K n base st W) (G : TG w0 R K n base) (u : Value) : TI w0 m R K n base st (W.setCell ⟨n, 0, none⟩ u) := by
  have g1 := G.g1
  have g2 := G.g2
  have g3 := G.g3
  have g4 := G.g4
  have hz := h.mz
  have hg : W.grownBy (W.setCell ⟨n, 0, none⟩ u) (some n) := gb_setR (gb_refl _ _) _ _
  obtain ⟨v, hv1, hv2⟩ := h.row
  have ne : ∀ b, b ≠ n → some b ≠ some n := fun b hb e => hb (Option.some.inj e)
  refine ⟨⟨v, cell_grown hv1 hg (ne _ (by omega)), hv2.kept hg (.inr ?_)⟩, by rw [World.frozen?_setCell]; exact h.fr, cell_grown h.ok hg (ne _ (by omega)), by rw [World.frozen?_setCell]; exact h.fk, cell_grown h.b1 hg (ne _ (by omega)), cell_grown h.b2 hg (ne _ (by omega)), by rw [World.frozen?_setCell]; exact h.fs, Nat.lt_of_lt_of_le h.hn hg.size, h.mx.grown hg (ne _ (by omega)), h.mz, gb_setN h.gb (by omega) _ _⟩
  rcases hv2.2 with ⟨rfl, _⟩ | ⟨g, cap, cur, rfl, hgb, _⟩
  · simp [Value.ownBlock]
  · intro e
    have e : g = n := by simpa [Value.ownBlock] using e
    omega
end
theorem new_box (W : World) (v : Value) (t : TypeId) {k : Nat} (hk : W.heap.size = k) : (W.alloc (.cells #[v] t (0, 0))).cell? ⟨k, 0, none⟩ = some v := by
  subst hk; rw [cell_of_row _ _ 0 _ _ _ (heap_alloc_new W _)]; rfl
theorem new_thaw (W : World) (v : Value) (t : TypeId) {k : Nat} (hk : W.heap.size = k) : (W.alloc (.cells #[v] t (0, 0))).frozen? ⟨k, 0, none⟩ = false := by
  subst hk
  have hb := heap_alloc_new W (.cells #[v] t (0, 0))
  unfold World.frozen?
  rw [hb]
  rfl
abbrev tgW (w4 : World) (o2 : Bool) (Q1 : ByteArray) : World := sqW (w4.alloc (.cells #[.bool o2] 4 (0, 0))) Q1 ⟨#[38]⟩
theorem tg_start (w4 : World) (o2 : Bool) (Q1 : ByteArray) : w4.grownBy (tgW w4 o2 Q1) none ∧ (tgW w4 o2 Q1).heap.size = w4.heap.size + 4 ∧
    (tgW w4 o2 Q1).cell? ⟨w4.heap.size, 0, none⟩ = some (.bool o2) ∧ (tgW w4 o2 Q1).frozen? ⟨w4.heap.size, 0, none⟩ = false ∧
    (tgW w4 o2 Q1).cell? ⟨w4.heap.size + 1, 0, none⟩ = some (.string Q1) ∧ (tgW w4 o2 Q1).frozen? ⟨w4.heap.size + 1, 0, none⟩ = false ∧
    (tgW w4 o2 Q1).cell? ⟨w4.heap.size + 1 + 1, 0, none⟩ = some (.string ⟨#[38]⟩) ∧ (tgW w4 o2 Q1).cell? ⟨w4.heap.size + 1 + 2, 0, none⟩ = some (.int .i64 0) := by
  have a0 := gb_alloc (gb_refl w4 none) (.cells #[.bool o2] 4 (0, 0))
  have hz : (w4.alloc (.cells #[.bool o2] 4 (0, 0))).heap.size = w4.heap.size + 1 := by simp
  have a1 := fun W (v : Value) (t : TypeId) => gb_alloc (gb_refl W none) (.cells #[v] t (0, 0))
  have ns : ∀ b : Nat, some b ≠ (none : Option Nat) := fun b => by simp
  refine ⟨gb_alloc (gb_alloc (gb_alloc a0 _) _) _, by simp [tgW, sqW], ?_, ?_, ?_, ?_, ?_, ?_⟩
  · exact cell_grown (cell_grown (cell_grown (new_box w4 _ _ rfl) (a1 _ _ _) (ns _)) (a1 _ _ _) (ns _)) (a1 _ _ _) (ns _)
  · exact (frozen_gb (by simp <;> omega) (a1 _ _ _) (ns _)).trans ((frozen_gb (by simp <;> omega) (a1 _ _ _) (ns _)).trans ((frozen_gb (by simp <;> omega) (a1 _ _ _) (ns _)).trans (new_thaw w4 _ _ rfl)))
  · exact cell_grown (cell_grown (new_box _ _ _ hz) (a1 _ _ _) (ns _)) (a1 _ _ _) (ns _)
  · exact (frozen_gb (by simp <;> omega) (a1 _ _ _) (ns _)).trans ((frozen_gb (by simp <;> omega) (a1 _ _ _) (ns _)).trans (new_thaw _ _ _ hz))
  · exact cell_grown (new_box _ _ _ (by simp)) (a1 _ _ _) (ns _)
  · exact new_box _ _ _ (by simp)
/-- ok's box turns -/
theorem TI.okset {w0 W : World} {m : Int} {R K n base : Nat} {st : Bool × Pr} (h : TI w0 m R K n base st W) (G : TG w0 R K n base) (u : Bool) : TI w0 m R K n base (u, st.2) (W.setCell ⟨K, 0, none⟩ (.bool u)) := by
  have g1 := G.g1
  have g2 := G.g2
  have g3 := G.g3
  have g4 := G.g4
  have hz := h.mz
  have hg : W.grownBy (W.setCell ⟨K, 0, none⟩ (.bool u)) (some K) := gb_setR (gb_refl _ _) _ _
  obtain ⟨v, hv1, hv2⟩ := h.row
  have ne : ∀ b, b ≠ K → some b ≠ some K := fun b hb e => hb (Option.some.inj e)
  refine ⟨⟨v, cell_grown hv1 hg (ne _ (by omega)), hv2.kept hg (.inr ?_)⟩, by rw [World.frozen?_setCell]; exact h.fr, World.cell?_setCell_same' _ _ _ (by rw [h.ok]; rfl), by rw [World.frozen?_setCell]; exact h.fk, cell_grown h.b1 hg (ne _ (by omega)), cell_grown h.b2 hg (ne _ (by omega)), by rw [World.frozen?_setCell]; exact h.fs, Nat.lt_of_lt_of_le h.hn hg.size, h.mx.grown hg (ne _ (by omega)), h.mz, gb_setN h.gb (by omega) _ _⟩
  rcases hv2.2 with ⟨rfl, _⟩ | ⟨g, cap, cur, rfl, hgb, _⟩
  · simp [Value.ownBlock]
  · intro e
    have e : g = K := by simpa [Value.ownBlock] using e
    omega
/-- the result's box is given a row that is longer -/
theorem TI.resset {w0 W W1 : World} {m : Int} {R K n base : Nat} {st : Bool × Pr} (h : TI w0 m R K n base st W) (G : TG w0 R K n base) {q : Pr} {v v1 : Value} {row : Option Nat} (hv : W.cell? ⟨R, 0, none⟩ = some v) (hg : W.grownBy W1 row) (hrow : ∀ l, row = some l → base ≤ l) (hown : W1.ownsRow base 60 2 v1 q.length (prCells q)) : TI w0 m R K n base (st.1, q) (W1.setCell ⟨R, 0, none⟩ v1) := by
  have g1 := G.g1
  have g2 := G.g2
  have g3 := G.g3
  have g4 := G.g4
  have hz := h.mz
  have hg2 : W1.grownBy (W1.setCell ⟨R, 0, none⟩ v1) (some R) := gb_setR (gb_refl _ _) _ _
  have ne1 : ∀ b, b < base → some b ≠ row := fun b hb e => by have := hrow b e.symm; omega
  have ne : ∀ b, b ≠ R → some b ≠ some R := fun b hb e => hb (Option.some.inj e)
  have hR := block_lt hv
  have hK := block_lt h.ok
  have hv1 : W1.cell? ⟨R, 0, none⟩ = some v := cell_grown hv hg (ne1 _ (by omega))
  refine ⟨⟨v1, World.cell?_setCell_same' _ _ _ (by rw [hv1]; rfl), hown.kept hg2 (.inr ?_)⟩, by rw [World.frozen?_setCell]; exact (frozen_gb hR hg (ne1 _ (by omega))).trans h.fr, cell_grown (cell_grown h.ok hg (ne1 _ (by omega))) hg2 (ne _ (by omega)), by rw [World.frozen?_setCell]; exact (frozen_gb hK hg (ne1 _ (by omega))).trans h.fk, cell_grown (cell_grown h.b1 hg (ne1 _ (by omega))) hg2 (ne _ (by omega)), cell_grown (cell_grown h.b2 hg (ne1 _ (by omega))) hg2 (ne _ (by omega)), by rw [World.frozen?_setCell]; exact (frozen_gb h.hn hg (ne1 _ (by omega))).trans h.fs, Nat.lt_of_lt_of_le (Nat.lt_of_lt_of_le h.hn hg.size) hg2.size, (h.mx.grown hg (ne1 _ (by omega))).grown hg2 (ne _ (by omega)), h.mz, gb_setN (gb_more h.gb hg (fun g e => .inr (by have := hrow g e; omega))) (by omega) _ _⟩
  rcases hown.2 with ⟨rfl, _⟩ | ⟨g, cap, cur, rfl, hgb, _⟩
  · simp [Value.ownBlock]
  · intro e
    have e : g = R := by simpa [Value.ownBlock] using e
    omega
/-! how a round's body ends -/
theorem own_ne' {W : World} {base e size n : Nat} {v : Value} {xs : List Value} {k : Nat} (h : W.ownsRow base e size v n xs) (hk : k < base) : v.ownBlock = none ∨ v.ownBlock ≠ some k := by
  refine .inr (fun e => ?_)
  have := (h.lt k e).1
  omega
theorem own_some {W : World} {base e size n : Nat} {v : Value} {xs : List Value} {k : Nat} (h : W.ownsRow base e size v n xs) (hk : k < base) : some k ≠ v.ownBlock := by
  intro e
  have := (h.lt k e.symm).1
  omega
section
variable {w0 W W7 w9 : World} {m : Int} {R K n base : Nat} {st : Bool × Pr} {I : World → Prop}
/-- nothing is told -/
theorem end_skip (h : TI w0 m R K n base st W) (G : TG w0 R K n base) (g : W.grownBy W7 none) (u : Bool) (hI : ∀ W', TI w0 m R K n base (u, st.2) W' → I W') (a : Act) :
    rdPost n I W .normal a (W7.setCell ⟨K, 0, none⟩ (.bool u)) := by
  have g3 := G.g3
  refine ⟨(KeepsOthers.of_grownBy g (fun j o e => by cases e)).trans (KeepsOthers.setCell _ _ _), hI _ ((h.still G g).okset G u), ?_⟩
  exact World.cell?_of_block (a := ⟨n, 0, none⟩) ((Below.heap_setCell W7 ⟨K, 0, none⟩ _ n (by show n ≠ K; omega)).trans (g.block n h.hn (by simp)))
/-- a parameter is told -/
theorem end_put {v7 v9 : Value} {N V : ByteArray} (h : TI w0 m R K n base st W) (G : TG w0 R K n base) (g : W.grownBy W7 none) (u : Bool) (o : Obj) (hv : W7.cell? ⟨R, 0, none⟩ = some v7)
    (o7 : W7.ownsRow base 60 2 v7 st.2.length (prCells st.2)) (g9 : ((W7.setCell ⟨K, 0, none⟩ (.bool u)).alloc o).grownBy w9 v7.ownBlock)
    (o9 : w9.ownsRow base 60 2 v9 (st.2.length + 1) (prCells st.2 ++ [.string N, .string V])) (hI : ∀ W', TI w0 m R K n base (u, st.2 ++ [(N.data.toList, V.data.toList)]) W' → I W') (a : Act) :
    rdPost n I W .normal a (w9.setCell ⟨R, 0, none⟩ v9) := by
  have g1 := G.g1
  have g2 := G.g2
  have g3 := G.g3
  have g4 := G.g4
  have hn := h.hn
  have h7 := h.still G g
  have o8 := (o7.kept (gb_setR (gb_refl W7 (some K)) 0 (.bool u)) (own_ne' o7 (by omega))).alloc o
  have hn7 : n < W7.heap.size := h7.hn
  have hK : KeepsOthers ((W7.setCell ⟨K, 0, none⟩ (.bool u)).alloc o) w9 := by
    refine KeepsOthers.of_grownBy g9 (fun j o' e hj => ?_)
    rcases o8.2 with ⟨rfl, _⟩ | ⟨b, cap, cur, rfl, _, hb, _⟩
    · simp [Value.ownBlock] at e
    · have e : b = j := by simpa [Value.ownBlock] using e
      subst e
      rw [hb] at hj
      cases hj
      rfl
  have hz : (W7.setCell ⟨K, 0, none⟩ (.bool u)).heap.size = W7.heap.size := by simp [World.setCell]
  refine ⟨(((KeepsOthers.of_grownBy g (fun j o e => by cases e)).trans (KeepsOthers.setCell _ _ _)).trans (KeepsOthers.alloc _ _)).trans (hK.trans (KeepsOthers.setCell _ _ _)), ?_, ?_⟩
  · refine hI _ ?_
    have hv2 : ((W7.setCell ⟨K, 0, none⟩ (.bool u)).alloc o).cell? ⟨R, 0, none⟩ = some v7 := cell_grown (cell_grown hv (gb_setR (gb_refl W7 (some K)) 0 (.bool u)) (by simp; omega)) (gb_alloc (gb_refl _ none) _) (by simp)
    refine ((h7.okset G u).alloc G o).resset G hv2 g9 (fun l e => (o7.lt l e).1) ?_
    have e : prCells (st.2 ++ [(N.data.toList, V.data.toList)]) = prCells st.2 ++ [.string N, .string V] := by rw [prCells_app]; simp [prCells]
    rw [e, List.length_append]
    exact o9
  · refine World.cell?_of_block (a := ⟨n, 0, none⟩) ?_
    refine (Below.heap_setCell w9 ⟨R, 0, none⟩ _ n (by show n ≠ R; omega)).trans ?_
    refine (g9.block n (by simp [hz]; omega) (own_some o7 (by omega))).trans ?_
    refine (Below.heap_alloc _ o n (by rw [hz]; exact hn7)).trans ?_
    exact (Below.heap_setCell W7 ⟨K, 0, none⟩ _ n (by show n ≠ K; omega)).trans (g.block n hn (by simp))
end
theorem row_shape {W : World} {base e size n : Nat} {v : Value} {xs : List Value} (h : W.ownsRow base e size v n xs) : ∃ A c, v = .slice A n c := by
  rcases h.2 with ⟨rfl, h0⟩ | ⟨g, cap, cur, rfl, _⟩
  · exact ⟨none, 0, by rw [h0]⟩
  · exact ⟨_, _, rfl⟩
/-- what is told at the end -/
def tgJoin (u : Option Bs) (x : Option Pr) : Option (Bs × Pr) := match u, x with | some p, some l => some (p, l) | _, _ => none
theorem tgt_no {u : Option Bs} {l : List Bs} {q : Pr} (h : l.foldl stQ (u.isSome, []) = (false, q)) : tgJoin u (parsP l) = none := by
  have h1 := (fold_pars l u.isSome []).1
  rw [h] at h1
  cases u with
  | none => rfl
  | some p =>
    cases hp : parsP l with
    | none => rfl
    | some x => rw [hp] at h1; simp at h1
theorem tgt_yes {u : Option Bs} {l : List Bs} {q : Pr} (h : l.foldl stQ (u.isSome, []) = (true, q)) : tgJoin u (parsP l) = some (u.getD [], q) := by
  obtain ⟨h1, h2⟩ := fold_pars l u.isSome []
  rw [h] at h1 h2
  cases u with
  | none => simp at h1
  | some p =>
    cases hp : parsP l with
    | none => rw [hp] at h1; simp at h1
    | some x => have := h2 x hp; simp at this; rw [this]; rfl
theorem TK.good {s p : Bs} {q : Pr} {w w' : World} {v : Value} (h : tgtP s = some (p, q)) (ho : w'.ownsRow w.heap.size 60 2 v q.length (prCells q)) (hg : w.grownBy w' none) : TK s w (.returned (.tuple #[.string ⟨p.toArray⟩, v, .int .i64 0])) w' := by
  unfold TK; rw [h]; exact ⟨v, rfl, ho, hg⟩
theorem own_base {W : World} {base base' e size n : Nat} {v : Value} {xs : List Value} (h : W.ownsRow base e size v n xs) (hb : base' ≤ base) : W.ownsRow base' e size v n xs := by
  refine ⟨h.1, h.2.imp id ?_⟩
  rintro ⟨g, cap, cur, e, h1, h2⟩
  exact ⟨g, cap, cur, e, Nat.le_trans hb h1, h2⟩
/-- a round's step -/
theorem st_app {st : Bool × Pr} {n2 v2 u : Bool} {N V : ByteArray} (hu : (st.1 && n2 && v2) = u) (hne : N.toList ≠ [] ∨ V.toList ≠ []) :
    (st.1 && n2 && v2, if N.data.toList ≠ [] ∨ V.data.toList ≠ [] then st.2 ++ [(N.data.toList, V.data.toList)] else st.2) = (u, st.2 ++ [(N.data.toList, V.data.toList)]) := by
  rw [Lib.toList_data, Lib.toList_data] at hne
  rw [hu, if_pos hne]
theorem st_skip {st : Bool × Pr} {n2 v2 u : Bool} {N V : ByteArray} (hu : (st.1 && n2 && v2) = u) (h1 : N.toList = []) (h2 : V.toList = []) :
    (st.1 && n2 && v2, if N.data.toList ≠ [] ∨ V.data.toList ≠ [] then st.2 ++ [(N.data.toList, V.data.toList)] else st.2) = (u, st.2) := by
  rw [Lib.toList_data] at h1 h2
  rw [hu, if_neg (by rw [h1, h2]; simp)]
theorem not_empty {l : List UInt8} (h : (!l.isEmpty) = true) : l ≠ [] := by rintro rfl; simp at h
theorem is_empty {l : List UInt8} (h : ¬ (!l.isEmpty) = true) : l = [] := by cases l <;> simp_all
theorem is_empty' {l : List UInt8} (h : (!l.isEmpty) = false) : l = [] := by cases l <;> simp_all
end Go.Proofs.YtdfgnoflohfnmaaGreatDoor.Hx
