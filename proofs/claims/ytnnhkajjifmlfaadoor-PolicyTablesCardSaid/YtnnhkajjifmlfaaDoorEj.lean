/- PolicyTables: what is put together, laid: the nodes of both, one behind the other. -/
import Derived.Test.YtnnhkajjifmlfaaDoorEi
import Derived.Deep.AppendLies
namespace Go.Proofs.YtnnhkajjifmlfaaDoor.Pl
open Go.RowKit Go.Maps

theorem holds_zero {p : List PN} (h : checkN p = 0) (sh : Nat) (l : List Ad) : (holdsN p sh l).2 = 0 := by
  unfold holdsN; rw [if_neg (fun e => e h)]
/-- a list's cells, where it lies -/
theorem cells_nodes {w : World} {b o : Nat} {l : List PN} (h : ∀ i (h : i < l.length), NodeAt w b (o + i * 6) l[i]) : ∀ j u, (nodesC l)[j]? = some u → w.cell? ((⟨b, o, none⟩ : Addr).add j) = some u := by
  intro j u hj
  have ad : (⟨b, o, none⟩ : Addr).add j = ⟨b, o + j, none⟩ := by unfold Addr.add; split <;> simp_all
  have hlt : j < l.length * 6 := by rw [← nodesC_len]; exact (List.getElem?_eq_some_iff.mp hj).1
  rw [ad]
  clear ad
  obtain ⟨m, r, hr, rfl⟩ : ∃ m r, r < 6 ∧ j = m * 6 + r := ⟨j / 6, j % 6, Nat.mod_lt _ (by omega), by omega⟩
  have hm : m < l.length := by omega
  obtain ⟨h0, h1, h2, h3, h4, h5⟩ := nodesC_get l m hm
  obtain ⟨g0, g1, g2, g3, g4, g5⟩ := h m hm
  clear hlt
  match r, hr with
  | 0, _ => exact g0.trans (h0.symm.trans hj)
  | 1, _ => exact g1.trans (h1.symm.trans hj)
  | 2, _ => exact g2.trans (h2.symm.trans hj)
  | 3, _ => exact g3.trans (h3.symm.trans hj)
  | 4, _ => exact g4.trans (h4.symm.trans hj)
  | 5, _ => exact g5.trans (h5.symm.trans hj)
theorem one_nodes (l : List PN) : ∀ u ∈ nodesC l, u.oneCell' = true := by
  intro u hu
  unfold nodesC at hu
  obtain ⟨x, _, hx⟩ := List.mem_flatMap.mp hu
  simp only [nodeC, List.mem_cons, List.not_mem_nil, or_false] at hx
  rcases hx with rfl | rfl | rfl | rfl | rfl | rfl <;> rfl
theorem own_empty {w : World} {B g : Nat} (h : w.heap[g]? = some (.cells #[] 64)) (hB : B ≤ g) : w.ownsRow B 64 6 (.slice (some ⟨g, 0, none⟩) 0 0) 0 [] :=
  ⟨rfl, .inr ⟨g, 0, #[], rfl, hB, h, Nat.le_refl _, by unfold maxLen; omega, rfl, rfl⟩⟩
theorem NodeAt.grown {w w' : World} {b q : Nat} {x : PN} (h : NodeAt w b q x) (hg : w.grownBy w' none) (hb : b < w.heap.size) : NodeAt w' b q x := h.keep (hg.block b hb (by simp))
theorem both_step (p q : List PN) (n : Int) {i : Nat} (hi : i < q.length) : p ++ (q.take (i + 1)).map (shiftN n) = (p ++ (q.take i).map (shiftN n)) ++ [shiftN n q[i]] := by
  rw [List.take_succ_eq_append_getElem hi, List.map_append, List.append_assoc]; rfl
/-- an append to what is one's own is no matter of what was there -/
theorem gb_own {w w1 w2 : World} {v : Value} {B n : Nat} {xs : List Value} (hB : w.heap.size ≤ B) (hg : w.grownBy w1 none) (ho : w1.ownsRow B 64 6 v n xs) (hg2 : w1.grownBy w2 v.ownBlock) : w.grownBy w2 none := by
  refine ⟨hg2.os.trans hg.os, hg2.tape.trans hg.tape, hg2.output.trans hg.output, Nat.le_trans hg.size hg2.size, fun k hk _ => ?_⟩
  refine (hg2.block k (Nat.lt_of_lt_of_le hk hg.size) ?_).trans (hg.block k hk (by simp))
  intro e
  have := (ho.lt k e.symm).1
  omega
/-- what a call owns is held against a trace -/
theorem holds_own {B : Nat} {X : List PN} {n : Nat} (hn : X.length = n) {A : Option Addr} {c hi lo : Nat} {l : List Ad} {u : Value} {r : Bool} {W : World} (hown : W.ownsRow B 64 6 (.slice A n c) n (nodesC X)) (hX : n ≤ 1000000)
    (h1 : hi < 18446744073709551616) (h2 : lo < 18446744073709551616) (ll : l.length ≤ 140737488355328) (hb : ABd l) (hu : AAt W l u) (ht : holdsN X (shareN hi lo) l = (r, 0)) :
    Calls Tryd.prog 40 #[.agg #[.slice A n c], .agg #[.int .u64 hi, .int .u64 lo], u] W fun e w' => e = .returned (.tuple #[.bool r, .int .i64 0]) ∧ W.grownBy w' none := by
  subst hn
  have := holds_any X _ (.slice A X.length c) hi lo l u W hX (NodesAt.of_own hown) (fun b hb => (hown.lt b hb).2) plc_of_check h1 h2 ll hb hu
  rw [ht] at this
  exact this
/-- the last node's cells -/
abbrev opC (k a b : Int) : Array Value := #[.int .i64 k, .int .i64 0, .string ⟨#[]⟩, .string ⟨#[]⟩, .int .i64 a, .int .i64 b]
abbrev opO (k a b : Int) : Obj := .cells (opC k a b) 64
abbrev noO : Obj := .cells #[] 64
/-- the orders in which a list is laid anew with a node behind it -/
structure Lay (w : World) (O : Obj) : Prop where
  oA : (w.alloc noO).drew.ownsRow w.heap.size 64 6 (.slice (some ⟨w.heap.size, 0, none⟩) 0 0) 0 []
  oB : ((w.alloc noO).alloc O).drew.ownsRow w.heap.size 64 6 (.slice (some ⟨w.heap.size, 0, none⟩) 0 0) 0 []
  oC : ((w.alloc O).alloc noO).drew.ownsRow w.heap.size 64 6 (.slice (some ⟨w.heap.size + 1, 0, none⟩) 0 0) 0 []
  gA : w.grownBy (w.alloc noO).drew none
  gB : w.grownBy ((w.alloc noO).alloc O).drew none
  gC : w.grownBy ((w.alloc O).alloc noO).drew none
  hB : ((w.alloc noO).alloc O).drew.heap[w.heap.size + 1]? = some O
  hC : ((w.alloc O).alloc noO).drew.heap[w.heap.size]? = some O
theorem lay (w : World) (O : Obj) : Lay w O := by
  have e1 : (w.alloc noO).heap.size = w.heap.size + 1 := by simp
  have e2 : (w.alloc O).heap.size = w.heap.size + 1 := by simp
  refine ⟨own_drew (own_empty (heap_alloc_new _ _) (Nat.le_refl _)), own_drew (World.ownsRow.alloc (own_empty (heap_alloc_new _ _) (Nat.le_refl _)) _), ?_, gb_drew (gb_alloc (gb_refl _ _) _), gb_drew (gb_alloc (gb_alloc (gb_refl _ _) _) _), gb_drew (gb_alloc (gb_alloc (gb_refl _ _) _) _), ?_, ?_⟩
  · rw [← e2]; exact own_drew (own_empty (heap_alloc_new _ _) (by rw [e2]; omega))
  · rw [← e1]; exact heap_alloc_new _ _
  · exact (Below.heap_alloc _ _ w.heap.size (by simp)).trans (heap_alloc_new w O)
theorem Lay.nB {w w4 : World} {k a b : Int} (L : Lay w (opO k a b)) (hg : ((w.alloc noO).alloc (opO k a b)).drew.grownBy w4 (Value.slice (some ⟨w.heap.size, 0, none⟩) 0 0).ownBlock) : ∀ j u, (opC k a b).toList[j]? = some u → w4.cell? ((⟨w.heap.size + 1, 0, none⟩ : Addr).add j) = some u :=
  World.news_of_block (t := 64) (fr := (0, 0)) ((hg.block (w.heap.size + 1) (by show _ < ((w.alloc noO).alloc (opO k a b)).heap.size; simp) (by simp [Value.ownBlock])).trans L.hB)
theorem Lay.nC {w w4 : World} {k a b : Int} (L : Lay w (opO k a b)) (hg : ((w.alloc (opO k a b)).alloc noO).drew.grownBy w4 (Value.slice (some ⟨w.heap.size + 1, 0, none⟩) 0 0).ownBlock) : ∀ j u, (opC k a b).toList[j]? = some u → w4.cell? ((⟨w.heap.size, 0, none⟩ : Addr).add j) = some u :=
  World.news_of_block (t := 64) (fr := (0, 0)) ((hg.block w.heap.size (by show _ < ((w.alloc (opO k a b)).alloc noO).heap.size; simp; omega) (by simp [Value.ownBlock])).trans L.hC)
/-- the step is in this world -/
theorem at_world {P : Program} {o : Oper} {a : Act} {K : Act → World → Prop} {Q : Exit → Act → World → Prop} {E c : Prop} (dc : Decidable c) (W : World) (h : @ite _ c dc (Oper.wp P o a W K Q) E) : @ite _ c dc (Oper.wp P o a W K Q) E := h
theorem len_bin (k : Int) (p q : List PN) : (binL k p q).length = p.length + q.length + 1 := by
  unfold binL bothL
  rw [List.length_append, List.length_append, List.length_map]; rfl
theorem wrap_pred {a b : Nat} (ha : a ≤ 30) (hb : b ≤ 30) : IntKind.i64.wrap (IntKind.i64.wrap ((a : Int) + (b : Int)) - 1) = (a : Int) + (b : Int) - 1 := by
  have e : IntKind.i64.wrap ((a : Int) + (b : Int)) = (a : Int) + (b : Int) := by rw [IntKind.wrap_i64]; omega
  rw [e, IntKind.wrap_i64]; omega
end Go.Proofs.YtnnhkajjifmlfaaDoor.Pl
