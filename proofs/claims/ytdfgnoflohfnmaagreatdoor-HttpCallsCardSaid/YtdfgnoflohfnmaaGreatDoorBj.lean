/- HTTP: a text made bytes, and bytes appended to it; what is sent, in plain Lean. -/
import Derived.Test.YtdfgnoflohfnmaaGreatDoorBi
namespace Go.Proofs.YtdfgnoflohfnmaaGreatDoor.Hx
open Go.RowKit Go.Maps

theorem storeCells_S (P : Program) (g o : Nat) (t : TypeId) (fz : Nat × Nat) : ∀ (vs : List Value) (i : Nat) (cur : Array Value) (w : World), w.heap[g]? = some (.cells cur t fz) → cur.size ≤ fz.1 → o + i + vs.length ≤ cur.size → (∀ v ∈ vs, v.oneCell' = true) →
    (storeCells ⟨g, o, none⟩ vs i).run P w = .ok () (w.setRow g (cur.toList.take (o + i) ++ vs ++ cur.toList.drop (o + i + vs.length)).toArray)
  | [], i, cur, w, hg, _, _, _ => by
    simp only [storeCells, List.append_nil, List.length_nil, Nat.add_zero, List.take_append_drop, Array.toArray_toList]
    rw [setRow_self w g cur t fz hg]
    rfl
  | v :: rest, i, cur, w, hg, hfz, hl, h1 => by
    have hi : o + i < cur.size := by simp at hl; omega
    have hadd : (⟨g, o, none⟩ : Addr).add i = ⟨g, o + i, none⟩ := by unfold Addr.add; split <;> simp_all
    have hcell : w.cell? ⟨g, o + i, none⟩ = some cur[o + i] := by simp [World.cell?, hg, hi]
    have hfro : w.frozen? ⟨g, o + i, none⟩ = false := by
      obtain ⟨lo, hi'⟩ := fz
      simp only [World.frozen?, hg, Bool.and_eq_false_iff, decide_eq_false_iff_not]
      left
      simp only at hfz
      omega
    have hst : (store ((⟨g, o, none⟩ : Addr).add i) v).run P w = .ok () (w.setRow g (cur.setIfInBounds (o + i) v)) := by
      rw [hadd, run_store P w _ v _ (h1 v (by simp)), hcell]
      simp [hfro, setCell_eq_setRow w g (o + i) cur t fz v hg]
    have ih := storeCells_S P g o t fz rest (i + 1) (cur.setIfInBounds (o + i) v) (w.setRow g (cur.setIfInBounds (o + i) v)) (setRow_heap w g cur _ t _ hg) (by simpa using hfz) (by simp at hl ⊢; omega) (fun x hx => h1 x (by simp [hx]))
    simp only [storeCells, Sem.run_bind, hst, Result.andThen_ok, ih, setRow_setRow]
    congr 3
    have e := list_seg_step cur.toList (o + i) v rest (by simp at hl ⊢; omega)
    simpa [Array.toList_setIfInBounds, Nat.add_assoc] using e
theorem ba_row {w : World} {b : Nat} {cur : Array Value} {t : TypeId} {fz : Nat × Nat} {bs : Bs} (hb : w.heap[b]? = some (.cells cur t fz)) (h : cur.toList.take bs.length = Lib.byteCells bs) : BA w b 0 bs := by
  intro i hi
  rw [Nat.zero_add, cell_of_row w b i cur t fz hb]
  have e : (Lib.byteCells bs)[i]? = some (.int .u8 (bs[i].toNat : Int)) := by simp [Lib.byteCells, hi]
  rw [← h, List.getElem?_take_of_lt hi] at e
  simpa using e
theorem cells_at (l : Bs) (j : Nat) (h : j < l.length) : (Lib.byteCells l)[j]? = some (.int .u8 (l[j].toNat : Int)) := by simp [Lib.byteCells, h]
theorem bytesCells_take (w : World) (s : ByteArray) : (Lib.bytesCells w 5 s).toList.take s.size = Lib.byteCells s.data.toList := by
  unfold Lib.bytesCells
  rw [Array.toList_append]
  rw [List.take_append_of_le_length (by simp)]
  rw [List.take_of_length_le (by simp)]
  simp [Lib.byteCells]
theorem conv_append {w : World} {s : ByteArray} {x : Value} {body : Bs} (ty : TypeId) (hx : BV w x body) (hl : s.size + body.length ≤ 1000000000) :
    ∃ A c w', (Builtin.append_ #[22, 22] ty #[.slice (some ⟨w.heap.size, 0, none⟩) s.size (grownCap w s.size 0 5), x]).run Tryz.prog (Lib.bytesWorld w 5 s) = .ok (.slice A (s.data.toList ++ body).length c) w' ∧ BS w' (fun k => w.heap.size ≤ k) (.slice A (s.data.toList ++ body).length c) (s.data.toList ++ body) ∧ w.grownBy w' none := by
  obtain ⟨i0, hi0, hz0, hz1, hz2⟩ := info_parts info_u8
  have g0 : w.grownBy (Lib.bytesWorld w 5 s) none := gb_of_below (Lib.bytesWorld_below _ _ _)
  have hb := Lib.bytesWorld_at_new w 5 s
  have hs0 := Lib.bytesWorld_size w 5 s
  have hx1 := (hx.kp g0).src
  have hcap : s.size ≤ grownCap w s.size 0 5 := grownCap_ge _ _ _ _
  have hcs : (Lib.bytesCells w 5 s).size = grownCap w s.size 0 5 := by
    unfold Lib.bytesCells
    rw [Array.size_append, Array.size_map, Array.size_replicate]
    have : s.data.size = s.size := rfl
    omega
  have htk := bytesCells_take w s
  have hsz : s.data.toList.length = s.size := by show s.data.toList.length = s.data.size; simp
  generalize Lib.bytesWorld w 5 s = W at *
  generalize Lib.bytesCells w 5 s = cur at *
  generalize grownCap w s.size 0 5 = cap at *
  have hba : BA W w.heap.size 0 s.data.toList := ba_row hb (by rw [hsz]; exact htk)
  have hs' : Src Tryz.prog i0.size 22 x body.length (Lib.byteCells body) W := by rw [hz1]; exact hx1
  by_cases hn : body = []
  · subst hn
    refine ⟨some ⟨w.heap.size, 0, none⟩, cap, W, by rw [List.append_nil, hsz]; exact run_append_nothing (P := Tryz.prog) W 22 22 ty 5 i0 Tryz.underlying22 hi0 _ _ cap hcap _ hs', ?_, g0⟩
    rw [List.append_nil]
    exact ⟨_, cap, rfl, by omega, fun _ => ⟨_, 0, rfl, Nat.le_refl _, hba⟩⟩
  · have hp : 0 < body.length := List.length_pos_iff.mpr hn
    by_cases hroom : s.size + body.length ≤ cap
    · have hst := storeCells_S Tryz.prog w.heap.size (0 + s.size) 5 _ (Lib.byteCells body) 0 cur W hb (Nat.le_refl _) (by rw [Lib.byteCells_length]; omega) (one_bytes _)
      simp only [Nat.add_zero, Nat.zero_add] at hst
      have hrun : (Builtin.append_ #[22, 22] ty #[.slice (some ⟨w.heap.size, 0, none⟩) s.size cap, x]).run Tryz.prog W = .ok (.slice (some ⟨w.heap.size, 0, none⟩) (s.size + body.length) cap) (W.setRow w.heap.size (cur.toList.take s.size ++ Lib.byteCells body ++ cur.toList.drop (s.size + (Lib.byteCells body).length)).toArray) := by
        have e : (⟨w.heap.size, 0, none⟩ : Addr).add (s.size * i0.size) = ⟨w.heap.size, s.size, none⟩ := by rw [add_lit, hz1, Nat.mul_one, Nat.zero_add]
        simp [Builtin.append_, run_underlying Tryz.underlying22, sizeOf, typeInfo, hi0, hs'.len, hroom, hs'.cells, e, hst]
      refine ⟨_, _, _, by rw [hrun, List.length_append, hsz], ?_, gb_new g0 (gb_setRow _ _ _) (Nat.le_refl _)⟩
      refine ⟨_, cap, rfl, by rw [List.length_append, hsz]; exact hroom, fun _ => ⟨_, 0, rfl, Nat.le_refl _, ba_row (setRow_heap W w.heap.size cur _ _ _ hb) ?_⟩⟩
      rw [htk, List.length_append, byteCells_app]
      simp only [List.append_assoc]
      rw [← List.append_assoc]
      exact List.take_left' (by simp [Lib.byteCells])
    · have holds : ∀ j u, (Lib.byteCells s.data.toList)[j]? = some u → W.cell? ((⟨w.heap.size, 0, none⟩ : Addr).add j) = some u := by
        intro j u hj
        have hlt : j < s.data.toList.length := by
          have := (List.getElem?_eq_some_iff.mp hj).1
          simpa [Lib.byteCells] using this
        rw [add_lit, hba j hlt]
        rw [cells_at _ _ hlt] at hj
        exact hj
      have hrun := run_append_grow_src (P := Tryz.prog) W 22 22 ty 5 i0 _ Tryz.underlying22 hi0 hz0 (some ⟨w.heap.size, 0, none⟩) s.size cap (Lib.byteCells s.data.toList) (run_firstCells_some W.drew i0.size s.size ⟨w.heap.size, 0, none⟩ s.size cap (Lib.byteCells s.data.toList) (by rw [hz1, Lib.byteCells_length, hsz]; omega) (by simpa using holds)) x body.length (Lib.byteCells body) hs' (by omega) (by omega) (growslice_fits (by omega) (by rw [hz2]; omega))
      refine ⟨_, _, _, by rw [hrun, List.length_append, hsz], ?_, gb_trans g0 (gb_alloc (gb_drew (gb_refl _ _)) _)⟩
      refine ⟨_, _, rfl, by rw [List.length_append, hsz]; exact grownCap_ge _ _ _ _, fun _ => ⟨_, 0, rfl, by show w.heap.size ≤ W.heap.size; omega, ba_row (heap_alloc_new _ _) ?_⟩⟩
      rw [List.length_append, byteCells_app]
      simp only [Array.toList_append, List.append_assoc]
      rw [← List.append_assoc]
      exact List.take_left' (by simp [Lib.byteCells])
/-! ### what is sent -/
theorem pars_snoc : ∀ (l : Pr) (x : Bs × Bs) (f : Bool), parsO f (l ++ [x]) = parsO f l ++ ((if f && l.isEmpty then 63 else 38) :: (escP false x.1 ++ 61 :: escP false x.2))
  | [], x, f => by cases f <;> simp [parsO]
  | a :: t, x, f => by
    have ih := pars_snoc t x false
    rw [List.cons_append, parsO, ih, parsO]
    simp
/-- a request that is not large -/
structure SmR (r : Rq) : Prop where
  m : r.m.length ≤ 20000
  p : r.p.length ≤ 20000
  b : r.body.length ≤ 20000
  q : r.q.length ≤ 40
  x : ∀ i (h : i < r.q.length), r.q[i].1.length ≤ 20000 ∧ r.q[i].2.length ≤ 20000
theorem pars_len {q : Pr} (hq : ∀ i (h : i < q.length), q[i].1.length ≤ 20000 ∧ q[i].2.length ≤ 20000) : ∀ k, k ≤ q.length → (parsO true (q.take k)).length ≤ k * 120002
  | 0, _ => by simp [parsO]
  | k + 1, hk => by
    have ih := pars_len hq k (by omega)
    have h1 := esc_len false (q[k]'(by omega)).1
    have h2 := esc_len false (q[k]'(by omega)).2
    have h3 := hq k (by omega)
    rw [List.take_succ_eq_append_getElem (by omega : k < q.length), pars_snoc, List.length_append, List.length_cons, List.length_append, List.length_cons]
    omega
end Go.Proofs.YtdfgnoflohfnmaaGreatDoor.Hx
