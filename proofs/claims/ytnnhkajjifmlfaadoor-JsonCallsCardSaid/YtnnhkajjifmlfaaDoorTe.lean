/- A value among the arguments, opened. -/
import Derived.Test.YtnnhkajjifmlfaaDoorTy
import Derived.SliceStrings
import Derived.SizedLaws
import Derived.ChangeMaps
namespace Go.Proofs.YtnnhkajjifmlfaaDoor
open Go.RowKit Go.ChangeShapes Go.WideShapes

theorem cellsOf26 : Tryd.prog.cellsOf 26 = 5 := by kernel_rfl
theorem cellsOf9 : Tryd.prog.cellsOf 9 = 1 := by kernel_rfl
theorem bytesOf9 : Tryd.prog.bytesOf 9 = 16 := by kernel_rfl
theorem bytesOf26 : Tryd.prog.bytesOf 26 = 80 := by kernel_rfl
theorem reach_le : reachBytes ≤ 140737488355328 := by decide

section
variable {H : Type} {enc : TypeId × Value → H} {w : World} {sp : Nat → Bool} {hd : Bool}
theorem weightsAll_mem {P : Program} {e : TypeId} : ∀ {l : List (DataW H)} {i : Nat} {d : DataW H}, l[i]? = some d → ∀ n ∈ d.weights P e, n ∈ DataW.weightsAll P e l
  | d0 :: r, 0, d, h, n, hn => by
    simp only [List.getElem?_cons_zero, Option.some.injEq] at h
    subst h
    rw [DataW.weightsAll]
    exact List.mem_append.2 (.inl hn)
  | d0 :: r, i + 1, d, h, n, hn => by
    simp only [List.getElem?_cons_succ] at h
    rw [DataW.weightsAll]
    exact List.mem_append.2 (.inr (weightsAll_mem h n hn))
  | [], _, _, h, _, _ => by simp at h
/-- names -/
theorem open_names {fuel : Nat} {v : Value} {x : DataW H × List MemPlace} (h : DataW.trod enc Tryd.prog w 0 sp hd fuel 23 [v] = some x) (hw : ∀ n ∈ x.1.weights Tryd.prog 23, n ≤ reachBytes) :
    ∃ names : List ByteArray, StrsAt w (· < w.heap.size) v names ∧ names.length ≤ 140737488355328 ∧ ∀ s ∈ names, s.size ≤ 140737488355328 := by
  have hR := reach_le
  rcases open_strings Tryd.underlying23 Tryd.underlying9 cellsOf9 h with ⟨hcs, hx⟩ | ⟨a, len, cap, ss, hcs, _, hl, hm, hz, hx, hcell, hsz⟩
  · injection hcs with hcs _
    subst hcs
    exact ⟨[], ⟨none, 0, rfl, Nat.le_refl _, fun h => absurd h (by simp)⟩, Nat.zero_le _, fun s hs => by cases hs⟩
  · injection hcs with hcs _
    subst hcs
    have hlen : len ≤ ss.length := by rw [hz]; split <;> omega
    have hlt : (ss.take len).length = len := by rw [List.length_take]; omega
    subst hx
    have hbig : len ≤ 140737488355328 := by
      have := hw ((ss.take len).length * 16 + (ss.drop len).length * 16) (by
        simp only [DataW.weights, Tryd.underlying23, bytesOf9, strs, List.length_map]
        refine List.mem_cons.2 (.inl ?_)
        omega)
      omega
    refine ⟨ss.take len, ⟨some a, cap, by rw [hlt], by rw [hlt]; exact hl, fun h0 => ?_⟩, by rw [hlt]; exact hbig, fun s hs => ?_⟩
    · have h0' : 0 < ss.length := by omega
      have hc0 := hcell 0 h0'
      obtain ⟨b, o, spot⟩ := a
      have hspot : spot = none := by simpa [Addr.add] using World.cell?_spot hc0
      subst hspot
      refine ⟨b, o, rfl, ?_, fun i hi => ?_⟩
      · rw [add_plain] at hc0; exact cell_lt hc0
      · have hi' : i < ss.length := by omega
        have := hcell i hi'
        rw [add_plain] at this
        rw [this]
        congr 2
        rw [List.getElem_take, List.getD_eq_getElem?_getD, List.getElem?_eq_getElem hi']
        rfl
    · obtain ⟨i, hi⟩ := List.getElem?_of_mem hs
      have hmem : (.lit (.string s.data.toList) : DataW H) ∈ strs (H := H) (ss.take len) := List.mem_map.2 ⟨s, hs, rfl⟩
      obtain ⟨q, hq⟩ := List.getElem?_of_mem hmem
      have h1 := weightsAll_mem (P := Tryd.prog) (e := 9) hq s.data.toList.length (by simp [DataW.weights])
      have := hw s.data.toList.length (by
        simp only [DataW.weights, Tryd.underlying23]
        exact List.mem_cons.2 (.inr (List.mem_append.2 (.inl h1))))
      have e : s.data.toList.length = s.size := by rw [Array.length_toList]; rfl
      omega
set_option maxRecDepth 100000 in
/-- **a value, opened** -/
theorem open_jsonC : ∀ (fuel : Nat) (cs : List Value) (x : DataW H × List MemPlace), DataW.trod enc Tryd.prog w 0 sp hd fuel 26 cs = some x → (∀ n ∈ x.1.weights Tryd.prog 26, n ≤ reachBytes) →
    ∃ (j : J) (a0 a1 a2 a3 a4 : Value), cs = [a0, a1, a2, a3, a4] ∧ JBd j ∧ JAt w (· < w.heap.size) j (.agg #[a0, a1, a2, a3, a4]) := by
  intro fuel
  induction fuel using Nat.strongRecOn with
  | _ fuel ih =>
    intro cs x h hw
    have hR := reach_le
    obtain ⟨xs, n, hfu, rfl, hlen, hxl, hf⟩ := DataW.trod_struct Tryd.underlying26 h
    rw [cellsOf26] at hlen
    obtain ⟨a0, a1, a2, a3, a4, rfl⟩ : ∃ a0 a1 a2 a3 a4, cs = [a0, a1, a2, a3, a4] := by
      match cs, hlen with
      | [a0, a1, a2, a3, a4], _ => exact ⟨a0, a1, a2, a3, a4, rfl⟩
    obtain ⟨x0, x1, x2, x3, x4, rfl⟩ : ∃ x0 x1 x2 x3 x4, xs = [x0, x1, x2, x3, x4] := by
      match xs, hxl with
      | [x0, x1, x2, x3, x4], _ => exact ⟨x0, x1, x2, x3, x4, rfl⟩
    have h0 := hf 0 _ rfl
    have h1 := hf 1 _ rfl
    have h2 := hf 2 _ rfl
    have h3 := hf 3 _ rfl
    have h4 := hf 4 _ rfl
    simp only [DataW.weights, Tryd.underlying26, List.map_cons, List.map_nil, DataW.weightsEach, List.append_nil, List.mem_append] at hw
    obtain ⟨k, e0, _, _⟩ := DataW.trod_int Tryd.underlying3 h0
    obtain ⟨m, e1, _, hm⟩ := DataW.trod_int Tryd.underlying2 h1
    obtain ⟨t, e2, hx2, ht⟩ := DataW.trod_string Tryd.underlying9 h2
    injection e0 with e0 _
    injection e1 with e1 _
    injection e2 with e2 _
    subst e0 e1 e2
    have htz : t.size ≤ 140737488355328 := by
      have := hw t.data.toList.length (by subst hx2; simp [DataW.weights])
      have e : t.data.toList.length = t.size := by rw [Array.length_toList]; rfl
      omega
    obtain ⟨names, hN, hNl, hNs⟩ := open_names h3 (fun q hq => hw q (by simp [hq]))
    have hmr : -9223372036854775808 ≤ m ∧ m ≤ 9223372036854775807 := by
      simp [Lit.wf, IntKind.min, IntKind.max, IntKind.bits, IntKind.signed] at hm
      omega
    rcases DataW.trod_slice Tryd.underlying24 h4 with ⟨e4, hx4⟩ | ⟨a, len, cap, elems, rest, n', hn', e4, hx4, _, hl, hmx, hel, helem, _, _⟩
    · injection e4 with e4 _
      subst e4
      refine ⟨.mk k m t names [], _, _, _, _, _, rfl, .mk hmr.1 hmr.2 htz hNl (by simp) hNs (fun j hj => by cases hj), ?_⟩
      exact .mk (b := 0) (o := 0) (fun _ => undef) hN (Nat.le_refl _) (fun h => absurd h (by simp)) (fun i hi => absurd hi (by simp)) (fun i hi => absurd hi (by simp))
    · injection e4 with e4 _
      subst e4
      rw [cellsOf26] at helem
      have hbig : len ≤ 140737488355328 := by
        have := hw ((elems.length + rest.length) * 80) (by
          subst hx4
          simp [DataW.weights, Tryd.underlying24, bytesOf26])
        omega
      have each : ∀ i, ∃ (j : J) (V : Value), i < len → JBd j ∧ (∃ a0 a1 a2 a3 a4, V = .agg #[a0, a1, a2, a3, a4] ∧ w.cell? (a.add (i * 5)) = some a0 ∧ w.cell? ((a.add (i * 5)).add 1) = some a1 ∧ w.cell? ((a.add (i * 5)).add 2) = some a2 ∧ w.cell? ((a.add (i * 5)).add 3) = some a3 ∧ w.cell? ((a.add (i * 5)).add 4) = some a4) ∧ JAt w (· < w.heap.size) j V := by
        intro i
        by_cases hi : i < len
        · have hi2 := helem i hi
          have hlt : i < elems.length := by omega
          rw [List.getElem?_eq_getElem hlt, Option.bind_eq_some_iff] at hi2
          obtain ⟨cs', hcs, hy⟩ := hi2
          obtain ⟨_, _, hcell⟩ := World.cells?_some hcs
          obtain ⟨j, b0, b1, b2, b3, b4, rfl, hB, hA⟩ := ih n' (by omega) cs' _ hy (fun q hq => by
            refine hw q ?_
            subst hx4
            have hg : (elems.map (·.1))[i]? = some (elems[i]).1 := by rw [List.getElem?_map, List.getElem?_eq_getElem hlt]; rfl
            have := weightsAll_mem (P := Tryd.prog) (e := 26) hg q hq
            simp only [DataW.weights, Tryd.underlying24, List.mem_cons, List.mem_append]
            simp [this])
          have c0 := hcell 0 (by omega)
          rw [show (a.add (i * 5)).add 0 = a.add (i * 5) from by unfold Addr.add; split <;> simp_all] at c0
          exact ⟨j, _, fun _ => ⟨hB, ⟨b0, b1, b2, b3, b4, rfl, c0, hcell 1 (by omega), hcell 2 (by omega), hcell 3 (by omega), hcell 4 (by omega)⟩, hA⟩⟩
        · exact ⟨.mk 0 0 ⟨#[]⟩ [] [], undef, fun h => absurd h hi⟩
      obtain ⟨f, hf1⟩ := Classical.axiomOfChoice each
      obtain ⟨V, hV⟩ := Classical.axiomOfChoice hf1
      have hll : ((List.range len).map f).length = len := by simp
      have hget : ∀ i (h : i < ((List.range len).map f).length), ((List.range len).map f)[i] = f i := fun i h => by simp
      refine ⟨.mk k m t names ((List.range len).map f), _, _, _, _, _, rfl, .mk hmr.1 hmr.2 htz hNl (by rw [hll]; exact hbig) hNs (fun j hj => ?_), ?_⟩
      · obtain ⟨i, hi, rfl⟩ := List.mem_map.1 hj
        exact (hV i (List.mem_range.1 hi)).1
      · have hlen' : Value.slice (some a) len cap = Value.slice (some a) ((List.range len).map f).length cap := by rw [hll]
        rw [hlen']
        by_cases hl0 : 0 < len
        · obtain ⟨_, ⟨b0, b1, b2, b3, b4, _, c0, _⟩, _⟩ := hV 0 hl0
          obtain ⟨b, o, spot⟩ := a
          have hspot : spot = none := by simpa [Addr.add] using World.cell?_spot c0
          subst hspot
          have c0' := c0
          rw [add_plain] at c0'
          refine .mk (b := b) (o := o) V hN (by rw [hll]; exact hl) (fun _ => ⟨rfl, cell_lt c0'⟩) (fun i hi => ?_) (fun i hi => ?_)
          · rw [hll] at hi
            obtain ⟨_, ⟨b0, b1, b2, b3, b4, e, d0, d1, d2, d3, d4⟩, _⟩ := hV i hi
            simp only [add_plain] at d0 d1 d2 d3 d4
            exact ⟨b0, b1, b2, b3, b4, e, d0, d1, d2, d3, d4⟩
          · rw [hget]
            rw [hll] at hi
            exact (hV i hi).2.2
        · refine .mk (b := 0) (o := 0) V hN (by rw [hll]; exact hl) (fun h => absurd h (by rw [hll]; exact hl0)) (fun i hi => absurd hi (by rw [hll]; omega)) (fun i hi => absurd hi (by rw [hll]; omega))
end
end Go.Proofs.YtnnhkajjifmlfaaDoor
