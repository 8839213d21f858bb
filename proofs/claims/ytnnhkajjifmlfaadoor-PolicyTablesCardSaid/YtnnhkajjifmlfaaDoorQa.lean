/- PolicyBack: a policy among the arguments, opened. -/
import Derived.Test.YtnnhkajjifmlfaaDoorPq
import Derived.SliceStrings
import Derived.SizedLaws
import Derived.ChangeMaps
namespace Go.Proofs.YtnnhkajjifmlfaaDoor.Pl
open Go.RowKit Go.ChangeShapes Go.WideShapes

theorem cells64 : Tryd.prog.cellsOf 64 = 6 := by kernel_rfl
theorem cells48 : Tryd.prog.cellsOf 48 = 1 := by kernel_rfl
theorem bytes64 : Tryd.prog.bytesOf 64 = 64 := by kernel_rfl
theorem reach_le' : reachBytes ≤ 140737488355328 := by decide

section
variable {H : Type} {enc : TypeId × Value → H} {w : World} {sp : Nat → Bool} {hd : Bool}
set_option maxRecDepth 100000 in
/-- a node's cells -/
theorem open_node {fuel : Nat} {cs : List Value} {x : DataW H × List MemPlace} (h : DataW.trod enc Tryd.prog w 0 sp hd fuel 64 cs = some x) :
    ∃ q : PN, cs = [.int .i64 q.k, .int .i64 q.n, .string q.a, .string q.b, .int .i64 q.l, .int .i64 q.r] := by
  obtain ⟨xs, n, hfu, rfl, hlen, hxl, hf⟩ := DataW.trod_struct Tryd.underlying64 h
  rw [cells64] at hlen
  obtain ⟨a0, a1, a2, a3, a4, a5, rfl⟩ : ∃ a0 a1 a2 a3 a4 a5, cs = [a0, a1, a2, a3, a4, a5] := by
    match cs, hlen with
    | [a0, a1, a2, a3, a4, a5], _ => exact ⟨a0, a1, a2, a3, a4, a5, rfl⟩
  obtain ⟨x0, x1, x2, x3, x4, x5, rfl⟩ : ∃ x0 x1 x2 x3 x4 x5, xs = [x0, x1, x2, x3, x4, x5] := by
    match xs, hxl with
    | [x0, x1, x2, x3, x4, x5], _ => exact ⟨x0, x1, x2, x3, x4, x5, rfl⟩
  have h0 := hf 0 _ rfl
  have h1 := hf 1 _ rfl
  have h2 := hf 2 _ rfl
  have h3 := hf 3 _ rfl
  have h4 := hf 4 _ rfl
  have h5 := hf 5 _ rfl
  obtain ⟨k, e0, _, _⟩ := DataW.trod_int Tryd.underlying3 h0
  obtain ⟨m, e1, _, _⟩ := DataW.trod_int Tryd.underlying2 h1
  obtain ⟨a, e2, _, _⟩ := DataW.trod_string Tryd.underlying9 h2
  obtain ⟨b, e3, _, _⟩ := DataW.trod_string Tryd.underlying9 h3
  obtain ⟨l, e4, _, _⟩ := DataW.trod_int Tryd.underlying3 h4
  obtain ⟨r, e5, _, _⟩ := DataW.trod_int Tryd.underlying3 h5
  injection e0 with e0 _
  injection e1 with e1 _
  injection e2 with e2 _
  injection e3 with e3 _
  injection e4 with e4 _
  injection e5 with e5 _
  subst e0 e1 e2 e3 e4 e5
  exact ⟨⟨k, m, a, b, l, r⟩, rfl⟩
set_option maxRecDepth 100000 in
/-- **a policy, opened** -/
theorem open_policy {fuel : Nat} {cs : List Value} {x : DataW H × List MemPlace} (h : DataW.trod enc Tryd.prog w 0 sp hd fuel 48 cs = some x) (hw : ∀ n ∈ x.1.weights Tryd.prog 48, n ≤ reachBytes) :
    ∃ (l : List PN) (v : Value), cs = [v] ∧ NodesAt w (· < w.heap.size) v l ∧ l.length ≤ 140737488355328 := by
  have hR := reach_le'
  obtain ⟨x0, n, rfl, hlen, h0⟩ := trod_struct1 Tryd.underlying48 h
  rw [cells48] at hlen
  obtain ⟨v, rfl⟩ : ∃ v, cs = [v] := by
    match cs, hlen with
    | [v], _ => exact ⟨v, rfl⟩
  simp only [DataW.weights, Tryd.underlying48, List.map_cons, List.map_nil, DataW.weightsEach, List.append_nil] at hw
  rcases DataW.trod_slice Tryd.underlying46 h0 with ⟨e4, hx4⟩ | ⟨a, len, cap, elems, rest, n', hn', e4, hx4, _, hl, hmx, hel, helem, _, _⟩
  · injection e4 with e4 _
    subst e4
    exact ⟨[], _, rfl, ⟨none, 0, rfl, fun h => absurd h (by simp)⟩, by simp⟩
  · injection e4 with e4 _
    subst e4
    rw [cells64] at helem
    have hbig : len ≤ 140737488355328 := by
      have := hw ((elems.length + rest.length) * 64) (by
        subst hx4
        simp [DataW.weights, Tryd.underlying46, bytes64])
      omega
    have each : ∀ i, ∃ q : PN, i < len → (w.cell? (a.add (i * 6)) = some (.int .i64 q.k) ∧ w.cell? ((a.add (i * 6)).add 1) = some (.int .i64 q.n) ∧ w.cell? ((a.add (i * 6)).add 2) = some (.string q.a) ∧ w.cell? ((a.add (i * 6)).add 3) = some (.string q.b) ∧ w.cell? ((a.add (i * 6)).add 4) = some (.int .i64 q.l) ∧ w.cell? ((a.add (i * 6)).add 5) = some (.int .i64 q.r)) := by
      intro i
      by_cases hi : i < len
      · have hi2 := helem i hi
        have hlt : i < elems.length := by omega
        rw [List.getElem?_eq_getElem hlt, Option.bind_eq_some_iff] at hi2
        obtain ⟨cs', hcs, hy⟩ := hi2
        obtain ⟨_, _, hcell⟩ := World.cells?_some hcs
        obtain ⟨q, rfl⟩ := open_node hy
        have c0 := hcell 0 (by omega)
        rw [show (a.add (i * 6)).add 0 = a.add (i * 6) from by unfold Addr.add; split <;> simp_all] at c0
        exact ⟨q, fun _ => ⟨c0, hcell 1 (by omega), hcell 2 (by omega), hcell 3 (by omega), hcell 4 (by omega), hcell 5 (by omega)⟩⟩
      · exact ⟨⟨0, 0, ⟨#[]⟩, ⟨#[]⟩, 0, 0⟩, fun h => absurd h hi⟩
    obtain ⟨f, hf⟩ := Classical.axiomOfChoice each
    have hll : ((List.range len).map f).length = len := by simp
    refine ⟨(List.range len).map f, _, rfl, ⟨some a, cap, by rw [hll], fun h0 => ?_⟩, by rw [hll]; exact hbig⟩
    rw [hll] at h0
    obtain ⟨c0, _⟩ := hf 0 h0
    obtain ⟨b, o, spot⟩ := a
    have hspot : spot = none := by simpa [Addr.add] using World.cell?_spot c0
    subst hspot
    have ad : ∀ o q, (⟨b, o, none⟩ : Addr).add q = ⟨b, o + q, none⟩ := fun o q => by unfold Addr.add; split <;> simp_all
    rw [ad] at c0
    refine ⟨b, o, rfl, cell_lt c0, fun i hi => ?_⟩
    have hi' : i < len := by rw [← hll]; exact hi
    obtain ⟨d0, d1, d2, d3, d4, d5⟩ := hf i hi'
    simp only [ad] at d0 d1 d2 d3 d4 d5
    have hg : ((List.range len).map f)[i] = f i := by simp
    rw [hg]
    exact ⟨d0, d1, d2, d3, d4, d5⟩
end
end Go.Proofs.YtnnhkajjifmlfaaDoor.Pl
