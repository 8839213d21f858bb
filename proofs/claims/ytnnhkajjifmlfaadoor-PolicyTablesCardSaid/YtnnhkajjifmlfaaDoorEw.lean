/- A list of adjusted spans among the arguments, opened. -/
import Derived.Test.YtnnhkajjifmlfaaDoorEc
import Derived.Test.YtnnhkajjifmlfaaDoorQa
import Derived.WideShapes
namespace Go.Proofs.YtnnhkajjifmlfaaDoor.Pl
open Go.RowKit Go.ChangeShapes Go.WideShapes
theorem add_at (b o q : Nat) : (⟨b, o, none⟩ : Addr).add q = ⟨b, o + q, none⟩ := by unfold Addr.add; split <;> simp_all
section
variable {H : Type} {enc : TypeId × Value → H} {w : World} {sp : Nat → Bool} {hd : Bool}
theorem weightsAll_mem {P : Program} {e : TypeId} : ∀ {l : List (DataW H)} {i : Nat} {d : DataW H}, l[i]? = some d → ∀ n ∈ d.weights P e, n ∈ DataW.weightsAll P e l
  | d0 :: r, 0, d, h, n, hn => by
    simp only [List.getElem?_cons_zero, Option.some.injEq] at h
    subst h
    rw [DataW.weightsAll]
    exact List.mem_append.2 (.inl hn)
  | d0 :: r, i + 1, d, h, n, hn => by
    simp only [List.getElem?_cons_succ] at h
    rw [DataW.weightsAll]
    exact List.mem_append.2 (.inr (weightsAll_mem h n hn))
  | [], _, _, h, _, _ => by simp at h
/-- what an element's opener gives -/
def Opens (H : Type) (enc : TypeId × Value → H) (w : World) (sp : Nat → Bool) (hd : Bool) {α : Type} (e : TypeId) (R : α → List Value → Prop) : Prop :=
  ∀ (fuel : Nat) (cs : List Value) (x : DataW H × List MemPlace), DataW.trod enc Tryd.prog w 0 sp hd fuel e cs = some x → (∀ n ∈ x.1.weights Tryd.prog e, n ≤ reachBytes) → ∃ a : α, R a cs
set_option maxRecDepth 100000 in
theorem open_slice {α : Type} [Inhabited α] {t e : TypeId} {K B : Nat} {R : α → List Value → Prop} (hT : Tryd.prog.underlying t = some (.slice e)) (hK : Tryd.prog.cellsOf e = K) (hK0 : 0 < K) (hB : Tryd.prog.bytesOf e = B) (hB0 : 0 < B)
    (ho : Opens H enc w sp hd e R) {fuel : Nat} {v : Value} {x : DataW H × List MemPlace} (h : DataW.trod enc Tryd.prog w 0 sp hd fuel t [v] = some x) (hw : ∀ n ∈ x.1.weights Tryd.prog t, n ≤ reachBytes) :
    ∃ (l : List α) (A : Option Addr) (c b o : Nat), v = .slice A l.length c ∧ l.length ≤ 140737488355328 ∧ (0 < l.length → A = some ⟨b, o, none⟩) ∧
      ∀ i (hi : i < l.length), ∃ cs : List Value, cs.length = K ∧ R l[i] cs ∧ ∀ j, j < K → w.cell? ⟨b, o + i * K + j, none⟩ = cs[j]? := by
  have hR := reach_le'
  rcases DataW.trod_slice hT h with ⟨e4, hx4⟩ | ⟨a, len, cap, elems, rest, n', hn', e4, hx4, _, hl, hmx, hel, helem, _, _⟩
  · injection e4 with e4 _
    subst e4
    exact ⟨[], none, 0, 0, 0, rfl, Nat.zero_le _, fun h => absurd h (by simp), fun i hi => absurd hi (by simp)⟩
  · injection e4 with e4 _
    subst e4
    rw [hK] at helem
    have hbig : len ≤ 140737488355328 := by
      have h1 := hw ((elems.length + rest.length) * B) (by
        subst hx4
        simp [DataW.weights, hT, hB])
      have h2 : elems.length + rest.length ≤ (elems.length + rest.length) * B := Nat.le_mul_of_pos_right _ hB0
      omega
    have each : ∀ i, ∃ (p : α × List Value), i < len → p.2.length = K ∧ R p.1 p.2 ∧ ∀ j, j < K → w.cell? ((a.add (i * K)).add j) = p.2[j]? := by
      intro i
      by_cases hi : i < len
      · have hi2 := helem i hi
        have hlt : i < elems.length := by omega
        rw [List.getElem?_eq_getElem hlt, Option.bind_eq_some_iff] at hi2
        obtain ⟨cs', hcs, hy⟩ := hi2
        obtain ⟨_, hlen, hcell⟩ := World.cells?_some hcs
        obtain ⟨q, hq⟩ := ho n' cs' _ hy (fun m hm => by
          refine hw m ?_
          subst hx4
          have hg : (elems.map (·.1))[i]? = some (elems[i]).1 := by rw [List.getElem?_map, List.getElem?_eq_getElem hlt]; rfl
          have := weightsAll_mem (P := Tryd.prog) (e := e) hg m hm
          simp only [DataW.weights, hT, List.mem_cons, List.mem_append]
          simp [this])
        exact ⟨(q, cs'), fun _ => ⟨hlen, hq, fun j hj => hcell j (by omega)⟩⟩
      · exact ⟨(default, []), fun h => absurd h hi⟩
    obtain ⟨f, hf⟩ := Classical.axiomOfChoice each
    have hll : ((List.range len).map fun i => (f i).1).length = len := by simp
    by_cases hl0 : 0 < len
    · obtain ⟨hq1, _, hq3⟩ := hf 0 hl0
      obtain ⟨b, o, spot⟩ := a
      have c0 := hq3 0 hK0
      rw [List.getElem?_eq_getElem (by omega)] at c0
      have hspot : spot = none := by simpa [Addr.add] using World.cell?_spot c0
      subst hspot
      refine ⟨(List.range len).map fun i => (f i).1, some ⟨b, o, none⟩, cap, b, o, by rw [hll], by rw [hll]; exact hbig, fun _ => rfl, fun i hi => ?_⟩
      rw [hll] at hi
      obtain ⟨h1, h2, h3⟩ := hf i hi
      refine ⟨(f i).2, h1, by simpa using h2, fun j hj => ?_⟩
      have := h3 j hj
      simp only [add_at] at this
      exact this
    · have : len = 0 := by omega
      subst this
      exact ⟨[], some a, cap, 0, 0, rfl, Nat.zero_le _, fun h => absurd h (by simp), fun i hi => absurd hi (by simp)⟩
end
theorem cellsOf57 : Tryd.prog.cellsOf 57 = 2 := by kernel_rfl
theorem cellsOf148 : Tryd.prog.cellsOf 148 = 2 := by kernel_rfl
theorem cellsOf106 : Tryd.prog.cellsOf 106 = 11 := by kernel_rfl
theorem cellsOf108 : Tryd.prog.cellsOf 108 = 14 := by kernel_rfl
theorem cellsOf9 : Tryd.prog.cellsOf 9 = 1 := by kernel_rfl
theorem cellsOf55 : Tryd.prog.cellsOf 55 = 1 := by kernel_rfl
theorem cellsOf2 : Tryd.prog.cellsOf 2 = 1 := by kernel_rfl
theorem cellsOf3 : Tryd.prog.cellsOf 3 = 1 := by kernel_rfl
theorem cellsOf4 : Tryd.prog.cellsOf 4 = 1 := by kernel_rfl
theorem cellsOf104 : Tryd.prog.cellsOf 104 = 1 := by kernel_rfl
theorem bytesOf148 : Tryd.prog.bytesOf 148 = 32 := by kernel_rfl
theorem bytesOf108 : Tryd.prog.bytesOf 108 = 144 := by kernel_rfl
section
variable {H : Type} {enc : TypeId × Value → H} {w : World} {sp : Nat → Bool} {hd : Bool}
instance : Inhabited Ad := ⟨⟨⟨0, 0, 0, 0, ⟨#[]⟩, ⟨#[]⟩, 0, 0, 0, false, []⟩, 0, 0, 0⟩⟩
set_option maxRecDepth 100000 in
theorem open_tr (fuel : Nat) (cs : List Value) (x : DataW H × List MemPlace) (h : DataW.trod enc Tryd.prog w 0 sp hd fuel 57 cs = some x) (hw : ∀ n ∈ x.1.weights Tryd.prog 57, n ≤ reachBytes) : ∃ a b : Int, cs = [.int .u64 a, .int .u64 b] := by
  obtain ⟨xs, n, hfu, rfl, hlen, hxl, hf⟩ := DataW.trod_struct Tryd.underlying57 h
  rw [cellsOf57] at hlen
  obtain ⟨a0, a1, rfl⟩ : ∃ a0 a1, cs = [a0, a1] := by
    match cs, hlen with
    | [a0, a1], _ => exact ⟨a0, a1, rfl⟩
  obtain ⟨x0, x1, rfl⟩ : ∃ x0 x1, xs = [x0, x1] := by
    match xs, hxl with
    | [x0, x1], _ => exact ⟨x0, x1, rfl⟩
  simp only [DataW.weights, Tryd.underlying57, List.map_cons, List.map_nil, DataW.weightsEach, List.append_nil, List.mem_append] at hw
  have h0 : DataW.trod enc Tryd.prog w 0 sp hd n 55 [a0] = some x0 := by
    have := hf 0 _ rfl
    simpa [cellsOf55] using this
  obtain ⟨n0, e0, _, _⟩ := DataW.trod_int Tryd.underlying55 h0
  injection e0 with e0 _
  subst e0
  have h1 : DataW.trod enc Tryd.prog w 0 sp hd n 55 [a1] = some x1 := by
    have := hf 1 _ rfl
    simpa [cellsOf55] using this
  obtain ⟨n1, e1, _, _⟩ := DataW.trod_int Tryd.underlying55 h1
  injection e1 with e1 _
  subst e1
  exact ⟨n0, n1, rfl⟩
set_option maxRecDepth 100000 in
theorem open_tag (fuel : Nat) (cs : List Value) (x : DataW H × List MemPlace) (h : DataW.trod enc Tryd.prog w 0 sp hd fuel 148 cs = some x) (hw : ∀ n ∈ x.1.weights Tryd.prog 148, n ≤ reachBytes) : ∃ a : Tg, cs = [.string a.1, .string a.2] := by
  obtain ⟨xs, n, hfu, rfl, hlen, hxl, hf⟩ := DataW.trod_struct Tryd.underlying148 h
  rw [cellsOf148] at hlen
  obtain ⟨a0, a1, rfl⟩ : ∃ a0 a1, cs = [a0, a1] := by
    match cs, hlen with
    | [a0, a1], _ => exact ⟨a0, a1, rfl⟩
  obtain ⟨x0, x1, rfl⟩ : ∃ x0 x1, xs = [x0, x1] := by
    match xs, hxl with
    | [x0, x1], _ => exact ⟨x0, x1, rfl⟩
  simp only [DataW.weights, Tryd.underlying148, List.map_cons, List.map_nil, DataW.weightsEach, List.append_nil, List.mem_append] at hw
  have h0 : DataW.trod enc Tryd.prog w 0 sp hd n 9 [a0] = some x0 := by
    have := hf 0 _ rfl
    simpa [cellsOf9] using this
  obtain ⟨n0, e0, _, _⟩ := DataW.trod_string Tryd.underlying9 h0
  injection e0 with e0 _
  subst e0
  have h1 : DataW.trod enc Tryd.prog w 0 sp hd n 9 [a1] = some x1 := by
    have := hf 1 _ rfl
    simpa [cellsOf9] using this
  obtain ⟨n1, e1, _, _⟩ := DataW.trod_string Tryd.underlying9 h1
  injection e1 with e1 _
  subst e1
  exact ⟨(n0, n1), rfl⟩
/-- tags -/
theorem open_tags {fuel : Nat} {v : Value} {x : DataW H × List MemPlace} (h : DataW.trod enc Tryd.prog w 0 sp hd fuel 104 [v] = some x) (hw : ∀ n ∈ x.1.weights Tryd.prog 104, n ≤ reachBytes) :
    ∃ (l : List Tg) (A : Option Addr) (c : Nat), v = .slice A l.length c ∧ l.length ≤ 140737488355328 ∧ TAt w (fun _ => True) l (.slice A l.length c) := by
  obtain ⟨l, A, c, b, o, rfl, hb, hA, hc⟩ := open_slice (R := fun (a : Tg) cs => cs = [.string a.1, .string a.2]) Tryd.underlying104 cellsOf148 (by decide) bytesOf148 (by decide) (fun fuel cs x h hw => open_tag fuel cs x h hw) h hw
  refine ⟨l, A, c, rfl, hb, A, c, b, o, rfl, fun h => ⟨hA h, trivial⟩, fun i hi => ?_⟩
  obtain ⟨cs, _, rfl, h3⟩ := hc i hi
  exact ⟨by simpa using h3 0 (by omega), by simpa using h3 1 (by omega)⟩
set_option maxRecDepth 100000 in
theorem open_sp (fuel : Nat) (cs : List Value) (x : DataW H × List MemPlace) (h : DataW.trod enc Tryd.prog w 0 sp hd fuel 106 cs = some x) (hw : ∀ n ∈ x.1.weights Tryd.prog 106, n ≤ reachBytes) : ∃ (a : Sp) (A : Option Addr) (c : Nat), TAt w (fun _ => True) a.tags (.slice A a.tags.length c) ∧ a.tags.length ≤ 140737488355328 ∧ cs = [.int .u64 a.hi, .int .u64 a.lo, .int .u64 a.id, .int .u64 a.parent, .string a.service, .string a.name, .int .i64 a.kind, .int .i64 a.start, .int .i64 a.length, .bool a.fails, .slice A a.tags.length c] := by
  obtain ⟨xs, n, hfu, rfl, hlen, hxl, hf⟩ := DataW.trod_struct Tryd.underlying106 h
  rw [cellsOf106] at hlen
  obtain ⟨a0, a1, a2, a3, a4, a5, a6, a7, a8, a9, a10, rfl⟩ : ∃ a0 a1 a2 a3 a4 a5 a6 a7 a8 a9 a10, cs = [a0, a1, a2, a3, a4, a5, a6, a7, a8, a9, a10] := by
    match cs, hlen with
    | [a0, a1, a2, a3, a4, a5, a6, a7, a8, a9, a10], _ => exact ⟨a0, a1, a2, a3, a4, a5, a6, a7, a8, a9, a10, rfl⟩
  obtain ⟨x0, x1, x2, x3, x4, x5, x6, x7, x8, x9, rfl⟩ : ∃ x0 x1 x2 x3 x4 x5 x6 x7 x8 x9, xs = [x0, x1, x2, x3, x4, x5, x6, x7, x8, x9] := by
    match xs, hxl with
    | [x0, x1, x2, x3, x4, x5, x6, x7, x8, x9], _ => exact ⟨x0, x1, x2, x3, x4, x5, x6, x7, x8, x9, rfl⟩
  simp only [DataW.weights, Tryd.underlying106, List.map_cons, List.map_nil, DataW.weightsEach, List.append_nil, List.mem_append] at hw
  have h0 : DataW.trod enc Tryd.prog w 0 sp hd n 57 [a0, a1] = some x0 := by
    have := hf 0 _ rfl
    simpa [cellsOf57] using this
  obtain ⟨n0a, n0b, e0⟩ := open_tr n _ _ h0 (fun q hq => hw q (by simp [hq]))
  simp only [List.cons.injEq, and_true] at e0
  obtain ⟨rfl, rfl⟩ := e0
  have h1 : DataW.trod enc Tryd.prog w 0 sp hd n 55 [a2] = some x1 := by
    have := hf 1 _ rfl
    simpa [cellsOf55] using this
  obtain ⟨n1, e1, _, _⟩ := DataW.trod_int Tryd.underlying55 h1
  injection e1 with e1 _
  subst e1
  have h2 : DataW.trod enc Tryd.prog w 0 sp hd n 55 [a3] = some x2 := by
    have := hf 2 _ rfl
    simpa [cellsOf55] using this
  obtain ⟨n2, e2, _, _⟩ := DataW.trod_int Tryd.underlying55 h2
  injection e2 with e2 _
  subst e2
  have h3 : DataW.trod enc Tryd.prog w 0 sp hd n 9 [a4] = some x3 := by
    have := hf 3 _ rfl
    simpa [cellsOf9] using this
  obtain ⟨n3, e3, _, _⟩ := DataW.trod_string Tryd.underlying9 h3
  injection e3 with e3 _
  subst e3
  have h4 : DataW.trod enc Tryd.prog w 0 sp hd n 9 [a5] = some x4 := by
    have := hf 4 _ rfl
    simpa [cellsOf9] using this
  obtain ⟨n4, e4, _, _⟩ := DataW.trod_string Tryd.underlying9 h4
  injection e4 with e4 _
  subst e4
  have h5 : DataW.trod enc Tryd.prog w 0 sp hd n 3 [a6] = some x5 := by
    have := hf 5 _ rfl
    simpa [cellsOf3] using this
  obtain ⟨n5, e5, _, _⟩ := DataW.trod_int Tryd.underlying3 h5
  injection e5 with e5 _
  subst e5
  have h6 : DataW.trod enc Tryd.prog w 0 sp hd n 2 [a7] = some x6 := by
    have := hf 6 _ rfl
    simpa [cellsOf2] using this
  obtain ⟨n6, e6, _, _⟩ := DataW.trod_int Tryd.underlying2 h6
  injection e6 with e6 _
  subst e6
  have h7 : DataW.trod enc Tryd.prog w 0 sp hd n 2 [a8] = some x7 := by
    have := hf 7 _ rfl
    simpa [cellsOf2] using this
  obtain ⟨n7, e7, _, _⟩ := DataW.trod_int Tryd.underlying2 h7
  injection e7 with e7 _
  subst e7
  have h8 : DataW.trod enc Tryd.prog w 0 sp hd n 4 [a9] = some x8 := by
    have := hf 8 _ rfl
    simpa [cellsOf4] using this
  obtain ⟨n8, e8, _⟩ := DataW.trod_bool Tryd.underlying4 h8
  injection e8 with e8 _
  subst e8
  have h9 : DataW.trod enc Tryd.prog w 0 sp hd n 104 [a10] = some x9 := by
    have := hf 9 _ rfl
    simpa [cellsOf104] using this
  obtain ⟨tl, tA, tc, rfl, tb, tt⟩ := open_tags h9 (fun q hq => hw q (by simp [hq]))
  exact ⟨⟨n0a, n0b, n1, n2, n3, n4, n5, n6, n7, n8, tl⟩, tA, tc, tt, tb, rfl⟩
set_option maxRecDepth 100000 in
theorem open_ad (fuel : Nat) (cs : List Value) (x : DataW H × List MemPlace) (h : DataW.trod enc Tryd.prog w 0 sp hd fuel 108 cs = some x) (hw : ∀ n ∈ x.1.weights Tryd.prog 108, n ≤ reachBytes) : ∃ (a : Ad) (A : Option Addr) (c : Nat), TAt w (fun _ => True) a.sp.tags (.slice A a.sp.tags.length c) ∧ a.sp.tags.length ≤ 140737488355328 ∧ cs = [.int .u64 a.sp.hi, .int .u64 a.sp.lo, .int .u64 a.sp.id, .int .u64 a.sp.parent, .string a.sp.service, .string a.sp.name, .int .i64 a.sp.kind, .int .i64 a.sp.start, .int .i64 a.sp.length, .bool a.sp.fails, .slice A a.sp.tags.length c, .int .u64 a.up, .int .i64 a.shift, .int .i64 a.flag] := by
  obtain ⟨xs, n, hfu, rfl, hlen, hxl, hf⟩ := DataW.trod_struct Tryd.underlying108 h
  rw [cellsOf108] at hlen
  obtain ⟨a0, a1, a2, a3, a4, a5, a6, a7, a8, a9, a10, a11, a12, a13, rfl⟩ : ∃ a0 a1 a2 a3 a4 a5 a6 a7 a8 a9 a10 a11 a12 a13, cs = [a0, a1, a2, a3, a4, a5, a6, a7, a8, a9, a10, a11, a12, a13] := by
    match cs, hlen with
    | [a0, a1, a2, a3, a4, a5, a6, a7, a8, a9, a10, a11, a12, a13], _ => exact ⟨a0, a1, a2, a3, a4, a5, a6, a7, a8, a9, a10, a11, a12, a13, rfl⟩
  obtain ⟨x0, x1, x2, x3, rfl⟩ : ∃ x0 x1 x2 x3, xs = [x0, x1, x2, x3] := by
    match xs, hxl with
    | [x0, x1, x2, x3], _ => exact ⟨x0, x1, x2, x3, rfl⟩
  simp only [DataW.weights, Tryd.underlying108, List.map_cons, List.map_nil, DataW.weightsEach, List.append_nil, List.mem_append] at hw
  have h0 : DataW.trod enc Tryd.prog w 0 sp hd n 106 [a0, a1, a2, a3, a4, a5, a6, a7, a8, a9, a10] = some x0 := by
    have := hf 0 _ rfl
    simpa [cellsOf106] using this
  obtain ⟨s0, tA, tc, tt, tb, e0⟩ := open_sp n _ _ h0 (fun q hq => hw q (by simp [hq]))
  simp only [List.cons.injEq, and_true] at e0
  obtain ⟨rfl, rfl, rfl, rfl, rfl, rfl, rfl, rfl, rfl, rfl, rfl⟩ := e0
  have h1 : DataW.trod enc Tryd.prog w 0 sp hd n 55 [a11] = some x1 := by
    have := hf 1 _ rfl
    simpa [cellsOf55] using this
  obtain ⟨n1, e1, _, _⟩ := DataW.trod_int Tryd.underlying55 h1
  injection e1 with e1 _
  subst e1
  have h2 : DataW.trod enc Tryd.prog w 0 sp hd n 2 [a12] = some x2 := by
    have := hf 2 _ rfl
    simpa [cellsOf2] using this
  obtain ⟨n2, e2, _, _⟩ := DataW.trod_int Tryd.underlying2 h2
  injection e2 with e2 _
  subst e2
  have h3 : DataW.trod enc Tryd.prog w 0 sp hd n 3 [a13] = some x3 := by
    have := hf 3 _ rfl
    simpa [cellsOf3] using this
  obtain ⟨n3, e3, _, _⟩ := DataW.trod_int Tryd.underlying3 h3
  injection e3 with e3 _
  subst e3
  exact ⟨⟨s0, n1, n2, n3⟩, tA, tc, tt, tb, rfl⟩
/-- adjusted spans -/
theorem open_ads {fuel : Nat} {v : Value} {x : DataW H × List MemPlace} (h : DataW.trod enc Tryd.prog w 0 sp hd fuel 58 [v] = some x) (hw : ∀ n ∈ x.1.weights Tryd.prog 58, n ≤ reachBytes) :
    ∃ l : List Ad, l.length ≤ 140737488355328 ∧ ABd l ∧ AAt w l v := by
  obtain ⟨l, A, c, b, o, rfl, hb, hA, hc⟩ := open_slice (R := fun (a : Ad) cs => ∃ (A : Option Addr) (c : Nat), TAt w (fun _ => True) a.sp.tags (.slice A a.sp.tags.length c) ∧ a.sp.tags.length ≤ 140737488355328 ∧ cs = [.int .u64 a.sp.hi, .int .u64 a.sp.lo, .int .u64 a.sp.id, .int .u64 a.sp.parent, .string a.sp.service, .string a.sp.name, .int .i64 a.sp.kind, .int .i64 a.sp.start, .int .i64 a.sp.length, .bool a.sp.fails, .slice A a.sp.tags.length c, .int .u64 a.up, .int .i64 a.shift, .int .i64 a.flag]) Tryd.underlying58 cellsOf108 (by decide) bytesOf108 (by decide) (fun fuel cs x h hw => open_ad fuel cs x h hw) h hw
  have each : ∀ i, ∃ T : Value, ∀ hi : i < l.length, (∃ A1 n1 c1, T = .slice A1 n1 c1) ∧ TAt w (fun _ => True) l[i].sp.tags T ∧ l[i].sp.tags.length ≤ 140737488355328 ∧ ∀ j, j < 14 → w.cell? ⟨b, o + i * 14 + j, none⟩ = [Value.int .u64 l[i].sp.hi, .int .u64 l[i].sp.lo, .int .u64 l[i].sp.id, .int .u64 l[i].sp.parent, .string l[i].sp.service, .string l[i].sp.name, .int .i64 l[i].sp.kind, .int .i64 l[i].sp.start, .int .i64 l[i].sp.length, .bool l[i].sp.fails, T, .int .u64 l[i].up, .int .i64 l[i].shift, .int .i64 l[i].flag][j]? := fun i => by
    by_cases hi : i < l.length
    · obtain ⟨cs, _, ⟨A1, c1, ht, htb, rfl⟩, h3⟩ := hc i hi
      exact ⟨_, fun _ => ⟨⟨_, _, _, rfl⟩, ht, htb, h3⟩⟩
    · exact ⟨undef, fun h => absurd h hi⟩
  obtain ⟨T, hT⟩ := Classical.axiomOfChoice each
  refine ⟨l, hb, fun a ha => ?_, A, c, b, o, T, rfl, hA, fun i hi => ?_⟩
  · obtain ⟨i, hi, rfl⟩ := List.getElem_of_mem ha
    exact (hT i hi).2.2.1
  · obtain ⟨h0, h1, _, h3⟩ := hT i hi
    exact ⟨h0, h1, by simpa using h3 0 (by omega), h3 1 (by omega), h3 2 (by omega), h3 3 (by omega), h3 4 (by omega), h3 5 (by omega), h3 6 (by omega), h3 7 (by omega), h3 8 (by omega), h3 9 (by omega), h3 10 (by omega), h3 11 (by omega), h3 12 (by omega), h3 13 (by omega)⟩
end
end Go.Proofs.YtnnhkajjifmlfaaDoor.Pl
