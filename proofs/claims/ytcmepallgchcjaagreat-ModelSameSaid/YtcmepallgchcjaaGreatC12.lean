/- The openers of a reply's parts. -/
import Derived.Test.YtcmepallgchcjaaGreatC11
namespace Go.Proofs.YtcmepallgchcjaaGreat
open Go.RowKit Go.ChangeShapes Go.WideShapes
theorem cellsOf27 : Tryz.prog.cellsOf 27 = 2 := by kernel_rfl
theorem cellsOf66 : Tryz.prog.cellsOf 66 = 2 := by kernel_rfl
theorem cellsOf58 : Tryz.prog.cellsOf 58 = 3 := by kernel_rfl
theorem cellsOf94 : Tryz.prog.cellsOf 94 = 4 := by kernel_rfl
theorem cellsOf43 : Tryz.prog.cellsOf 43 = 11 := by kernel_rfl
theorem cellsOf45 : Tryz.prog.cellsOf 45 = 14 := by kernel_rfl
theorem cellsOf52 : Tryz.prog.cellsOf 52 = 6 := by kernel_rfl
theorem cellsOf9 : Tryz.prog.cellsOf 9 = 1 := by kernel_rfl
theorem cellsOf25 : Tryz.prog.cellsOf 25 = 1 := by kernel_rfl
theorem cellsOf2 : Tryz.prog.cellsOf 2 = 1 := by kernel_rfl
theorem cellsOf3 : Tryz.prog.cellsOf 3 = 1 := by kernel_rfl
theorem cellsOf4 : Tryz.prog.cellsOf 4 = 1 := by kernel_rfl
theorem cellsOf28 : Tryz.prog.cellsOf 28 = 1 := by kernel_rfl
theorem cellsOf38 : Tryz.prog.cellsOf 38 = 1 := by kernel_rfl
theorem cellsOf48 : Tryz.prog.cellsOf 48 = 1 := by kernel_rfl
theorem cellsOf49 : Tryz.prog.cellsOf 49 = 1 := by kernel_rfl
theorem cellsOf50 : Tryz.prog.cellsOf 50 = 1 := by kernel_rfl
theorem bytesOf66 : Tryz.prog.bytesOf 66 = 32 := by kernel_rfl
theorem bytesOf58 : Tryz.prog.bytesOf 58 = 24 := by kernel_rfl
theorem bytesOf94 : Tryz.prog.bytesOf 94 = 48 := by kernel_rfl
theorem bytesOf45 : Tryz.prog.bytesOf 45 = 144 := by kernel_rfl
theorem bytesOf9 : Tryz.prog.bytesOf 9 = 16 := by kernel_rfl
section
variable {H : Type} {enc : TypeId × Value → H} {w : World} {sp : Nat → Bool} {hd : Bool}
instance : Inhabited Fd := ⟨⟨0, 0, 0⟩⟩
instance : Inhabited Ed := ⟨⟨0, ⟨#[]⟩, ⟨#[]⟩, 0⟩⟩
instance : Inhabited Ad := ⟨⟨⟨0, 0, 0, 0, ⟨#[]⟩, ⟨#[]⟩, 0, 0, 0, false, []⟩, 0, 0, 0⟩⟩
set_option maxRecDepth 100000 in
theorem open_tr (fuel : Nat) (cs : List Value) (x : DataW H × List MemPlace) (h : DataW.trod enc Tryz.prog w 0 sp hd fuel 27 cs = some x) (hw : ∀ n ∈ x.1.weights Tryz.prog 27, n ≤ reachBytes) : ∃ a b : Int, cs = [.int .u64 a, .int .u64 b] := by
  obtain ⟨xs, n, hfu, rfl, hlen, hxl, hf⟩ := DataW.trod_struct Tryz.underlying27 h
  rw [cellsOf27] at hlen
  obtain ⟨a0, a1, rfl⟩ : ∃ a0 a1, cs = [a0, a1] := by
    match cs, hlen with
    | [a0, a1], _ => exact ⟨a0, a1, rfl⟩
  obtain ⟨x0, x1, rfl⟩ : ∃ x0 x1, xs = [x0, x1] := by
    match xs, hxl with
    | [x0, x1], _ => exact ⟨x0, x1, rfl⟩
  simp only [DataW.weights, Tryz.underlying27, List.map_cons, List.map_nil, DataW.weightsEach, List.append_nil, List.mem_append] at hw
  have h0 : DataW.trod enc Tryz.prog w 0 sp hd n 25 [a0] = some x0 := by
    have := hf 0 _ rfl
    simpa [cellsOf25] using this
  obtain ⟨n0, e0, _, _⟩ := DataW.trod_int Tryz.underlying25 h0
  injection e0 with e0 _
  subst e0
  have h1 : DataW.trod enc Tryz.prog w 0 sp hd n 25 [a1] = some x1 := by
    have := hf 1 _ rfl
    simpa [cellsOf25] using this
  obtain ⟨n1, e1, _, _⟩ := DataW.trod_int Tryz.underlying25 h1
  injection e1 with e1 _
  subst e1
  exact ⟨n0, n1, rfl⟩
set_option maxRecDepth 100000 in
theorem open_tag (fuel : Nat) (cs : List Value) (x : DataW H × List MemPlace) (h : DataW.trod enc Tryz.prog w 0 sp hd fuel 66 cs = some x) (hw : ∀ n ∈ x.1.weights Tryz.prog 66, n ≤ reachBytes) : ∃ a : Tg, cs = [.string a.1, .string a.2] := by
  obtain ⟨xs, n, hfu, rfl, hlen, hxl, hf⟩ := DataW.trod_struct Tryz.underlying66 h
  rw [cellsOf66] at hlen
  obtain ⟨a0, a1, rfl⟩ : ∃ a0 a1, cs = [a0, a1] := by
    match cs, hlen with
    | [a0, a1], _ => exact ⟨a0, a1, rfl⟩
  obtain ⟨x0, x1, rfl⟩ : ∃ x0 x1, xs = [x0, x1] := by
    match xs, hxl with
    | [x0, x1], _ => exact ⟨x0, x1, rfl⟩
  simp only [DataW.weights, Tryz.underlying66, List.map_cons, List.map_nil, DataW.weightsEach, List.append_nil, List.mem_append] at hw
  have h0 : DataW.trod enc Tryz.prog w 0 sp hd n 9 [a0] = some x0 := by
    have := hf 0 _ rfl
    simpa [cellsOf9] using this
  obtain ⟨n0, e0, _, _⟩ := DataW.trod_string Tryz.underlying9 h0
  injection e0 with e0 _
  subst e0
  have h1 : DataW.trod enc Tryz.prog w 0 sp hd n 9 [a1] = some x1 := by
    have := hf 1 _ rfl
    simpa [cellsOf9] using this
  obtain ⟨n1, e1, _, _⟩ := DataW.trod_string Tryz.underlying9 h1
  injection e1 with e1 _
  subst e1
  exact ⟨(n0, n1), rfl⟩
/-- tags -/
theorem open_tags {fuel : Nat} {v : Value} {x : DataW H × List MemPlace} (h : DataW.trod enc Tryz.prog w 0 sp hd fuel 28 [v] = some x) (hw : ∀ n ∈ x.1.weights Tryz.prog 28, n ≤ reachBytes) :
    ∃ (l : List Tg) (A : Option Addr) (c : Nat), v = .slice A l.length c ∧ l.length ≤ 140737488355328 ∧ TAt w (fun _ => True) l (.slice A l.length c) := by
  obtain ⟨l, A, c, b, o, rfl, hb, hA, hc⟩ := open_slice (R := fun (a : Tg) cs => cs = [.string a.1, .string a.2]) Tryz.underlying28 cellsOf66 (by decide) bytesOf66 (by decide) (fun fuel cs x h hw => open_tag fuel cs x h hw) h hw
  refine ⟨l, A, c, rfl, hb, A, c, b, o, rfl, fun h => ⟨hA h, trivial⟩, fun i hi => ?_⟩
  obtain ⟨cs, _, rfl, h3⟩ := hc i hi
  exact ⟨by simpa using h3 0 (by omega), by simpa using h3 1 (by omega)⟩
set_option maxRecDepth 100000 in
theorem open_sp (fuel : Nat) (cs : List Value) (x : DataW H × List MemPlace) (h : DataW.trod enc Tryz.prog w 0 sp hd fuel 43 cs = some x) (hw : ∀ n ∈ x.1.weights Tryz.prog 43, n ≤ reachBytes) : ∃ (a : Sp) (A : Option Addr) (c : Nat), TAt w (fun _ => True) a.tags (.slice A a.tags.length c) ∧ a.tags.length ≤ 140737488355328 ∧ cs = [.int .u64 a.hi, .int .u64 a.lo, .int .u64 a.id, .int .u64 a.parent, .string a.service, .string a.name, .int .i64 a.kind, .int .i64 a.start, .int .i64 a.length, .bool a.fails, .slice A a.tags.length c] := by
  obtain ⟨xs, n, hfu, rfl, hlen, hxl, hf⟩ := DataW.trod_struct Tryz.underlying43 h
  rw [cellsOf43] at hlen
  obtain ⟨a0, a1, a2, a3, a4, a5, a6, a7, a8, a9, a10, rfl⟩ : ∃ a0 a1 a2 a3 a4 a5 a6 a7 a8 a9 a10, cs = [a0, a1, a2, a3, a4, a5, a6, a7, a8, a9, a10] := by
    match cs, hlen with
    | [a0, a1, a2, a3, a4, a5, a6, a7, a8, a9, a10], _ => exact ⟨a0, a1, a2, a3, a4, a5, a6, a7, a8, a9, a10, rfl⟩
  obtain ⟨x0, x1, x2, x3, x4, x5, x6, x7, x8, x9, rfl⟩ : ∃ x0 x1 x2 x3 x4 x5 x6 x7 x8 x9, xs = [x0, x1, x2, x3, x4, x5, x6, x7, x8, x9] := by
    match xs, hxl with
    | [x0, x1, x2, x3, x4, x5, x6, x7, x8, x9], _ => exact ⟨x0, x1, x2, x3, x4, x5, x6, x7, x8, x9, rfl⟩
  simp only [DataW.weights, Tryz.underlying43, List.map_cons, List.map_nil, DataW.weightsEach, List.append_nil, List.mem_append] at hw
  have h0 : DataW.trod enc Tryz.prog w 0 sp hd n 27 [a0, a1] = some x0 := by
    have := hf 0 _ rfl
    simpa [cellsOf27] using this
  obtain ⟨n0a, n0b, e0⟩ := open_tr n _ _ h0 (fun q hq => hw q (by simp [hq]))
  simp only [List.cons.injEq, and_true] at e0
  obtain ⟨rfl, rfl⟩ := e0
  have h1 : DataW.trod enc Tryz.prog w 0 sp hd n 25 [a2] = some x1 := by
    have := hf 1 _ rfl
    simpa [cellsOf25] using this
  obtain ⟨n1, e1, _, _⟩ := DataW.trod_int Tryz.underlying25 h1
  injection e1 with e1 _
  subst e1
  have h2 : DataW.trod enc Tryz.prog w 0 sp hd n 25 [a3] = some x2 := by
    have := hf 2 _ rfl
    simpa [cellsOf25] using this
  obtain ⟨n2, e2, _, _⟩ := DataW.trod_int Tryz.underlying25 h2
  injection e2 with e2 _
  subst e2
  have h3 : DataW.trod enc Tryz.prog w 0 sp hd n 9 [a4] = some x3 := by
    have := hf 3 _ rfl
    simpa [cellsOf9] using this
  obtain ⟨n3, e3, _, _⟩ := DataW.trod_string Tryz.underlying9 h3
  injection e3 with e3 _
  subst e3
  have h4 : DataW.trod enc Tryz.prog w 0 sp hd n 9 [a5] = some x4 := by
    have := hf 4 _ rfl
    simpa [cellsOf9] using this
  obtain ⟨n4, e4, _, _⟩ := DataW.trod_string Tryz.underlying9 h4
  injection e4 with e4 _
  subst e4
  have h5 : DataW.trod enc Tryz.prog w 0 sp hd n 3 [a6] = some x5 := by
    have := hf 5 _ rfl
    simpa [cellsOf3] using this
  obtain ⟨n5, e5, _, _⟩ := DataW.trod_int Tryz.underlying3 h5
  injection e5 with e5 _
  subst e5
  have h6 : DataW.trod enc Tryz.prog w 0 sp hd n 2 [a7] = some x6 := by
    have := hf 6 _ rfl
    simpa [cellsOf2] using this
  obtain ⟨n6, e6, _, _⟩ := DataW.trod_int Tryz.underlying2 h6
  injection e6 with e6 _
  subst e6
  have h7 : DataW.trod enc Tryz.prog w 0 sp hd n 2 [a8] = some x7 := by
    have := hf 7 _ rfl
    simpa [cellsOf2] using this
  obtain ⟨n7, e7, _, _⟩ := DataW.trod_int Tryz.underlying2 h7
  injection e7 with e7 _
  subst e7
  have h8 : DataW.trod enc Tryz.prog w 0 sp hd n 4 [a9] = some x8 := by
    have := hf 8 _ rfl
    simpa [cellsOf4] using this
  obtain ⟨n8, e8, _⟩ := DataW.trod_bool Tryz.underlying4 h8
  injection e8 with e8 _
  subst e8
  have h9 : DataW.trod enc Tryz.prog w 0 sp hd n 28 [a10] = some x9 := by
    have := hf 9 _ rfl
    simpa [cellsOf28] using this
  obtain ⟨tl, tA, tc, rfl, tb, tt⟩ := open_tags h9 (fun q hq => hw q (by simp [hq]))
  exact ⟨⟨n0a, n0b, n1, n2, n3, n4, n5, n6, n7, n8, tl⟩, tA, tc, tt, tb, rfl⟩
set_option maxRecDepth 100000 in
theorem open_ad (fuel : Nat) (cs : List Value) (x : DataW H × List MemPlace) (h : DataW.trod enc Tryz.prog w 0 sp hd fuel 45 cs = some x) (hw : ∀ n ∈ x.1.weights Tryz.prog 45, n ≤ reachBytes) : ∃ (a : Ad) (A : Option Addr) (c : Nat), TAt w (fun _ => True) a.sp.tags (.slice A a.sp.tags.length c) ∧ a.sp.tags.length ≤ 140737488355328 ∧ cs = [.int .u64 a.sp.hi, .int .u64 a.sp.lo, .int .u64 a.sp.id, .int .u64 a.sp.parent, .string a.sp.service, .string a.sp.name, .int .i64 a.sp.kind, .int .i64 a.sp.start, .int .i64 a.sp.length, .bool a.sp.fails, .slice A a.sp.tags.length c, .int .u64 a.up, .int .i64 a.shift, .int .i64 a.flag] := by
  obtain ⟨xs, n, hfu, rfl, hlen, hxl, hf⟩ := DataW.trod_struct Tryz.underlying45 h
  rw [cellsOf45] at hlen
  obtain ⟨a0, a1, a2, a3, a4, a5, a6, a7, a8, a9, a10, a11, a12, a13, rfl⟩ : ∃ a0 a1 a2 a3 a4 a5 a6 a7 a8 a9 a10 a11 a12 a13, cs = [a0, a1, a2, a3, a4, a5, a6, a7, a8, a9, a10, a11, a12, a13] := by
    match cs, hlen with
    | [a0, a1, a2, a3, a4, a5, a6, a7, a8, a9, a10, a11, a12, a13], _ => exact ⟨a0, a1, a2, a3, a4, a5, a6, a7, a8, a9, a10, a11, a12, a13, rfl⟩
  obtain ⟨x0, x1, x2, x3, rfl⟩ : ∃ x0 x1 x2 x3, xs = [x0, x1, x2, x3] := by
    match xs, hxl with
    | [x0, x1, x2, x3], _ => exact ⟨x0, x1, x2, x3, rfl⟩
  simp only [DataW.weights, Tryz.underlying45, List.map_cons, List.map_nil, DataW.weightsEach, List.append_nil, List.mem_append] at hw
  have h0 : DataW.trod enc Tryz.prog w 0 sp hd n 43 [a0, a1, a2, a3, a4, a5, a6, a7, a8, a9, a10] = some x0 := by
    have := hf 0 _ rfl
    simpa [cellsOf43] using this
  obtain ⟨s0, tA, tc, tt, tb, e0⟩ := open_sp n _ _ h0 (fun q hq => hw q (by simp [hq]))
  simp only [List.cons.injEq, and_true] at e0
  obtain ⟨rfl, rfl, rfl, rfl, rfl, rfl, rfl, rfl, rfl, rfl, rfl⟩ := e0
  have h1 : DataW.trod enc Tryz.prog w 0 sp hd n 25 [a11] = some x1 := by
    have := hf 1 _ rfl
    simpa [cellsOf25] using this
  obtain ⟨n1, e1, _, _⟩ := DataW.trod_int Tryz.underlying25 h1
  injection e1 with e1 _
  subst e1
  have h2 : DataW.trod enc Tryz.prog w 0 sp hd n 2 [a12] = some x2 := by
    have := hf 2 _ rfl
    simpa [cellsOf2] using this
  obtain ⟨n2, e2, _, _⟩ := DataW.trod_int Tryz.underlying2 h2
  injection e2 with e2 _
  subst e2
  have h3 : DataW.trod enc Tryz.prog w 0 sp hd n 3 [a13] = some x3 := by
    have := hf 3 _ rfl
    simpa [cellsOf3] using this
  obtain ⟨n3, e3, _, _⟩ := DataW.trod_int Tryz.underlying3 h3
  injection e3 with e3 _
  subst e3
  exact ⟨⟨s0, n1, n2, n3⟩, tA, tc, tt, tb, rfl⟩
/-- adjusted spans -/
theorem open_ads {fuel : Nat} {v : Value} {x : DataW H × List MemPlace} (h : DataW.trod enc Tryz.prog w 0 sp hd fuel 38 [v] = some x) (hw : ∀ n ∈ x.1.weights Tryz.prog 38, n ≤ reachBytes) :
    ∃ l : List Ad, l.length ≤ 140737488355328 ∧ ABd l ∧ AAt w l v := by
  obtain ⟨l, A, c, b, o, rfl, hb, hA, hc⟩ := open_slice (R := fun (a : Ad) cs => ∃ (A : Option Addr) (c : Nat), TAt w (fun _ => True) a.sp.tags (.slice A a.sp.tags.length c) ∧ a.sp.tags.length ≤ 140737488355328 ∧ cs = [.int .u64 a.sp.hi, .int .u64 a.sp.lo, .int .u64 a.sp.id, .int .u64 a.sp.parent, .string a.sp.service, .string a.sp.name, .int .i64 a.sp.kind, .int .i64 a.sp.start, .int .i64 a.sp.length, .bool a.sp.fails, .slice A a.sp.tags.length c, .int .u64 a.up, .int .i64 a.shift, .int .i64 a.flag]) Tryz.underlying38 cellsOf45 (by decide) bytesOf45 (by decide) (fun fuel cs x h hw => open_ad fuel cs x h hw) h hw
  have each : ∀ i, ∃ T : Value, ∀ hi : i < l.length, (∃ A1 n1 c1, T = .slice A1 n1 c1) ∧ TAt w (fun _ => True) l[i].sp.tags T ∧ l[i].sp.tags.length ≤ 140737488355328 ∧ ∀ j, j < 14 → w.cell? ⟨b, o + i * 14 + j, none⟩ = [Value.int .u64 l[i].sp.hi, .int .u64 l[i].sp.lo, .int .u64 l[i].sp.id, .int .u64 l[i].sp.parent, .string l[i].sp.service, .string l[i].sp.name, .int .i64 l[i].sp.kind, .int .i64 l[i].sp.start, .int .i64 l[i].sp.length, .bool l[i].sp.fails, T, .int .u64 l[i].up, .int .i64 l[i].shift, .int .i64 l[i].flag][j]? := fun i => by
    by_cases hi : i < l.length
    · obtain ⟨cs, _, ⟨A1, c1, ht, htb, rfl⟩, h3⟩ := hc i hi
      exact ⟨_, fun _ => ⟨⟨_, _, _, rfl⟩, ht, htb, h3⟩⟩
    · exact ⟨undef, fun h => absurd h hi⟩
  obtain ⟨T, hT⟩ := Classical.axiomOfChoice each
  refine ⟨l, hb, fun a ha => ?_, A, c, b, o, T, rfl, hA, fun i hi => ?_⟩
  · obtain ⟨i, hi, rfl⟩ := List.getElem_of_mem ha
    exact (hT i hi).2.2.1
  · obtain ⟨h0, h1, _, h3⟩ := hT i hi
    exact ⟨h0, h1, by simpa using h3 0 (by omega), h3 1 (by omega), h3 2 (by omega), h3 3 (by omega), h3 4 (by omega), h3 5 (by omega), h3 6 (by omega), h3 7 (by omega), h3 8 (by omega), h3 9 (by omega), h3 10 (by omega), h3 11 (by omega), h3 12 (by omega), h3 13 (by omega)⟩
set_option maxRecDepth 100000 in
theorem open_fd (fuel : Nat) (cs : List Value) (x : DataW H × List MemPlace) (h : DataW.trod enc Tryz.prog w 0 sp hd fuel 58 cs = some x) (hw : ∀ n ∈ x.1.weights Tryz.prog 58, n ≤ reachBytes) : ∃ a : Fd, cs = [.int .u64 a.hi, .int .u64 a.lo, .int .i64 a.start] := by
  obtain ⟨xs, n, hfu, rfl, hlen, hxl, hf⟩ := DataW.trod_struct Tryz.underlying58 h
  rw [cellsOf58] at hlen
  obtain ⟨a0, a1, a2, rfl⟩ : ∃ a0 a1 a2, cs = [a0, a1, a2] := by
    match cs, hlen with
    | [a0, a1, a2], _ => exact ⟨a0, a1, a2, rfl⟩
  obtain ⟨x0, x1, rfl⟩ : ∃ x0 x1, xs = [x0, x1] := by
    match xs, hxl with
    | [x0, x1], _ => exact ⟨x0, x1, rfl⟩
  simp only [DataW.weights, Tryz.underlying58, List.map_cons, List.map_nil, DataW.weightsEach, List.append_nil, List.mem_append] at hw
  have h0 : DataW.trod enc Tryz.prog w 0 sp hd n 27 [a0, a1] = some x0 := by
    have := hf 0 _ rfl
    simpa [cellsOf27] using this
  obtain ⟨n0a, n0b, e0⟩ := open_tr n _ _ h0 (fun q hq => hw q (by simp [hq]))
  simp only [List.cons.injEq, and_true] at e0
  obtain ⟨rfl, rfl⟩ := e0
  have h1 : DataW.trod enc Tryz.prog w 0 sp hd n 2 [a2] = some x1 := by
    have := hf 1 _ rfl
    simpa [cellsOf2] using this
  obtain ⟨n1, e1, _, _⟩ := DataW.trod_int Tryz.underlying2 h1
  injection e1 with e1 _
  subst e1
  exact ⟨⟨n0a, n0b, n1⟩, rfl⟩
theorem open_fds {fuel : Nat} {v : Value} {x : DataW H × List MemPlace} (h : DataW.trod enc Tryz.prog w 0 sp hd fuel 48 [v] = some x) (hw : ∀ n ∈ x.1.weights Tryz.prog 48, n ≤ reachBytes) :
    ∃ l : List Fd, l.length ≤ 140737488355328 ∧ FAt w l v := by
  obtain ⟨l, A, c, b, o, rfl, hb, hA, hc⟩ := open_slice (R := fun (a : Fd) cs => cs = [.int .u64 a.hi, .int .u64 a.lo, .int .i64 a.start]) Tryz.underlying48 cellsOf58 (by decide) bytesOf58 (by decide) (fun fuel cs x h hw => open_fd fuel cs x h hw) h hw
  refine ⟨l, hb, A, c, b, o, rfl, hA, fun i hi => ?_⟩
  obtain ⟨cs, _, rfl, h3⟩ := hc i hi
  exact ⟨by simpa using h3 0 (by omega), h3 1 (by omega), h3 2 (by omega)⟩
set_option maxRecDepth 100000 in
theorem open_ed (fuel : Nat) (cs : List Value) (x : DataW H × List MemPlace) (h : DataW.trod enc Tryz.prog w 0 sp hd fuel 94 cs = some x) (hw : ∀ n ∈ x.1.weights Tryz.prog 94, n ≤ reachBytes) : ∃ a : Ed, cs = [.int .u64 a.bucket, .string a.from_, .string a.to_, .int .u64 a.n] := by
  obtain ⟨xs, n, hfu, rfl, hlen, hxl, hf⟩ := DataW.trod_struct Tryz.underlying94 h
  rw [cellsOf94] at hlen
  obtain ⟨a0, a1, a2, a3, rfl⟩ : ∃ a0 a1 a2 a3, cs = [a0, a1, a2, a3] := by
    match cs, hlen with
    | [a0, a1, a2, a3], _ => exact ⟨a0, a1, a2, a3, rfl⟩
  obtain ⟨x0, x1, x2, x3, rfl⟩ : ∃ x0 x1 x2 x3, xs = [x0, x1, x2, x3] := by
    match xs, hxl with
    | [x0, x1, x2, x3], _ => exact ⟨x0, x1, x2, x3, rfl⟩
  simp only [DataW.weights, Tryz.underlying94, List.map_cons, List.map_nil, DataW.weightsEach, List.append_nil, List.mem_append] at hw
  have h0 : DataW.trod enc Tryz.prog w 0 sp hd n 25 [a0] = some x0 := by
    have := hf 0 _ rfl
    simpa [cellsOf25] using this
  obtain ⟨n0, e0, _, _⟩ := DataW.trod_int Tryz.underlying25 h0
  injection e0 with e0 _
  subst e0
  have h1 : DataW.trod enc Tryz.prog w 0 sp hd n 9 [a1] = some x1 := by
    have := hf 1 _ rfl
    simpa [cellsOf9] using this
  obtain ⟨n1, e1, _, _⟩ := DataW.trod_string Tryz.underlying9 h1
  injection e1 with e1 _
  subst e1
  have h2 : DataW.trod enc Tryz.prog w 0 sp hd n 9 [a2] = some x2 := by
    have := hf 2 _ rfl
    simpa [cellsOf9] using this
  obtain ⟨n2, e2, _, _⟩ := DataW.trod_string Tryz.underlying9 h2
  injection e2 with e2 _
  subst e2
  have h3 : DataW.trod enc Tryz.prog w 0 sp hd n 25 [a3] = some x3 := by
    have := hf 3 _ rfl
    simpa [cellsOf25] using this
  obtain ⟨n3, e3, _, _⟩ := DataW.trod_int Tryz.underlying25 h3
  injection e3 with e3 _
  subst e3
  exact ⟨⟨n0, n1, n2, n3⟩, rfl⟩
theorem open_eds {fuel : Nat} {v : Value} {x : DataW H × List MemPlace} (h : DataW.trod enc Tryz.prog w 0 sp hd fuel 50 [v] = some x) (hw : ∀ n ∈ x.1.weights Tryz.prog 50, n ≤ reachBytes) :
    ∃ l : List Ed, l.length ≤ 140737488355328 ∧ EAt w l v := by
  obtain ⟨l, A, c, b, o, rfl, hb, hA, hc⟩ := open_slice (R := fun (a : Ed) cs => cs = [.int .u64 a.bucket, .string a.from_, .string a.to_, .int .u64 a.n]) Tryz.underlying50 cellsOf94 (by decide) bytesOf94 (by decide) (fun fuel cs x h hw => open_ed fuel cs x h hw) h hw
  refine ⟨l, hb, A, c, b, o, rfl, hA, fun i hi => ?_⟩
  obtain ⟨cs, _, rfl, h3⟩ := hc i hi
  exact ⟨by simpa using h3 0 (by omega), h3 1 (by omega), h3 2 (by omega), h3 3 (by omega)⟩
theorem open_text (fuel : Nat) (cs : List Value) (x : DataW H × List MemPlace) (h : DataW.trod enc Tryz.prog w 0 sp hd fuel 9 cs = some x) (_ : ∀ n ∈ x.1.weights Tryz.prog 9, n ≤ reachBytes) : ∃ a : ByteArray, cs = [.string a] := by
  obtain ⟨s, e, _, _⟩ := DataW.trod_string Tryz.underlying9 h
  exact ⟨s, e⟩
theorem open_texts {fuel : Nat} {v : Value} {x : DataW H × List MemPlace} (h : DataW.trod enc Tryz.prog w 0 sp hd fuel 49 [v] = some x) (hw : ∀ n ∈ x.1.weights Tryz.prog 49, n ≤ reachBytes) :
    ∃ l : List ByteArray, l.length ≤ 140737488355328 ∧ SAt w l v := by
  obtain ⟨l, A, c, b, o, rfl, hb, hA, hc⟩ := open_slice (R := fun (a : ByteArray) cs => cs = [.string a]) Tryz.underlying49 cellsOf9 (by decide) bytesOf9 (by decide) (fun fuel cs x h hw => open_text fuel cs x h hw) h hw
  refine ⟨l, hb, A, c, b, o, rfl, hA, fun i hi => ?_⟩
  obtain ⟨cs, _, rfl, h3⟩ := hc i hi
  have := h3 0 (by omega)
  simpa using this
set_option maxRecDepth 100000 in
theorem open_rp (fuel : Nat) (cs : List Value) (x : DataW H × List MemPlace) (h : DataW.trod enc Tryz.prog w 0 sp hd fuel 52 cs = some x) (hw : ∀ n ∈ x.1.weights Tryz.prog 52, n ≤ reachBytes) : ∃ (a : Rp) (v3 v4 v5 v6 : Value), RpBd a ∧ RAt w a v3 v4 v5 v6 ∧ cs = [.int .i64 a.status, .int .i64 a.n, v3, v4, v5, v6] := by
  obtain ⟨xs, n, hfu, rfl, hlen, hxl, hf⟩ := DataW.trod_struct Tryz.underlying52 h
  rw [cellsOf52] at hlen
  obtain ⟨a0, a1, a2, a3, a4, a5, rfl⟩ : ∃ a0 a1 a2 a3 a4 a5, cs = [a0, a1, a2, a3, a4, a5] := by
    match cs, hlen with
    | [a0, a1, a2, a3, a4, a5], _ => exact ⟨a0, a1, a2, a3, a4, a5, rfl⟩
  obtain ⟨x0, x1, x2, x3, x4, x5, rfl⟩ : ∃ x0 x1 x2 x3 x4 x5, xs = [x0, x1, x2, x3, x4, x5] := by
    match xs, hxl with
    | [x0, x1, x2, x3, x4, x5], _ => exact ⟨x0, x1, x2, x3, x4, x5, rfl⟩
  simp only [DataW.weights, Tryz.underlying52, List.map_cons, List.map_nil, DataW.weightsEach, List.append_nil, List.mem_append] at hw
  have h0 : DataW.trod enc Tryz.prog w 0 sp hd n 3 [a0] = some x0 := by
    have := hf 0 _ rfl
    simpa [cellsOf3] using this
  obtain ⟨n0, e0, _, _⟩ := DataW.trod_int Tryz.underlying3 h0
  injection e0 with e0 _
  subst e0
  have h1 : DataW.trod enc Tryz.prog w 0 sp hd n 3 [a1] = some x1 := by
    have := hf 1 _ rfl
    simpa [cellsOf3] using this
  obtain ⟨n1, e1, _, _⟩ := DataW.trod_int Tryz.underlying3 h1
  injection e1 with e1 _
  subst e1
  have h2 : DataW.trod enc Tryz.prog w 0 sp hd n 38 [a2] = some x2 := by
    have := hf 2 _ rfl
    simpa [cellsOf38] using this
  obtain ⟨lA, bA, bB, hA⟩ := open_ads h2 (fun q hq => hw q (by simp [hq]))
  have h3 : DataW.trod enc Tryz.prog w 0 sp hd n 48 [a3] = some x3 := by
    have := hf 3 _ rfl
    simpa [cellsOf48] using this
  obtain ⟨lF, bF, hF⟩ := open_fds h3 (fun q hq => hw q (by simp [hq]))
  have h4 : DataW.trod enc Tryz.prog w 0 sp hd n 49 [a4] = some x4 := by
    have := hf 4 _ rfl
    simpa [cellsOf49] using this
  obtain ⟨lS, bS, hS⟩ := open_texts h4 (fun q hq => hw q (by simp [hq]))
  have h5 : DataW.trod enc Tryz.prog w 0 sp hd n 50 [a5] = some x5 := by
    have := hf 5 _ rfl
    simpa [cellsOf50] using this
  obtain ⟨lE, bE, hE⟩ := open_eds h5 (fun q hq => hw q (by simp [hq]))
  exact ⟨⟨n0, n1, lA, lF, lS, lE⟩, _, _, _, _, ⟨bA, bF, bS, bE, bB⟩, ⟨hA, hF, hS, hE⟩, rfl⟩
end
end Go.Proofs.YtcmepallgchcjaaGreat
