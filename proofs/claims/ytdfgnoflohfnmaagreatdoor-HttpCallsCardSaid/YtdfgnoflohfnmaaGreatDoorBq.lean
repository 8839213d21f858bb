/- HTTP: requests, responses among the arguments opened. -/
import Derived.Test.YtdfgnoflohfnmaaGreatDoorBm
import Derived.Test.YtdfgnoflohfnmaaGreatDoorHu
import Derived.WideShapes
import Derived.SizedLaws
namespace Go.Proofs.YtdfgnoflohfnmaaGreatDoor.Hx
open Go.RowKit Go.ChangeShapes Go.WideShapes Go.Maps
theorem reach_le' : reachBytes ≤ 140737488355328 := by unfold reachBytes; omega
theorem add_at (b o q : Nat) : (⟨b, o, none⟩ : Addr).add q = ⟨b, o + q, none⟩ := by unfold Addr.add; split <;> simp_all
section
variable {H : Type} {enc : TypeId × Value → H} {w : World} {sp : Nat → Bool} {hd : Bool}
theorem weightsAll_mem {P : Program} {e : TypeId} : ∀ {l : List (DataW H)} {i : Nat} {d : DataW H}, l[i]? = some d → ∀ n ∈ d.weights P e, n ∈ DataW.weightsAll P e l
  | d0 :: r, 0, d, h, n, hn => by
    simp only [List.getElem?_cons_zero, Option.some.injEq] at h
    subst h
    rw [DataW.weightsAll]
    exact List.mem_append.2 (.inl hn)
  | d0 :: r, i + 1, d, h, n, hn => by
    simp only [List.getElem?_cons_succ] at h
    rw [DataW.weightsAll]
    exact List.mem_append.2 (.inr (weightsAll_mem h n hn))
  | [], _, _, h, _, _ => by simp at h
/-- what an element's opener gives -/
def Opens (H : Type) (enc : TypeId × Value → H) (w : World) (sp : Nat → Bool) (hd : Bool) {α : Type} (e : TypeId) (R : α → List Value → Prop) : Prop :=
  ∀ (fuel : Nat) (cs : List Value) (x : DataW H × List MemPlace), DataW.trod enc Tryz.prog w 0 sp hd fuel e cs = some x → (∀ n ∈ x.1.weights Tryz.prog e, n ≤ reachBytes) → ∃ a : α, R a cs
set_option maxRecDepth 100000 in
theorem open_slice {α : Type} [Inhabited α] {t e : TypeId} {K B : Nat} {R : α → List Value → Prop} (hT : Tryz.prog.underlying t = some (.slice e)) (hK : Tryz.prog.cellsOf e = K) (hK0 : 0 < K) (hB : Tryz.prog.bytesOf e = B) (hB0 : 0 < B)
    (ho : Opens H enc w sp hd e R) {fuel : Nat} {v : Value} {x : DataW H × List MemPlace} (h : DataW.trod enc Tryz.prog w 0 sp hd fuel t [v] = some x) (hw : ∀ n ∈ x.1.weights Tryz.prog t, n ≤ reachBytes) :
    ∃ (l : List α) (A : Option Addr) (c b o : Nat), v = .slice A l.length c ∧ l.length ≤ 140737488355328 ∧ (0 < l.length → A = some ⟨b, o, none⟩) ∧
      ∀ i (hi : i < l.length), ∃ cs : List Value, cs.length = K ∧ R l[i] cs ∧ ∀ j, j < K → w.cell? ⟨b, o + i * K + j, none⟩ = cs[j]? := by
  have hR := reach_le'
  rcases DataW.trod_slice hT h with ⟨e4, hx4⟩ | ⟨a, len, cap, elems, rest, n', hn', e4, hx4, _, hl, hmx, hel, helem, _, _⟩
  · injection e4 with e4 _
    subst e4
    exact ⟨[], none, 0, 0, 0, rfl, Nat.zero_le _, fun h => absurd h (by simp), fun i hi => absurd hi (by simp)⟩
  · injection e4 with e4 _
    subst e4
    rw [hK] at helem
    have hbig : len ≤ 140737488355328 := by
      have h1 := hw ((elems.length + rest.length) * B) (by
        subst hx4
        simp [DataW.weights, hT, hB])
      have h2 : elems.length + rest.length ≤ (elems.length + rest.length) * B := Nat.le_mul_of_pos_right _ hB0
      omega
    have each : ∀ i, ∃ (p : α × List Value), i < len → p.2.length = K ∧ R p.1 p.2 ∧ ∀ j, j < K → w.cell? ((a.add (i * K)).add j) = p.2[j]? := by
      intro i
      by_cases hi : i < len
      · have hi2 := helem i hi
        have hlt : i < elems.length := by omega
        rw [List.getElem?_eq_getElem hlt, Option.bind_eq_some_iff] at hi2
        obtain ⟨cs', hcs, hy⟩ := hi2
        obtain ⟨_, hlen, hcell⟩ := World.cells?_some hcs
        obtain ⟨q, hq⟩ := ho n' cs' _ hy (fun m hm => by
          refine hw m ?_
          subst hx4
          have hg : (elems.map (·.1))[i]? = some (elems[i]).1 := by rw [List.getElem?_map, List.getElem?_eq_getElem hlt]; rfl
          have := weightsAll_mem (P := Tryz.prog) (e := e) hg m hm
          simp only [DataW.weights, hT, List.mem_cons, List.mem_append]
          simp [this])
        exact ⟨(q, cs'), fun _ => ⟨hlen, hq, fun j hj => hcell j (by omega)⟩⟩
      · exact ⟨(default, []), fun h => absurd h hi⟩
    obtain ⟨f, hf⟩ := Classical.axiomOfChoice each
    have hll : ((List.range len).map fun i => (f i).1).length = len := by simp
    by_cases hl0 : 0 < len
    · obtain ⟨hq1, _, hq3⟩ := hf 0 hl0
      obtain ⟨b, o, spot⟩ := a
      have c0 := hq3 0 hK0
      rw [List.getElem?_eq_getElem (by omega)] at c0
      have hspot : spot = none := by simpa [Addr.add] using World.cell?_spot c0
      subst hspot
      refine ⟨(List.range len).map fun i => (f i).1, some ⟨b, o, none⟩, cap, b, o, by rw [hll], by rw [hll]; exact hbig, fun _ => rfl, fun i hi => ?_⟩
      rw [hll] at hi
      obtain ⟨h1, h2, h3⟩ := hf i hi
      refine ⟨(f i).2, h1, by simpa using h2, fun j hj => ?_⟩
      have := h3 j hj
      simp only [add_at] at this
      exact this
    · have : len = 0 := by omega
      subst this
      exact ⟨[], some a, cap, 0, 0, rfl, Nat.zero_le _, fun h => absurd h (by simp), fun i hi => absurd hi (by simp)⟩
end
theorem bytesOf_u8 : Tryz.prog.bytesOf 5 = 1 := by kernel_rfl
section
variable {H : Type} {enc : TypeId × Value → H} {w : World} {sp : Nat → Bool} {hd : Bool}
/-- bytes, and how many there can be -/
theorem open_piece (fuel : Nat) (cs : List Value) (x : DataW H × List MemPlace) (h : DataW.trod enc Tryz.prog w 0 sp hd fuel 22 cs = some x) (hw : ∀ n ∈ x.1.weights Tryz.prog 22, n ≤ reachBytes) :
    ∃ bs : Bs, ∃ u k, cs = [.slice u bs.length k] ∧ BV w (.slice u bs.length k) bs ∧ bs.length ≤ 140737488355328 := by
  have hR := reach_le'
  obtain ⟨v, bs, rfl, A, c, rfl, h1, h2⟩ := open_bytes h
  refine ⟨bs, A, c, rfl, ⟨A, c, rfl, h1, h2⟩, ?_⟩
  rcases DataW.trod_slice Tryz.underlying22 h with ⟨e4, _⟩ | ⟨a, len, cap, elems, rest, n', hn', e4, hx4, _, _, _, hel, _, _, _⟩
  · injection e4 with e4 _
    injection e4 with _ e5 _
    omega
  · injection e4 with e4 _
    injection e4 with _ e5 _
    have h3 := hw ((elems.length + rest.length) * 1) (by
      subst hx4
      simp [DataW.weights, Tryz.underlying22, bytesOf_u8])
    omega
end

theorem cells_str : Tryz.prog.cellsOf 9 = 1 := by kernel_rfl
theorem cells_bool : Tryz.prog.cellsOf 4 = 1 := by kernel_rfl
theorem cells_int : Tryz.prog.cellsOf 3 = 1 := by kernel_rfl
theorem cells_bytes : Tryz.prog.cellsOf 22 = 1 := by kernel_rfl
theorem cells_pars : Tryz.prog.cellsOf 30 = 1 := by kernel_rfl
theorem cells_par : Tryz.prog.cellsOf 60 = 2 := by kernel_rfl
theorem cells_req : Tryz.prog.cellsOf 32 = 5 := by kernel_rfl
theorem cells_resp : Tryz.prog.cellsOf 44 = 4 := by kernel_rfl
theorem bytes_par : Tryz.prog.bytesOf 60 = 32 := by kernel_rfl
theorem ba_back (s : ByteArray) : (⟨s.data.toList.toArray⟩ : ByteArray) = s := by obtain ⟨⟨l⟩⟩ := s; rfl
theorem BV.bsT {w : World} {v : Value} {bs : Bs} (h : BV w v bs) : BS w (fun _ => True) v bs := by
  obtain ⟨A, c, e, h1, h2⟩ := h
  exact ⟨A, c, e, h1, fun h0 => by obtain ⟨b, o, e, hb⟩ := h2 h0; exact ⟨b, o, e, trivial, hb⟩⟩
instance : Inhabited Rq := ⟨rq0⟩
section
variable {H : Type} {enc : TypeId × Value → H} {w : World} {sp : Nat → Bool} {hd : Bool}
theorem open_text2 (fuel : Nat) (cs : List Value) (x : DataW H × List MemPlace) (h : DataW.trod enc Tryz.prog w 0 sp hd fuel 9 cs = some x) (hw : ∀ n ∈ x.1.weights Tryz.prog 9, n ≤ reachBytes) : ∃ s : ByteArray, cs = [.string s] ∧ s.data.toList.length ≤ 140737488355328 := by
  obtain ⟨s, e, hx, _⟩ := DataW.trod_string Tryz.underlying9 h
  refine ⟨s, e, Nat.le_trans (hw _ ?_) reach_le'⟩
  rw [hx]
  simp [DataW.weights]
set_option maxRecDepth 100000 in
theorem open_par (fuel : Nat) (cs : List Value) (x : DataW H × List MemPlace) (h : DataW.trod enc Tryz.prog w 0 sp hd fuel 60 cs = some x) (hw : ∀ n ∈ x.1.weights Tryz.prog 60, n ≤ reachBytes) : ∃ a : Bs × Bs, cs = [.string ⟨a.1.toArray⟩, .string ⟨a.2.toArray⟩] := by
  obtain ⟨xs, n, hfu, rfl, hlen, hxl, hf⟩ := DataW.trod_struct Tryz.underlying60 h
  rw [cells_par] at hlen
  obtain ⟨a0, a1, rfl⟩ : ∃ a0 a1, cs = [a0, a1] := by
    match cs, hlen with
    | [a0, a1], _ => exact ⟨a0, a1, rfl⟩
  obtain ⟨x0, x1, rfl⟩ : ∃ x0 x1, xs = [x0, x1] := by
    match xs, hxl with
    | [x0, x1], _ => exact ⟨x0, x1, rfl⟩
  simp only [DataW.weights, Tryz.underlying60, List.map_cons, List.map_nil, DataW.weightsEach, List.append_nil, List.mem_append] at hw
  have h0 : DataW.trod enc Tryz.prog w 0 sp hd n 9 [a0] = some x0 := by
    have := hf 0 _ rfl
    simpa [cells_str] using this
  obtain ⟨n0, e0, z0⟩ := open_text2 n _ _ h0 (fun q hq => hw q (by simp [hq]))
  injection e0 with e0 _
  subst e0
  have h1 : DataW.trod enc Tryz.prog w 0 sp hd n 9 [a1] = some x1 := by
    have := hf 1 _ rfl
    simpa [cells_str] using this
  obtain ⟨n1, e1, z1⟩ := open_text2 n _ _ h1 (fun q hq => hw q (by simp [hq]))
  injection e1 with e1 _
  subst e1
  exact ⟨(n0.data.toList, n1.data.toList), by rw [ba_back, ba_back]⟩
theorem open_pars {fuel : Nat} {v : Value} {x : DataW H × List MemPlace} (h : DataW.trod enc Tryz.prog w 0 sp hd fuel 30 [v] = some x) (hw : ∀ n ∈ x.1.weights Tryz.prog 30, n ≤ reachBytes) : ∃ q : Pr, (∃ A c, v = .slice A q.length c) ∧ QAt w (fun _ => True) v q := by
  obtain ⟨l, A, c, b, o, rfl, hb, hA, hx⟩ := open_slice (R := fun (a : Bs × Bs) cs => cs = [.string ⟨a.1.toArray⟩, .string ⟨a.2.toArray⟩]) Tryz.underlying30 cells_par (by decide) bytes_par (by decide) (fun fuel cs x h hw => open_par fuel cs x h hw) h hw
  refine ⟨l, ⟨A, c, rfl⟩, A, c, b, o, rfl, by unfold maxLen; omega, fun h0 => ?_, fun i hi => ?_⟩
  · refine ⟨hA h0, trivial, ?_⟩
    obtain ⟨cs, _, rfl, h3⟩ := hx 0 h0
    have := h3 0 (by omega)
    exact block_lt (by simpa using this)
  · obtain ⟨cs, _, rfl, h3⟩ := hx i hi
    exact ⟨h3 0 (by omega), h3 1 (by omega)⟩
/-- how great a request is in memory at most -/
def RqB (r : Rq) : Prop := r.m.length ≤ 1000000000000000 ∧ r.p.length ≤ 1000000000000000 ∧ r.body.length ≤ 1000000000000000
set_option maxRecDepth 100000 in
theorem open_req (fuel : Nat) (cs : List Value) (x : DataW H × List MemPlace) (h : DataW.trod enc Tryz.prog w 0 sp hd fuel 32 cs = some x) (hw : ∀ n ∈ x.1.weights Tryz.prog 32, n ≤ reachBytes) : ∃ (r : Rq) (y : R5), cs = y.cells ∧ RA w (fun _ => True) r y ∧ RqB r := by
  obtain ⟨xs, n, hfu, rfl, hlen, hxl, hf⟩ := DataW.trod_struct Tryz.underlying32 h
  rw [cells_req] at hlen
  obtain ⟨a0, a1, a2, a3, a4, rfl⟩ : ∃ a0 a1 a2 a3 a4, cs = [a0, a1, a2, a3, a4] := by
    match cs, hlen with
    | [a0, a1, a2, a3, a4], _ => exact ⟨a0, a1, a2, a3, a4, rfl⟩
  obtain ⟨x0, x1, x2, x3, x4, rfl⟩ : ∃ x0 x1 x2 x3 x4, xs = [x0, x1, x2, x3, x4] := by
    match xs, hxl with
    | [x0, x1, x2, x3, x4], _ => exact ⟨x0, x1, x2, x3, x4, rfl⟩
  simp only [DataW.weights, Tryz.underlying32, List.map_cons, List.map_nil, DataW.weightsEach, List.append_nil, List.mem_append] at hw
  have h0 : DataW.trod enc Tryz.prog w 0 sp hd n 9 [a0] = some x0 := by
    have := hf 0 _ rfl
    simpa [cells_str] using this
  obtain ⟨n0, e0, z0⟩ := open_text2 n _ _ h0 (fun q hq => hw q (by simp [hq]))
  injection e0 with e0 _
  subst e0
  have h1 : DataW.trod enc Tryz.prog w 0 sp hd n 9 [a1] = some x1 := by
    have := hf 1 _ rfl
    simpa [cells_str] using this
  obtain ⟨n1, e1, z1⟩ := open_text2 n _ _ h1 (fun q hq => hw q (by simp [hq]))
  injection e1 with e1 _
  subst e1
  have h2 : DataW.trod enc Tryz.prog w 0 sp hd n 30 [a2] = some x2 := by
    have := hf 2 _ rfl
    simpa [cells_pars] using this
  obtain ⟨q, ⟨A, c, rfl⟩, hq⟩ := open_pars h2 (fun q hq => hw q (by simp [hq]))
  have h3 : DataW.trod enc Tryz.prog w 0 sp hd n 4 [a3] = some x3 := by
    have := hf 3 _ rfl
    simpa [cells_bool] using this
  obtain ⟨n3, e3, _⟩ := DataW.trod_bool Tryz.underlying4 h3
  injection e3 with e3 _
  subst e3
  have h4 : DataW.trod enc Tryz.prog w 0 sp hd n 22 [a4] = some x4 := by
    have := hf 4 _ rfl
    simpa [cells_bytes] using this
  obtain ⟨bs4, u4, k4, e4, hb4, l4⟩ := open_piece n _ _ h4 (fun q hq => hw q (by simp [hq]))
  injection e4 with e4 _
  subst e4
  exact ⟨⟨n0.data.toList, n1.data.toList, q, bs4, n3⟩, ⟨n0, n1, _, n3, _⟩, rfl, ⟨(ba_back n0).symm, (ba_back n1).symm, rfl, hq, BV.bsT hb4⟩, by show n0.data.toList.length ≤ _; omega, by show n1.data.toList.length ≤ _; omega, by show bs4.length ≤ _; omega⟩
set_option maxRecDepth 100000 in
theorem open_resp (fuel : Nat) (cs : List Value) (x : DataW H × List MemPlace) (h : DataW.trod enc Tryz.prog w 0 sp hd fuel 44 cs = some x) (hw : ∀ n ∈ x.1.weights Tryz.prog 44, n ≤ reachBytes) : ∃ (st : Int) (T : ByteArray) (cl : Bool) (body : Bs) (A : Option Addr) (c : Nat), cs = [.int .i64 st, .string T, .bool cl, .slice A body.length c] ∧ BV w (.slice A body.length c) body ∧ T.size ≤ 1000000000000000 ∧ body.length ≤ 1000000000000000 := by
  obtain ⟨xs, n, hfu, rfl, hlen, hxl, hf⟩ := DataW.trod_struct Tryz.underlying44 h
  rw [cells_resp] at hlen
  obtain ⟨a0, a1, a2, a3, rfl⟩ : ∃ a0 a1 a2 a3, cs = [a0, a1, a2, a3] := by
    match cs, hlen with
    | [a0, a1, a2, a3], _ => exact ⟨a0, a1, a2, a3, rfl⟩
  obtain ⟨x0, x1, x2, x3, rfl⟩ : ∃ x0 x1 x2 x3, xs = [x0, x1, x2, x3] := by
    match xs, hxl with
    | [x0, x1, x2, x3], _ => exact ⟨x0, x1, x2, x3, rfl⟩
  simp only [DataW.weights, Tryz.underlying44, List.map_cons, List.map_nil, DataW.weightsEach, List.append_nil, List.mem_append] at hw
  have h0 : DataW.trod enc Tryz.prog w 0 sp hd n 3 [a0] = some x0 := by
    have := hf 0 _ rfl
    simpa [cells_int] using this
  obtain ⟨n0, e0, _, r0⟩ := DataW.trod_int Tryz.underlying3 h0
  injection e0 with e0 _
  subst e0
  have h1 : DataW.trod enc Tryz.prog w 0 sp hd n 9 [a1] = some x1 := by
    have := hf 1 _ rfl
    simpa [cells_str] using this
  obtain ⟨n1, e1, z1⟩ := open_text2 n _ _ h1 (fun q hq => hw q (by simp [hq]))
  injection e1 with e1 _
  subst e1
  have h2 : DataW.trod enc Tryz.prog w 0 sp hd n 4 [a2] = some x2 := by
    have := hf 2 _ rfl
    simpa [cells_bool] using this
  obtain ⟨n2, e2, _⟩ := DataW.trod_bool Tryz.underlying4 h2
  injection e2 with e2 _
  subst e2
  have h3 : DataW.trod enc Tryz.prog w 0 sp hd n 22 [a3] = some x3 := by
    have := hf 3 _ rfl
    simpa [cells_bytes] using this
  obtain ⟨bs3, u3, k3, e3, hb3, l3⟩ := open_piece n _ _ h3 (fun q hq => hw q (by simp [hq]))
  injection e3 with e3 _
  subst e3
  exact ⟨n0, n1, n2, bs3, u3, k3, rfl, hb3, (by rw [ba_size]; omega), by omega⟩
end
end Go.Proofs.YtdfgnoflohfnmaaGreatDoor.Hx
