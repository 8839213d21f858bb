/- HTTP: slices among the arguments opened: pieces of bytes. -/
import Derived.Test.YtdfgnoflohfnmaaGreatDoorRq
import Derived.Test.YtdfgnoflohfnmaaGreatDoorHu
import Derived.WideShapes
namespace Go.Proofs.YtdfgnoflohfnmaaGreatDoor.Hx
open Go.RowKit Go.ChangeShapes Go.WideShapes Go.Maps
theorem reach_le' : reachBytes ≤ 140737488355328 := by unfold reachBytes; omega
theorem add_at (b o q : Nat) : (⟨b, o, none⟩ : Addr).add q = ⟨b, o + q, none⟩ := by unfold Addr.add; split <;> simp_all
section
variable {H : Type} {enc : TypeId × Value → H} {w : World} {sp : Nat → Bool} {hd : Bool}
theorem weightsAll_mem {P : Program} {e : TypeId} : ∀ {l : List (DataW H)} {i : Nat} {d : DataW H}, l[i]? = some d → ∀ n ∈ d.weights P e, n ∈ DataW.weightsAll P e l
  | d0 :: r, 0, d, h, n, hn => by
    simp only [List.getElem?_cons_zero, Option.some.injEq] at h
    subst h
    rw [DataW.weightsAll]
    exact List.mem_append.2 (.inl hn)
  | d0 :: r, i + 1, d, h, n, hn => by
    simp only [List.getElem?_cons_succ] at h
    rw [DataW.weightsAll]
    exact List.mem_append.2 (.inr (weightsAll_mem h n hn))
  | [], _, _, h, _, _ => by simp at h
def Opens (H : Type) (enc : TypeId × Value → H) (w : World) (sp : Nat → Bool) (hd : Bool) {α : Type} (e : TypeId) (R : α → List Value → Prop) : Prop :=
  ∀ (fuel : Nat) (cs : List Value) (x : DataW H × List MemPlace), DataW.trod enc Tryz.prog w 0 sp hd fuel e cs = some x → (∀ n ∈ x.1.weights Tryz.prog e, n ≤ reachBytes) → ∃ a : α, R a cs
set_option maxRecDepth 100000 in
theorem open_slice {α : Type} [Inhabited α] {t e : TypeId} {K B : Nat} {R : α → List Value → Prop} (hT : Tryz.prog.underlying t = some (.slice e)) (hK : Tryz.prog.cellsOf e = K) (hK0 : 0 < K) (hB : Tryz.prog.bytesOf e = B) (hB0 : 0 < B)
    (ho : Opens H enc w sp hd e R) {fuel : Nat} {v : Value} {x : DataW H × List MemPlace} (h : DataW.trod enc Tryz.prog w 0 sp hd fuel t [v] = some x) (hw : ∀ n ∈ x.1.weights Tryz.prog t, n ≤ reachBytes) :
    ∃ (l : List α) (A : Option Addr) (c b o : Nat), v = .slice A l.length c ∧ l.length ≤ 140737488355328 ∧ (0 < l.length → A = some ⟨b, o, none⟩) ∧
      ∀ i (hi : i < l.length), ∃ cs : List Value, cs.length = K ∧ R l[i] cs ∧ ∀ j, j < K → w.cell? ⟨b, o + i * K + j, none⟩ = cs[j]? := by
  have hR := reach_le'
  rcases DataW.trod_slice hT h with ⟨e4, hx4⟩ | ⟨a, len, cap, elems, rest, n', hn', e4, hx4, _, hl, hmx, hel, helem, _, _⟩
  · injection e4 with e4 _
    subst e4
    exact ⟨[], none, 0, 0, 0, rfl, Nat.zero_le _, fun h => absurd h (by simp), fun i hi => absurd hi (by simp)⟩
  · injection e4 with e4 _
    subst e4
    rw [hK] at helem
    have hbig : len ≤ 140737488355328 := by
      have h1 := hw ((elems.length + rest.length) * B) (by
        subst hx4
        simp [DataW.weights, hT, hB])
      have h2 : elems.length + rest.length ≤ (elems.length + rest.length) * B := Nat.le_mul_of_pos_right _ hB0
      omega
    have each : ∀ i, ∃ (p : α × List Value), i < len → p.2.length = K ∧ R p.1 p.2 ∧ ∀ j, j < K → w.cell? ((a.add (i * K)).add j) = p.2[j]? := by
      intro i
      by_cases hi : i < len
      · have hi2 := helem i hi
        have hlt : i < elems.length := by omega
        rw [List.getElem?_eq_getElem hlt, Option.bind_eq_some_iff] at hi2
        obtain ⟨cs', hcs, hy⟩ := hi2
        obtain ⟨_, hlen, hcell⟩ := World.cells?_some hcs
        obtain ⟨q, hq⟩ := ho n' cs' _ hy (fun m hm => by
          refine hw m ?_
          subst hx4
          have hg : (elems.map (·.1))[i]? = some (elems[i]).1 := by rw [List.getElem?_map, List.getElem?_eq_getElem hlt]; rfl
          have := weightsAll_mem (P := Tryz.prog) (e := e) hg m hm
          simp only [DataW.weights, hT, List.mem_cons, List.mem_append]
          simp [this])
        exact ⟨(q, cs'), fun _ => ⟨hlen, hq, fun j hj => hcell j (by omega)⟩⟩
      · exact ⟨(default, []), fun h => absurd h hi⟩
    obtain ⟨f, hf⟩ := Classical.axiomOfChoice each
    have hll : ((List.range len).map fun i => (f i).1).length = len := by simp
    by_cases hl0 : 0 < len
    · obtain ⟨hq1, _, hq3⟩ := hf 0 hl0
      obtain ⟨b, o, spot⟩ := a
      have c0 := hq3 0 hK0
      rw [List.getElem?_eq_getElem (by omega)] at c0
      have hspot : spot = none := by simpa [Addr.add] using World.cell?_spot c0
      subst hspot
      refine ⟨(List.range len).map fun i => (f i).1, some ⟨b, o, none⟩, cap, b, o, by rw [hll], by rw [hll]; exact hbig, fun _ => rfl, fun i hi => ?_⟩
      rw [hll] at hi
      obtain ⟨h1, h2, h3⟩ := hf i hi
      refine ⟨(f i).2, h1, by simpa using h2, fun j hj => ?_⟩
      have := h3 j hj
      simp only [add_at] at this
      exact this
    · have : len = 0 := by omega
      subst this
      exact ⟨[], some a, cap, 0, 0, rfl, Nat.zero_le _, fun h => absurd h (by simp), fun i hi => absurd hi (by simp)⟩
end
theorem cellsOf_bytes : Tryz.prog.cellsOf 22 = 1 := by kernel_rfl
theorem bytesOf_bytes : Tryz.prog.bytesOf 22 = 24 := by kernel_rfl
theorem bytesOf_u8 : Tryz.prog.bytesOf 5 = 1 := by kernel_rfl
section
variable {H : Type} {enc : TypeId × Value → H} {w : World} {sp : Nat → Bool} {hd : Bool}
theorem open_piece (fuel : Nat) (cs : List Value) (x : DataW H × List MemPlace) (h : DataW.trod enc Tryz.prog w 0 sp hd fuel 22 cs = some x) (hw : ∀ n ∈ x.1.weights Tryz.prog 22, n ≤ reachBytes) :
    ∃ bs : Bs, ∃ u k, cs = [.slice u bs.length k] ∧ BV w (.slice u bs.length k) bs ∧ bs.length ≤ 140737488355328 := by
  have hR := reach_le'
  obtain ⟨v, bs, rfl, A, c, rfl, h1, h2⟩ := open_bytes h
  refine ⟨bs, A, c, rfl, ⟨A, c, rfl, h1, h2⟩, ?_⟩
  rcases DataW.trod_slice Tryz.underlying22 h with ⟨e4, _⟩ | ⟨a, len, cap, elems, rest, n', hn', e4, hx4, _, _, _, hel, _, _, _⟩
  · injection e4 with e4 _
    injection e4 with _ e5 _
    omega
  · injection e4 with e4 _
    injection e4 with _ e5 _
    have h3 := hw ((elems.length + rest.length) * 1) (by
      subst hx4
      simp [DataW.weights, Tryz.underlying22, bytesOf_u8])
    omega
theorem open_pieces {fuel : Nat} {v : Value} {x : DataW H × List MemPlace} (h : DataW.trod enc Tryz.prog w 0 sp hd fuel 38 [v] = some x) (hw : ∀ n ∈ x.1.weights Tryz.prog 38, n ≤ reachBytes) :
    ∃ ls, LV w v ls := by
  obtain ⟨l, A, c, b, o, rfl, hb, hA, hx⟩ := open_slice (R := fun (bs : Bs) cs => ∃ u k, cs = [.slice u bs.length k] ∧ BV w (.slice u bs.length k) bs ∧ bs.length ≤ 140737488355328) Tryz.underlying38 cellsOf_bytes (by decide) bytesOf_bytes (by decide) (fun fuel cs x h hw => open_piece fuel cs x h hw) h hw
  refine ⟨l, A, c, rfl, fun i hi => ⟨b, o, hA (by omega), ?_⟩⟩
  obtain ⟨cs, _, ⟨u, k, rfl, hbv, hbl⟩, h3⟩ := hx i hi
  have := h3 0 (by omega)
  exact ⟨u, k, by simpa using this, hbv, hbl⟩
end
end Go.Proofs.YtdfgnoflohfnmaaGreatDoor.Hx
