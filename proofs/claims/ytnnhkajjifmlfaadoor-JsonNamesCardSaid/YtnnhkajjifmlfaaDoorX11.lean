/- Aggregates; lengths; conversions that only reckon. -/
import Derived.Test.YtnnhkajjifmlfaaDoorX10
import Derived.Great.BuildSlice
import Derived.Laws.Small
import Derived.Laws.Cover1
namespace Go.Proofs.YtnnhkajjifmlfaaDoor
namespace Ax
section
variable {E : Env} {o : Oper} {t u : TypeId} {x y : Operand}
/-- parts, against the model's -/
def PR (ρ : Ren) (place : Nat → Option (Nat × Nat)) : List (Nat × Nat × AV) → List (Nat × Value) → Prop
  | [], [] => True
  | p :: l, q :: r => place q.1 = some (p.1, p.2.1) ∧ VR ρ p.2.2 q.2 ∧ PR ρ place l r
  | _, _ => False
theorem fold_laid (cs vs : List Value) (off : Nat) (h : off + vs.length ≤ cs.length) :
    (vs.toArray.zipIdx).foldl (fun cs (x : Value × Nat) => cs.setIfInBounds (off + x.2) x.1) cs.toArray = (laid cs off vs).toArray := by
  obtain ⟨h1, h2⟩ := Great.foldl_set off vs 0 cs.toArray
  have e : (vs.toArray.zipIdx).foldl (fun cs (x : Value × Nat) => cs.setIfInBounds (off + x.2) x.1) cs.toArray = (vs.zipIdx 0).foldl (fun cs (x : Value × Nat) => cs.setIfInBounds (off + x.2) x.1) cs.toArray := by
    rw [← Array.foldl_toList, Array.toList_zipIdx]
  rw [e]
  apply Array.ext_getElem?
  intro k
  rw [h2 k]
  simp only [List.getElem?_toArray, Nat.add_zero, List.size_toArray]
  rw [laid_get h]
  by_cases hk : off ≤ k ∧ k < off + vs.length
  · rw [if_pos (by omega), if_pos hk]
  · rw [if_neg (by omega), if_neg hk]
theorem fillK_inv (l : List (Nat × Nat × AV)) : ∀ {cs : List AV} {k : List AV → R}, Ok (fillK l cs k) → ∃ cs', fillK l cs k = k cs' ∧ cs'.length = cs.length ∧
    ∀ (ρ : Ren) (place : Nat → Option (Nat × Nat)) (ps : List (Nat × Value)) (vs : List Value), PR ρ place l ps → VRs ρ cs vs → ∃ vs', Instr.fill place vs.toArray ps = some vs'.toArray ∧ VRs ρ cs' vs' := by
  induction l with
  | nil =>
    intro cs k h
    refine ⟨cs, rfl, rfl, fun ρ place ps vs h1 h2 => ⟨vs, ?_, h2⟩⟩
    cases ps with
    | nil => rfl
    | cons q r => exact h1.elim
  | cons p l ih =>
    intro cs k h
    have e : fillK (p :: l) cs k = cellsK p.2.2 fun xs => ifK (Nat.beq xs.length p.2.1) 94 fun _ => putK xs cs p.1 fun cs => fillK l cs k := rfl
    rw [e] at h ⊢
    obtain ⟨h1, h2⟩ := cellsK_inv h
    rw [h2] at h ⊢
    obtain ⟨h3, h4⟩ := ifK_inv h
    rw [h4] at h ⊢
    obtain ⟨h5, h6⟩ := putK_inv _ _ h
    rw [h6] at h ⊢
    obtain ⟨cs', h7, h8, h9⟩ := ih h
    refine ⟨cs', h7, by rw [h8, laid_length h5], fun ρ place ps vs g1 g2 => ?_⟩
    cases ps with
    | nil => exact g1.elim
    | cons q r =>
      obtain ⟨g3, g4, g5⟩ := g1
      have g6 := cells_rel g4 h1
      obtain ⟨vs', g7, g8⟩ := h9 ρ place r (laid vs p.1 q.2.cells.toList) g5 (g2.laid g6 p.1)
      refine ⟨vs', ?_, g8⟩
      have e1 : q.2.cells.size = p.2.1 := by have := g6.1; rw [Array.length_toList] at this; rw [this]; exact beq_iff.1 h3
      have e2 := beq_iff.1 h3
      unfold Instr.fill
      have hle : ¬ (p.1 + q.2.cells.size > vs.length) := by rw [e1, g2.1]; omega
      simp only [g3, e1, List.size_toArray]
      rw [if_neg (by rw [e1] at hle; simp; omega), ← g7]
      congr 1
      have hb : p.1 + q.2.cells.toList.length ≤ vs.length := by rw [Array.length_toList, e1, g2.1]; omega
      have := fold_laid vs q.2.cells.toList p.1 hb
      simpa using this
/-- parts whose values are known -/
def PV (tm : Tr AV) : List (Nat × Nat × Operand) → List (Nat × Nat × AV) → Prop
  | [], l => l = []
  | p :: r, l => ∃ v m, eva p.2.2 tm = some v ∧ PV tm r m ∧ l = (p.1, p.2.1, v) :: m
theorem partsK_inv {tm : Tr AV} (l : List (Nat × Nat × Operand)) : ∀ {k : List (Nat × Nat × AV) → R}, Ok (partsK l tm k) → ∃ vs, PV tm l vs ∧ partsK l tm k = k vs := by
  induction l with
  | nil => exact fun _ => ⟨[], rfl, rfl⟩
  | cons p r ih =>
    intro k h
    have e : partsK (p :: r) tm k = opd p.2.2 tm fun v => partsK r tm fun l => k ((p.1, p.2.1, v) :: l) := rfl
    rw [e] at h ⊢
    obtain ⟨v, h1, h2⟩ := opd_inv h
    rw [h2] at h ⊢
    obtain ⟨vs, h3, h4⟩ := ih h
    exact ⟨_, ⟨v, vs, h1, h3, rfl⟩, h4⟩
theorem pr_array {ρ : Ren} {tm : Tr AV} {A : Act} {sz : Nat} : ∀ {ps : List (Nat × Operand)} {l : List (Nat × Nat × AV)}, PV tm (ps.map fun p => (p.1 * sz, sz, p.2)) l → (∀ p ∈ ps, ∀ v, eva p.2 tm = some v → VR ρ v (A.eval p.2)) →
    PR ρ (fun i => some (i * sz, sz)) l (ps.map fun p => (p.1, A.eval p.2))
  | [], l, h, _ => by cases h; trivial
  | p :: r, l, h, hr => by
    obtain ⟨v, m, h1, h2, rfl⟩ := h
    exact ⟨rfl, hr p (by simp) v h1, pr_array h2 (fun q hq => hr q (by simp [hq]))⟩
theorem pr_struct {ρ : Ren} {tm : Tr AV} {A : Act} {fs : List Field} {pl : List (Nat × Nat)} (hpl : ∀ (i : Nat) (f : Field) (j : TI), fs[i]? = some f → E.ti f.type = some j → pl[i]? = some (f.offset, j.size)) :
    ∀ {ps : List (Nat × Operand)} {qs : List (Nat × Nat × Operand)} {l : List (Nat × Nat × AV)}, placesOf E fs ps = some qs → PV tm qs l → (∀ p ∈ ps, ∀ v, eva p.2 tm = some v → VR ρ v (A.eval p.2)) →
    PR ρ (fun i => pl[i]?) l (ps.map fun p => (p.1, A.eval p.2))
  | [], qs, l, h, h2, _ => by
    simp [placesOf] at h
    subst h
    cases h2; trivial
  | (i, x) :: r, qs, l, h, h2, hr => by
    simp only [placesOf] at h
    split at h
    · rename_i f hf
      split at h
      · rename_i j m hj hm
        injection h with h
        subst h
        obtain ⟨v, m', g1, g2, rfl⟩ := h2
        exact ⟨hpl i f j hf hj, hr (i, x) (by simp) v g1, pr_struct hpl hm g2 (fun q hq => hr q (by simp [hq]))⟩
      · cases h
    · cases h
theorem places_of (hE : EOK E) : ∀ (fs : List Field), allTi E fs = true → ∃ pl : List (Nat × Nat), fs.mapM (fun f => (E.P.info? f.type).map fun i => (f.offset, i.size)) = some pl ∧
    ∀ (i : Nat) (f : Field) (j : TI), fs[i]? = some f → E.ti f.type = some j → pl[i]? = some (f.offset, j.size)
  | [], _ => ⟨[], rfl, fun i f j h => by simp at h⟩
  | f :: r, h => by
    simp only [allTi, List.all_cons, Bool.and_eq_true] at h
    obtain ⟨pl, h1, h2⟩ := places_of hE r h.2
    obtain ⟨j, hj⟩ := Option.isSome_iff_exists.1 h.1
    obtain ⟨i, z, hi, g1, _⟩ := (tok hE hj).info
    refine ⟨(f.offset, i.size) :: pl, by simp [List.mapM_cons, hi, h1], fun k f' j' k1 k2 => ?_⟩
    cases k with
    | zero => simp at k1; subst k1; rw [hj] at k2; injection k2 with k2; subst k2; simp [g1]
    | succ k => simp at k1 ⊢; exact h2 k f' j' k1 k2
theorem build_ops {ps : Array (Nat × Operand)} (h : o.op.operands = (ps.toList.map (·.2)).toArray) {ρ : Ren} {tm : Tr AV} {A : Act} (hr : VRo ρ tm A o) : ∀ p ∈ ps.toList, ∀ v, eva p.2 tm = some v → VR ρ v (A.eval p.2) := fun p hp v hv =>
  hr p.2 (by rw [h, List.mem_toArray]; exact List.mem_map.2 ⟨p, hp, rfl⟩) v hv
theorem pu_build_struct {i : TI} {fs : Array Field} {ps : Array (Nat × Operand)} {l : List (Nat × Nat × Operand)} (hE : EOK E) (hi : E.ti t = some i) (hd : i.d = .struct fs) (ha : allTi E fs.toList = true) (hl : placesOf E fs.toList ps.toList = some l)
    (ho : o.op = .build t ps) : PuS E.P o (fun tm k => partsK l tm fun l => fillK l i.zc fun cs => k (.ag cs)) := fun tm k hk => by
  obtain ⟨vs, h1, h2⟩ := partsK_inv _ hk
  simp only [h2] at hk ⊢
  obtain ⟨cs, h3, _, h4⟩ := fillK_inv _ hk
  refine ⟨_, h3, fun ρ A w hr => ?_⟩
  obtain ⟨pl, h5, h6⟩ := places_of hE _ ha
  obtain ⟨it, z, hit, g1, g2, g3, hz, g5, g6⟩ := (tok hE hi).info
  have hpr := pr_struct h6 hl h1 (build_ops (by rw [ho]; rfl) hr)
  obtain ⟨vs', h7, h8⟩ := h4 ρ _ _ z.cells.toList hpr (ofSs_rel ρ g6)
  refine ⟨.agg vs'.toArray, VR.ag' h8, ?_⟩
  simp only [execOp, ho]
  refine run_v (run_build w t _ _ ?_)
  have hu : E.P.underlying t = some (.struct fs) := by rw [(tok hE hi).un, hd]
  simp only [Program.built, hit, hu, hz, h5]
  simpa using h7
theorem pu_build_array {i j : TI} {n : Nat} {e : TypeId} {ps : Array (Nat × Operand)} (hE : EOK E) (hi : E.ti t = some i) (hd : i.d = .array n e) (hj : E.ti e = some j)
    (ho : o.op = .build t ps) : PuS E.P o (fun tm k => partsK (ps.toList.map fun p => (p.1 * j.size, j.size, p.2)) tm fun l => fillK l i.zc fun cs => k (.ag cs)) := fun tm k hk => by
  obtain ⟨vs, h1, h2⟩ := partsK_inv _ hk
  simp only [h2] at hk ⊢
  obtain ⟨cs, h3, _, h4⟩ := fillK_inv _ hk
  refine ⟨_, h3, fun ρ A w hr => ?_⟩
  obtain ⟨it, z, hit, g1, g2, g3, hz, g5, g6⟩ := (tok hE hi).info
  obtain ⟨ie, ze, hie, k1, _⟩ := (tok hE hj).info
  have hpr := pr_array h1 (build_ops (by rw [ho]; rfl) hr)
  obtain ⟨vs', h7, h8⟩ := h4 ρ _ _ z.cells.toList hpr (ofSs_rel ρ g6)
  refine ⟨.agg vs'.toArray, VR.ag' h8, ?_⟩
  simp only [execOp, ho]
  refine run_v (run_build w t _ _ ?_)
  have hu : E.P.underlying t = some (.array n e) := by rw [(tok hE hi).un, hd]
  simp only [Program.built, hit, hu, hz, hie, k1]
  simpa using h7

/-! ### a slice's literal -/
theorem repC_succ (n : Nat) (zs : List AV) : repC (n + 1) zs = zs ++ repC n zs := rfl
theorem repC_length (n : Nat) (zs : List AV) : (repC n zs).length = n * zs.length := by
  induction n with
  | zero => simp only [Nat.zero_mul]; rfl
  | succ n ih => rw [repC_succ, List.length_append, ih, Nat.succ_mul]; omega
theorem repC_get (n : Nat) (zs : List AV) (i : Nat) (h : i < n * zs.length) : (repC n zs)[i]? = zs[i % zs.length]? := by
  induction n generalizing i with
  | zero => simp at h
  | succ n ih =>
    rw [repC_succ, List.getElem?_append]
    split
    · rename_i hi; rw [Nat.mod_eq_of_lt hi]
    · rename_i hi
      rw [Nat.succ_mul] at h
      rw [ih (i - zs.length) (by omega), ← Nat.mod_eq_sub_mod (by omega)]
theorem rep_rel {ρ : Ren} {zs : List AV} {z : Array Value} (h : VRs ρ zs z.toList) (n : Nat) (hz : 0 < zs.length) : VRs ρ (repC n zs) ((Array.range (n * zs.length)).map (z[· % z.size]!)).toList := by
  have hs : z.size = zs.length := by have := h.1; rwa [Array.length_toList] at this
  refine ⟨by simp [repC_length], fun i x v h1 h2 => ?_⟩
  have hi : i < n * zs.length := by have := (List.getElem?_eq_some_iff.1 h1).1; rwa [repC_length] at this
  rw [repC_get n zs i hi] at h1
  have hm : i % z.size < z.size := Nat.mod_lt _ (by omega)
  simp only [Array.toList_map, Array.toList_range, List.getElem?_map] at h2
  rw [List.getElem?_range hi] at h2
  simp only [Option.map_some, Option.some.injEq] at h2
  subst h2
  rw [← hs] at h1
  refine h.2 _ x _ h1 ?_
  rw [getElem!_pos z _ hm]
  rw [Array.getElem?_toList, Array.getElem?_eq_getElem hm]
theorem newer_alloc (w : World) (ob : Obj) : Newer w (w.alloc ob) ob := ⟨rfl, rfl, rfl, rfl⟩
theorem al_buildSlice {i j : TI} {e : TypeId} {len : Nat} {ps : Array (Nat × Operand)} (hE : EOK E) (hi : E.ti t = some i) (hd : i.d = .slice e) (hj : E.ti e = some j)
    (hg : (Nat.beq j.size 0 || Nat.ble 16777216 (len * j.size) || !(Nat.beq j.zc.length j.size)) = false)
    (ho : o.op = .buildSlice t len ps) : AlS E.P o (fun tm n k => partsK (ps.toList.map fun p => (p.1 * j.size, j.size, p.2)) tm fun l => fillK l (repC len j.zc) fun cs => k (.sl n 0 len len 0) (.c cs e false)) := fun tm n k hk => by
  obtain ⟨vs, h1, h2⟩ := partsK_inv _ hk
  simp only [h2] at hk ⊢
  obtain ⟨cs, h3, hcl, h4⟩ := fillK_inv _ hk
  refine ⟨_, _, h3, ⟨by simp, by simp⟩, fun ρ A w hr hn => ?_⟩
  simp only [Bool.or_eq_false_iff, Bool.not_eq_false'] at hg
  obtain ⟨⟨q1, q2⟩, q3⟩ := hg
  have q3 := beq_iff.1 q3
  have q1 : j.size ≠ 0 := fun h => by rw [h] at q1; cases q1
  have q2 : ¬ 16777216 ≤ len * j.size := fun h => by rw [ble_iff.2 h] at q2; cases q2
  obtain ⟨ie, ze, hie, k1, k2, k3, hz, k5, k6⟩ := (tok hE hj).info
  have hu : E.P.underlying t = some (.slice e) := by rw [(tok hE hi).un, hd]
  have hpr := pr_array h1 (build_ops (by rw [ho]; rfl) hr)
  have hzr := ofSs_rel ρ k6
  obtain ⟨vs', h7, h8⟩ := h4 ρ _ _ _ hpr (rep_rel hzr len (by omega))
  simp only [Array.toArray_toList] at h7
  rw [q3] at h7
  have hzs : ze.cells.size = j.zc.length := by have := hzr.1; rwa [Array.length_toList] at this
  have hrun : ∃ w', (Instr.buildSlice t len (ps.map fun p => (p.1, A.eval p.2))).run E.P w = .ok (.slice (some ⟨w.heap.size, 0, none⟩) len len) w' ∧ Newer w w' (.cells vs'.toArray e) := by
    by_cases hl : len * j.size = 0
    · refine ⟨w.alloc (.cells vs'.toArray e), ?_, newer_alloc _ _⟩
      have h0 : len = 0 := by rcases Nat.mul_eq_zero.1 hl with h | h; exact h; exact absurd h q1
      subst h0
      have h7' : Instr.fill (fun i => some (i * j.size, j.size)) ((Array.range 0).map (((#[] : Array Value)[· % 0]!))) (ps.map fun p => (p.1, A.eval p.2)).toList = some vs'.toArray := by
        rw [Nat.zero_mul] at h7
        have e0 : Array.range 0 = #[] := rfl
        rw [e0] at h7 ⊢
        simpa using h7
      simp [Instr.buildSlice, run_underlying hu, (tok hE hj).run_size, newRow]
      simp at h7'
      rw [h7']
      simp
    · refine ⟨w.alloc (.cells vs'.toArray e), ?_, newer_alloc _ _⟩
      refine run_buildSlice w t e len _ vs'.toArray ie ze hu hie hz (by rw [k1]; omega) (by rw [k1]; exact hl) ?_
      rw [k1]
      simpa using h7
  obtain ⟨w', r1, r2⟩ := hrun
  have hlen : vs'.length = len * j.size := by rw [h8.1, hcl, repC_length, q3]
  refine ⟨_, w', _, ⟨w.heap.size, 0, vs'.length⟩, by simp only [execOp, ho]; exact run_v r1, r2, rfl, ?_, ?_⟩
  · exact .sl (t := ⟨w.heap.size, 0, vs'.length⟩) (updR_same _ _) (.inl rfl) (Nat.le_refl _) (Nat.le_refl _) (fun _ => rfl) (fun h => absurd rfl h)
  · refine ⟨vs'.toArray, 0, 0, rfl, ⟨by simp, fun _ => rfl⟩, .inl rfl, ?_, ?_⟩
    · simp [h8.1]
    · simp only [List.drop_zero]
      rw [List.take_of_length_le (by rw [h8.1]; exact Nat.le_refl _)]
      exact h8.mono (updR_le hn)
end
end Ax
end Go.Proofs.YtnnhkajjifmlfaaDoor
