/- The executor's values, objects and heaps against the model's: the relation, and how a step keeps it. -/
import Derived.Test.YtnnhkajjifmlfaaDoorX4
import Derived.CallsIn
import Derived.Laws.Entries
namespace Go.Proofs.YtnnhkajjifmlfaaDoor
namespace Ax

/-- where a name's block lies: its block, the place of its first cell there, how many cells the block has -/
structure Bk where
  c : Nat
  d : Nat
  sz : Nat
abbrev Ren := Pn → Option Bk
def Ren.le (ρ ρ' : Ren) : Prop := ∀ b t, ρ b = some t → ρ' b = some t
theorem Ren.le_refl (ρ : Ren) : ρ.le ρ := fun _ _ h => h
theorem Ren.le_trans {a b c : Ren} (h : a.le b) (k : b.le c) : a.le c := fun x t e => k x t (h x t e)

inductive VR (ρ : Ren) : AV → Value → Prop
  | z (v : Value) : VR ρ .z v
  | b (x : Bool) : VR ρ (.b x) (.bool x)
  | i (k : IntKind) (n : Int) : VR ρ (.i k n) (.int k n)
  | s (l : List UInt8) : VR ρ (.s l) (.string ⟨l.toArray⟩)
  | p {b : Pn} {o : Nat} {t : Bk} (h : ρ b = some t) : VR ρ (.p b o) (.pointer (some ⟨t.c, t.d + o, none⟩))
  | np : VR ρ .np (.pointer none)
  | sl {b : Pn} {o n c x : Nat} {t : Bk} {off c' : Nat} (h : ρ b = some t) (ho : off = t.d + o ∨ c' = 0) (hn : n ≤ c) (hc : c ≤ c') (hx : x = 0 → c' = c)
      (hr : x ≠ 0 → off + c' * x ≤ t.sz) : VR ρ (.sl b o n c x) (.slice (some ⟨t.c, off, none⟩) n c')
  | ns : VR ρ .ns (.slice none 0 0)
  | m {b : Pn} {t : Bk} (h : ρ b = some t) : VR ρ (.m b) (.map (some t.c))
  | nm : VR ρ .nm (.map none)
  | f {fn : Fn} {l m : List AV} {a b : Array Value} (h1 : a.size = l.length) (h2 : b.size = m.length)
      (h3 : ∀ (i : Nat) (x : AV) (v : Value), l[i]? = some x → a[i]? = some v → VR ρ x v) (h4 : ∀ (i : Nat) (x : AV) (v : Value), m[i]? = some x → b[i]? = some v → VR ρ x v) : VR ρ (.f fn l m) (.func fn a b)
  | nf : VR ρ .nf .nilFunc
  | ifc {t : TypeId} {x : AV} {v : Value} (h : VR ρ x v) : VR ρ (.ifc t x) (.iface t v)
  | ni : VR ρ .ni .nilIface
  | ag {l : List AV} {a : Array Value} (h1 : a.size = l.length) (h3 : ∀ (i : Nat) (x : AV) (v : Value), l[i]? = some x → a[i]? = some v → VR ρ x v) : VR ρ (.ag l) (.agg a)
  | tu {l : List AV} {a : Array Value} (h1 : a.size = l.length) (h3 : ∀ (i : Nat) (x : AV) (v : Value), l[i]? = some x → a[i]? = some v → VR ρ x v) : VR ρ (.tu l) (.tuple a)
  | y {b : Pn} {t : Bk} (h : ρ b = some t) : VR ρ (.y b) (.func (.yield t.c) #[] #[])

theorem VR.mono {ρ ρ' : Ren} (hl : ρ.le ρ') {x : AV} {v : Value} (h : VR ρ x v) : VR ρ' x v := by
  induction h with
  | z v => exact .z v
  | b x => exact .b x
  | i k n => exact .i k n
  | s l => exact .s l
  | p h => exact .p (hl _ _ h)
  | np => exact .np
  | sl h ho hn hc hx hr => exact .sl (hl _ _ h) ho hn hc hx hr
  | ns => exact .ns
  | m h => exact .m (hl _ _ h)
  | nm => exact .nm
  | f h1 h2 _ _ i3 i4 => exact .f h1 h2 i3 i4
  | nf => exact .nf
  | ifc _ ih => exact .ifc ih
  | ni => exact .ni
  | ag h1 _ i3 => exact .ag h1 i3
  | tu h1 _ i3 => exact .tu h1 i3
  | y h => exact .y (hl _ _ h)

/-- lists of values -/
def VRs (ρ : Ren) (l : List AV) (vs : List Value) : Prop := vs.length = l.length ∧ ∀ (i : Nat) (x : AV) (v : Value), l[i]? = some x → vs[i]? = some v → VR ρ x v
theorem VRs.mono {ρ ρ' : Ren} (hl : ρ.le ρ') {l : List AV} {vs : List Value} (h : VRs ρ l vs) : VRs ρ' l vs := ⟨h.1, fun i x v a b => (h.2 i x v a b).mono hl⟩
theorem VRs.nil (ρ : Ren) : VRs ρ [] [] := ⟨rfl, fun i x v h => by simp at h⟩
theorem VRs.cons {ρ : Ren} {x : AV} {l : List AV} {v : Value} {vs : List Value} (h : VR ρ x v) (hs : VRs ρ l vs) : VRs ρ (x :: l) (v :: vs) := by
  refine ⟨by simp [hs.1], fun i y u h1 h2 => ?_⟩
  cases i with
  | zero => simp at h1 h2; subst h1; subst h2; exact h
  | succ i => simp at h1 h2; exact hs.2 i y u h1 h2
theorem VRs.cons_inv {ρ : Ren} {x : AV} {l : List AV} {vs : List Value} (h : VRs ρ (x :: l) vs) : ∃ v r, vs = v :: r ∧ VR ρ x v ∧ VRs ρ l r := by
  cases vs with
  | nil => have := h.1; simp at this
  | cons v r => exact ⟨v, r, rfl, h.2 0 x v rfl rfl, by have := h.1; simpa using this, fun i y u h1 h2 => h.2 (i + 1) y u (by simpa using h1) (by simpa using h2)⟩
theorem VRs.nil_inv {ρ : Ren} {vs : List Value} (h : VRs ρ [] vs) : vs = [] := by
  cases vs with
  | nil => rfl
  | cons v r => have := h.1; simp at this
theorem VRs.append {ρ : Ren} {l m : List AV} {vs us : List Value} (h : VRs ρ l vs) (k : VRs ρ m us) : VRs ρ (l ++ m) (vs ++ us) := by
  induction l generalizing vs with
  | nil => rw [h.nil_inv]; exact k
  | cons x l ih =>
    obtain ⟨v, r, rfl, h1, h2⟩ := h.cons_inv
    exact (ih h2).cons h1
theorem VRs.take {ρ : Ren} {l : List AV} {vs : List Value} (h : VRs ρ l vs) (n : Nat) : VRs ρ (l.take n) (vs.take n) := by
  refine ⟨by simp [h.1], fun i x v h1 h2 => ?_⟩
  rw [List.getElem?_take] at h1 h2
  split at h1
  · rename_i hi; rw [if_pos hi] at h2; exact h.2 i x v h1 h2
  · cases h1
theorem VRs.drop {ρ : Ren} {l : List AV} {vs : List Value} (h : VRs ρ l vs) (n : Nat) : VRs ρ (l.drop n) (vs.drop n) := by
  refine ⟨by simp [h.1], fun i x v h1 h2 => ?_⟩
  rw [List.getElem?_drop] at h1 h2
  exact h.2 _ x v h1 h2
theorem VRs.laid {ρ : Ren} {l xs : List AV} {vs us : List Value} (h : VRs ρ l vs) (k : VRs ρ xs us) (o : Nat) : VRs ρ (laid l o xs) (laid vs o us) := by
  unfold Ax.laid
  rw [k.1]
  exact ((h.take o).append k).append (h.drop _)
theorem VR.ag' {ρ : Ren} {l : List AV} {vs : List Value} (h : VRs ρ l vs) : VR ρ (.ag l) (.agg vs.toArray) := .ag (by simpa using h.1) (fun i x v h1 h2 => h.2 i x v h1 (by simpa using h2))
theorem VR.tu' {ρ : Ren} {l : List AV} {vs : List Value} (h : VRs ρ l vs) : VR ρ (.tu l) (.tuple vs.toArray) := .tu (by simpa using h.1) (fun i x v h1 h2 => h.2 i x v h1 (by simpa using h2))
theorem VR.ag_inv {ρ : Ren} {l : List AV} {v : Value} (h : VR ρ (.ag l) v) : ∃ vs : List Value, v = .agg vs.toArray ∧ VRs ρ l vs := by
  cases h with
  | ag h1 h3 => rename_i a; exact ⟨a.toList, by simp, by simpa using h1, fun i x v k1 k2 => h3 i x v k1 (by simpa using k2)⟩
theorem VR.tu_inv {ρ : Ren} {l : List AV} {v : Value} (h : VR ρ (.tu l) v) : ∃ vs : List Value, v = .tuple vs.toArray ∧ VRs ρ l vs := by
  cases h with
  | tu h1 h3 => rename_i a; exact ⟨a.toList, by simp, by simpa using h1, fun i x v k1 k2 => h3 i x v k1 (by simpa using k2)⟩
/-- a value's cells -/
theorem cells_rel {ρ : Ren} {x : AV} {v : Value} (h : VR ρ x v) (hz : x ≠ .z) : VRs ρ (cellsA x) v.cells.toList := by
  cases h with
  | z v => exact absurd rfl hz
  | ag h1 h3 => exact ⟨by simpa [Value.cells, cellsA] using h1, fun i x v k1 k2 => h3 i x v k1 (by simpa [Value.cells] using k2)⟩
  | sl h ho hn hc hx hr => exact (VRs.nil ρ).cons (.sl h ho hn hc hx hr)
  | f h1 h2 h3 h4 => exact (VRs.nil ρ).cons (.f h1 h2 h3 h4)
  | ifc h => exact (VRs.nil ρ).cons (.ifc h)
  | tu h1 h3 => exact (VRs.nil ρ).cons (.tu h1 h3)
  | p h => exact (VRs.nil ρ).cons (.p h)
  | m h => exact (VRs.nil ρ).cons (.m h)
  | y h => exact (VRs.nil ρ).cons (.y h)
  | b x => exact (VRs.nil ρ).cons (.b x)
  | i k n => exact (VRs.nil ρ).cons (.i k n)
  | s l => exact (VRs.nil ρ).cons (.s l)
  | np => exact (VRs.nil ρ).cons .np
  | ns => exact (VRs.nil ρ).cons .ns
  | nm => exact (VRs.nil ρ).cons .nm
  | nf => exact (VRs.nil ρ).cons .nf
  | ni => exact (VRs.nil ρ).cons .ni
theorem scal_one {ρ : Ren} {x : AV} {v : Value} (h : VR ρ x v) (hs : scal x = true) : v.oneCell' = true := by
  cases h <;> first | rfl | (simp [scal] at hs)
theorem scals_one {ρ : Ren} {l : List AV} {vs : List Value} (h : VRs ρ l vs) (hs : scals l = true) : ∀ v ∈ vs, v.oneCell' = true := by
  intro v hv
  obtain ⟨i, hi⟩ := List.getElem?_of_mem hv
  have hl : i < l.length := by have := (List.getElem?_eq_some_iff.1 hi).1; rw [h.1] at this; exact this
  exact scal_one (h.2 i l[i] v (List.getElem?_eq_getElem hl) hi) (scals_all hs _ (List.getElem_mem hl))

theorem ofS_rel (ρ : Ren) {v : Value} {x : AV} (h : ofS v = some x) : VR ρ x v := by
  unfold ofS at h
  split at h <;> first
    | (cases h; done)
    | (injection h with h; subst h; first | exact .b _ | exact .i _ _ | exact .np | exact .ns | exact .nm | exact .nf | exact .ni | skip)
  · rename_i s; exact .s s.data.toList
  · exact .f rfl rfl (fun i x v h => by simp at h) (fun i x v h => by simp at h)
theorem ofSs_rel (ρ : Ren) : ∀ {vs : List Value} {l : List AV}, ofSs vs = some l → VRs ρ l vs
  | [], l, h => by simp [ofSs] at h; subst h; exact VRs.nil ρ
  | v :: r, l, h => by
    simp only [ofSs] at h
    split at h
    · rename_i x m h1 h2; injection h with h; subst h; exact (ofSs_rel ρ h2).cons (ofS_rel ρ h1)
    · cases h
theorem ofV_rel (ρ : Ren) {v : Value} {x : AV} (h : ofV v = some x) : VR ρ x v := by
  unfold ofV at h
  split at h
  · rename_i cs
    cases hc : ofSs cs.toList with
    | none => rw [hc] at h; cases h
    | some l => rw [hc] at h; injection h with h; subst h; have := VR.ag' (ofSs_rel ρ hc); simpa using this
  · rename_i t v
    cases hc : ofS v with
    | none => rw [hc] at h; cases h
    | some l => rw [hc] at h; injection h with h; subst h; exact .ifc (ofS_rel ρ hc)
  · injection h with h; subst h; exact .tu rfl (fun i x v h => by simp at h)
  · exact ofS_rel ρ h

/-- a frame's temporaries -/
def FR (ρ : Ren) (nt : Nat) (tm : Tr AV) (tmps : Array Value) : Prop := tmps.size = nt ∧ ∀ t, VR ρ (tm.get (.tu []) (pth t)) (tmps.getD t undef)
theorem FR.mono {ρ ρ' : Ren} (hl : ρ.le ρ') {nt : Nat} {tm : Tr AV} {tmps : Array Value} (h : FR ρ nt tm tmps) : FR ρ' nt tm tmps := ⟨h.1, fun t => (h.2 t).mono hl⟩

def ER (ρ : Ren) (e : AV × AV × Option Nat) (m : MapEntry) : Prop := VR ρ e.1 m.key ∧ VR ρ e.2.1 m.val ∧ ∀ s, e.2.2 = some s → m.born = s
def ERs (ρ : Ren) (l : List (AV × AV × Option Nat)) (es : List MapEntry) : Prop := es.length = l.length ∧ ∀ (i : Nat) (e : AV × AV × Option Nat) (m : MapEntry), l[i]? = some e → es[i]? = some m → ER ρ e m
/-- a loop's state -/
def lst (st : Nat) : LoopState := match st with
  | 0 => .ready
  | 1 => .busy
  | 2 => .done
  | _ => .exhausted
/-- an object, against the model's at its block -/
def OR (ρ : Ren) (ob : Option Obj) (t : Bk) : AO → Prop
  | .x => True
  | .c l ty fz => ∃ (arr : Array Value) (lo hi : Nat), ob = some (.cells arr ty (lo, hi)) ∧ (arr.size = t.sz ∧ (fz = false → t.d = 0)) ∧ (hi = lo ∨ (fz = true ∧ arr.size ≤ lo)) ∧
      t.d + l.length ≤ arr.size ∧ VRs ρ l ((arr.toList.drop t.d).take l.length)
  | .k l ty => ∃ (arr : Array Value) (lo hi : Nat), ob = some (.cells arr ty (lo, hi)) ∧ (arr.size = t.sz ∧ t.d = 0) ∧ hi = lo ∧
      t.d + l.length ≤ arr.size ∧ VRs ρ l ((arr.toList.drop t.d).take l.length)
  | .mp l c => ∃ (es : Array MapEntry) (l' : List (AV × AV × Option Nat)), ob = some (.map es c) ∧ l'.Perm l ∧ ERs ρ l' es.toList
  | .si _ _ => False
  | .mi m since seen last => ∃ mc, ob = some (.mapIter mc since seen.toArray last) ∧ t.d = 0 ∧ (match m with | none => mc = none | some b => ∃ t', ρ b = some t' ∧ mc = some t'.c)
  | .lp st pend nt tm ps a b dq => ∃ (fn : FuncId) (tmps : Array Value) (s : LoopState) (t' : Bk), ob = some (.loop { state := s, pending := pend, fn, tmps, params := ps.toArray, assign := a, body := b, defers := t'.c }) ∧ ρ dq = some t' ∧
      s = lst st ∧ FR ρ nt tm tmps
  | .dq taken => ob = some (.deferred (if taken then none else some []))
theorem ER.mono {ρ ρ' : Ren} (hl : ρ.le ρ') {e : AV × AV × Option Nat} {m : MapEntry} (h : ER ρ e m) : ER ρ' e m := ⟨h.1.mono hl, h.2.1.mono hl, h.2.2⟩
theorem OR.mono {ρ ρ' : Ren} (hl : ρ.le ρ') {ob : Option Obj} {t : Bk} {o : AO} (h : OR ρ ob t o) : OR ρ' ob t o := by
  cases o with
  | x => trivial
  | c l ty fz => obtain ⟨arr, lo, hi, h1, h2, h3, h5, h6⟩ := h; exact ⟨arr, lo, hi, h1, h2, h3, h5, h6.mono hl⟩
  | k l ty => obtain ⟨arr, lo, hi, h1, h2, h3, h5, h6⟩ := h; exact ⟨arr, lo, hi, h1, h2, h3, h5, h6.mono hl⟩
  | mp l c => obtain ⟨es, l', h1, h2, h3⟩ := h; exact ⟨es, l', h1, h2, h3.1, fun i e m k1 k2 => (h3.2 i e m k1 k2).mono hl⟩
  | si _ _ => exact h
  | mi m since seen last =>
    obtain ⟨mc, h1, h0, h2⟩ := h
    refine ⟨mc, h1, h0, ?_⟩
    cases m with
    | none => exact h2
    | some b => obtain ⟨t', h3, h4⟩ := h2; exact ⟨t', hl _ _ h3, h4⟩
  | lp st pend nt tm ps a b dq => obtain ⟨fn, tmps, s, t', h1, h2, h3, h4⟩ := h; exact ⟨fn, tmps, s, t', h1, hl _ _ h2, h3, h4.mono hl⟩
  | dq taken => exact h

abbrev Hp := Pn → AO
noncomputable abbrev hv (h : Tr AO) : Hp := fun b => h.get .x b
noncomputable def upd (H : Hp) (b : Pn) (o : AO) : Hp := fun c => open Classical in if c = b then o else H c
theorem upd_same (H : Hp) (b : Pn) (o : AO) : upd H b o b = o := by simp [upd]
theorem upd_other (H : Hp) {b c : Pn} (o : AO) (h : c ≠ b) : upd H b o c = H c := by simp [upd, h]
theorem hv_put (h : Tr AO) (b : Pn) (o : AO) : hv (h.put .x o b) = upd (hv h) b o := by
  funext c
  by_cases e : c = b
  · subst e; rw [upd_same]; exact get_put_same _ _ _ _
  · rw [upd_other _ _ e]; exact get_put_other _ _ _ _ (fun x => e x.symm) _
def own (o : AO) : Prop := o ≠ .x ∧ ∀ l ty, o ≠ .k l ty
structure Rel (ρ : Ren) (H : Hp) (w : World) : Prop where
  ob : ∀ b, H b ≠ .x → ∃ t, ρ b = some t ∧ OR ρ w.heap[t.c]? t (H b)
  inj : ∀ b b' t t', own (H b) → H b' ≠ .x → ρ b = some t → ρ b' = some t' → t.c = t'.c → b = b'
theorem Rel.weak {ρ : Ren} {H H' : Hp} {w : World} (h : Rel ρ H w) (hw : ∀ b, H' b ≠ .x → H' b = H b) : Rel ρ H' w :=
  ⟨fun b hb => by rw [hw b hb]; exact h.ob b (by rw [← hw b hb]; exact hb),
   fun b b' t t' h1 h2 => h.inj b b' t t' (by rw [← hw b h1.1]; exact h1) (by rw [← hw b' h2]; exact h2)⟩

/-- a step: names are added, blocks that are not owned stay -/
structure Step (ρ : Ren) (H : Hp) (w : World) (n : Pn) (ρ' : Ren) (H' : Hp) (w' : World) (n' : Pn) : Prop where
  ext : ρ.le ρ'
  nw : ∀ b, ρ b = none → ρ' b ≠ none → n.nat ≤ b.nat ∧ b.nat < n'.nat
  lv : ∀ b, H' b ≠ .x → H b ≠ .x ∨ (n.nat ≤ b.nat ∧ b.nat < n'.nat)
  le : n.nat ≤ n'.nat
  rel : Rel ρ' H' w'
  size : w.heap.size ≤ w'.heap.size
  same : ∀ k, k < w.heap.size → (∀ b t, own (H b) → ρ b = some t → t.c ≠ k) → w'.heap[k]? = w.heap[k]?
  owns : ∀ b t, own (H' b) → ρ' b = some t → (∃ b0 t0, own (H b0) ∧ ρ b0 = some t0 ∧ t0.c = t.c) ∨ w.heap.size ≤ t.c
  os : w'.os = w.os
  tape : w'.tape = w.tape
  output : w'.output = w.output
  ks : ∀ b l ty, H' b = .k l ty → H b = .k l ty
section
variable {ρ ρ' ρ'' : Ren} {H H' H'' : Hp} {w w' w'' : World} {n n' n'' : Pn}
theorem Step.refl (h : Rel ρ H w) : Step ρ H w n ρ H w n :=
  ⟨fun _ _ h => h, fun _ h k => absurd h k, fun _ h => .inl h, Nat.le_refl _, h, Nat.le_refl _, fun _ _ _ => rfl, fun b t h1 h2 => .inl ⟨b, t, h1, h2, rfl⟩, rfl, rfl, rfl, fun _ _ _ e => e⟩
theorem Step.trans (h : Step ρ H w n ρ' H' w' n') (k : Step ρ' H' w' n' ρ'' H'' w'' n'') : Step ρ H w n ρ'' H'' w'' n'' where
  ext := Ren.le_trans h.ext k.ext
  nw := fun b h1 h2 => by
    by_cases e : ρ' b = none
    · have := k.nw b e h2; have := h.le; omega
    · have := h.nw b h1 e; have := k.le; omega
  lv := fun b hb => by
    rcases k.lv b hb with h1 | h1
    · rcases h.lv b h1 with h2 | h2
      · exact .inl h2
      · have := k.le; right; omega
    · have := h.le; right; omega
  le := Nat.le_trans h.le k.le
  rel := k.rel
  size := Nat.le_trans h.size k.size
  same := fun j hj hn => by
    rw [k.same j (Nat.lt_of_lt_of_le hj h.size) (fun b t h1 h2 e => by
      rcases h.owns b t h1 h2 with ⟨b0, t0, h3, h4, h5⟩ | h3
      · exact hn b0 t0 h3 h4 (by omega)
      · omega)]
    exact h.same j hj hn
  owns := fun b t h1 h2 => by
    rcases k.owns b t h1 h2 with ⟨b0, t0, h3, h4, h5⟩ | h3
    · rcases h.owns b0 t0 h3 h4 with ⟨b1, t1, h6, h7, h8⟩ | h6
      · exact .inl ⟨b1, t1, h6, h7, by omega⟩
      · exact .inr (by omega)
    · exact .inr (Nat.le_trans h.size h3)
  os := k.os.trans h.os
  tape := k.tape.trans h.tape
  output := k.output.trans h.output
  ks := fun b l ty e => h.ks b l ty (k.ks b l ty e)
/-- what is known grows no more -/
theorem Step.weak (h : Step ρ H w n ρ' H' w' n') {H2 : Hp} (hw : ∀ b, H2 b ≠ .x → H2 b = H' b) : Step ρ H w n ρ' H2 w' n' :=
  { h with
    lv := fun b hb => h.lv b (by rw [← hw b hb]; exact hb)
    rel := h.rel.weak hw
    owns := fun b t h1 h2 => h.owns b t (by rw [← hw b h1.1]; exact h1) h2
    ks := fun b l ty e => h.ks b l ty (by rw [← hw b (by rw [e]; simp)]; exact e) }
/-- a draw -/
theorem Step.same_heap (h : Rel ρ H w) (e : w'.heap = w.heap) (o1 : w'.os = w.os) (o2 : w'.tape = w.tape) (o3 : w'.output = w.output) : Step ρ H w n ρ H w' n :=
  ⟨fun _ _ h => h, fun _ h k => absurd h k, fun _ h => .inl h, Nat.le_refl _, ⟨fun b hb => by rw [e]; exact h.ob b hb, h.inj⟩, by rw [e]; exact Nat.le_refl _, fun _ _ _ => by rw [e],
    fun b t h1 h2 => .inl ⟨b, t, h1, h2, rfl⟩, o1, o2, o3, fun _ _ _ e => e⟩
/-- an owned block is turned -/
theorem Step.turn (h : Rel ρ H w) {b : Pn} {t : Bk} {o : AO} {ob : Obj} (hb : own (H b)) (ht : ρ b = some t) (ho : OR ρ (some ob) t o) (hk : own o ∨ o = .x)
    (hw : ∀ k, w'.heap[k]? = if k = t.c then some ob else w.heap[k]?) (hs : w'.heap.size = w.heap.size) (o1 : w'.os = w.os) (o2 : w'.tape = w.tape) (o3 : w'.output = w.output) :
    Step ρ H w n ρ (upd H b o) w' n where
  ext := fun _ _ h => h
  nw := fun _ h k => absurd h k
  lv := fun c hc => by
    by_cases e : c = b
    · subst e; exact .inl hb.1
    · rw [upd_other _ _ e] at hc; exact .inl hc
  le := Nat.le_refl _
  rel := ⟨fun c hc => by
      by_cases e : c = b
      · subst e; rw [upd_same]; exact ⟨t, ht, by rw [hw, if_pos rfl]; exact ho⟩
      · rw [upd_other _ _ e] at hc ⊢
        obtain ⟨u, h1, h2⟩ := h.ob c hc
        refine ⟨u, h1, ?_⟩
        rw [hw, if_neg (fun e2 => e (h.inj b c t u hb hc ht h1 e2.symm).symm)]
        exact h2,
    fun c c' u u' h1 h2 h3 h4 h5 => by
      have g1 : own (H c) := by
        by_cases e : c = b
        · subst e; exact hb
        · rw [upd_other _ _ e] at h1; exact h1
      have g2 : H c' ≠ .x := by
        by_cases e : c' = b
        · subst e; exact hb.1
        · rw [upd_other _ _ e] at h2; exact h2
      exact h.inj c c' u u' g1 g2 h3 h4 h5⟩
  size := by rw [hs]; exact Nat.le_refl _
  same := fun k _ hn => by rw [hw, if_neg (fun e => hn b t hb ht e.symm)]
  owns := fun c u h1 h2 => by
    have g1 : own (H c) := by
      by_cases e : c = b
      · subst e; exact hb
      · rw [upd_other _ _ e] at h1; exact h1
    exact .inl ⟨c, u, g1, h2, rfl⟩
  os := o1
  tape := o2
  output := o3
  ks := fun c l ty e => by
    by_cases h1 : c = b
    · subst h1
      rw [upd_same] at e
      rcases hk with h2 | h2
      · exact absurd e (h2.2 l ty)
      · rw [h2] at e; cases e
    · rw [upd_other _ _ h1] at e; exact e
noncomputable def updR (ρ : Ren) (b : Pn) (t : Bk) : Ren := fun c => open Classical in if c = b then some t else ρ c
theorem updR_same (b : Pn) (t : Bk) : updR ρ b t b = some t := by simp [updR]
theorem updR_other {b c : Pn} (t : Bk) (h : c ≠ b) : updR ρ b t c = ρ c := by simp [updR, h]
theorem updR_le {b : Pn} {t : Bk} (h : ρ b = none) : ρ.le (updR ρ b t) := fun c u e => by
  by_cases h1 : c = b
  · subst h1; rw [h] at e; cases e
  · rw [updR_other _ h1]; exact e
/-- a block is laid -/
theorem Step.new (h : Rel ρ H w) {t : Bk} {o : AO} {ob : Obj} (hn : ρ n = none) (hH : H n = .x) (hc : t.c = w.heap.size) (ho : OR (updR ρ n t) (some ob) t o) (hlt : ∀ b u, H b ≠ .x → ρ b = some u → u.c < w.heap.size)
    (hw : w'.heap = w.heap.push ob) (o1 : w'.os = w.os) (o2 : w'.tape = w.tape) (o3 : w'.output = w.output) (hk : ∀ l ty, o ≠ .k l ty := by simp) :
    Step ρ H w n (updR ρ n t) (upd H n o) w' n.succ where
  ext := updR_le hn
  nw := fun b h1 h2 => by
    by_cases e : b = n
    · subst e; rw [nat_succ]; omega
    · rw [updR_other _ e] at h2; exact absurd h1 h2
  lv := fun c hc => by
    by_cases e : c = n
    · subst e; rw [nat_succ]; right; omega
    · rw [upd_other _ _ e] at hc; exact .inl hc
  le := by rw [nat_succ]; omega
  rel := ⟨fun c hc' => by
      by_cases e : c = n
      · subst e; rw [upd_same]; refine ⟨t, updR_same _ _, ?_⟩; rw [hw, hc]; simpa using ho
      · rw [upd_other _ _ e] at hc' ⊢
        obtain ⟨u, h1, h2⟩ := h.ob c hc'
        refine ⟨u, updR_le hn _ _ h1, ?_⟩
        have := hlt c u hc' h1
        rw [hw, Array.getElem?_push_lt this, ← Array.getElem?_eq_getElem this]
        exact h2.mono (updR_le hn),
    fun c c' u u' h1 h2 h3 h4 h5 => by
      by_cases e : c = n
      · by_cases e' : c' = n
        · rw [e, e']
        · subst e
          rw [updR_same] at h3; injection h3 with h3; subst h3
          rw [upd_other _ _ e'] at h2; rw [updR_other _ e'] at h4
          have := hlt c' u' h2 h4; omega
      · by_cases e' : c' = n
        · subst e'
          rw [updR_same] at h4; injection h4 with h4; subst h4
          rw [upd_other _ _ e] at h1; rw [updR_other _ e] at h3
          have := hlt c u h1.1 h3; omega
        · rw [upd_other _ _ e] at h1; rw [updR_other _ e] at h3; rw [upd_other _ _ e'] at h2; rw [updR_other _ e'] at h4
          exact h.inj c c' u u' h1 h2 h3 h4 h5⟩
  size := by rw [hw]; simp
  same := fun k hk _ => by rw [hw, Array.getElem?_push_lt hk, ← Array.getElem?_eq_getElem hk]
  owns := fun c u h1 h2 => by
    by_cases e : c = n
    · subst e; rw [updR_same] at h2; injection h2 with h2; subst h2; exact .inr (by omega)
    · rw [upd_other _ _ e] at h1; rw [updR_other _ e] at h2; exact .inl ⟨c, u, h1, h2, rfl⟩
  os := o1
  tape := o2
  output := o3
  ks := fun c l ty e => by
    by_cases h1 : c = n
    · subst h1
      rw [upd_same] at e
      exact absurd e (hk l ty)
    · rw [upd_other _ _ h1] at e; exact e
end
/-- the names from n to n' bear nothing -/
def Fresh (ρ : Ren) (H : Hp) (n n' : Pn) : Prop := ∀ b : Pn, n.nat ≤ b.nat → b.nat < n'.nat → ρ b = none ∧ H b = .x
theorem Fresh.left {ρ : Ren} {H : Hp} {n n1 n2 : Pn} (h : Fresh ρ H n n2) (hl : n1.nat ≤ n2.nat) : Fresh ρ H n n1 := fun b h1 h2 => h b h1 (by omega)
theorem Fresh.right {ρ ρ' : Ren} {H H' : Hp} {w w' : World} {n n1 n2 : Pn} (h : Fresh ρ H n n2) (s : Step ρ H w n ρ' H' w' n1) : Fresh ρ' H' n1 n2 := fun b h1 h2 => by
  have h0 := h b (by have := s.le; omega) h2
  constructor
  · apply Classical.byContradiction
    intro e
    have := s.nw b h0.1 e
    omega
  · apply Classical.byContradiction
    intro e
    rcases s.lv b e with h3 | h3
    · exact h3 h0.2
    · omega
end Ax
end Go.Proofs.YtnnhkajjifmlfaaDoor
