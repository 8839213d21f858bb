/- Effects on maps; cells cleared; blocks frozen. -/
import Derived.Test.YtnnhkajjifmlfaaDoorX17
import Derived.RangeFuncRecord
namespace Go.Proofs.YtnnhkajjifmlfaaDoor
namespace Ax
section
variable {E : Env} {o : Oper} {t u : TypeId} {x y z : Operand} {ρ : Ren} {H : Hp} {w w' : World}
theorem heap_putObj {c : Nat} {ob : Obj} (h : c < w.heap.size) (k : Nat) : (w.putObj c ob).heap[k]? = if k = c then some ob else w.heap[k]? := by
  split
  · rename_i e; subst e; exact World.putObj_heap_same h
  · rename_i e; exact World.putObj_heap_other e
theorem run_setObj {P : Program} {c : Nat} {ob ob' : Obj} (h : w.heap[c]? = some ob') (hne : ∀ a t f, ob' ≠ .cells a t f := by simp) : (setObj c ob).run P w = .ok () (w.putObj c ob) := by
  cases ob' <;> first | exact absurd rfl (hne _ _ _) | (simp [setObj, Sem.run, h, World.putObj])
theorem run_getObj {P : Program} {c : Nat} {ob : Obj} (h : w.heap[c]? = some ob) (hne : ∀ a t f, ob ≠ .cells a t f := by simp) : (getObj c).run P w = .ok ob w := by
  cases ob <;> first | exact absurd rfl (hne _ _ _) | (simp [getObj, Sem.run, h])
theorem lt_of_some {c : Nat} {ob : Obj} (h : w.heap[c]? = some ob) : c < w.heap.size := (Array.getElem?_eq_some_iff.1 h).1
theorem Step.obj {n b : Pn} {tb : Bk} {o : AO} {ob ob' : Obj} (h : Rel ρ H w) (hb : own (H b)) (ht : ρ b = some tb) (hk : own o) (ho : OR ρ (some ob) tb o) (hg : w.heap[tb.c]? = some ob') :
    Step ρ H w n ρ (upd H b o) (w.putObj tb.c ob) n :=
  Step.turn h hb ht ho (.inl hk) (heap_putObj (lt_of_some hg)) World.putObj_size rfl rfl rfl
theorem own_mp {o : AO} {l : Ents} {c : Nat} (h : o = .mp l c) : own o := by subst h; exact ⟨by simp, by simp⟩

/-! ### clear -/
theorem ve_clear_slice {c : Call} {ts : List TypeId} {i j : TI} {e : TypeId} (hE : EOK E) (hi : E.ti t = some i) (hd : i.d = .slice e) (hj : E.ti e = some j) (hg : (Nat.beq j.size 0 || !(Nat.beq j.zc.length j.size)) = false)
    (ho : o.op = .call c) (hb : c.callee = .builtin .clear) (ht : c.argTypes.toList = t :: ts) (hx : c.args.toList = [x]) :
    VeS E.P o (fun tm h n k => opd x tm fun v => asSl v (k (.tu []) h n) fun b o m _ _ => Nat.rec (k (.tu []) h n) (fun _ _ => stc h b o (repC m j.zc) fun h => k (.tu []) h n) m) := fun tm h n k hk => by
  obtain ⟨v, h1, h2⟩ := opd_inv hk
  simp only [h2] at hk ⊢
  obtain ⟨hs0, hzl⟩ := elem_inv hg
  have hu : E.P.underlying t = some (.slice e) := by rw [(tok hE hi).un, hd]
  have hrun : ∀ (A : Act) (w w' : World) (v : Value), A.eval x = v → (Builtin.clear_ (t :: ts).toArray o.type #[v]).run E.P w = .ok (.tuple #[]) w' → (execOp A.eval o).run E.P w = .ok (.value (.tuple #[])) w' := by
    intro A w w' v e1 h
    rw [run_builtin ho hb, args_of hx, types_of ht]
    refine run_v ?_
    simp only [List.map_toArray, List.map_cons, List.map_nil, e1]
    exact h
  have mx : x ∈ o.op.operands := bi_mem ho (by rw [hx]; simp)
  rcases asSl_inv hk with ⟨rfl, h3⟩ | ⟨b, p, m, c1, ex, rfl, h3⟩
  · refine ⟨_, _, _, h3, Nat.le_refl _, fun ρ A w hr hR _ => ⟨ρ, w, _, _, hrun A w w _ (hr x mx _ h1).ns_inv ?_, .inl rfl, Step.refl hR, VR.undef ρ⟩⟩
    simp [Builtin.clear_, run_underlying hu]
  · rw [h3] at hk ⊢
    cases m with
    | zero =>
      refine ⟨_, _, _, rfl, Nat.le_refl _, fun ρ A w hr hR _ => ?_⟩
      obtain ⟨tb, off, c', q1, q2, _⟩ := (hr x mx _ h1).sl_inv
      refine ⟨ρ, w, _, _, hrun A w w _ q2 ?_, .inl rfl, Step.refl hR, VR.undef ρ⟩
      simp [Builtin.clear_, run_underlying hu]
    | succ m =>
      simp only at hk ⊢
      obtain ⟨h4, l, ty, fz, h5, h6, h7⟩ := stc_inv hk
      refine ⟨_, _, _, h7, Nat.le_refl _, fun ρ A w hr hR _ => ?_⟩
      obtain ⟨tb, off, c', q1, q2, q3, q4, _, _, q7⟩ := (hr x mx _ h1).sl_inv
      have hoff : off = tb.d + p := by rcases q3 with g | g; exact g; omega
      subst hoff
      obtain ⟨z, z1, z2, z3⟩ := (tok hE hj).run_zero w
      have hrep := rep_rel (ofSs_rel ρ z3) (m + 1) (by omega)
      obtain ⟨w', e1, e2⟩ := store_rel (P := E.P) (n := n) hR h5 q1 hrep h4 h6
      refine ⟨ρ, w', _, _, hrun A w w' _ q2 ?_, .inl rfl, by rw [hv_put]; exact e2, VR.undef ρ⟩
      have hzs := zero_len z3 hzl
      have hze : Builtin.zeroCells z.cells (m + 1) = (Array.range ((m + 1) * j.zc.length)).map (z.cells[· % z.cells.size]!) := by
        unfold Builtin.zeroCells
        rw [hzs, hzl]
      rw [← hze] at e1
      simp [Builtin.clear_, run_underlying hu, z1, e1]
theorem ve_clear_map {c : Call} {ts : List TypeId} {i : TI} {kt e : TypeId} (hE : EOK E) (hi : E.ti t = some i) (hd : i.d = .map kt e) (ho : o.op = .call c) (hb : c.callee = .builtin .clear) (ht : c.argTypes.toList = t :: ts) (hx : c.args.toList = [x]) :
    VeS E.P o (fun tm h n k => opd x tm fun v => asM v (k (.tu []) h n) fun b => mapK h b fun _ c => h.setK .x (.mp [] c) b fun h => k (.tu []) h n) := fun tm h n k hk => by
  obtain ⟨v, h1, h2⟩ := opd_inv hk
  simp only [h2] at hk ⊢
  have hu : E.P.underlying t = some (.map kt e) := by rw [(tok hE hi).un, hd]
  have mx : x ∈ o.op.operands := bi_mem ho (by rw [hx]; simp)
  rcases asM_inv hk with ⟨rfl, h3⟩ | ⟨b, rfl, h3⟩
  · refine ⟨_, _, _, h3, Nat.le_refl _, fun ρ A w hr hR _ => ⟨ρ, w, .tuple #[], .value (.tuple #[]), ?_, .inl rfl, Step.refl hR, VR.undef ρ⟩⟩
    rw [run_builtin ho hb, args_of hx, types_of ht]
    refine run_v ?_
    simp only [List.map_toArray, List.map_cons, List.map_nil, (hr x mx _ h1).nm_inv]
    simp [Builtin.clear_, run_underlying hu]
  · rw [h3] at hk ⊢
    obtain ⟨l, c0, h4, h5⟩ := mapK_inv hk
    rw [h5] at hk ⊢
    rw [setK_eq] at hk ⊢
    refine ⟨_, _, _, rfl, Nat.le_refl _, fun ρ A w hr hR _ => ?_⟩
    obtain ⟨tb, q1, q2⟩ := (hr x mx _ h1).m_inv
    obtain ⟨tb', es, l', g3, g4, g5, g6⟩ := map_rel hR h4
    obtain rfl := Option.some.inj (q1.symm.trans g3)
    refine ⟨ρ, w.putObj tb.c (.map #[] c0), .tuple #[], .value (.tuple #[]), ?_, .inl rfl, ?_, VR.undef ρ⟩
    · rw [run_builtin ho hb, args_of hx, types_of ht]
      refine run_v ?_
      simp only [List.map_toArray, List.map_cons, List.map_nil, q2]
      simp [Builtin.clear_, run_underlying hu, run_getObj g4, run_setObj g4]
    · rw [hv_put]
      exact Step.obj hR (own_mp h4) q1 ⟨by simp, by simp⟩ ⟨#[], [], rfl, .nil, rfl, fun i e m h => by simp at h⟩ g4

/-! ### entries -/
theorem setE_eq (key v : AV) : ∀ (l : Ents) (i : Nat) (e : AV × AV × Option Nat), l[i]? = some e → setE key v l i = l.set i (key, v, e.2.2)
  | [], i, e, h => by simp at h
  | a :: l, 0, e, h => by simp at h; subst h; rfl
  | a :: l, i + 1, e, h => by simp at h; exact congrArg (a :: ·) (setE_eq key v l i e h)
theorem delE_eq : ∀ (l : Ents) (i : Nat), delE l i = l.eraseIdx i
  | [], i => by cases i <;> rfl
  | a :: l, 0 => rfl
  | a :: l, i + 1 => congrArg (a :: ·) (delE_eq l i)
theorem cons_erase_perm {α : Type} : ∀ {l : List α} {i : Nat} (h : i < l.length), (l[i] :: l.eraseIdx i).Perm l
  | a :: l, 0, _ => .refl _
  | a :: l, i + 1, h => by
    have hi : i < l.length := by simpa using h
    exact (List.Perm.swap a l[i] (l.eraseIdx i)).trans ((cons_erase_perm hi).cons a)
theorem perm_erase {α : Type} {l l' : List α} {e : α} {i j : Nat} (hp : l'.Perm l) (hi : l[i]? = some e) (hj : l'[j]? = some e) : (l'.eraseIdx j).Perm (l.eraseIdx i) := by
  obtain ⟨h1, rfl⟩ := List.getElem?_eq_some_iff.1 hi
  obtain ⟨h2, h3⟩ := List.getElem?_eq_some_iff.1 hj
  have p1 := cons_erase_perm h1
  have p2 := cons_erase_perm h2
  rw [h3] at p2
  exact (p2.trans (hp.trans p1.symm)).cons_inv
theorem perm_set {α : Type} {l l' : List α} {e a : α} {i j : Nat} (hp : l'.Perm l) (hi : l[i]? = some e) (hj : l'[j]? = some e) : (l'.set j a).Perm (l.set i a) := by
  obtain ⟨h1, _⟩ := List.getElem?_eq_some_iff.1 hi
  obtain ⟨h2, _⟩ := List.getElem?_eq_some_iff.1 hj
  have p1 := cons_erase_perm (l := l.set i a) (i := i) (by simpa using h1)
  have p2 := cons_erase_perm (l := l'.set j a) (i := j) (by simpa using h2)
  simp only [List.getElem_set_self, List.eraseIdx_set_eq] at p1 p2
  exact p2.symm.trans (((perm_erase hp hi hj).cons a).trans p1)
theorem ERs.set {l : Ents} {es : List MapEntry} (h : ERs ρ l es) {j : Nat} {e : AV × AV × Option Nat} {m : MapEntry} (he : ER ρ e m) : ERs ρ (l.set j e) (es.set j m) := by
  refine ⟨by simp [h.1], fun i e' m' h1 h2 => ?_⟩
  by_cases hij : j = i
  · subst hij
    have hl : j < l.length := by have := (List.getElem?_eq_some_iff.1 h1).1; simpa using this
    have hl' : j < es.length := by rw [h.1]; exact hl
    rw [List.getElem?_set_self hl] at h1
    rw [List.getElem?_set_self hl'] at h2
    injection h1 with h1; injection h2 with h2
    subst h1; subst h2
    exact he
  · rw [List.getElem?_set_ne hij] at h1 h2
    exact h.2 i e' m' h1 h2
theorem ERs.erase {l : Ents} {es : List MapEntry} (h : ERs ρ l es) (j : Nat) : ERs ρ (l.eraseIdx j) (es.eraseIdx j) := by
  refine ⟨by simp [List.length_eraseIdx, h.1], fun i e m h1 h2 => ?_⟩
  rw [List.getElem?_eraseIdx] at h1 h2
  split at h1
  · rename_i hi; rw [if_pos hi] at h2; exact h.2 i e m h1 h2
  · rename_i hi; rw [if_neg hi] at h2; exact h.2 _ e m h1 h2
theorem ERs.push {l : Ents} {es : List MapEntry} (h : ERs ρ l es) {e : AV × AV × Option Nat} {m : MapEntry} (he : ER ρ e m) : ERs ρ (l ++ [e]) (es ++ [m]) := by
  refine ⟨by simp [h.1], fun i e' m' h1 h2 => ?_⟩
  rw [List.getElem?_append] at h1 h2
  rw [h.1] at h2
  split at h1
  · rename_i hi; rw [if_pos hi] at h2; exact h.2 i e' m' h1 h2
  · rename_i hi
    rw [if_neg hi] at h2
    cases hk : i - l.length with
    | zero => rw [hk] at h1 h2; simp at h1 h2; subst h1; subst h2; exact he
    | succ k => rw [hk] at h1; simp at h1
theorem ve_upd {i : TI} {kt e : TypeId} {kd : Nat} (hE : EOK E) (hi : E.ti t = some i) (hd : i.d = .map kt e) (hk : keyEq E kt = some kd) (ho : o.op = .mapUpdate t x y z ∨ o.op = .insert t x y z) :
    VeS E.P o (fun tm h n k => opd x tm fun v => opd y tm fun key => opd z tm fun x => updK kd v key x h fun h => k (.tu []) h n) := fun tm h n k hk' => by
  obtain ⟨mv, h1, h2⟩ := opd_inv hk'
  simp only [h2] at hk' ⊢
  obtain ⟨key, h3, h4⟩ := opd_inv hk'
  simp only [h4] at hk' ⊢
  obtain ⟨xv, h5, h6⟩ := opd_inv hk'
  simp only [h6] at hk' ⊢
  have hu : E.P.underlying t = some (.map kt e) := by rw [(tok hE hi).un, hd]
  have hck := fun b v w => run_checkKey hE hk b v w
  have eo : o.op.operands = #[x, y, z] := by rcases ho with ho | ho <;> rw [ho] <;> rfl
  have hrun : ∀ (A : Act) (w w' : World), (Instr.mapUpdate t (A.eval x) (A.eval y) (A.eval z)).run E.P w = .ok () w' → (execOp A.eval o).run E.P w = .ok .skip w' := by
    intro A w w' h
    rcases ho with ho | ho <;> (simp only [execOp, ho]; simp [h])
  unfold updK at hk' ⊢
  rcases asM_inv hk' with ⟨rfl, h7⟩ | ⟨b, rfl, h7⟩
  · rw [h7] at hk'; exact (ok_er hk').elim
  rw [h7] at hk' ⊢
  obtain ⟨l, c, h8, h9⟩ := mapK_inv hk'
  rw [h9] at hk' ⊢
  obtain ⟨r, h10, h11⟩ := find_inv hE hk hk'
  rw [h10] at hk' ⊢
  cases r with
  | none =>
    simp only [setK_eq] at hk' ⊢
    refine ⟨_, _, _, rfl, Nat.le_refl _, fun ρ A w hr hR _ => ?_⟩
    obtain ⟨tb, q1, q2⟩ := (hr x (mem1 eo (by simp)) _ h1).m_inv
    obtain ⟨tb', es, l', g3, g4, g5, g6⟩ := map_rel hR h8
    obtain rfl := Option.some.inj (q1.symm.trans g3)
    have hf := h11 ρ _ w l' es.toList (hr y (mem1 eo (by simp)) _ h3) g5 g6
    simp only at hf
    refine ⟨ρ, w.putObj tb.c (.map (es.push { key := A.eval y, val := A.eval z, born := c }) (c + 1)), _, .skip, hrun A w _ ?_, .inr ⟨rfl, rfl⟩, ?_, VR.undef ρ⟩
    · rw [q2]
      simp [Instr.mapUpdate, run_underlying hu, run_getObj g4, hck, hf, run_setObj g4]
    · rw [hv_put]
      refine Step.obj hR (own_mp h8) q1 ⟨by simp, by simp⟩ ⟨_, l' ++ [(key, xv, some c)], rfl, g5.append_right _, ?_⟩ g4
      rw [Array.toList_push]
      exact g6.push ⟨hr y (mem1 eo (by simp)) _ h3, hr z (mem1 eo (by simp)) _ h5, fun s h => by injection h⟩
  | some p =>
    obtain ⟨i0, v0⟩ := p
    simp only [setK_eq] at hk' ⊢
    refine ⟨_, _, _, rfl, Nat.le_refl _, fun ρ A w hr hR _ => ?_⟩
    obtain ⟨tb, q1, q2⟩ := (hr x (mem1 eo (by simp)) _ h1).m_inv
    obtain ⟨tb', es, l', g3, g4, g5, g6⟩ := map_rel hR h8
    obtain rfl := Option.some.inj (q1.symm.trans g3)
    obtain ⟨e0, j0, m, p1, p2, p3, p4, p5, p6⟩ := h11 ρ _ w l' es.toList (hr y (mem1 eo (by simp)) _ h3) g5 g6
    have hm : es[j0]? = some m := by rw [← Array.getElem?_toList]; exact p4
    refine ⟨ρ, w.putObj tb.c (.map (es.modify j0 fun e => { e with key := A.eval y, val := A.eval z }) c), _, .skip, hrun A w _ ?_, .inr ⟨rfl, rfl⟩, ?_, VR.undef ρ⟩
    · rw [q2]
      simp [Instr.mapUpdate, run_underlying hu, run_getObj g4, hck, p5, hm, Instr.keyThatStays, p6, run_setObj g4]
    · rw [hv_put]
      have hset := setE_eq key xv l i0 e0 p1
      rw [hset]
      refine Step.obj hR (own_mp h8) q1 ⟨by simp, by simp⟩ ⟨_, l'.set j0 (key, xv, e0.2.2), rfl, perm_set g5 p1 p3, ?_⟩ g4
      have hmo : (es.modify j0 fun e => { e with key := A.eval y, val := A.eval z }).toList = es.toList.set j0 { m with key := A.eval y, val := A.eval z } := by
        apply List.ext_getElem?
        intro k
        rw [Array.getElem?_toList, Array.getElem?_modify]
        by_cases hk : j0 = k
        · subst hk
          rw [if_pos rfl, hm, List.getElem?_set_self (List.getElem?_eq_some_iff.1 p4).1]; rfl
        · rw [if_neg hk, List.getElem?_set_ne hk, Array.getElem?_toList]
      rw [hmo]
      exact g6.set ⟨hr y (mem1 eo (by simp)) _ h3, hr z (mem1 eo (by simp)) _ h5, (g6.2 j0 e0 m p3 p4).2.2⟩
theorem ve_delete {c : Call} {ts : List TypeId} {i : TI} {kt e : TypeId} {kd : Nat} (hE : EOK E) (hi : E.ti t = some i) (hd : i.d = .map kt e) (hk : keyEq E kt = some kd) (ho : o.op = .call c) (hb : c.callee = .builtin .delete) (ht : c.argTypes.toList = t :: ts) (hx : c.args.toList = [x, y]) :
    VeS E.P o (fun tm h n k => opd x tm fun v => opd y tm fun key => delK kd v key h fun h => k (.tu []) h n) := fun tm h n k hk' => by
  obtain ⟨mv, h1, h2⟩ := opd_inv hk'
  simp only [h2] at hk' ⊢
  obtain ⟨key, h3, h4⟩ := opd_inv hk'
  simp only [h4] at hk' ⊢
  have hu : E.P.underlying t = some (.map kt e) := by rw [(tok hE hi).un, hd]
  have hck := fun b v w => run_checkKey hE hk b v w
  have mx : x ∈ o.op.operands := bi_mem ho (by rw [hx]; simp)
  have my : y ∈ o.op.operands := bi_mem ho (by rw [hx]; simp)
  have hrun : ∀ (A : Act) (w w' : World) (v : Value), A.eval x = v → (Builtin.delete_ (t :: ts).toArray o.type #[v, A.eval y]).run E.P w = .ok (.tuple #[]) w' → (execOp A.eval o).run E.P w = .ok (.value (.tuple #[])) w' := by
    intro A w w' v e1 h
    rw [run_builtin ho hb, args_of hx, types_of ht]
    refine run_v ?_
    simp only [List.map_toArray, List.map_cons, List.map_nil, e1]
    exact h
  unfold delK at hk' ⊢
  rcases asM_inv hk' with ⟨rfl, h7⟩ | ⟨b, rfl, h7⟩
  · rw [h7] at hk'; exact (ok_er hk').elim
  rw [h7] at hk' ⊢
  obtain ⟨l, c0, h8, h9⟩ := mapK_inv hk'
  rw [h9] at hk' ⊢
  obtain ⟨r, h10, h11⟩ := find_inv hE hk hk'
  rw [h10] at hk' ⊢
  cases r with
  | none =>
    refine ⟨_, _, _, rfl, Nat.le_refl _, fun ρ A w hr hR _ => ?_⟩
    obtain ⟨tb, q1, q2⟩ := (hr x mx _ h1).m_inv
    obtain ⟨tb', es, l', g3, g4, g5, g6⟩ := map_rel hR h8
    obtain rfl := Option.some.inj (q1.symm.trans g3)
    have hf := h11 ρ _ w l' es.toList (hr y my _ h3) g5 g6
    simp only at hf
    refine ⟨ρ, w.putObj tb.c (.map es c0), _, _, hrun A w _ _ q2 ?_, .inl rfl, ?_, VR.undef ρ⟩
    · simp [Builtin.delete_, run_underlying hu, run_getObj g4, hck, hf, run_setObj g4]
    · have hst := Step.obj (n := n) (o := .mp l c0) (ob := .map es c0) hR (own_mp h8) q1 ⟨by simp, by simp⟩ ⟨es, l', rfl, g5, g6⟩ g4
      have : upd (hv h) b (.mp l c0) = hv h := by
        funext a
        by_cases ha : a = b
        · subst ha; rw [upd_same]; exact h8.symm
        · rw [upd_other _ _ ha]
      rw [this] at hst
      exact hst
  | some p =>
    obtain ⟨i0, v0⟩ := p
    simp only [setK_eq] at hk' ⊢
    refine ⟨_, _, _, rfl, Nat.le_refl _, fun ρ A w hr hR _ => ?_⟩
    obtain ⟨tb, q1, q2⟩ := (hr x mx _ h1).m_inv
    obtain ⟨tb', es, l', g3, g4, g5, g6⟩ := map_rel hR h8
    obtain rfl := Option.some.inj (q1.symm.trans g3)
    obtain ⟨e0, j0, m, p1, p2, p3, p4, p5, p6⟩ := h11 ρ _ w l' es.toList (hr y my _ h3) g5 g6
    refine ⟨ρ, w.putObj tb.c (.map (es.eraseIdxIfInBounds j0) c0), _, _, hrun A w _ _ q2 ?_, .inl rfl, ?_, VR.undef ρ⟩
    · simp [Builtin.delete_, run_underlying hu, run_getObj g4, hck, p5, run_setObj g4]
    · rw [hv_put, delE_eq]
      have hj : j0 < es.size := by have := (List.getElem?_eq_some_iff.1 p4).1; simpa using this
      refine Step.obj hR (own_mp h8) q1 ⟨by simp, by simp⟩ ⟨_, l'.eraseIdx j0, rfl, perm_erase g5 p1 p3, ?_⟩ g4
      have : (es.eraseIdxIfInBounds j0).toList = es.toList.eraseIdx j0 := by simp [Array.eraseIdxIfInBounds, hj]
      rw [this]
      exact g6.erase j0
end
end Ax
end Go.Proofs.YtnnhkajjifmlfaaDoor
