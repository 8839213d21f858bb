/- Blocks laid; a range's entry read again. -/
import Derived.Test.YtnnhkajjifmlfaaDoorX14
import Derived.Laws.MakeOwn
namespace Go.Proofs.YtnnhkajjifmlfaaDoor
namespace Ax
section
variable {E : Env} {o : Oper} {t u : TypeId} {x y : Operand}

theorem aoI_inv {a : AO} {k : Option Pn → Nat → List Nat → Nat → R} (h : Ok (aoI a k)) : ∃ m s l c, a = .mi m s l c ∧ aoI a k = k m s l c := by
  cases a with
  | mi m s l c => exact ⟨m, s, l, c, rfl, rfl⟩
  | _ => exact (ok_er h).elim
theorem iter_rel {ρ : Ren} {H : Hp} {w : World} (h : Rel ρ H w) {b : Pn} {m : Option Pn} {s : Nat} {l : List Nat} {c : Nat} (hb : H b = .mi m s l c) :
    ∃ tb mc, ρ b = some tb ∧ tb.d = 0 ∧ w.heap[tb.c]? = some (.mapIter mc s l.toArray c) ∧ (m = none → mc = none) ∧ (∀ b, m = some b → ∃ t', ρ b = some t' ∧ mc = some t'.c) := by
  obtain ⟨tb, h1, h2⟩ := h.ob b (by rw [hb]; simp)
  rw [hb] at h2
  obtain ⟨mc, h3, h0, h4⟩ := h2
  refine ⟨tb, mc, h1, h0, h3, ?_, ?_⟩
  · rintro rfl; exact h4
  · rintro b rfl; exact h4
theorem one_entry {ρ : Ren} {l' : Ents} {es : Array MapEntry} {e : AV × AV × Option Nat} (hp : l'.Perm [e]) (hes : ERs ρ l' es.toList) : ∃ m, es = #[m] ∧ ER ρ e m := by
  have hl : l' = [e] := by simpa using hp
  subst hl
  have h1 := hes.1
  cases hl : es.toList with
  | nil => rw [hl] at h1; simp at h1
  | cons m r =>
    rw [hl] at h1
    have : r = [] := by simpa using h1
    subst this
    refine ⟨m, by rw [← Array.toArray_toList (xs := es), hl], hes.2 0 e m rfl (by rw [hl]; rfl)⟩
theorem rd_entry (ho : o.op = .entry x) : RdS E.P o (fun tm h k => opd x tm fun v => asP v fun b o => ifK (Nat.beq o 0) 150 fun _ => h.getK .x b fun o => aoI o fun m _ seen last =>
    Option.rec (.er 153) (fun m => entry1 m seen last h k) m) := fun tm h k hk => by
  obtain ⟨v, h1, h2⟩ := opd_inv hk
  simp only [h2] at hk ⊢
  obtain ⟨b, p, rfl, h3⟩ := asP_inv hk
  rw [h3] at hk ⊢
  obtain ⟨h4, h5⟩ := ifK_inv hk
  rw [h5] at hk ⊢
  obtain rfl := beq_iff.1 h4
  rw [getK_eq] at hk ⊢
  obtain ⟨m, s, seen, last, h6, h7⟩ := aoI_inv hk
  rw [h7] at hk ⊢
  cases m with
  | none => exact (ok_er hk).elim
  | some m =>
    simp only at hk ⊢
    unfold entry1 at hk ⊢
    obtain ⟨l, c, h8, h9⟩ := mapK_inv hk
    rw [h9] at hk ⊢
    split at hk
    · rename_i key val sb born
      obtain ⟨g1, g2⟩ := ifK_inv hk
      rw [Bool.and_eq_true, beq_iff, beq_iff] at g1
      obtain ⟨rfl, rfl⟩ := g1
      refine ⟨_, g2, fun ρ A w hr hR => ?_⟩
      obtain ⟨tb, q1, q2⟩ := (hr x (mem1 (l := #[x]) (by rw [ho]; rfl) (by simp)) _ h1).p_inv
      obtain ⟨tb', mc, q3, q0, q4, _, q7⟩ := iter_rel hR h6
      obtain ⟨tm', q5, rfl⟩ := q7 m rfl
      obtain rfl := Option.some.inj (q1.symm.trans q3)
      obtain ⟨tb2, es, l', g3, g4, g5, g6⟩ := map_rel hR h8
      obtain rfl := Option.some.inj (q5.symm.trans g3)
      obtain ⟨me, rfl, hme⟩ := one_entry g5 g6
      have hb : me.born = sb := hme.2.2 sb rfl
      refine ⟨_, VR.tu' (((VRs.nil ρ).cons hme.2.1).cons hme.1), ?_⟩
      simp only [execOp, ho]
      refine run_v ?_
      rw [q2, q0]
      simp [Instr.entry, getObj, Sem.run, q4, g4, hb]
    · exact (ok_er hk).elim

/-! ### blocks laid -/
theorem or_row {ρ : Ren} {t : Bk} {l : List AV} {vs : List Value} {ty : TypeId} (h : VRs ρ l vs) (hd : t.d = 0) (hs : t.sz = vs.length) : OR ρ (some (.cells vs.toArray ty (0, 0))) t (.c l ty false) := by
  refine ⟨vs.toArray, 0, 0, rfl, ⟨by simpa using hs.symm, fun _ => hd⟩, .inl rfl, by rw [hd]; simp [h.1], ?_⟩
  rw [hd]
  simp only [List.drop_zero]
  rw [List.take_of_length_le (by rw [h.1]; exact Nat.le_refl _)]
  exact h
theorem al_alloc {i : TI} (hE : EOK E) (hi : E.ti t = some i) (ho : o.op = .alloc t) : AlS E.P o (fun _ n k => k (.p n 0) (.c i.zc t false)) := fun tm n k hk => by
  refine ⟨_, _, rfl, ⟨by simp, by simp⟩, fun ρ A w hr hn => ?_⟩
  obtain ⟨z, z1, z2, z3⟩ := (tok hE hi).run_zero w
  have hz := ofSs_rel (updR ρ n ⟨w.heap.size, 0, z.cells.toList.length⟩) z3
  refine ⟨.pointer (some ⟨w.heap.size, 0, none⟩), w.alloc (.cells z.cells t), _, ⟨w.heap.size, 0, z.cells.toList.length⟩, ?_, newer_alloc _ _, rfl, .p (o := 0) (updR_same _ _), ?_⟩
  · simp only [execOp, ho]
    refine run_v ?_
    simp [Instr.alloc, z1, newVar, newRow]
  · have := or_row (t := ⟨w.heap.size, 0, z.cells.toList.length⟩) (ty := t) hz rfl rfl
    simpa using this
theorem al_box (ho : o.op = .box t x) : AlS E.P o (fun tm n k => opd x tm fun v => cellsK v fun l => k (.p n 0) (.c l t false)) := fun tm n k hk => by
  obtain ⟨v, h1, h2⟩ := opd_inv hk
  simp only [h2] at hk ⊢
  obtain ⟨h3, h4⟩ := cellsK_inv hk
  refine ⟨_, _, h4, ⟨by simp, by simp⟩, fun ρ A w hr hn => ?_⟩
  have hx := hr x (mem1 (l := #[x]) (by rw [ho]; rfl) (by simp)) _ h1
  have hc := cells_rel hx h3
  refine ⟨.pointer (some ⟨w.heap.size, 0, none⟩), w.alloc (.cells (A.eval x).cells t), _, ⟨w.heap.size, 0, (A.eval x).cells.toList.length⟩, ?_, newer_alloc _ _, rfl, .p (o := 0) (updR_same _ _), ?_⟩
  · simp only [execOp, ho]
    refine run_v ?_
    simp [Instr.box, newVar, newRow]
  · have := or_row (ρ := updR ρ n ⟨w.heap.size, 0, (A.eval x).cells.toList.length⟩) (t := ⟨w.heap.size, 0, (A.eval x).cells.toList.length⟩) (ty := t) (hc.mono (updR_le hn)) rfl rfl
    simpa using this
theorem byteCells_rel (ρ : Ren) (l : List UInt8) : VRs ρ (byteCells l) (l.map fun b => Value.int .u8 b.toNat) := by
  induction l with
  | nil => exact VRs.nil ρ
  | cons a l ih => exact ih.cons (.i .u8 (.ofNat a.toNat))
theorem byteCells_length (l : List UInt8) : (byteCells l).length = l.length := by
  induction l with
  | nil => rfl
  | cons a l ih => exact congrArg (· + 1) ih
theorem al_conv_sb {i j : TI} (hE : EOK E) (hi : E.ti t = some i) (hj : E.ti u = some j) (ho : o.op = .convert t u x) (h1 : kd i.d = 2) (h2 : kd j.d = 3) (hb : isByte E (elemT j.d) = true) :
    AlS E.P o (fun tm n k => opd x tm fun v => asS v fun l => k (.sl n 0 l.length l.length 1) (.c (byteCells l) (elemT j.d) true)) := fun tm n k hk => by
  have e1 := kd_inv.2.1 h1
  obtain ⟨e, e2⟩ := kd_inv.2.2.1 h2
  obtain ⟨v, g1, g2⟩ := opd_inv hk
  simp only [g2] at hk ⊢
  obtain ⟨l, rfl, g3⟩ := asS_inv hk
  refine ⟨_, _, g3, ⟨by simp, by simp⟩, fun ρ A w hr hn => ?_⟩
  rw [e2] at hb ⊢
  simp only [elemT] at hb ⊢
  obtain ⟨_, _, _, _, hu⟩ := isByte_inv hE hb
  have hx := (hr x (mem1 (l := #[x]) (by rw [ho]; rfl) (by simp)) _ g1).s_inv
  have hrun := run_bytes_of_string (P := E.P) w t u e ⟨l.toArray⟩ (by rw [(tok hE hi).un, e1]) (by rw [(tok hE hj).un, e2]) hu
  have hge := grownCap_ge w (ByteArray.size ⟨l.toArray⟩) 0 e
  rw [s_size] at hrun hge
  have hsz : (bytesRow ⟨l.toArray⟩ (grownCap w l.length 0 e)).size = grownCap w l.length 0 e := by
    simp [bytesRow, s_size]; omega
  refine ⟨.slice (some ⟨w.heap.size, 0, none⟩) l.length (grownCap w l.length 0 e), w.drew.alloc (.cells (bytesRow ⟨l.toArray⟩ (grownCap w l.length 0 e)) e ((bytesRow ⟨l.toArray⟩ (grownCap w l.length 0 e)).size, (bytesRow ⟨l.toArray⟩ (grownCap w l.length 0 e)).size + 1)), _, ⟨w.heap.size, 0, grownCap w l.length 0 e⟩, ?_, ⟨rfl, rfl, rfl, rfl⟩, rfl, .sl (o := 0) (t := ⟨w.heap.size, 0, grownCap w l.length 0 e⟩) (updR_same _ _) (.inl rfl) (Nat.le_refl _) hge (fun h => by cases h) (fun _ => by simp), ?_⟩
  · simp only [execOp, ho]
    exact run_v (by rw [hx]; exact hrun)
  · refine ⟨_, _, _, rfl, ⟨hsz, fun h => by cases h⟩, .inr ⟨rfl, Nat.le_refl _⟩, ?_, ?_⟩
    · rw [byteCells_length, hsz]; show 0 + l.length ≤ _; omega
    · simp only [List.drop_zero, byteCells_length]
      have : ((bytesRow ⟨l.toArray⟩ (grownCap w l.length 0 e)).toList).take l.length = l.map fun b => Value.int .u8 b.toNat := by
        simp only [bytesRow, Array.toList_append, Array.toList_map]
        rw [List.take_append_of_le_length (by simp)]
        rw [List.take_of_length_le (by simp)]
      rw [this]
      exact byteCells_rel _ l
theorem al_makeSlice {i j : TI} {e : TypeId} (hE : EOK E) (hi : E.ti t = some i) (hd : i.d = .slice e) (hj : E.ti e = some j) (hz : Nat.beq j.size 0 = false) (hl : Nat.beq j.zc.length j.size = true) (ho : o.op = .makeSlice t x y) :
    AlS E.P o (fun tm n k => opd x tm fun l => opd y tm fun c => natV l fun l => natV c fun c => ifK (Nat.ble l c && roomy c j.bytes) 217 fun _ => k (.sl n 0 l c 0) (.c (repC c j.zc) e false)) := fun tm n k hk => by
  obtain ⟨v, h1, h2⟩ := opd_inv hk
  simp only [h2] at hk ⊢
  obtain ⟨v2, h3, h4⟩ := opd_inv hk
  simp only [h4] at hk ⊢
  obtain ⟨q1, l, rfl, h5⟩ := natV_inv hk
  rw [h5] at hk ⊢
  obtain ⟨q2, c, rfl, h6⟩ := natV_inv hk
  rw [h6] at hk ⊢
  obtain ⟨h7, h8⟩ := ifK_inv hk
  refine ⟨_, _, h8, ⟨by simp, by simp⟩, fun ρ A w hr hn => ?_⟩
  have eo : o.op.operands = #[x, y] := by rw [ho]; rfl
  have g1 := (hr x (mem1 eo (by simp)) _ h1).i_inv
  have g2 := (hr y (mem1 eo (by simp)) _ h3).i_inv
  obtain ⟨ie, ze, hie, k1, k2, k3, hze, k5, k6⟩ := (tok hE hj).info
  have hu : E.P.underlying t = some (.slice e) := by rw [(tok hE hi).un, hd]
  simp only [Bool.and_eq_true, roomy, ble_iff] at h7
  obtain ⟨h71, ⟨h72, h73⟩, h74⟩ := h7
  have hc63 : c ≤ 1099511627776 := Nat.le_trans (Nat.le_mul_of_pos_right c h74) h72
  have hb : (ie.bytes : Int) * (c : Int) ≤ 281474976710656 := by
    rw [k2]
    have : ((j.bytes * c : Nat) : Int) ≤ 281474976710656 := by rw [Nat.mul_comm]; omega
    rwa [Int.natCast_mul] at this
  have hrun := run_make (P := E.P) w t e ie ze hu hie hze q1 q2 l c (by omega) (by omega) hb (by omega)
  simp only [Int.toNat_natCast, k1] at hrun
  have hls := beq_iff.1 hl
  have hpos : 0 < j.zc.length := by rw [hls]; exact Nat.pos_of_ne_zero (fun h => by rw [h] at hz; cases hz)
  have hrep := rep_rel (ofSs_rel (updR ρ n ⟨w.heap.size, 0, c * j.size⟩) k6) c hpos
  rw [hls] at hrep
  have hsz : (madeCells ze.cells (c * j.size)).toList.length = c * j.size := by rw [Array.length_toList, size_madeCells]
  refine ⟨.slice (some ⟨w.heap.size, 0, none⟩) l c, w.alloc (.cells (madeCells ze.cells (c * j.size)) e), _, ⟨w.heap.size, 0, c * j.size⟩, ?_, newer_alloc _ _, rfl, .sl (o := 0) (t := ⟨w.heap.size, 0, c * j.size⟩) (updR_same _ _) (.inl rfl) h71 (Nat.le_refl _) (fun _ => rfl) (fun h => absurd rfl h), ?_⟩
  · simp only [execOp, ho]
    exact run_v (by rw [g1, g2]; exact hrun)
  · have := or_row (t := ⟨w.heap.size, 0, c * j.size⟩) (ty := e) hrep rfl hsz.symm
    rw [Array.toArray_toList] at this
    exact this
theorem al_makeMap0 (ho : o.op = .makeMap t none) : AlS E.P o (fun _ n k => k (.m n) (.mp [] 0)) := fun tm n k hk => by
  refine ⟨_, _, rfl, ⟨by simp, by simp⟩, fun ρ A w hr hn => ?_⟩
  refine ⟨.map (some w.heap.size), w.alloc (.map #[] 0), _, ⟨w.heap.size, 0, 0⟩, ?_, newer_alloc _ _, rfl, .m (t := ⟨w.heap.size, 0, 0⟩) (updR_same _ _), ⟨#[], [], rfl, .nil, rfl, fun i e m h => by simp at h⟩⟩
  simp only [execOp, ho]
  refine run_v ?_
  simp [Instr.makeMap]
theorem al_makeMap1 {i : TI} {kt e : TypeId} (hE : EOK E) (hi : E.ti t = some i) (hd : i.d = .map kt e) (ho : o.op = .makeMap t (some x)) : AlS E.P o (fun tm n k => opd x tm fun v => asI v fun _ _ => k (.m n) (.mp [] 0)) := fun tm n k hk => by
  obtain ⟨v, h1, h2⟩ := opd_inv hk
  simp only [h2] at hk ⊢
  obtain ⟨q, a, rfl, h3⟩ := asI_inv hk
  refine ⟨_, _, h3, ⟨by simp, by simp⟩, fun ρ A w hr hn => ?_⟩
  have g := (hr x (mem1 (l := #[x]) (by rw [ho]; rfl) (by simp)) _ h1).i_inv
  refine ⟨.map (some w.heap.size), w.alloc (.map #[] 0), _, ⟨w.heap.size, 0, 0⟩, ?_, newer_alloc _ _, rfl, .m (t := ⟨w.heap.size, 0, 0⟩) (updR_same _ _), ⟨#[], [], rfl, .nil, rfl, fun i e m h => by simp at h⟩⟩
  simp only [execOp, ho]
  refine run_v ?_
  simp [Instr.makeMap, g, run_underlying (show E.P.underlying t = some (.map kt e) by rw [(tok hE hi).un, hd]), asInt, asIntOf]
end
end Ax
end Go.Proofs.YtnnhkajjifmlfaaDoor
