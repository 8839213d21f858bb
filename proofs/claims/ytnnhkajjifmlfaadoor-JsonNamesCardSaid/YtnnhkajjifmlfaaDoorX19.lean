/- Ranges over maps; blocks frozen. -/
import Derived.Test.YtnnhkajjifmlfaaDoorX18
namespace Go.Proofs.YtnnhkajjifmlfaaDoor
namespace Ax
section
variable {E : Env} {o : Oper} {t u : TypeId} {x y z : Operand} {ρ : Ren} {H : Hp} {w w' : World}

theorem ve_range {i : TI} {kt e : TypeId} (hE : EOK E) (hi : E.ti t = some i) (hd : i.d = .map kt e) (ho : o.op = .range t x) :
    VeS E.P o (fun tm h n k => opd x tm fun v => asM v (newK h n (.mi none 0 [] 0) fun h n' => k (.p n 0) h n')
        fun b => mapK h b fun _ c => newK h n (.mi (some b) c [] c) fun h n' => k (.p n 0) h n') := fun tm h n k hk => by
  obtain ⟨v, h1, h2⟩ := opd_inv hk
  simp only [h2] at hk ⊢
  have hu : E.P.underlying t = some (.map kt e) := by rw [(tok hE hi).un, hd]
  have mx : x ∈ o.op.operands := mem1 (l := #[x]) (by rw [ho]; rfl) (by simp)
  unfold newK at hk ⊢
  rcases asM_inv hk with ⟨rfl, h3⟩ | ⟨b, rfl, h3⟩
  · rw [h3, setK_eq]
    refine ⟨_, _, _, rfl, by rw [nat_succ]; omega, fun ρ A w hr hR hF => ?_⟩
    have hf := hF n (Nat.le_refl _) (by rw [nat_succ]; omega)
    refine ⟨updR ρ n ⟨w.heap.size, 0, 0⟩, w.alloc (.mapIter none 0 #[] 0), .pointer (some ⟨w.heap.size, 0, none⟩), _, ?_, .inl rfl, ?_, .p (o := 0) (t := ⟨w.heap.size, 0, 0⟩) (updR_same _ _)⟩
    · simp only [execOp, ho]
      refine run_v ?_
      rw [(hr x mx _ h1).nm_inv]
      simp [Instr.range, run_underlying hu]
    · rw [hv_put]
      exact Step.new hR hf.1 hf.2 rfl ⟨none, rfl, rfl, rfl⟩ (rel_lt hR) rfl rfl rfl rfl
  · rw [h3] at hk ⊢
    obtain ⟨l, c, h4, h5⟩ := mapK_inv hk
    rw [h5, setK_eq]
    refine ⟨_, _, _, rfl, by rw [nat_succ]; omega, fun ρ A w hr hR hF => ?_⟩
    have hf := hF n (Nat.le_refl _) (by rw [nat_succ]; omega)
    obtain ⟨tb, q1, q2⟩ := (hr x mx _ h1).m_inv
    obtain ⟨tb', es, l', g3, g4, g5, g6⟩ := map_rel hR h4
    obtain rfl := Option.some.inj (q1.symm.trans g3)
    refine ⟨updR ρ n ⟨w.heap.size, 0, 0⟩, w.alloc (.mapIter (some tb.c) c #[] c), .pointer (some ⟨w.heap.size, 0, none⟩), _, ?_, .inl rfl, ?_, .p (o := 0) (t := ⟨w.heap.size, 0, 0⟩) (updR_same _ _)⟩
    · simp only [execOp, ho]
      refine run_v ?_
      rw [q2]
      simp [Instr.range, run_underlying hu, run_getObj g4]
    · rw [hv_put]
      exact Step.new hR hf.1 hf.2 rfl ⟨some tb.c, rfl, rfl, tb, updR_le hf.1 _ _ q1, rfl⟩ (rel_lt hR) rfl rfl rfl rfl
theorem own_mi {o : AO} {m : Option Pn} {s : Nat} {l : List Nat} {c : Nat} (h : o = .mi m s l c) : own o := by subst h; exact ⟨by simp, by simp⟩
theorem ve_next (ho : o.op = .next x false) :
    VeS E.P o (fun tm h n k => opd x tm fun v => asP v fun b o => ifK (Nat.beq o 0) 150 fun _ => h.getK .x b fun o => aoI o fun m since seen last =>
      Option.rec (k (.tu [.b false]) h n) (fun m => next1 m since seen last b h fun v h => k v h n) m) := fun tm h n k hk => by
  obtain ⟨v, h1, h2⟩ := opd_inv hk
  simp only [h2] at hk ⊢
  have mx : x ∈ o.op.operands := mem1 (l := #[x]) (by rw [ho]; rfl) (by simp)
  obtain ⟨b, p, rfl, h3⟩ := asP_inv hk
  rw [h3] at hk ⊢
  obtain ⟨h4, h5⟩ := ifK_inv hk
  rw [h5] at hk ⊢
  obtain rfl := beq_iff.1 h4
  rw [getK_eq] at hk ⊢
  obtain ⟨m, since, seen, last, h6, h7⟩ := aoI_inv hk
  rw [h7] at hk ⊢
  have hfalse : ∀ ρ, VR ρ (.tu [.b false]) (.tuple #[.bool false]) := fun ρ => VR.tu' ((VRs.nil ρ).cons (.b false))
  cases m with
  | none =>
    refine ⟨_, _, _, rfl, Nat.le_refl _, fun ρ A w hr hR _ => ?_⟩
    obtain ⟨tb, q1, q2⟩ := (hr x mx _ h1).p_inv
    obtain ⟨tb', mc, q3, q0, q4, q6, _⟩ := iter_rel hR h6
    obtain rfl := Option.some.inj (q1.symm.trans q3)
    obtain rfl := q6 rfl
    refine ⟨ρ, w, _, _, ?_, .inl rfl, Step.refl hR, hfalse ρ⟩
    simp only [execOp, ho]
    refine run_v ?_
    rw [q2, q0]
    simp [Instr.next, run_getObj q4]
  | some m =>
    simp only at hk ⊢
    unfold next1 at hk ⊢
    obtain ⟨l, c, h8, h9⟩ := mapK_inv hk
    rw [h9] at hk ⊢
    have hsem := fun (ρ : Ren) (A : Act) (w : World) (hr : VRo ρ tm A o) (hR : Rel ρ (hv h) w) => (show ∃ (tb : Bk) (es : Array MapEntry) (l' : Ents) (tm' : Bk), ρ b = some tb ∧ A.eval x = .pointer (some ⟨tb.c, 0, none⟩) ∧
        w.heap[tb.c]? = some (.mapIter (some tm'.c) since seen.toArray last) ∧ ρ m = some tm' ∧ tb.d = 0 ∧ w.heap[tm'.c]? = some (.map es c) ∧ l'.Perm l ∧ ERs ρ l' es.toList by
      obtain ⟨tb, q1, q2⟩ := (hr x mx _ h1).p_inv
      obtain ⟨tb', mc, q3, q0, q4, _, q7⟩ := iter_rel hR h6
      obtain ⟨tm', q5, rfl⟩ := q7 m rfl
      obtain rfl := Option.some.inj (q1.symm.trans q3)
      obtain ⟨tb2, es, l', g3, g4, g5, g6⟩ := map_rel hR h8
      obtain rfl := Option.some.inj (q5.symm.trans g3)
      rw [q0] at q2
      exact ⟨tb, es, l', tm', q1, q2, q4, q5, q0, g4, g5, g6⟩)
    split at hk
    · refine ⟨_, _, _, rfl, Nat.le_refl _, fun ρ A w hr hR _ => ?_⟩
      obtain ⟨tb, es, l', tm', q1, q2, q4, q5, q0, g4, g5, g6⟩ := hsem ρ A w hr hR
      have hl : l' = [] := List.Perm.eq_nil (by simpa using g5)
      subst hl
      have hes : es = #[] := by have := g6.1; rw [Array.length_toList] at this; exact Array.eq_empty_of_size_eq_zero (by simpa using this)
      subst hes
      refine ⟨ρ, w, _, _, ?_, .inl rfl, Step.refl hR, hfalse ρ⟩
      simp only [execOp, ho]
      refine run_v ?_
      rw [q2]
      simp [Instr.next, run_getObj q4, run_getObj g4, Question.forced]
    · rename_i key val born
      obtain ⟨h10, h11⟩ := ifK_inv hk
      rw [h11] at hk ⊢
      simp only [setK_eq] at hk ⊢
      have hbs := ble_iff.1 h10
      refine ⟨_, _, _, rfl, Nat.le_refl _, fun ρ A w hr hR _ => ?_⟩
      obtain ⟨tb, es, l', tm', q1, q2, q4, q5, q0, g4, g5, g6⟩ := hsem ρ A w hr hR
      obtain ⟨me, rfl, hme⟩ := one_entry g5 g6
      have hb : me.born = born := hme.2.2 born rfl
      refine ⟨ρ, w.putObj tb.c (.mapIter (some tm'.c) since #[born] c), .tuple #[.bool true, me.key, me.val], _, ?_, .inl rfl, ?_, VR.tu' ((((VRs.nil ρ).cons hme.2.1).cons hme.1).cons (.b true))⟩
      · simp only [execOp, ho]
        refine run_v ?_
        rw [q2]
        have h2 : ¬ (since ≤ born) := by omega
        have h4 : born < since := by omega
        simp [Instr.next, run_getObj q4, run_getObj g4, Question.forced, hb, h2, h4, run_setObj q4]
      · rw [hv_put]
        exact Step.obj hR (own_mi h6) q1 ⟨by simp, by simp⟩ ⟨some tm'.c, rfl, q0, tm', q5, rfl⟩ q4
    · rename_i born s
      obtain ⟨h10, h11⟩ := ifK_inv hk
      rw [h11] at hk ⊢
      rw [Bool.and_eq_true, beq_iff, ble_iff] at h10
      obtain ⟨rfl, h10⟩ := h10
      refine ⟨_, _, _, rfl, Nat.le_refl _, fun ρ A w hr hR _ => ?_⟩
      obtain ⟨tb, es, l', tm', q1, q2, q4, q5, q0, g4, g5, g6⟩ := hsem ρ A w hr hR
      obtain ⟨me, rfl, hme⟩ := one_entry g5 g6
      have hb : me.born = s := hme.2.2 s rfl
      refine ⟨ρ, w, _, _, ?_, .inl rfl, Step.refl hR, hfalse ρ⟩
      simp only [execOp, ho]
      refine run_v ?_
      rw [q2]
      simp [Instr.next, run_getObj q4, run_getObj g4, Question.forced, hb]
      omega
    · exact (ok_er hk).elim

/-! ### blocks frozen -/
theorem freeze_heap {c p q : Nat} {arr : Array Value} {ty : TypeId} {lo hi : Nat} (hq : q ≠ 0) (h : w.heap[c]? = some (.cells arr ty (lo, hi))) (k : Nat) :
    (w.freeze ⟨c, p, none⟩ q).heap[k]? = if k = c then some (.cells arr ty (if lo == hi then (p, p + q) else (min lo p, max hi (p + q)))) else w.heap[k]? := by
  unfold World.freeze
  rw [if_neg hq]
  simp only [Array.getElem?_modify]
  split
  · rename_i e
    rw [← e, h, if_pos rfl]; rfl
  · rename_i e
    rw [if_neg (fun x => e x.symm)]
theorem freeze_rest {a : Addr} {q : Nat} : (w.freeze a q).heap.size = w.heap.size ∧ (w.freeze a q).os = w.os ∧ (w.freeze a q).tape = w.tape ∧ (w.freeze a q).output = w.output := by
  unfold World.freeze
  split <;> simp
theorem ve_conv_bb {i : TI} (hE : EOK E) (hi : E.ti t = some i) (hd : kd i.d = 3) (hb : isByte E (elemT i.d) = true) (ho : o.op = .convert t t x) :
    VeS E.P o (fun tm h n k => opd x tm fun v => asSl v (.er 119) fun b o m c ex => wblkK h b fun l ty _ => h.setK .x (.c l ty true) b fun h => k (.sl b o m c ex) h n) := fun tm h n k hk => by
  obtain ⟨v, h1, h2⟩ := opd_inv hk
  simp only [h2] at hk ⊢
  obtain ⟨e, e1⟩ := kd_inv.2.2.1 hd
  rw [e1] at hb
  simp only [elemT] at hb
  obtain ⟨_, _, _, _, hu⟩ := isByte_inv hE hb
  have mx : x ∈ o.op.operands := mem1 (l := #[x]) (by rw [ho]; rfl) (by simp)
  rcases asSl_inv hk with ⟨rfl, h3⟩ | ⟨b, p, m, c1, ex, rfl, h3⟩
  · rw [h3] at hk; exact (ok_er hk).elim
  rw [h3] at hk ⊢
  obtain ⟨l, ty, fz, h4, h5⟩ := wblkK_inv hk
  rw [h5] at hk ⊢
  rw [setK_eq] at hk ⊢
  refine ⟨_, _, _, rfl, Nat.le_refl _, fun ρ A w hr hR _ => ?_⟩
  obtain ⟨tb, off, c', q1, q2, q3, q4, q5, q6, q7⟩ := (hr x mx _ h1).sl_inv
  obtain ⟨tb', arr, lo, hi', b1, b2, b3, b4, b5, b6⟩ := blk_rel hR (.inl h4)
  obtain rfl := Option.some.inj (q1.symm.trans b1)
  have hsh : w.shape? tb.c = some (ty, arr.size) := by simp [World.shape?, b2]
  refine ⟨ρ, w.freeze ⟨tb.c, arr.size, none⟩ 1, A.eval x, _, ?_, .inl rfl, ?_, hr x mx _ h1⟩
  · simp only [execOp, ho]
    refine run_v ?_
    rw [q2]
    simp [convert, (tok hE hi).run_un, e1, run_underlying hu, markStringish, hsh]
  · rw [hv_put]
    have hheap := freeze_heap (p := arr.size) (q := 1) (by omega) b2
    obtain ⟨s1, s2, s3, s4⟩ := freeze_rest (w := w) (a := ⟨tb.c, arr.size, none⟩) (q := 1)
    refine Step.turn hR (own_c h4) q1 ?_ (.inl ⟨by simp, by simp⟩) hheap s1 s2 s3 s4
    by_cases hlh : lo = hi'
    · subst hlh
      simp only [beq_self_eq_true, if_true]
      exact ⟨arr, _, _, rfl, ⟨b3.1, fun h => by cases h⟩, .inr ⟨rfl, Nat.le_refl _⟩, b5, b6⟩
    · have : (lo == hi') = false := by simpa using hlh
      simp only [this, Bool.false_eq_true, if_false]
      refine ⟨arr, _, _, rfl, ⟨b3.1, fun h => by cases h⟩, .inr ⟨rfl, ?_⟩, b5, b6⟩
      rcases b4 with h | ⟨_, h⟩
      · exact absurd h.symm hlh
      · omega
theorem run_loadInts {P : Program} : ∀ (ns : List Int) (a : Addr) (acc : ByteArray), (∀ j v, ns[j]? = some v → w.cell? (a.add j) = some (.int .u8 v)) →
    (loadBytes a acc ns.length).run P w = .ok ⟨acc.data ++ (ns.map fun n => UInt8.ofNat n.toNat).toArray⟩ w
  | [], a, acc, _ => by simp [loadBytes]
  | x :: l, a, acc, h => by
    have h0 : w.cell? a = some (.int .u8 x) := by
      have := h 0 x rfl
      simpa [Addr.add] using this
    have ih := run_loadInts (P := P) l (a.add 1) (acc.push x.toNat.toUInt8) (fun j y hy => by
      have := h (j + 1) y (by simpa using hy)
      have e : (a.add 1).add j = a.add (j + 1) := by
        unfold Addr.add
        by_cases hj : j = 0
        · subst hj; simp
        · simp [hj]; omega
      rw [e]; exact this)
    simp only [List.length_cons, loadBytes, Sem.run_bind, run_load, h0, Result.andThen]
    rw [ih]
    congr 1
    apply ByteArray.ext
    simp [ByteArray.push]
theorem liesAt_off {P : Program} {e : TypeId} (hc : P.cellsOf e = 1) (count off n : Nat) (hn : off + n ≤ count) : liesAt P P.depth e count off e n = true := by
  have hd : P.depth = (2 * (P.types.size + Made.depth) + 1) + 1 := rfl
  rw [hd]
  simp only [liesAt, Bool.or_eq_true]
  left
  rw [hd]
  simp [rowAt, hc, hn, sameLayout, Nat.mod_one]
theorem unsafeString_def (ts : List TypeId) (ty pt : TypeId) (a : Option Addr) (q : IntKind) (n : Int) :
    Builtin.unsafeString_ (pt :: ts).toArray ty #[.pointer a, .int q n] =
      (do
        let n ← asInt (.int q n)
        if n < 0 then runtimePanic (.error "unsafe.String: len out of range")
        if n > IntKind.i64.max then unsupported (.unsafePointer "String: a length above the largest int")
        match a with
        | none =>
          if n = 0 then pure (.string .empty)
          else runtimePanic (.error "unsafe.String: ptr is nil and len is not zero")
        | some a =>
          if n = 0 then pure (.string .empty)
          else if ← variablesAt a (← elemOf pt) n.toNat then do
            let s ← loadBytes a .empty n.toNat
            freeze a n.toNat
            pure (.string s)
          else unsupported (.unsafePointer "String: not so many bytes at ptr")) := rfl
theorem ve_unsafeString {c : Call} {ts : List TypeId} {i : TI} (hE : EOK E) (hi : E.ti t = some i) (ho : o.op = .call c) (hb : c.callee = .builtin .unsafeString) (ht : c.argTypes.toList = t :: ts) (hx : c.args.toList = [x, y]) :
    VeS E.P o (fun tm h n k => opd x tm fun v => opd y tm fun w => natV w fun m => Nat.rec (ifK (isP v || isNp v) 204 fun _ => k (.s []) h n) (fun _ _ =>
        asP v fun b o => wblkK h b fun cs ty _ => ifK (Nat.beq ty (elemT i.d) && isByte E ty && Nat.beq (kd i.d) 4 && Nat.ble m 1073741824) 203 fun _ => cutK cs o m fun cs => toBytes cs fun r => h.setK .x .x b fun h => k (.s r) h n) m) := fun tm h n k hk => by
  obtain ⟨v, h1, h2⟩ := opd_inv hk
  simp only [h2] at hk ⊢
  obtain ⟨v2, h3, h4⟩ := opd_inv hk
  simp only [h4] at hk ⊢
  obtain ⟨q, m, rfl, h5⟩ := natV_inv hk
  rw [h5] at hk ⊢
  have mx : x ∈ o.op.operands := bi_mem ho (by rw [hx]; simp)
  have my : y ∈ o.op.operands := bi_mem ho (by rw [hx]; simp)
  have hmax : IntKind.i64.max = 9223372036854775807 := rfl
  cases m with
  | zero =>
    obtain ⟨h6, h7⟩ := ifK_inv hk
    refine ⟨_, _, _, h7, Nat.le_refl _, fun ρ A w hr hR _ => ⟨ρ, w, .string .empty, _, ?_, .inl rfl, Step.refl hR, .s []⟩⟩
    rw [run_builtin ho hb, args_of hx, types_of ht]
    refine run_v ?_
    have g2 := (hr y my _ h3).i_inv
    have g1 : ∃ a, A.eval x = .pointer a := by
      rw [Bool.or_eq_true] at h6
      rcases h6 with h6 | h6
      · obtain ⟨b, p, rfl⟩ := isP_inv h6
        obtain ⟨_, _, e⟩ := (hr x mx _ h1).p_inv
        exact ⟨_, e⟩
      · obtain rfl := isNp_inv h6
        exact ⟨none, (hr x mx _ h1).np_inv⟩
    obtain ⟨a, g1⟩ := g1
    simp only [List.map_toArray, List.map_cons, List.map_nil, g1, g2]
    rw [unsafeString_def]
    cases a <;> simp [asInt, asIntOf, hmax]
  | succ m =>
    simp only at hk ⊢
    obtain ⟨b, p, rfl, h6⟩ := asP_inv hk
    rw [h6] at hk ⊢
    obtain ⟨l, ty, fz, h7, h8⟩ := wblkK_inv hk
    rw [h8] at hk ⊢
    obtain ⟨h9, h10⟩ := ifK_inv hk
    rw [h10] at hk ⊢
    obtain ⟨h11, h12⟩ := cutK_inv hk
    rw [h12] at hk ⊢
    obtain ⟨r, h13, h14, h15⟩ := toBytes_inv _ hk
    rw [h13] at hk ⊢
    rw [setK_eq] at hk ⊢
    refine ⟨_, _, _, rfl, Nat.le_refl _, fun ρ A w hr hR _ => ?_⟩
    simp only [Bool.and_eq_true, beq_iff, ble_iff] at h9
    obtain ⟨⟨⟨hty, hby⟩, hkd⟩, hm30⟩ := h9
    obtain ⟨e, e1⟩ := kd_inv.2.2.2.1 hkd
    rw [e1] at hty
    simp only [elemT] at hty
    subst hty
    obtain ⟨jb, hjb, _, hsz, hub⟩ := isByte_inv hE hby
    have hcs : E.P.cellsOf ty = 1 := by rw [(tok hE hjb).cells, hsz]
    obtain ⟨tb, q1, q2⟩ := (hr x mx _ h1).p_inv
    have g2 := (hr y my _ h3).i_inv
    obtain ⟨tb', arr, lo, hi', b1, b2, b3, b4, b5, b6⟩ := blk_rel hR (.inl h7)
    obtain rfl := Option.some.inj (q1.symm.trans b1)
    obtain ⟨tb', vs, c1, c2, c3, c4⟩ := cut_rel hR (.inl h7) h11
    obtain rfl := Option.some.inj (q1.symm.trans c1)
    obtain ⟨ns, rfl, rfl⟩ := h15 ρ vs c2
    have hlen : ns.length = m + 1 := by simpa using c3
    have hload := run_loadInts (P := E.P) (w := w) ns ⟨tb.c, tb.d + p, none⟩ .empty (fun j v hj => c4 j _ (by simp [hj]))
    rw [hlen] at hload
    have hsh : w.shape? tb.c = some (ty, arr.size) := by simp [World.shape?, b2]
    have hlies := liesAt_off (P := E.P) hcs (arr.size / E.P.cellsOf ty) (tb.d + p) (m + 1) (by rw [hcs, Nat.div_one]; omega)
    have hup : E.P.underlying t = some (.pointer ty) := by rw [(tok hE hi).un, e1]
    refine ⟨ρ, w.freeze ⟨tb.c, tb.d + p, none⟩ (m + 1), .string ⟨(ns.map fun n => UInt8.ofNat n.toNat).toArray⟩, _, ?_, .inl rfl, ?_, .s _⟩
    · rw [run_builtin ho hb, args_of hx, types_of ht]
      refine run_v ?_
      simp only [List.map_toArray, List.map_cons, List.map_nil, q2, g2]
      rw [unsafeString_def]
      have n1 : ¬ ((m : Int) + 1 < 0) := by omega
      have n2 : ¬ (9223372036854775807 < (m : Int) + 1) := by omega
      have n3 : ¬ ((m : Int) + 1 = 0) := by omega
      have n4 : ((m : Int) + 1).toNat = m + 1 := by omega
      simp [asInt, asIntOf, hmax, n1, n2, n3, n4, variablesAt, hsh, elemOf, run_underlying hup, hlies, hload]
    · rw [hv_put]
      have hheap := freeze_heap (p := tb.d + p) (q := m + 1) (by omega) b2
      obtain ⟨s1, s2, s3, s4⟩ := freeze_rest (w := w) (a := ⟨tb.c, tb.d + p, none⟩) (q := m + 1)
      exact Step.turn hR (own_c h7) q1 trivial (.inr rfl) hheap s1 s2 s3 s4
end
end Ax
end Go.Proofs.YtnnhkajjifmlfaaDoor
