/- Append. -/
import Derived.Test.YtnnhkajjifmlfaaDoorX16
namespace Go.Proofs.YtnnhkajjifmlfaaDoor
namespace Ax
section
variable {E : Env} {o : Oper} {t u : TypeId} {x y : Operand} {ρ : Ren} {H : Hp} {w w' : World}
/-- an owned block is turned, and is known by a new name alone -/
theorem Step.rebind {n : Pn} (h : Rel ρ H w) {b : Pn} {t t2 : Bk} {o : AO} {ob : Obj} (hb : own (H b)) (ht : ρ b = some t) (hn : ρ n = none) (hH : H n = .x) (hc : t2.c = t.c) (ho : OR (updR ρ n t2) (some ob) t2 o)
    (hw : ∀ k, w'.heap[k]? = if k = t.c then some ob else w.heap[k]?) (hs : w'.heap.size = w.heap.size) (o1 : w'.os = w.os) (o2 : w'.tape = w.tape) (o3 : w'.output = w.output) (hk : ∀ l ty, o ≠ .k l ty := by simp) :
    Step ρ H w n (updR ρ n t2) (upd (upd H b .x) n o) w' n.succ := by
  have hbn : b ≠ n := fun e => by subst e; exact hb.1 hH
  have hold : ∀ c, c ≠ n → upd (upd H b .x) n o c ≠ .x → c ≠ b ∧ upd (upd H b .x) n o c = H c := by
    intro c hcn hx
    rw [upd_other _ _ hcn] at hx ⊢
    by_cases e : c = b
    · subst e; rw [upd_same] at hx; exact absurd rfl hx
    · exact ⟨e, upd_other _ _ e⟩
  refine ⟨updR_le hn, ?_, ?_, by rw [nat_succ]; omega, ⟨?_, ?_⟩, by rw [hs]; exact Nat.le_refl _, ?_, ?_, o1, o2, o3, ?_⟩
  · intro c h1 h2
    by_cases e : c = n
    · subst e; rw [nat_succ]; omega
    · rw [updR_other _ e] at h2; exact absurd h1 h2
  · intro c hx
    by_cases e : c = n
    · subst e; rw [nat_succ]; right; omega
    · obtain ⟨_, h2⟩ := hold c e hx; rw [h2] at hx; exact .inl hx
  · intro c hx
    by_cases e : c = n
    · subst e; rw [upd_same]; exact ⟨t2, updR_same _ _, by rw [hw, if_pos hc]; exact ho⟩
    · obtain ⟨h1, h2⟩ := hold c e hx
      rw [h2] at hx ⊢
      obtain ⟨u, h3, h4⟩ := h.ob c hx
      refine ⟨u, updR_le hn _ _ h3, ?_⟩
      rw [hw, if_neg (fun e2 => h1 (h.inj b c t u hb hx ht h3 e2.symm).symm)]
      exact h4.mono (updR_le hn)
  · intro c c' u u' h1 h2 h3 h4 h5
    by_cases e : c = n
    · by_cases e' : c' = n
      · rw [e, e']
      · subst e
        obtain ⟨g1, g2⟩ := hold c' e' h2
        rw [g2] at h2
        rw [updR_same] at h3; injection h3 with h3; subst h3
        rw [updR_other _ e'] at h4
        exact absurd (h.inj b c' t u' hb h2 ht h4 (by omega)).symm g1
    · obtain ⟨g1, g2⟩ := hold c e h1.1
      rw [g2] at h1
      rw [updR_other _ e] at h3
      by_cases e' : c' = n
      · subst e'
        rw [updR_same] at h4; injection h4 with h4; subst h4
        exact absurd (h.inj c b u t h1 hb.1 h3 ht (by omega)) g1
      · obtain ⟨g3, g4⟩ := hold c' e' h2
        rw [g4] at h2
        rw [updR_other _ e'] at h4
        exact h.inj c c' u u' h1 h2 h3 h4 h5
  · intro k _ hk
    rw [hw, if_neg (fun e => hk b t hb ht e.symm)]
  · intro c u h1 h2
    by_cases e : c = n
    · subst e
      rw [updR_same] at h2; injection h2 with h2; subst h2
      exact .inl ⟨b, t, hb, ht, by omega⟩
    · obtain ⟨g1, g2⟩ := hold c e h1.1
      rw [g2] at h1
      rw [updR_other _ e] at h2
      exact .inl ⟨c, u, h1, h2, rfl⟩
  · intro c l ty h1
    by_cases e : c = n
    · subst e; rw [upd_same] at h1; exact absurd h1 (hk l ty)
    · obtain ⟨_, g2⟩ := hold c e (by rw [h1]; simp)
      rw [← g2]; exact h1
theorem nums_no (hE : EOK E) {us : List TypeId} (h : isNum E us = false) : us = [] ∨ ∃ v d r, us = v :: r ∧ E.P.underlying v = some d ∧ ∀ q, d ≠ .int q := by
  cases us with
  | nil => exact .inl rfl
  | cons v r =>
    right
    unfold isNum at h
    simp only at h
    split at h
    · rename_i i hi
      refine ⟨v, i.d, r, rfl, (tok hE hi).un, fun q hq => ?_⟩
      rw [hq] at h
      simp [kd] at h
    · cases h
/-- the model's append, where the second argument is a slice or a string: two ways -/
theorem run_append_in {P : Program} {ts : List TypeId} {ty e : TypeId} {sz n m c : Nat} {a : Option Addr} {v : Value} {new : List Value} (ht : P.underlying t = some (.slice e)) (hsz : (sizeOf e).run P w = .ok sz w)
    (hz : ts = [] ∨ ∃ v d r, ts = v :: r ∧ P.underlying v = some d ∧ ∀ q, d ≠ .int q) (hl : (Builtin.lenOf v).run P w = .ok m w) (hf : (Builtin.firstCells sz m v).run P w = .ok new.toArray w) (hfit : n + m ≤ c)
    (hst : ∀ b, a = some b → (storeCells (b.add (n * sz)) new).run P w = .ok () w') (hnone : a = none → w' = w) :
    (Builtin.append_ (t :: ts).toArray ty #[.slice a n c, v]).run P w = .ok (.slice a (n + m) c) w' := by
  cases a with
  | none =>
    obtain rfl := hnone rfl
    rcases hz with rfl | ⟨v0, d, r, rfl, h1, h2⟩
    · simp [Builtin.append_, run_underlying ht, hsz, hl, hfit, hf]
    · simp [Builtin.append_, run_underlying ht, run_underlying h1, hsz, hl, hfit, hf]
  | some b =>
    have hst := hst b rfl
    rcases hz with rfl | ⟨v0, d, r, rfl, h1, h2⟩
    · simp [Builtin.append_, run_underlying ht, hsz, hl, hfit, hf, hst]
    · simp [Builtin.append_, run_underlying ht, run_underlying h1, hsz, hl, hfit, hf, hst]
theorem run_append_over {P : Program} {ts : List TypeId} {ty e : TypeId} {j : TI} {z : Value} {n m c : Nat} {a : Option Addr} {v : Value} {old new : List Value} (ht : P.underlying t = some (.slice e)) (hT : TOK P e j) (hzr : (zeroValue e).run P w.drew = .ok z w.drew)
    (hz : ts = [] ∨ ∃ v d r, ts = v :: r ∧ P.underlying v = some d ∧ ∀ q, d ≠ .int q) (hl : (Builtin.lenOf v).run P w = .ok m w) (hf : (Builtin.firstCells j.size m v).run P w.drew = .ok new.toArray w.drew)
    (ho : (Builtin.firstCells j.size n (.slice a n c)).run P w.drew = .ok old.toArray w.drew) (hfit : c < n + m) (hroom : roomy (n + m) j.bytes = true) :
    (Builtin.append_ (t :: ts).toArray ty #[.slice a n c, v]).run P w =
      .ok (.slice (some ⟨w.heap.size, 0, none⟩) (n + m) (grownCap w (n + m) c e)) (w.drew.alloc (.cells (old.toArray ++ new.toArray ++ Builtin.zeroCells z.cells (grownCap w (n + m) c e - (n + m))) e)) := by
  obtain ⟨ie, ze, hie, k1, k2, _⟩ := hT.info
  simp only [roomy, Bool.and_eq_true, ble_iff] at hroom
  obtain ⟨⟨r1, r2⟩, r3⟩ := hroom
  have hn63 : n + m ≤ 1099511627776 := Nat.le_trans (Nat.le_mul_of_pos_right _ r3) r1
  have h1 : ¬ (n + m ≤ c) := by omega
  have h63 : ¬ (9223372036854775807 < ((n : Int) + (m : Int))) := by omega
  have h48 : ¬ (281474976710656 < Builtin.nextslicecap (n + m) c * j.bytes) := by
    have := growslice_fits (bytes := j.bytes) hfit (by omega)
    omega
  have hti : (typeInfo e).run P w = .ok ie w := by simp [typeInfo, hie]
  have hti2 : (typeInfo e).run P w.drew = .ok ie w.drew := by simp [typeInfo, hie]
  rcases hz with rfl | ⟨v0, d, r, rfl, h1', h2⟩
  · simp [Builtin.append_, run_underlying ht, hT.run_size, hl, h1, h63, h48, k2, hti, hti2, Question.forced, hf, ho, hzr, newRow, grownCap]
    congr 2
    apply Array.ext'
    simp
  · simp [Builtin.append_, run_underlying ht, run_underlying h1', hT.run_size, hl, h1, h63, h48, k2, hti, hti2, Question.forced, hf, ho, hzr, newRow, grownCap]
    congr 2
    apply Array.ext'
    simp
/-- what an appended operand holds, on both sides -/
def SrcS (P : Program) (sz : Nat) (h : Tr AO) (v : AV) (m : Nat) (xs : List AV) : Prop := xs.length = m * sz ∧
    ∀ (ρ : Ren) (w : World) (v' : Value), VR ρ v v' → Rel ρ (hv h) w → ∃ vs, VRs ρ xs vs ∧ ∀ w' : World, w'.heap = w.heap → (Builtin.lenOf v').run P w' = .ok m w' ∧ ∀ q, q ≤ m → (Builtin.firstCells sz q v').run P w' = .ok (vs.take (q * sz)).toArray w'
theorem append_inv {P : Program} {j : TI} {e : TypeId} {s v : AV} {h : Tr AO} {n : Pn} {k : AV → Tr AO → Pn → R} (hk : Ok (append j e s v h n k)) : ∃ m xs, SrcS P j.size h v m xs ∧
    ((s = .ns ∧ m = 0 ∧ append j e s v h n k = k .ns h n) ∨
     (s = .ns ∧ 0 < m ∧ roomy m j.bytes = true ∧ append j e s v h n k = k (.sl n 0 m m j.size) (h.put .x (.c xs e false) n) n.succ) ∨
     (∃ b o l c ex, s = .sl b o l c ex ∧ m = 0 ∧ l ≤ c ∧ append j e s v h n k = k (.sl b o l c ex) h n) ∨
     (∃ b o l c ex cs ty fz, s = .sl b o l c ex ∧ 0 < m ∧ l + m ≤ c ∧ scals xs = true ∧ h.get .x b = .c cs ty fz ∧ o + l * j.size + xs.length ≤ cs.length ∧
        append j e s v h n k = k (.sl b o (l + m) c ex) (h.put .x (.c (laid cs (o + l * j.size) xs) ty fz) b) n) ∨
     (∃ b o l c cs ty fz, s = .sl b o l c 0 ∧ c < l + m ∧ roomy (l + m) j.bytes = true ∧ isBlk (h.get .x b) cs ty fz ∧ o + l * j.size ≤ cs.length ∧
        append j e s v h n k = k (.sl n 0 (l + m) (l + m) j.size) (h.put .x (.c ((cs.drop o).take (l * j.size) ++ xs) e false) n) n.succ) ∨
     (∃ b o l c cs ty fz, s = .sl b o l c j.size ∧ j.size ≠ 0 ∧ c < l + m ∧ roomy (l + m) j.bytes = true ∧ scals xs = true ∧ ty = e ∧ h.get .x b = .c cs ty fz ∧ o + l * j.size ≤ cs.length ∧
        append j e s v h n k = k (.sl n 0 (l + m) (l + m) j.size) ((h.put .x .x b).put .x (.c ((cs.drop o).take (l * j.size) ++ xs) e true) n) n.succ)) := by
  unfold append at hk ⊢
  obtain ⟨m, xs, h1, h2, h3⟩ := srcK_inv (P := P) hk
  rw [h1] at hk ⊢
  refine ⟨m, xs, ⟨h2, h3⟩, ?_⟩
  rcases asSl_inv hk with ⟨rfl, h4⟩ | ⟨b, o, l, c, ex, rfl, h4⟩
  · rw [h4] at hk ⊢
    cases m with
    | zero => refine .inl ⟨by simp, by simp, rfl⟩
    | succ m =>
      simp only at hk ⊢
      obtain ⟨h5, h6⟩ := ifK_inv hk
      rw [h6]
      exact .inr (.inl ⟨by simp, by omega, h5, by unfold newK; rw [setK_eq]⟩)
  · rw [h4] at hk ⊢
    cases hfit : Nat.ble (l + m) c with
    | true =>
      rw [hfit] at hk
      have hle := ble_iff.1 hfit
      cases m with
      | zero => exact .inr (.inr (.inl ⟨b, o, l, c, ex, rfl, rfl, by omega, rfl⟩))
      | succ m =>
        simp only at hk ⊢
        obtain ⟨h5, cs, ty, fz, h6, h7, h8⟩ := stc_inv hk
        exact .inr (.inr (.inr (.inl ⟨b, o, l, c, ex, cs, ty, fz, rfl, by omega, hle, h5, h6, h7, h8⟩)))
    | false =>
      rw [hfit] at hk
      simp only at hk ⊢
      have hlt : c < l + m := by
        apply Nat.lt_of_not_le
        intro h
        rw [ble_iff.2 h] at hfit
        cases hfit
      obtain ⟨h5, h6⟩ := ifK_inv hk
      rw [h6] at hk ⊢
      obtain ⟨cs, ty, fz, h7, h8⟩ := blkK_inv hk
      rw [h8] at hk ⊢
      obtain ⟨h9, h10⟩ := ifK_inv hk
      rw [h10] at hk ⊢
      obtain ⟨h11, h12⟩ := cutK_inv hk
      rw [h12] at hk ⊢
      unfold growK at hk ⊢
      cases hx : Nat.beq ex 0 with
      | true =>
        obtain rfl := beq_iff.1 hx
        exact .inr (.inr (.inr (.inr (.inl ⟨b, o, l, c, cs, ty, fz, rfl, hlt, h5, h7, h11, by unfold newK; simp only; rw [setK_eq]⟩))))
      | false =>
        rw [hx] at hk h9
        simp only [Bool.false_or, Bool.and_eq_true, beq_iff] at h9
        obtain ⟨⟨rfl, rfl⟩, h9⟩ := h9
        simp only at hk ⊢
        obtain ⟨cs', ty', fz', g1, g2⟩ := wblkK_inv hk
        rw [g2]
        rcases h7 with h7 | ⟨h7, _⟩
        · refine .inr (.inr (.inr (.inr (.inr ⟨b, o, l, c, cs, ty, fz, rfl, ?_, hlt, h5, h9, rfl, h7, h11, by unfold newK; rw [setK_eq, setK_eq]⟩))))
          intro h0
          rw [h0] at hx
          cases hx
        · rw [h7] at g1; cases g1
theorem zero_len {j : TI} {z : Value} (h : ofSs z.cells.toList = some j.zc) (hl : j.zc.length = j.size) : z.cells.size = j.size := by
  have := (ofSs_rel (fun _ => none) h).1
  rwa [Array.length_toList, hl] at this
/-- a row laid at the end of the heap, with room behind -/
theorem or_grown {n : Pn} {xs : List AV} {vs : List Value} {rest : Array Value} {e : TypeId} {c0 sz : Nat} (h : VRs ρ xs vs) (hn : ρ n = none) (hs : (vs.toArray ++ rest).size = sz) :
    OR (updR ρ n ⟨c0, 0, sz⟩) (some (.cells (vs.toArray ++ rest) e (0, 0))) ⟨c0, 0, sz⟩ (.c xs e false) := by
  refine ⟨_, 0, 0, rfl, ⟨hs, fun _ => rfl⟩, .inl rfl, ?_, ?_⟩
  · have := h.1
    simp at hs ⊢
    omega
  · simp only [List.drop_zero]
    have e1 : (vs.toArray ++ rest).toList.take xs.length = vs := by
      simp only [Array.toList_append]
      rw [List.take_append_of_le_length (by rw [h.1]; exact Nat.le_refl _), List.take_of_length_le (by rw [h.1]; exact Nat.le_refl _)]
    rw [e1]
    exact h.mono (updR_le hn)
theorem OR.frz {ob : Option Obj} {tb : Bk} {l : List AV} {ty : TypeId} (h : OR ρ ob tb (.c l ty false)) : OR ρ ob tb (.c l ty true) := by
  obtain ⟨arr, lo, hi, h1, h2, h3, h4, h5⟩ := h
  exact ⟨arr, lo, hi, h1, ⟨h2.1, fun e => by cases e⟩, .inl (by rcases h3 with h | ⟨h, _⟩; exact h; cases h), h4, h5⟩
theorem ve_append {c : Call} {ts : List TypeId} {i j : TI} {e : TypeId} (hE : EOK E) (hi : E.ti t = some i) (hd : i.d = .slice e) (hj : E.ti e = some j) (hg : (Nat.beq j.size 0 || !(Nat.beq j.zc.length j.size)) = false)
    (hnum : isNum E ts = false) (ho : o.op = .call c) (hb : c.callee = .builtin .append) (ht : c.argTypes.toList = t :: ts) (hx : c.args.toList = [x, y]) :
    VeS E.P o (fun tm h n k => opd x tm fun s => opd y tm fun x => append j e s x h n k) := fun tm h n k hk => by
  obtain ⟨sv, h1, h2⟩ := opd_inv hk
  simp only [h2] at hk ⊢
  obtain ⟨v, h3, h4⟩ := opd_inv hk
  simp only [h4] at hk ⊢
  obtain ⟨hs0, hzl⟩ := elem_inv hg
  have hu : E.P.underlying t = some (.slice e) := by rw [(tok hE hi).un, hd]
  have hz := nums_no hE hnum
  have hT := tok hE hj
  obtain ⟨m, xs, ⟨hxl, hsrc⟩, hc⟩ := append_inv (P := E.P) hk
  have hrun : ∀ (A : Act) (w w' : World) (sv v r : Value), A.eval x = sv → A.eval y = v → (Builtin.append_ (t :: ts).toArray o.type #[sv, v]).run E.P w = .ok r w' → (execOp A.eval o).run E.P w = .ok (.value r) w' := by
    intro A w w' sv v r e1 e2 h
    rw [run_builtin ho hb, args_of hx, types_of ht]
    refine run_v ?_
    simp only [List.map_toArray, List.map_cons, List.map_nil, e1, e2]
    exact h
  have mx : x ∈ o.op.operands := bi_mem ho (by rw [hx]; simp)
  have my : y ∈ o.op.operands := bi_mem ho (by rw [hx]; simp)
  rcases hc with ⟨rfl, rfl, hc⟩ | ⟨rfl, hm, hroom, hc⟩ | ⟨b, p, l, c1, ex, rfl, rfl, hlc, hc⟩ | ⟨b, p, l, c1, ex, cs, ty, fz, rfl, hm, hlc, hsc, hblk, hfit, hc⟩ | ⟨b, p, l, c1, cs, ty, fz, rfl, hlt, hroom, hblk, hfit, hc⟩ | ⟨b, p, l, c1, cs, ty, fz, rfl, hsn, hlt, hroom, hsc, rfl, hblk, hfit, hc⟩
  · refine ⟨_, _, _, hc, Nat.le_refl _, fun ρ A w hr hR _ => ?_⟩
    obtain ⟨vs, g1, g2⟩ := hsrc ρ w _ (hr y my _ h3) hR
    obtain ⟨g3, g4⟩ := g2 w rfl
    have g5 := g4 0 (Nat.le_refl _)
    rw [Nat.zero_mul] at g5
    refine ⟨ρ, w, _, _, hrun A w w _ _ _ (hr x mx _ h1).ns_inv rfl (run_append_in (new := []) hu (hT.run_size w) hz g3 (by simpa using g5) (Nat.le_refl _) (fun b hb => by cases hb) (fun _ => rfl)), .inl rfl, Step.refl hR, .ns⟩
  · refine ⟨_, _, _, hc, by rw [nat_succ]; omega, fun ρ A w hr hR hF => ?_⟩
    obtain ⟨vs, g1, g2⟩ := hsrc ρ w _ (hr y my _ h3) hR
    obtain ⟨g3, _⟩ := g2 w rfl
    obtain ⟨_, g4⟩ := g2 w.drew rfl
    have g5 := g4 m (Nat.le_refl _)
    rw [List.take_of_length_le (by rw [g1.1, hxl]; exact Nat.le_refl _)] at g5
    obtain ⟨z, z1, z2, z3⟩ := hT.run_zero w.drew
    have hf := hF n (Nat.le_refl _) (by rw [nat_succ]; omega)
    have hr' := run_append_over (n := 0) (c := 0) (a := none) (old := []) (ty := o.type) hu hT z1 hz g3 g5 (by simp [Builtin.firstCells]) (by omega) (by simpa using hroom)
    have hge := grownCap_ge w (0 + m) 0 e
    generalize hG : grownCap w (0 + m) 0 e = G at hr' hge
    have hsz : (vs.toArray ++ Builtin.zeroCells z.cells (G - (0 + m))).size = G * j.size := by
      rw [Array.size_append, size_zeroCells, zero_len z3 hzl, List.size_toArray, g1.1, hxl, ← Nat.add_mul]
      congr 1; omega
    refine ⟨updR ρ n ⟨w.heap.size, 0, G * j.size⟩, _, _, _, hrun A w _ _ _ _ (hr x mx _ h1).ns_inv rfl hr', .inl rfl, ?_, ?_⟩
    · rw [hv_put]
      have hor := or_grown (c0 := w.heap.size) (e := e) g1 hf.1 hsz
      refine Step.new hR hf.1 hf.2 rfl hor (rel_lt hR) ?_ rfl rfl rfl
      show w.heap.push _ = _
      simp
    · rw [Nat.zero_add]
      exact .sl (o := 0) (t := ⟨w.heap.size, 0, G * j.size⟩) (updR_same _ _) (.inl rfl) (Nat.le_refl _) (by omega) (fun h => absurd h hs0) (fun _ => by simp)
  · refine ⟨_, _, _, hc, Nat.le_refl _, fun ρ A w hr hR _ => ?_⟩
    obtain ⟨vs, g1, g2⟩ := hsrc ρ w _ (hr y my _ h3) hR
    obtain ⟨g3, g4⟩ := g2 w rfl
    have g5 := g4 0 (Nat.le_refl _)
    rw [Nat.zero_mul] at g5
    obtain ⟨tb, off, c', q1, q2, q3, q4, q5, q6, q7⟩ := (hr x mx _ h1).sl_inv
    refine ⟨ρ, w, _, _, hrun A w w _ _ _ q2 rfl (run_append_in (new := []) hu (hT.run_size w) hz g3 (by simpa using g5) (by omega) (fun _ _ => rfl) (fun _ => rfl)), .inl rfl, Step.refl hR, .sl q1 q3 q7 q4 q5 q6⟩
  · refine ⟨_, _, _, hc, Nat.le_refl _, fun ρ A w hr hR _ => ?_⟩
    obtain ⟨vs, g1, g2⟩ := hsrc ρ w _ (hr y my _ h3) hR
    obtain ⟨g3, g4⟩ := g2 w rfl
    have g5 := g4 m (Nat.le_refl _)
    rw [List.take_of_length_le (by rw [g1.1, hxl]; exact Nat.le_refl _)] at g5
    obtain ⟨tb, off, c', q1, q2, q3, q4, q5, q6, q7⟩ := (hr x mx _ h1).sl_inv
    have hoff : off = tb.d + p := by rcases q3 with g | g; exact g; omega
    subst hoff
    obtain ⟨w', e1, e2⟩ := store_rel (P := E.P) (n := n) hR hblk q1 g1 hsc hfit
    refine ⟨ρ, w', _, _, hrun A w w' _ _ _ q2 rfl (run_append_in hu (hT.run_size w) hz g3 g5 (by omega) (fun b hb => ?_) (fun h => by cases h)), .inl rfl, by rw [hv_put]; exact e2, .sl q1 q3 hlc q4 q5 q6⟩
    injection hb with hb
    subst hb
    rw [addr_add, Nat.add_assoc]
    exact e1
  · refine ⟨_, _, _, hc, by rw [nat_succ]; omega, fun ρ A w hr hR hF => ?_⟩
    obtain ⟨vs, g1, g2⟩ := hsrc ρ w _ (hr y my _ h3) hR
    obtain ⟨g3, _⟩ := g2 w rfl
    obtain ⟨_, g4⟩ := g2 w.drew rfl
    have g5 := g4 m (Nat.le_refl _)
    rw [List.take_of_length_le (by rw [g1.1, hxl]; exact Nat.le_refl _)] at g5
    obtain ⟨z, z1, z2, z3⟩ := hT.run_zero w.drew
    have hf := hF n (Nat.le_refl _) (by rw [nat_succ]; omega)
    obtain ⟨tb, off, c', q1, q2, q3, q4, q5, q6, q7⟩ := (hr x mx _ h1).sl_inv
    obtain rfl := q5 rfl
    obtain ⟨tb', olds, p1, p2, p3, p4⟩ := cut_rel hR hblk hfit
    obtain rfl := Option.some.inj (q1.symm.trans p1)
    have hold : (Builtin.firstCells j.size l (.slice (some ⟨tb.c, off, none⟩) l c')).run E.P w.drew = .ok olds.toArray w.drew := by
      have hcell : ∀ k u, olds[k]? = some u → w.drew.cell? ((⟨tb.c, off, none⟩ : Addr).add k) = some u := by
        intro k u hku
        have hk1 := (List.getElem?_eq_some_iff.1 hku).1
        have hl0 : l ≠ 0 := fun h0 => by rw [h0, Nat.zero_mul] at p3; omega
        have hoff : off = tb.d + p := by rcases q3 with g | g; exact g; omega
        subst hoff
        exact p4 k u hku
      have := run_loadCells_list (P := E.P) w.drew _ _ hcell
      rw [p3] at this
      simp [Builtin.firstCells, this]
    have hr' := run_append_over (ty := o.type) hu hT z1 hz g3 g5 hold hlt hroom
    have hge := grownCap_ge w (l + m) c' e
    generalize hG : grownCap w (l + m) c' e = G at hr' hge
    have hrel := p2.append g1
    have e0 : olds.toArray ++ vs.toArray = (olds ++ vs).toArray := by simp
    rw [e0] at hr'
    have hsz : ((olds ++ vs).toArray ++ Builtin.zeroCells z.cells (G - (l + m))).size = G * j.size := by
      rw [Array.size_append, size_zeroCells, zero_len z3 hzl, List.size_toArray, List.length_append, g1.1, p3, hxl, ← Nat.add_mul, ← Nat.add_mul]
      congr 1; omega
    refine ⟨updR ρ n ⟨w.heap.size, 0, G * j.size⟩, _, _, _, hrun A w _ _ _ _ q2 rfl hr', .inl rfl, ?_, ?_⟩
    · rw [hv_put]
      exact Step.new hR hf.1 hf.2 rfl (or_grown (c0 := w.heap.size) (e := e) hrel hf.1 hsz) (rel_lt hR) rfl rfl rfl rfl
    · exact .sl (o := 0) (t := ⟨w.heap.size, 0, G * j.size⟩) (updR_same _ _) (.inl rfl) (Nat.le_refl _) hge (fun h => absurd h hs0) (fun _ => by simp)
  · refine ⟨_, _, _, hc, by rw [nat_succ]; omega, fun ρ A w hr hR hF => ?_⟩
    obtain ⟨vs, g1, g2⟩ := hsrc ρ w _ (hr y my _ h3) hR
    obtain ⟨g3, g3'⟩ := g2 w rfl
    obtain ⟨_, g4⟩ := g2 w.drew rfl
    have g5 := g4 m (Nat.le_refl _)
    have g5' := g3' m (Nat.le_refl _)
    rw [List.take_of_length_le (by rw [g1.1, hxl]; exact Nat.le_refl _)] at g5 g5'
    obtain ⟨z, z1, z2, z3⟩ := hT.run_zero w.drew
    have hf := hF n (Nat.le_refl _) (by rw [nat_succ]; omega)
    obtain ⟨tb, off, c', q1, q2, q3, q4, q5, q6, q7⟩ := (hr x mx _ h1).sl_inv
    have q6 := q6 hsn
    obtain ⟨tb', olds, p1, p2, p3, p4⟩ := cut_rel hR (.inl hblk) hfit
    obtain rfl := Option.some.inj (q1.symm.trans p1)
    have hrel := p2.append g1
    have hcell : ∀ k u, olds[k]? = some u → w.cell? ((⟨tb.c, off, none⟩ : Addr).add k) = some u := by
      intro k u hku
      have hk1 := (List.getElem?_eq_some_iff.1 hku).1
      have hl0 : l ≠ 0 := fun h0 => by rw [h0, Nat.zero_mul] at p3; omega
      have hoff : off = tb.d + p := by rcases q3 with g | g; exact g; omega
      subst hoff
      exact p4 k u hku
    by_cases hin : l + m ≤ c'
    · have hoff : off = tb.d + p := by rcases q3 with g | g; exact g; omega
      subst hoff
      obtain ⟨tb', arr, lo, hi', b1, b2, b3, b4, b5, b6⟩ := blk_rel hR (.inl hblk)
      obtain rfl := Option.some.inj (q1.symm.trans b1)
      have hmul : (l + m) * j.size ≤ c' * j.size := Nat.mul_le_mul_right _ hin
      have hvl : vs.length = m * j.size := by rw [g1.1, hxl]
      have harr : arr.toList.length = arr.size := Array.length_toList
      rw [Nat.add_mul] at hmul
      have hst := store_arr (P := E.P) (p := tb.d + p + l * j.size) (vs := vs) b2 (by rcases b4 with h | ⟨_, h⟩; exact .inl h; exact .inr h) (by rw [hvl]; omega) (scals_one g1 hsc)
      have hoc := own_c hblk
      refine ⟨updR ρ n ⟨tb.c, tb.d + p, tb.sz⟩, w.setCells tb.c (tb.d + p + l * j.size) vs, _, _, hrun A w _ _ _ _ q2 rfl (run_append_in hu (hT.run_size w) hz g3 g5' hin (fun b hb => ?_) (fun h => by cases h)), .inl rfl, ?_, ?_⟩
      · injection hb with hb
        subst hb
        rw [addr_add]
        exact hst
      · rw [hv_put, hv_put]
        refine Step.rebind (ob := .cells (laid arr.toList (tb.d + p + l * j.size) vs).toArray ty (lo, hi')) (t2 := ⟨tb.c, tb.d + p, tb.sz⟩) hR hoc q1 hf.1 hf.2 rfl ?_ (heap_setCells _ _ _ vs _ w arr b2 (by rw [hvl]; omega)) (size_setCells _ _ _ _) (rest_setCells _ _ _ _).1 (rest_setCells _ _ _ _).2.1 (rest_setCells _ _ _ _).2.2
        have hsl : (laid arr.toList (tb.d + p + l * j.size) vs).length = arr.size := by rw [laid_length (by rw [harr, hvl]; omega), harr]
        have hlen : ((cs.drop p).take (l * j.size) ++ xs).length = l * j.size + m * j.size := by rw [List.length_append, hxl]; congr 1; simp; omega
        refine ⟨_, lo, hi', rfl, ⟨by simp only [List.size_toArray]; rw [hsl]; exact b3.1, fun h => by cases h⟩, ?_, ?_, ?_⟩
        · rcases b4 with h | ⟨_, h⟩
          · exact .inl h
          · exact .inr ⟨rfl, by simp only [List.size_toArray]; rw [hsl]; exact h⟩
        · rw [hlen]; simp only [List.size_toArray]; rw [hsl, b3.1]; omega
        · rw [hlen]
          simp only
          have e0 : ((laid arr.toList (tb.d + p + l * j.size) vs).drop (tb.d + p)).take (l * j.size + m * j.size) = olds ++ vs := by
            apply List.ext_getElem?
            intro k
            rw [List.getElem?_take, List.getElem?_drop, laid_get (by rw [harr, hvl]; omega), List.getElem?_append, p3]
            by_cases hk1 : k < l * j.size + m * j.size
            · rw [if_pos hk1]
              by_cases hk2 : k < l * j.size
              · rw [if_neg (by omega), if_pos hk2]
                have hko : k < olds.length := by omega
                have := p4 k _ (List.getElem?_eq_getElem hko)
                rw [addr_add] at this
                simp only [World.cell?, b2, Option.isSome_none, Bool.false_eq_true, if_false] at this
                rw [List.getElem?_eq_getElem hko, Array.getElem?_toList]
                exact this
              · rw [if_pos (by omega), if_neg hk2]
                congr 1; omega
            · rw [if_neg hk1, if_neg (by omega), List.getElem?_eq_none (by rw [hvl]; omega)]
          rw [e0]
          exact hrel.mono (updR_le hf.1)
      · exact .sl (o := 0) (t := ⟨tb.c, tb.d + p, tb.sz⟩) (updR_same _ _) (.inl rfl) (Nat.le_refl _) hin (fun h => absurd h hsn) (fun _ => q6)
    · have hold : (Builtin.firstCells j.size l (.slice (some ⟨tb.c, off, none⟩) l c')).run E.P w.drew = .ok olds.toArray w.drew := by
        have := run_loadCells_list (P := E.P) w.drew ⟨tb.c, off, none⟩ olds hcell
        rw [p3] at this
        simp [Builtin.firstCells, this]
      have hr' := run_append_over (ty := o.type) hu hT z1 hz g3 g5 hold (by omega) hroom
      have hge := grownCap_ge w (l + m) c' ty
      generalize hG : grownCap w (l + m) c' ty = G at hr' hge
      have e0 : olds.toArray ++ vs.toArray = (olds ++ vs).toArray := by simp
      rw [e0] at hr'
      have hsz : ((olds ++ vs).toArray ++ Builtin.zeroCells z.cells (G - (l + m))).size = G * j.size := by
        rw [Array.size_append, size_zeroCells, zero_len z3 hzl, List.size_toArray, List.length_append, g1.1, p3, hxl, ← Nat.add_mul, ← Nat.add_mul]
        congr 1; omega
      refine ⟨updR ρ n ⟨w.heap.size, 0, G * j.size⟩, _, _, _, hrun A w _ _ _ _ q2 rfl hr', .inl rfl, ?_, ?_⟩
      · have hst := Step.new (w' := w.drew.alloc (.cells ((olds ++ vs).toArray ++ Builtin.zeroCells z.cells (G - (l + m))) ty)) hR hf.1 hf.2 rfl (or_grown (c0 := w.heap.size) (e := ty) hrel hf.1 hsz).frz (rel_lt hR) rfl rfl rfl rfl
        refine hst.weak ?_
        intro a ha
        have hbn : b ≠ n := fun e => by subst e; exact (own_c hblk).1 hf.2
        rw [hv_put, hv_put] at ha ⊢
        by_cases e1 : a = n
        · subst e1; rw [upd_same, upd_same]
        · rw [upd_other _ _ e1] at ha ⊢
          rw [upd_other _ _ e1]
          by_cases e2 : a = b
          · subst e2; rw [upd_same] at ha; exact absurd rfl ha
          · rw [upd_other _ _ e2]
      · exact .sl (o := 0) (t := ⟨w.heap.size, 0, G * j.size⟩) (updR_same _ _) (.inl rfl) (Nat.le_refl _) hge (fun h => absurd h hs0) (fun _ => by simp)
end
end Ax
end Go.Proofs.YtnnhkajjifmlfaaDoor
