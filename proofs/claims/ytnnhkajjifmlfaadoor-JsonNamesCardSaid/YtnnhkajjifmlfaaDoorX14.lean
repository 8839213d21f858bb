/- Maps, read. -/
import Derived.Test.YtnnhkajjifmlfaaDoorX13
namespace Go.Proofs.YtnnhkajjifmlfaaDoor
namespace Ax
section
variable {E : Env} {o : Oper} {t u : TypeId} {x y : Operand}

theorem rd_conv_up {i j e : TI} (hE : EOK E) (hi : E.ti t = some i) (hj : E.ti u = some j) (ho : o.op = .convert t u x) (h1 : kd i.d = 5) (h2 : kd j.d = 4) (he : E.ti (elemT j.d) = some e) (hz : Nat.beq e.size 0 = false) :
    RdS E.P o (fun tm h k => opd x tm fun v => asP v fun b o => blkK h b fun l ty fz => ifK (Nat.beq o 0 && Nat.beq ty (elemT j.d) && Nat.ble e.size l.length && !fz) 127 fun _ => k (.p b o)) := fun tm h k hk => by
  have e1 := kd_inv.2.2.2.2 h1
  obtain ⟨et, e2⟩ := kd_inv.2.2.2.1 h2
  obtain ⟨v, g1, g2⟩ := opd_inv hk
  simp only [g2] at hk ⊢
  obtain ⟨b, p, rfl, g3⟩ := asP_inv hk
  rw [g3] at hk ⊢
  obtain ⟨l, ty, fz, g4, g5⟩ := blkK_inv hk
  rw [g5] at hk ⊢
  obtain ⟨g6, g7⟩ := ifK_inv hk
  refine ⟨_, g7, fun ρ A w hr hR => ?_⟩
  obtain ⟨tb, q1, q2⟩ := (hr x (mem1 (l := #[x]) (by rw [ho]; rfl) (by simp)) _ g1).p_inv
  obtain ⟨tb', arr, lo, hi', m1, m2, m3, m4, m5, m6⟩ := blk_rel hR g4
  obtain rfl := Option.some.inj (q1.symm.trans m1)
  refine ⟨_, .p q1, ?_⟩
  simp only [execOp, ho]
  refine run_v ?_
  rw [e2] at he g6
  simp only [elemT] at he g6
  simp only [Bool.and_eq_true, beq_iff, ble_iff, Bool.not_eq_true'] at g6
  obtain ⟨⟨⟨rfl, rfl⟩, g8⟩, rfl⟩ := g6
  have hd0 : tb.d = 0 := m3.2 rfl
  rw [q2, hd0]
  have hz' : e.size ≠ 0 := fun h => by rw [h] at hz; cases hz
  have hsh : w.shape? tb.c = some (ty, arr.size) := by simp [World.shape?, m2]
  have hcs := (tok hE he).cells
  have hpos : 0 < arr.size / e.size := Nat.div_pos (by omega) (by omega)
  have hlies : liesAt E.P E.P.depth ty (arr.size / E.P.cellsOf ty) 0 ty 1 = true := by
    have hd : E.P.depth = (2 * (E.P.types.size + Made.depth) + 1) + 1 := rfl
    rw [hd, hcs]
    simp only [liesAt, Bool.or_eq_true]
    left
    rw [hd]
    simp [rowAt, hcs, hz', sameLayout]
    left
    omega
  simp [convert, (tok hE hi).run_un, (tok hE hj).run_un, e1, e2, Conv.unsafePointer, Conv.seenAt, viewAt, hsh, variablesAt, (tok hE he).run_size, hz', hlies]

/-- '==' of two plain values -/
def plB (x y : AV) : Bool := match x, y with
  | .b a, .b b => a == b
  | .i _ a, .i _ b => a == b
  | .s l, .s m => l == m
  | _, _ => false
theorem Pl.eq {kd : Nat} {x y : AV} {b : Bool} (h : Pl kd x y b) : b = plB x y := by cases h <;> rfl
theorem findK_inv {kd : Nat} {key : AV} (l : Ents) : ∀ {i : Nat} {r0 : Option (Nat × AV)} {k : Option (Nat × AV) → R}, Ok (findK (plEq kd) key l i r0 k) → ∃ r, findK (plEq kd) key l i r0 k = k r ∧ (∀ e ∈ l, Pl kd key e.1 (plB key e.1)) ∧
    (match r0 with
     | some p => r = some p ∧ ∀ e ∈ l, plB key e.1 = false
     | none => match r with
       | none => ∀ e ∈ l, plB key e.1 = false
       | some (j, v) => ∃ e, i ≤ j ∧ l[j - i]? = some e ∧ e.2.1 = v ∧ plB key e.1 = true ∧ ∀ m e', l[m]? = some e' → plB key e'.1 = true → m = j - i) := by
  induction l with
  | nil =>
    intro i r0 k _
    refine ⟨r0, rfl, by simp, ?_⟩
    cases r0 with
    | some p => exact ⟨rfl, by simp⟩
    | none => simp
  | cons e l ih =>
    intro i r0 k h
    have e0 : findK (plEq kd) key (e :: l) i r0 k = plEq kd key e.1 fun t => Bool.rec (findK (plEq kd) key l (i + 1) r0 k) (Option.rec (findK (plEq kd) key l (i + 1) (some (i, e.2.1)) k) (fun _ => .er 131) r0) t := rfl
    rw [e0] at h ⊢
    obtain ⟨b, h1, h2⟩ := plEq_inv h
    rw [h1] at h ⊢
    have hb := h2.eq
    subst hb
    cases hq : plB key e.1 with
    | false =>
      rw [hq] at h h2
      obtain ⟨r, h3, h4, h5⟩ := ih h
      refine ⟨r, h3, fun e' he' => ?_, ?_⟩
      · rcases List.mem_cons.1 he' with rfl | he'
        · rw [hq]; exact h2
        · exact h4 e' he'
      · cases r0 with
        | some p => exact ⟨h5.1, fun e' he' => by rcases List.mem_cons.1 he' with rfl | he'; exact hq; exact h5.2 e' he'⟩
        | none => cases r with
          | none => exact fun e' he' => by rcases List.mem_cons.1 he' with rfl | he'; exact hq; exact h5 e' he'
          | some p =>
            obtain ⟨j, v⟩ := p
            obtain ⟨e1, g1, g2, g3, g4, g5⟩ := h5
            refine ⟨e1, by omega, ?_, g3, g4, fun m e' hm hp => ?_⟩
            · rw [show j - i = (j - (i + 1)) + 1 from by omega, List.getElem?_cons_succ]; exact g2
            · cases m with
              | zero => simp at hm; subst hm; rw [hq] at hp; cases hp
              | succ m => simp at hm; have := g5 m e' hm hp; omega
    | true =>
      rw [hq] at h h2
      cases r0 with
      | some p => exact (ok_er h).elim
      | none =>
        obtain ⟨r, h3, h4, h5, h6⟩ := ih (r0 := some (i, e.2.1)) h
        refine ⟨r, h3, fun e' he' => ?_, ?_⟩
        · rcases List.mem_cons.1 he' with rfl | he'
          · rw [hq]; exact h2
          · exact h4 e' he'
        · subst h5
          refine ⟨e, Nat.le_refl _, by simp, rfl, hq, fun m e' hm hp => ?_⟩
          cases m with
          | zero => omega
          | succ m =>
            simp at hm
            have := h6 e' (List.mem_of_getElem? hm)
            rw [hp] at this
            cases this
/-- the first that fits -/
def fstE (key : AV) : Ents → Nat → Option (Nat × (AV × AV × Option Nat))
  | [], _ => none
  | e :: r, i => if plB key e.1 then some (i, e) else fstE key r (i + 1)
theorem fstE_none {key : AV} : ∀ {l : Ents} {i : Nat}, (∀ e ∈ l, plB key e.1 = false) → fstE key l i = none
  | [], _, _ => rfl
  | e :: r, i, h => by
    rw [fstE, h e (by simp)]
    exact fstE_none fun e' he' => h e' (by simp [he'])
theorem fstE_some {key : AV} : ∀ {l : Ents} {i : Nat} {e : AV × AV × Option Nat}, e ∈ l → plB key e.1 = true → ∃ j e', fstE key l i = some (j, e') ∧ i ≤ j ∧ l[j - i]? = some e' ∧ plB key e'.1 = true
  | e0 :: r, i, e, h, hq => by
    rw [fstE]
    cases hc : plB key e0.1 with
    | true => exact ⟨i, e0, rfl, Nat.le_refl _, by simp, hc⟩
    | false =>
      rcases List.mem_cons.1 h with rfl | h
      · rw [hq] at hc; cases hc
      · obtain ⟨j, e', h1, h2, h3, h4⟩ := fstE_some (i := i + 1) h hq
        refine ⟨j, e', h1, by omega, ?_, h4⟩
        rw [show j - i = (j - (i + 1)) + 1 from by omega, List.getElem?_cons_succ]; exact h3
theorem key_inv {kt : TypeId} {kd : Nat} (h : keyEq E kt = some kd) : ∃ i, E.ti kt = some i ∧ ((kd = 1 ∧ i.d = .bool) ∨ (kd = 2 ∧ ∃ q, i.d = .int q) ∨ (kd = 3 ∧ i.d = .string)) := by
  unfold keyEq at h
  split at h
  · cases h
  · rename_i i hi
    refine ⟨i, hi, ?_⟩
    split at h
    · rename_i q hq; injection h with h; exact .inr (.inl ⟨h.symm, q, hq⟩)
    · rename_i hq; injection h with h; exact .inr (.inr ⟨h.symm, hq⟩)
    · rename_i hq; injection h with h; exact .inl ⟨h.symm, hq⟩
    · cases h
theorem run_checkKey (hE : EOK E) {kt : TypeId} {kd : Nat} (h : keyEq E kt = some kd) (b : Bool) (v : Value) (w : World) : (Instr.checkKey b 10000 kt v).run E.P w = .ok () w := by
  obtain ⟨i, hi, hk⟩ := key_inv h
  have hu := (tok hE hi).un
  rw [Instr.checkKey]
  rw [Sem.run_bind, run_underlying hu, Result.andThen_ok]
  rcases hk with ⟨_, h⟩ | ⟨_, q, h⟩ | ⟨_, h⟩ <;> (rw [h]; rfl)
theorem sameNow_pl {d : TypeDesc} {kd : Nat} (hk : (kd = 1 ∧ d = .bool) ∨ (kd = 2 ∧ ∃ q, d = .int q) ∨ (kd = 3 ∧ d = .string)) {a b : AV} {r : Bool} (h : Pl kd a b r) {ρ : Ren} {v v' : Value} (h1 : VR ρ a v) (h2 : VR ρ b v') : Instr.sameNow d v v' = some r := by
  cases h with
  | b x y =>
    have : d = .bool := by rcases hk with ⟨_, h⟩ | ⟨h, _⟩ | ⟨h, _⟩ <;> first | exact h | cases h
    subst this
    rw [h1.b_inv, h2.b_inv]; rfl
  | i q x y =>
    obtain ⟨q', rfl⟩ : ∃ q, d = .int q := by rcases hk with ⟨h, _⟩ | ⟨_, h⟩ | ⟨h, _⟩ <;> first | exact h | cases h
    rw [h1.i_inv, h2.i_inv]
    simp [Instr.sameNow]
  | s x y =>
    have : d = .string := by rcases hk with ⟨h, _⟩ | ⟨h, _⟩ | ⟨_, h⟩ <;> first | exact h | cases h
    subst this
    rw [h1.s_inv, h2.s_inv]
    simp only [Instr.sameNow]
    rw [beq_toListBytes, s_list, s_list]
theorem findNow_rel {d : TypeDesc} {kd : Nat} (hk : (kd = 1 ∧ d = .bool) ∨ (kd = 2 ∧ ∃ q, d = .int q) ∨ (kd = 3 ∧ d = .string)) {ρ : Ren} {key : AV} {key' : Value} (hv : VR ρ key key') :
    ∀ {l : Ents} {es : List MapEntry} {i : Nat}, ERs ρ l es → (∀ e ∈ l, Pl kd key e.1 (plB key e.1)) →
    ∃ r, Instr.findNow d key' es i = some r ∧ match fstE key l i with
      | none => r = none
      | some (j, e) => i ≤ j ∧ l[j - i]? = some e ∧ ∃ m, r = some (j, m.val) ∧ es[j - i]? = some m
  | [], es, i, h, _ => by
    have : es = [] := by have := h.1; simpa using this
    subst this
    exact ⟨none, rfl, rfl⟩
  | e :: l, es, i, h, hp => by
    cases es with
    | nil => have := h.1; simp at this
    | cons m es =>
      have he := h.2 0 e m rfl rfl
      have hs := sameNow_pl hk (hp e (by simp)) hv he.1
      have ht : ERs ρ l es := ⟨by have := h.1; simpa using this, fun i e m h1 h2 => h.2 (i + 1) e m (by simpa using h1) (by simpa using h2)⟩
      rw [fstE]
      cases hq : plB key e.1 with
      | true =>
        rw [hq] at hs
        refine ⟨some (i, m.val), by rw [Instr.findNow, hs], ?_⟩
        simp only [if_true]
        exact ⟨Nat.le_refl _, by simp, m, rfl, by simp⟩
      | false =>
        rw [hq] at hs
        obtain ⟨r, h1, h2⟩ := findNow_rel hk hv (i := i + 1) ht (fun e' he' => hp e' (by simp [he']))
        refine ⟨r, by rw [Instr.findNow, hs]; exact h1, ?_⟩
        simp only [Bool.false_eq_true, if_false]
        cases hf : fstE key l (i + 1) with
        | none => rw [hf] at h2; exact h2
        | some p =>
          obtain ⟨j, e'⟩ := p
          rw [hf] at h2
          obtain ⟨g1, g2, m', g3, g4⟩ := h2
          refine ⟨by omega, ?_, m', g3, ?_⟩
          · rw [show j - i = (j - (i + 1)) + 1 from by omega, List.getElem?_cons_succ]; exact g2
          · rw [show j - i = (j - (i + 1)) + 1 from by omega, List.getElem?_cons_succ]; exact g4
/-- what the search in a map comes to, on both sides -/
theorem find_inv (hE : EOK E) {kt : TypeId} {kd : Nat} (hk : keyEq E kt = some kd) {key : AV} {l : Ents} {k : Option (Nat × AV) → R} (h : Ok (findK (plEq kd) key l 0 none k)) :
    ∃ r, findK (plEq kd) key l 0 none k = k r ∧ ∀ (ρ : Ren) (key' : Value) (w : World) (l' : Ents) (es : List MapEntry), VR ρ key key' → l'.Perm l → ERs ρ l' es →
      (match r with
       | none => (Instr.findKey kt key' es).run E.P w = .ok none w
       | some (i, v) => ∃ e j m, l[i]? = some e ∧ e.2.1 = v ∧ l'[j]? = some e ∧ es[j]? = some m ∧ (Instr.findKey kt key' es).run E.P w = .ok (some (j, m.val)) w ∧ Instr.sameBits 10000 m.key key' = true) := by
  obtain ⟨r, h1, h2, h3⟩ := findK_inv l h
  refine ⟨r, h1, fun ρ key' w l' es hv hp hes => ?_⟩
  obtain ⟨i, hi, hkk⟩ := key_inv hk
  have hu := (tok hE hi).un
  obtain ⟨q, g1, g2⟩ := findNow_rel hkk hv (i := 0) hes (fun e he => h2 e (hp.mem_iff.1 he))
  have hrun : (Instr.findKey kt key' es).run E.P w = .ok q w := by
    unfold Instr.findKey
    rw [Sem.run_bind, run_underlying hu, Result.andThen_ok, g1]
    rfl
  cases r with
  | none =>
    rw [fstE_none (fun e he => h3 e (hp.mem_iff.1 he))] at g2
    simp only at g2 ⊢
    rw [hrun, g2]
  | some p =>
    obtain ⟨i', v⟩ := p
    obtain ⟨e, _, g3, g4, g5, g6⟩ := h3
    rw [Nat.sub_zero] at g3 g6
    have hmem : e ∈ l' := hp.mem_iff.2 (List.mem_of_getElem? g3)
    obtain ⟨j, e', q1, _, q3, q4⟩ := fstE_some (i := 0) hmem g5
    rw [Nat.sub_zero] at q3
    have hee : e' = e := by
      have hm : e' ∈ l := hp.mem_iff.1 (List.mem_of_getElem? q3)
      obtain ⟨m, hm⟩ := List.getElem?_of_mem hm
      have := g6 m e' hm q4
      subst this
      rw [hm] at g3
      exact Option.some.inj g3
    subst hee
    rw [q1] at g2
    obtain ⟨_, g7, m, rfl, g9⟩ := g2
    rw [Nat.sub_zero] at g7 g9
    refine ⟨e', j, m, g3, g4, g7, g9, hrun, ?_⟩
    have hpl := h2 e' (hp.mem_iff.1 hmem)
    rw [g5] at hpl
    have hkr := (hes.2 j e' m g7 g9).1
    cases hx : key with
    | b x =>
      rw [hx] at hpl hv
      cases hy : e'.1 with
      | b y =>
        rw [hy] at hpl hkr
        rw [hkr.b_inv, hv.b_inv]
        have := hpl.eq
        simp [plB] at this
        subst this
        simp [Instr.sameBits]
      | _ => rw [hy] at hpl; cases hpl
    | i kq x =>
      rw [hx] at hpl hv
      cases hy : e'.1 with
      | i kq' y =>
        rw [hy] at hpl hkr
        rw [hkr.i_inv, hv.i_inv]
        have := hpl.eq
        simp [plB] at this
        subst this
        have hq : kq = kq' := by generalize true = r at hpl; cases hpl; rfl
        subst hq
        simp [Instr.sameBits]
      | _ => rw [hy] at hpl; cases hpl
    | s x =>
      rw [hx] at hpl hv
      cases hy : e'.1 with
      | s y =>
        rw [hy] at hpl hkr
        rw [hkr.s_inv, hv.s_inv]
        have := hpl.eq
        simp [plB] at this
        subst this
        simp only [Instr.sameBits]
        rw [beq_toListBytes]
        simp
      | _ => rw [hy] at hpl; cases hpl
    | _ => rw [hx] at hpl; cases hpl
theorem map_rel {ρ : Ren} {H : Hp} {w : World} (h : Rel ρ H w) {b : Pn} {l : Ents} {c : Nat} (hb : H b = .mp l c) :
    ∃ tb es l', ρ b = some tb ∧ w.heap[tb.c]? = some (.map es c) ∧ l'.Perm l ∧ ERs ρ l' es.toList := by
  obtain ⟨tb, h1, h2⟩ := h.ob b (by rw [hb]; simp)
  rw [hb] at h2
  obtain ⟨es, l', h3, h4, h5⟩ := h2
  exact ⟨tb, es, l', h1, h3, h4, h5⟩
theorem rd_lookup {i j : TI} {kt e : TypeId} {ix : Operand} {kd : Nat} {ok : Bool} (hE : EOK E) (hi : E.ti t = some i) (hd : i.d = .map kt e) (hk : keyEq E kt = some kd) (hj : E.ti e = some j) (ho : o.op = .lookup t x ix ok) :
    RdS E.P o (fun tm h k => opd x tm fun v => opd ix tm fun key =>
        asM v (k (Bool.rec j.zv (.tu [j.zv, .b false]) ok)) fun b => mapK h b fun l _ => findK (plEq kd) key l 0 none fun r =>
          Option.rec (k (Bool.rec j.zv (.tu [j.zv, .b false]) ok)) (fun q => k (Bool.rec q.2 (.tu [q.2, .b true]) ok)) r) := fun tm h k hk' => by
  obtain ⟨v, h1, h2⟩ := opd_inv hk'
  simp only [h2] at hk' ⊢
  obtain ⟨key, h3, h4⟩ := opd_inv hk'
  simp only [h4] at hk' ⊢
  have hu : E.P.underlying t = some (.map kt e) := by rw [(tok hE hi).un, hd]
  have hck := fun b v w => run_checkKey hE hk b v w
  have eo : o.op.operands = #[x, ix] := by rw [ho]; rfl
  -- the answer where nothing is found
  have hzero : ∀ (ρ : Ren) (w : World), ∃ z, (zeroValue e).run E.P w = .ok z w ∧ VR ρ (Bool.rec j.zv (.tu [j.zv, .b false]) ok) (if ok then .tuple #[z, .bool false] else z) := by
    intro ρ w
    obtain ⟨z, z1, z2, _⟩ := (tok hE hj).run_zero w
    refine ⟨z, z1, ?_⟩
    cases ok with
    | true => exact VR.tu' (((VRs.nil ρ).cons (.b false)).cons (ofV_rel ρ z2))
    | false => exact ofV_rel ρ z2
  rcases asM_inv hk' with ⟨rfl, h5⟩ | ⟨b, rfl, h5⟩
  · refine ⟨_, h5, fun ρ A w hr hR => ?_⟩
    obtain ⟨z, z1, z2⟩ := hzero ρ w
    refine ⟨_, z2, ?_⟩
    simp only [execOp, ho]
    refine run_v ?_
    rw [(hr x (mem1 eo (by simp)) _ h1).nm_inv]
    have hf : (Instr.findKey kt (A.eval ix) []).run E.P w = .ok none w := by
      obtain ⟨ik, hik, hkk⟩ := key_inv hk
      unfold Instr.findKey
      rw [Sem.run_bind, run_underlying (tok hE hik).un, Result.andThen_ok]
      rfl
    simp [Instr.lookup, run_underlying hu, hck, hf, z1]
  · rw [h5] at hk' ⊢
    obtain ⟨l, c, h6, h7⟩ := mapK_inv hk'
    rw [h7] at hk' ⊢
    obtain ⟨r, h8, h9⟩ := find_inv hE hk hk'
    rw [h8] at hk' ⊢
    have hgo := fun (ρ : Ren) (A : Act) (w : World) (hr : VRo ρ tm A o) (hR : Rel ρ (hv h) w) => map_rel hR h6
    cases r with
    | none =>
      refine ⟨_, rfl, fun ρ A w hr hR => ?_⟩
      obtain ⟨tb, g1, g2⟩ := (hr x (mem1 eo (by simp)) _ h1).m_inv
      obtain ⟨tb', es, l', g3, g4, g5, g6⟩ := hgo ρ A w hr hR
      obtain rfl := Option.some.inj (g1.symm.trans g3)
      have hf := h9 ρ _ w l' es.toList (hr ix (mem1 eo (by simp)) _ h3) g5 g6
      simp only at hf
      obtain ⟨z, z1, z2⟩ := hzero ρ w
      refine ⟨_, z2, ?_⟩
      simp only [execOp, ho]
      refine run_v ?_
      rw [g2]
      simp [Instr.lookup, run_underlying hu, hck, getObj, Sem.run, g4, hf, z1]
    | some p =>
      obtain ⟨i0, v0⟩ := p
      refine ⟨_, rfl, fun ρ A w hr hR => ?_⟩
      obtain ⟨tb, g1, g2⟩ := (hr x (mem1 eo (by simp)) _ h1).m_inv
      obtain ⟨tb', es, l', g3, g4, g5, g6⟩ := hgo ρ A w hr hR
      obtain rfl := Option.some.inj (g1.symm.trans g3)
      obtain ⟨e0, j0, m, q1, q2, q3, q4, q5, _⟩ := h9 ρ _ w l' es.toList (hr ix (mem1 eo (by simp)) _ h3) g5 g6
      have hmv := (g6.2 j0 e0 m q3 q4).2.1
      rw [q2] at hmv
      refine ⟨if ok then .tuple #[m.val, .bool true] else m.val, ?_, ?_⟩
      · cases ok with
        | true => exact VR.tu' (((VRs.nil ρ).cons (.b true)).cons hmv)
        | false => exact hmv
      · simp only [execOp, ho]
        refine run_v ?_
        rw [g2]
        simp [Instr.lookup, run_underlying hu, hck, getObj, Sem.run, g4, q5]
end
end Ax
end Go.Proofs.YtnnhkajjifmlfaaDoor
