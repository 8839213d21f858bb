/- Maps, read. -/
import Derived.Test.YtdfgnoflohfnmaaGreatDoorXa
import Derived.Laws.MakeOwn
import Derived.Laws.IdiomCopy
import Derived.RangeFuncRecord
import Derived.RangeFuncLeaves
/-! Maps, read. -/

namespace Go.Proofs.YtdfgnoflohfnmaaGreatDoor
namespace Ax
section
variable {E : Env} {o : Oper} {t u : TypeId} {x y : Operand}

theorem rd_conv_up {i j e : TI} (hE : EOK E) (hi : E.ti t = some i) (hj : E.ti u = some j) (ho : o.op = .convert t u x) (h1 : kd i.d = 5) (h2 : kd j.d = 4) (he : E.ti (elemT j.d) = some e) (hz : Nat.beq e.size 0 = false) :
    RdS E.P o (fun tm h k => opd x tm fun v => asP v fun b o => blkK h b fun l ty fz => ifK (Nat.beq o 0 && Nat.beq ty (elemT j.d) && Nat.ble e.size l.length && !fz) 127 fun _ => k (.p b o)) := fun tm h k hk => by
  have e1 := kd_inv.2.2.2.2 h1
  obtain ⟨et, e2⟩ := kd_inv.2.2.2.1 h2
  obtain ⟨v, g1, g2⟩ := opd_inv hk
  simp only [g2] at hk ⊢
  obtain ⟨b, p, rfl, g3⟩ := asP_inv hk
  rw [g3] at hk ⊢
  obtain ⟨l, ty, fz, g4, g5⟩ := blkK_inv hk
  rw [g5] at hk ⊢
  obtain ⟨g6, g7⟩ := ifK_inv hk
  refine ⟨_, g7, fun ρ A w hr hR => ?_⟩
  obtain ⟨tb, q1, q2⟩ := (hr x (mem1 (l := #[x]) (by rw [ho]; rfl) (by simp)) _ g1).p_inv
  obtain ⟨tb', arr, lo, hi', m1, m2, m3, m4, m5, m6⟩ := blk_rel hR g4
  obtain rfl := Option.some.inj (q1.symm.trans m1)
  refine ⟨_, .p q1, ?_⟩
  simp only [execOp, ho]
  refine run_v ?_
  rw [e2] at he g6
  simp only [elemT] at he g6
  simp only [Bool.and_eq_true, beq_iff, ble_iff, Bool.not_eq_true'] at g6
  obtain ⟨⟨⟨rfl, rfl⟩, g8⟩, rfl⟩ := g6
  have hd0 : tb.d = 0 := m3.2 rfl
  rw [q2, hd0]
  have hz' : e.size ≠ 0 := fun h => by rw [h] at hz; cases hz
  have hsh : w.shape? tb.c = some (ty, arr.size) := by simp [World.shape?, m2]
  have hcs := (tok hE he).cells
  have hpos : 0 < arr.size / e.size := Nat.div_pos (by omega) (by omega)
  have hlies : liesAt E.P E.P.depth ty (arr.size / E.P.cellsOf ty) 0 ty 1 = true := by
    have hd : E.P.depth = (2 * (E.P.types.size + Made.depth) + 1) + 1 := rfl
    rw [hd, hcs]
    simp only [liesAt, Bool.or_eq_true]
    left
    rw [hd]
    simp [rowAt, hcs, hz', sameLayout]
    left
    omega
  simp [convert, (tok hE hi).run_un, (tok hE hj).run_un, e1, e2, Conv.unsafePointer, Conv.seenAt, viewAt, hsh, variablesAt, (tok hE he).run_size, hz', hlies]

def plB (x y : AV) : Bool := match x, y with
  | .b a, .b b => a == b
  | .i _ a, .i _ b => a == b
  | .s l, .s m => l == m
  | _, _ => false
theorem Pl.eq {kd : Nat} {x y : AV} {b : Bool} (h : Pl kd x y b) : b = plB x y := by cases h <;> rfl
def cB : List Nat → List AV → List AV → Bool
  | [], _, _ => true
  | _ :: ks, a :: l, b :: m => plB a b && cB ks l m
  | _ :: _, _, _ => false
theorem CRel.eq {ks : List Nat} {l m : List AV} {r : Bool} (h : CRel ks l m r) : r = cB ks l m := by
  induction h with
  | nil l m => rfl
  | no ks l m h => rw [cB, ← h.eq, Bool.false_and]
  | yes h _ ih => rw [cB, ← h.eq, Bool.true_and, ← ih]
noncomputable def kB (ke : KE) (a b : AV) : Bool := match ke with
  | .pl _ => plB a b
  | .ag ks => (match a, b with
    | .ag l, .ag m => cB ks l m
    | _, _ => false)
  | .pt => ptB a b
def PtS (P : Program) (h : Tr AO) (p q : AV) (b : Bool) : Prop := b = ptB p q ∧
    ∀ (ρ : Ren) (w : World) (p' q' : Value), Rel ρ (hv h) w → VR ρ p p' → VR ρ q q' → ∃ a c, p' = .pointer a ∧ q' = .pointer c ∧
      (match a, c with
       | some a, some c => (sameAddr a c).run P w = .ok b w
       | none, c => b = c.isNone
       | some _, none => b = false)
inductive KR (P : Program) (h : Tr AO) : KE → AV → AV → Bool → Prop
  | pl {kd : Nat} {a b : AV} {r : Bool} (p : Pl kd a b r) : KR P h (.pl kd) a b r
  | ag {ks : List Nat} {l m : List AV} {r : Bool} (p : CRel ks l m r) (hl : l.length = ks.length) (hm : m.length = ks.length) : KR P h (.ag ks) (.ag l) (.ag m) r
  | pt {a b : AV} {r : Bool} (p : PtS P h a b r) : KR P h .pt a b r
theorem KR.eq {P : Program} {h : Tr AO} {ke : KE} {a b : AV} {r : Bool} (hk : KR P h ke a b r) : r = kB ke a b := by
  cases hk with
  | pl p => exact p.eq
  | ag p _ _ => exact p.eq
  | pt p => exact p.1
theorem keyK_inv (P : Program) {ke : KE} {h : Tr AO} {a b : AV} {k : Bool → R} (hk : Ok (keyK ke h a b k)) : ∃ r, keyK ke h a b k = k r ∧ KR P h ke a b r := by
  cases ke with
  | pl kd =>
    obtain ⟨r, h1, h2⟩ := plEq_inv (show Ok (plEq kd a b k) from hk)
    exact ⟨r, h1, .pl h2⟩
  | ag ks =>
    unfold keyK at hk ⊢
    simp only at hk ⊢
    obtain ⟨l, rfl, h2⟩ := asAg_inv hk
    rw [h2] at hk ⊢
    obtain ⟨m, rfl, h4⟩ := asAg_inv hk
    rw [h4] at hk ⊢
    obtain ⟨h5, h6⟩ := ifK_inv hk
    rw [h6] at hk ⊢
    rw [Bool.and_eq_true, beq_iff, beq_iff] at h5
    obtain ⟨r, h7, h8⟩ := cEq_inv ks hk
    exact ⟨r, h7, .ag h8 h5.1 h5.2⟩
  | pt =>
    obtain ⟨r, h1, h2, h3⟩ := pEq_inv (P := P) (show Ok (pEq a b h k) from hk)
    exact ⟨r, h1, .pt ⟨h2, h3⟩⟩
def KOk (ke : KE) (key : AV) : Prop := match ke with
  | .ag ks => ∃ l, key = .ag l ∧ l.length = ks.length
  | _ => True
theorem keyOk_inv {ke : KE} {key : AV} {k : Unit → R} (hk : Ok (keyOk ke key k)) : keyOk ke key k = k () ∧ KOk ke key := by
  cases ke with
  | pl kd => exact ⟨rfl, trivial⟩
  | pt => exact ⟨rfl, trivial⟩
  | ag ks =>
    unfold keyOk at hk ⊢
    simp only at hk ⊢
    obtain ⟨l, rfl, h2⟩ := asAg_inv hk
    rw [h2] at hk ⊢
    obtain ⟨h5, h6⟩ := ifK_inv hk
    exact ⟨h6, l, rfl, beq_iff.1 h5⟩
theorem findK_inv (P : Program) {ke : KE} {hh : Tr AO} {key : AV} (l : Ents) : ∀ {i : Nat} {r0 : Option (Nat × AV)} {k : Option (Nat × AV) → R}, Ok (findK (keyK ke hh) key l i r0 k) → ∃ r, findK (keyK ke hh) key l i r0 k = k r ∧ (∀ e ∈ l, KR P hh ke key e.1 (kB ke key e.1)) ∧
    (match r0 with
     | some p => r = some p ∧ ∀ e ∈ l, kB ke key e.1 = false
     | none => match r with
       | none => ∀ e ∈ l, kB ke key e.1 = false
       | some (j, v) => ∃ e, i ≤ j ∧ l[j - i]? = some e ∧ e.2.1 = v ∧ kB ke key e.1 = true ∧ ∀ m e', l[m]? = some e' → kB ke key e'.1 = true → m = j - i) := by
  induction l with
  | nil =>
    intro i r0 k _
    refine ⟨r0, rfl, by simp, ?_⟩
    cases r0 with
    | some p => exact ⟨rfl, by simp⟩
    | none => simp
  | cons e l ih =>
    intro i r0 k h
    have e0 : findK (keyK ke hh) key (e :: l) i r0 k = keyK ke hh key e.1 fun t => Bool.rec (findK (keyK ke hh) key l (i + 1) r0 k) (Option.rec (findK (keyK ke hh) key l (i + 1) (some (i, e.2.1)) k) (fun _ => .er 131) r0) t := rfl
    rw [e0] at h ⊢
    obtain ⟨b, h1, h2⟩ := keyK_inv P h
    rw [h1] at h ⊢
    have hb := h2.eq
    subst hb
    cases hq : kB ke key e.1 with
    | false =>
      rw [hq] at h h2
      obtain ⟨r, h3, h4, h5⟩ := ih h
      refine ⟨r, h3, fun e' he' => ?_, ?_⟩
      · rcases List.mem_cons.1 he' with rfl | he'
        · rw [hq]; exact h2
        · exact h4 e' he'
      · cases r0 with
        | some p => exact ⟨h5.1, fun e' he' => by rcases List.mem_cons.1 he' with rfl | he'; exact hq; exact h5.2 e' he'⟩
        | none => cases r with
          | none => exact fun e' he' => by rcases List.mem_cons.1 he' with rfl | he'; exact hq; exact h5 e' he'
          | some p =>
            obtain ⟨j, v⟩ := p
            obtain ⟨e1, g1, g2, g3, g4, g5⟩ := h5
            refine ⟨e1, by omega, ?_, g3, g4, fun m e' hm hp => ?_⟩
            · rw [show j - i = (j - (i + 1)) + 1 from by omega, List.getElem?_cons_succ]; exact g2
            · cases m with
              | zero => simp at hm; subst hm; rw [hq] at hp; cases hp
              | succ m => simp at hm; have := g5 m e' hm hp; omega
    | true =>
      rw [hq] at h h2
      cases r0 with
      | some p => exact (ok_er h).elim
      | none =>
        obtain ⟨r, h3, h4, h5, h6⟩ := ih (r0 := some (i, e.2.1)) h
        refine ⟨r, h3, fun e' he' => ?_, ?_⟩
        · rcases List.mem_cons.1 he' with rfl | he'
          · rw [hq]; exact h2
          · exact h4 e' he'
        · subst h5
          refine ⟨e, Nat.le_refl _, by simp, rfl, hq, fun m e' hm hp => ?_⟩
          cases m with
          | zero => omega
          | succ m =>
            simp at hm
            have := h6 e' (List.mem_of_getElem? hm)
            rw [hp] at this
            cases this
def fstE (f : AV → Bool) : Ents → Nat → Option (Nat × (AV × AV × Option Nat))
  | [], _ => none
  | e :: r, i => if f e.1 then some (i, e) else fstE f r (i + 1)
theorem fstE_none {f : AV → Bool} : ∀ {l : Ents} {i : Nat}, (∀ e ∈ l, f e.1 = false) → fstE f l i = none
  | [], _, _ => rfl
  | e :: r, i, h => by
    rw [fstE, h e (by simp)]
    exact fstE_none fun e' he' => h e' (by simp [he'])
theorem fstE_some {f : AV → Bool} : ∀ {l : Ents} {i : Nat} {e : AV × AV × Option Nat}, e ∈ l → f e.1 = true → ∃ j e', fstE f l i = some (j, e') ∧ i ≤ j ∧ l[j - i]? = some e' ∧ f e'.1 = true
  | e0 :: r, i, e, h, hq => by
    rw [fstE]
    cases hc : f e0.1 with
    | true => exact ⟨i, e0, rfl, Nat.le_refl _, by simp, hc⟩
    | false =>
      rcases List.mem_cons.1 h with rfl | h
      · rw [hq] at hc; cases hc
      · obtain ⟨j, e', h1, h2, h3, h4⟩ := fstE_some (i := i + 1) h hq
        refine ⟨j, e', h1, by omega, ?_, h4⟩
        rw [show j - i = (j - (i + 1)) + 1 from by omega, List.getElem?_cons_succ]; exact h3
abbrev PlD (kd : Nat) (d : TypeDesc) : Prop := (kd = 1 ∧ d = .bool) ∨ (kd = 2 ∧ ∃ q, d = .int q) ∨ (kd = 3 ∧ d = .string)
def KeyD (E : Env) (kt : TypeId) (i : TI) (ke : KE) : Prop := match ke with
  | .pl kd => PlD kd i.d
  | .ag ks => kinds E kt = some ks ∧ ∃ fs, i.d = .struct fs
  | .pt => ∃ e j, i.d = .pointer e ∧ E.ti e = some j ∧ j.size ≠ 0
theorem key_inv {kt : TypeId} {ke : KE} (h : keyEq E kt = some ke) : ∃ i, E.ti kt = some i ∧ KeyD E kt i ke := by
  unfold keyEq at h
  split at h
  · cases h
  · rename_i i hi
    refine ⟨i, hi, ?_⟩
    split at h
    · rename_i q hq; injection h with h; subst h; exact .inr (.inl ⟨rfl, q, hq⟩)
    · rename_i hq; injection h with h; subst h; exact .inr (.inr ⟨rfl, hq⟩)
    · rename_i hq; injection h with h; subst h; exact .inl ⟨rfl, hq⟩
    · rename_i fs hq
      split at h
      · rename_i ks hks; injection h with h; subst h; exact ⟨hks, fs, hq⟩
      · cases h
    · rename_i e hq
      split at h
      · rename_i j hj
        split at h
        · rename_i hz
          injection h with h
          subst h
          exact ⟨e, j, hq, hj, fun e0 => by rw [e0] at hz; cases hz⟩
        · cases h
      · cases h
    · cases h
theorem check_kinds (hE : EOK E) (em : Bool) : ∀ (n : Nat) (t : TypeId) (ks : List Nat), kindsT E n t = some ks → ∃ i, E.ti t = some i ∧ (i.agg = true → i.size = ks.length) ∧ (i.agg = false → ks.length = 1) ∧
    ∀ (w : World) (d : Nat) (xs : List Value) (v : Value), n ≤ d → xs.length = ks.length → AsV i.agg xs v → (Instr.checkKey em d t v).run E.P w = .ok () w
  | 0, t, ks, h => by cases h
  | n + 1, t, ks, h => by
    obtain ⟨i0, hi0, ha0, hs0, hk0⟩ := kinds_sound hE (n + 1) t ks h
    clear hk0
    refine ⟨i0, hi0, ha0, hs0, ?_⟩
    have IH := check_kinds hE em n
    intro w d xs v hd hlen hv
    obtain ⟨d, rfl⟩ : ∃ e, d = e + 1 := ⟨d - 1, by omega⟩
    have hT := tok hE hi0
    have hu := hT.un
    simp only [kindsT] at h
    rw [hi0] at h
    simp only at h
    rw [Instr.checkKey]
    rw [Sem.run_bind, run_underlying hu, Result.andThen_ok]
    split at h
    · rename_i hq; rw [hq]; rfl
    · rename_i q hq; rw [hq]; rfl
    · rename_i hq; rw [hq]; rfl
    · rename_i fs hq
      split at h
      · rename_i ks' hst hks
        split at h
        · rename_i hl
          injection h with h
          subst h
          have ha : i0.agg = true := by rw [hT.agg, hq]; rfl
          rw [hq, hv.1 ha]
          simp only
          rw [← Array.forIn_toList]
          have hle : 0 + ks'.length ≤ xs.length := by omega
          have hd' : n ≤ d := by omega
          clear hlen hv hl hs0 ha0 hd
          generalize 0 = o at hks hle
          generalize fs.toList = L at hks ⊢
          induction L generalizing o ks' with
          | nil => simp
          | cons f L ih =>
            simp only [kindsFs] at hks
            split at hks
            · rename_i ks1 hc h1
              split at hks
              · rename_i ms h2
                injection hks with hks
                subst hks
                rw [Bool.and_eq_true, beq_iff] at hc
                obtain ⟨ho, hnm⟩ := hc
                have hname : f.name ≠ "_" := by
                  intro e
                  rw [e] at hnm
                  simp at hnm
                obtain ⟨i, hi, hag, hsc, hs⟩ := IH _ _ h1
                rw [List.length_append] at hle
                have hp : ∃ v, (part f.type xs.toArray f.offset).run E.P w = .ok v w ∧ AsV i.agg ((xs.drop o).take ks1.length) v := by
                  cases hb : i.agg with
                  | true => exact ⟨_, run_part (tok hE hi) xs f.offset (fun e => (by rw [hb] at e; cases e)) (fun _ => rfl), fun _ => (by rw [ho, hag hb]), fun e => (by cases e)⟩
                  | false =>
                    have h1' := hsc hb
                    have hlt' : o < xs.length := by omega
                    refine ⟨xs[o], run_part (tok hE hi) xs f.offset (fun _ => (by rw [ho]; exact List.getElem?_eq_getElem hlt')) (fun e => (by rw [hb] at e; cases e)), ⟨fun e => (by cases e), fun _ => ?_⟩⟩
                    rw [h1', List.drop_eq_getElem_cons hlt']
                    rfl
                obtain ⟨v1, p1, p2⟩ := hp
                have p3 := hs w d ((xs.drop o).take ks1.length) v1 hd' (by rw [List.length_take, List.length_drop]; omega) p2
                simp only [List.forIn_cons, Sem.run_bind, hname, ne_eq, not_false_eq_true, if_true, Result.andThen_ok, p1, p3, Sem.run_pure]
                have h9 := ih ms (o + ks1.length) (by omega) h2
                simp only [Sem.run_bind, ne_eq, Sem.run_pure] at h9
                exact h9
              · cases hks
            · cases hks
        · cases h
      · cases h
    · cases h
theorem run_checkKey (hE : EOK E) {kt : TypeId} {ke : KE} (h : keyEq E kt = some ke) {key : AV} (hko : KOk ke key) {ρ : Ren} {v : Value} (hv : VR ρ key v) (b : Bool) (w : World) : (Instr.checkKey b 10000 kt v).run E.P w = .ok () w := by
  obtain ⟨i, hi, hk⟩ := key_inv h
  have hu := (tok hE hi).un
  cases ke with
  | pl kd =>
    rw [Instr.checkKey]
    rw [Sem.run_bind, run_underlying hu, Result.andThen_ok]
    have hk : PlD kd i.d := hk
    rcases hk with ⟨_, h⟩ | ⟨_, q, h⟩ | ⟨_, h⟩ <;> (rw [h]; rfl)
  | pt =>
    obtain ⟨e, j, hd, _⟩ := hk
    rw [Instr.checkKey]
    rw [Sem.run_bind, run_underlying hu, Result.andThen_ok, hd]
    rfl
  | ag ks =>
    obtain ⟨hks, fs, hd⟩ := hk
    obtain ⟨l, rfl, hl⟩ := hko
    obtain ⟨xs, rfl, hxs⟩ := hv.ag_inv
    obtain ⟨i', hi', _, _, hc⟩ := check_kinds hE b 5 kt ks hks
    obtain rfl := Option.some.inj (hi.symm.trans hi')
    have ha : i.agg = true := by rw [(tok hE hi).agg, hd]; rfl
    exact hc w 10000 xs _ (by omega) (by rw [hxs.1, hl]) ⟨fun _ => rfl, fun e => (by rw [ha] at e; cases e)⟩
theorem sameNow_pl {d : TypeDesc} {kd : Nat} (hk : PlD kd d) {a b : AV} {r : Bool} (h : Pl kd a b r) {ρ : Ren} {v v' : Value} (h1 : VR ρ a v) (h2 : VR ρ b v') : Instr.sameNow d v v' = some r := by
  cases h with
  | b x y =>
    have : d = .bool := by rcases hk with ⟨_, h⟩ | ⟨h, _⟩ | ⟨h, _⟩ <;> first | exact h | cases h
    subst this
    rw [h1.b_inv, h2.b_inv]; rfl
  | i q x y =>
    obtain ⟨q', rfl⟩ : ∃ q, d = .int q := by rcases hk with ⟨h, _⟩ | ⟨_, h⟩ | ⟨h, _⟩ <;> first | exact h | cases h
    rw [h1.i_inv, h2.i_inv]
    simp [Instr.sameNow]
  | s x y =>
    have : d = .string := by rcases hk with ⟨h, _⟩ | ⟨h, _⟩ | ⟨_, h⟩ <;> first | exact h | cases h
    subst this
    rw [h1.s_inv, h2.s_inv]
    simp only [Instr.sameNow]
    rw [beq_toListBytes, s_list, s_list]
def Fnd (f : AV → Bool) (l : Ents) (es : List MapEntry) (i : Nat) (r : Option (Nat × Value)) : Prop := match fstE f l i with
  | none => r = none
  | some (j, e) => i ≤ j ∧ l[j - i]? = some e ∧ ∃ m, r = some (j, m.val) ∧ es[j - i]? = some m
theorem Fnd.nil (f : AV → Bool) (es : List MapEntry) (i : Nat) : Fnd f [] es i none := rfl
theorem Fnd.here {f : AV → Bool} {e : AV × AV × Option Nat} (h : f e.1 = true) (l : Ents) (m : MapEntry) (es : List MapEntry) (i : Nat) : Fnd f (e :: l) (m :: es) i (some (i, m.val)) := by
  unfold Fnd
  rw [fstE, if_pos h]
  exact ⟨Nat.le_refl _, by simp, m, rfl, by simp⟩
theorem Fnd.there {f : AV → Bool} {e : AV × AV × Option Nat} (h : f e.1 = false) {l : Ents} (m : MapEntry) {es : List MapEntry} {i : Nat} {r : Option (Nat × Value)} (h2 : Fnd f l es (i + 1) r) : Fnd f (e :: l) (m :: es) i r := by
  unfold Fnd at h2 ⊢
  rw [fstE, h]
  simp only [Bool.false_eq_true, if_false]
  cases hf : fstE f l (i + 1) with
  | none => rw [hf] at h2; exact h2
  | some p =>
    obtain ⟨j, e'⟩ := p
    rw [hf] at h2
    obtain ⟨g1, g2, m', g3, g4⟩ := h2
    refine ⟨by omega, ?_, m', g3, ?_⟩
    · rw [show j - i = (j - (i + 1)) + 1 from by omega, List.getElem?_cons_succ]; exact g2
    · rw [show j - i = (j - (i + 1)) + 1 from by omega, List.getElem?_cons_succ]; exact g4
theorem ERs.nil_inv {ρ : Ren} {es : List MapEntry} (h : ERs ρ [] es) : es = [] := by have := h.1; simpa using this
theorem ERs.cons_inv {ρ : Ren} {e : AV × AV × Option Nat} {l : Ents} {es : List MapEntry} (h : ERs ρ (e :: l) es) : ∃ m r, es = m :: r ∧ ER ρ e m ∧ ERs ρ l r := by
  cases es with
  | nil => have := h.1; simp at this
  | cons m es => exact ⟨m, es, rfl, h.2 0 e m rfl rfl, by have := h.1; simpa using this, fun i e m h1 h2 => h.2 (i + 1) e m (by simpa using h1) (by simpa using h2)⟩
theorem findNow_rel {d : TypeDesc} {kd : Nat} (hk : PlD kd d) {ρ : Ren} {key : AV} {key' : Value} (hv : VR ρ key key') :
    ∀ {l : Ents} {es : List MapEntry} {i : Nat}, ERs ρ l es → (∀ e ∈ l, Pl kd key e.1 (plB key e.1)) → ∃ r, Instr.findNow d key' es i = some r ∧ Fnd (plB key) l es i r
  | [], es, i, h, _ => by
    obtain rfl := h.nil_inv
    exact ⟨none, rfl, rfl⟩
  | e :: l, es, i, h, hp => by
    obtain ⟨m, es, rfl, he, ht⟩ := h.cons_inv
    have hs := sameNow_pl hk (hp e (by simp)) hv he.1
    cases hq : plB key e.1 with
    | true =>
      rw [hq] at hs
      exact ⟨some (i, m.val), by rw [Instr.findNow, hs], Fnd.here hq _ _ _ _⟩
    | false =>
      rw [hq] at hs
      obtain ⟨r, h1, h2⟩ := findNow_rel hk hv (i := i + 1) ht (fun e' he' => hp e' (by simp [he']))
      exact ⟨r, by rw [Instr.findNow, hs]; exact h1, Fnd.there hq _ h2⟩
theorem findAsking_rel {P : Program} {kt : TypeId} {w : World} {ρ : Ren} {f : AV → Bool} {key' : Value} : ∀ {l : Ents} {es : List MapEntry} {i : Nat}, ERs ρ l es → (∀ e ∈ l, ∀ e', VR ρ e.1 e' → (Op.equal kt key' e').run P w = .ok (f e.1) w) →
    ∃ r, (Instr.findAsking kt key' es i).run P w = .ok r w ∧ Fnd f l es i r
  | [], es, i, h, _ => by
    obtain rfl := h.nil_inv
    exact ⟨none, rfl, rfl⟩
  | e :: l, es, i, h, hp => by
    obtain ⟨m, es, rfl, he, ht⟩ := h.cons_inv
    have hs := hp e (by simp) _ he.1
    cases hq : f e.1 with
    | true =>
      rw [hq] at hs
      exact ⟨some (i, m.val), by rw [Instr.findAsking, Sem.run_bind, hs]; rfl, Fnd.here hq _ _ _ _⟩
    | false =>
      rw [hq] at hs
      obtain ⟨r, h1, h2⟩ := findAsking_rel (i := i + 1) ht (fun e' he' => hp e' (by simp [he']))
      exact ⟨r, by rw [Instr.findAsking, Sem.run_bind, hs]; exact h1, Fnd.there hq _ h2⟩
theorem findKey_asking {P : Program} {kt : TypeId} {d : TypeDesc} {w : World} (hu : P.underlying kt = some d) (hd : ∀ v v', Instr.sameNow d v v' = none) (key' : Value) (es : List MapEntry) :
    (Instr.findKey kt key' es).run P w = (Instr.findAsking kt key' es).run P w := by
  unfold Instr.findKey
  rw [Sem.run_bind, run_underlying hu, Result.andThen_ok]
  cases es with
  | nil => rfl
  | cons m es => rw [Instr.findNow, hd]
theorem findKey_rel (hE : EOK E) {kt : TypeId} {ke : KE} (hk : keyEq E kt = some ke) {ρ : Ren} {h : Tr AO} {w : World} (hR : Rel ρ (hv h) w) {key : AV} {key' : Value} (hv' : VR ρ key key') {l : Ents} {es : List MapEntry} (hes : ERs ρ l es)
    (hp : ∀ e ∈ l, KR E.P h ke key e.1 (kB ke key e.1)) : ∃ r, (Instr.findKey kt key' es).run E.P w = .ok r w ∧ Fnd (kB ke key) l es 0 r := by
  obtain ⟨i, hi, hkk⟩ := key_inv hk
  have hu := (tok hE hi).un
  cases ke with
  | pl kd =>
    obtain ⟨r, h1, h2⟩ := findNow_rel (show PlD kd i.d from hkk) hv' (i := 0) hes (fun e he => by have := hp e he; cases this with | pl p => exact p)
    refine ⟨r, ?_, h2⟩
    unfold Instr.findKey
    rw [Sem.run_bind, run_underlying hu, Result.andThen_ok, h1]
    rfl
  | ag ks =>
    obtain ⟨hks, fs, hd⟩ := hkk
    obtain ⟨i', hi', hag, hsc, hs⟩ := kinds_sound hE 5 kt ks hks
    obtain rfl := Option.some.inj (hi.symm.trans hi')
    have ha : i.agg = true := by rw [(tok hE hi).agg, hd]; rfl
    rw [findKey_asking hu (by rw [hd]; exact fun _ _ => rfl)]
    refine findAsking_rel hes fun e he e' hve => ?_
    have hkr := hp e he
    generalize hb : kB (.ag ks) key e.1 = b at hkr ⊢
    generalize hx : e.1 = x at hkr hve
    cases hkr with
    | ag p hl hm =>
      obtain ⟨xs, rfl, hxs⟩ := hv'.ag_inv
      obtain ⟨ys, rfl, hys⟩ := hve.ag_inv
      exact hs _ _ _ p ρ xs ys w 10000 _ _ (by omega) (by rw [← hl, List.take_length]; exact hxs) (by rw [← hm, List.take_length]; exact hys)
        ⟨fun _ => rfl, fun e => (by rw [ha] at e; cases e)⟩ ⟨fun _ => rfl, fun e => (by rw [ha] at e; cases e)⟩
  | pt =>
    obtain ⟨et, j, hd, hj, hz⟩ := hkk
    rw [findKey_asking hu (by rw [hd]; exact fun _ _ => rfl)]
    refine findAsking_rel hes fun e he e' hve => ?_
    have hkr := hp e he
    generalize hb : kB .pt key e.1 = b at hkr ⊢
    cases hkr with
    | pt p =>
      obtain ⟨a, c, rfl, rfl, h3⟩ := p.2 ρ w _ _ hR hv' hve
      exact eqIn_ptr (by rw [hu, hd]) (tok hE hj) hz 9999 w a c b h3
theorem sameBits_pl {kd : Nat} {a b : AV} (h : Pl kd a b true) {ρ : Ren} {v v' : Value} (h1 : VR ρ a v) (h2 : VR ρ b v') (n : Nat) : Instr.sameBits n v' v = true := by
  generalize hr : true = r at h
  cases h with
  | b x y =>
    rw [h1.b_inv, h2.b_inv]
    have : x = y := by simpa using hr.symm
    subst this
    cases n <;> simp [Instr.sameBits]
  | i q x y =>
    rw [h1.i_inv, h2.i_inv]
    have : x = y := by simpa using hr.symm
    subst this
    cases n <;> simp [Instr.sameBits]
  | s x y =>
    rw [h1.s_inv, h2.s_inv]
    have : x = y := by simpa using hr.symm
    subst this
    cases n <;> (simp only [Instr.sameBits]; rw [beq_toListBytes]; simp)
theorem sameBits_row {ks : List Nat} {l m : List AV} {ρ : Ren} (n : Nat) : ∀ {xs ys : List Value}, CRel ks l m true → l.length = ks.length → m.length = ks.length → VRs ρ l xs → VRs ρ m ys → ((ys.zip xs).all fun p => Instr.sameBits n p.1 p.2) = true := by
  induction ks generalizing l m with
  | nil =>
    intro xs ys _ h1 h2 h3 h4
    have e1 : xs = [] := by have := h3.1; rw [h1] at this; simpa using this
    subst e1
    simp
  | cons kd ks ih =>
    intro xs ys h h1 h2 h3 h4
    generalize hr : true = r at h
    cases h with
    | no _ _ _ _ => cases hr
    | yes p hs =>
      subst hr
      obtain ⟨x, xs, rfl, h5, h6⟩ := h3.cons_inv
      obtain ⟨y, ys, rfl, h7, h8⟩ := h4.cons_inv
      simp only [List.length_cons, Nat.add_right_cancel_iff] at h1 h2
      simp only [List.zip_cons_cons, List.all_cons, Bool.and_eq_true]
      exact ⟨sameBits_pl p h5 h7 n, ih hs h1 h2 h6 h8⟩
theorem ptB_same {p q : AV} (h : ptB p q = true) {ρ : Ren} {p' q' : Value} (h1 : VR ρ p p') (h2 : VR ρ q q') : p' = q' ∧ ∃ a, p' = .pointer a := by
  unfold ptB at h
  split at h
  · rw [Bool.and_eq_true, beq_iff] at h
    obtain ⟨e1, e2⟩ := h
    obtain rfl := (pn_eq _ _).1 e1
    subst e2
    obtain ⟨t, ht, rfl⟩ := h1.p_inv
    obtain ⟨t', ht', rfl⟩ := h2.p_inv
    obtain rfl := Option.some.inj (ht.symm.trans ht')
    exact ⟨rfl, _, rfl⟩
  · exact ⟨h1.np_inv.trans h2.np_inv.symm, _, h1.np_inv⟩
  · cases h
theorem sameBits_kr {P : Program} {h : Tr AO} {ke : KE} {a b : AV} (hk : KR P h ke a b true) {ρ : Ren} {v v' : Value} (h1 : VR ρ a v) (h2 : VR ρ b v') : Instr.sameBits 10000 v' v = true := by
  generalize hr : true = r at hk
  cases hk with
  | pl p => subst hr; exact sameBits_pl p h1 h2 _
  | ag p hl hm =>
    subst hr
    obtain ⟨xs, rfl, h3⟩ := h1.ag_inv
    obtain ⟨ys, rfl, h4⟩ := h2.ag_inv
    have hlen : ys.length = xs.length := by rw [h3.1, h4.1, hl, hm]
    have := sameBits_row 9999 p hl hm h3 h4
    rw [Instr.sameBits]
    simp only [List.size_toArray, hlen, BEq.rfl, Bool.true_and]
    exact this
  | pt p =>
    subst hr
    obtain ⟨rfl, a, rfl⟩ := ptB_same p.1.symm h1 h2
    simp [Instr.sameBits]
theorem find_inv (hE : EOK E) {kt : TypeId} {ke : KE} (hk : keyEq E kt = some ke) {h : Tr AO} {key : AV} {l : Ents} {k : Option (Nat × AV) → R} (hok : Ok (findK (keyK ke h) key l 0 none k)) :
    ∃ r, findK (keyK ke h) key l 0 none k = k r ∧ ∀ (ρ : Ren) (key' : Value) (w : World) (l' : Ents) (es : List MapEntry), Rel ρ (hv h) w → VR ρ key key' → l'.Perm l → ERs ρ l' es →
      (match r with
       | none => (Instr.findKey kt key' es).run E.P w = .ok none w
       | some (i, v) => ∃ e j m, l[i]? = some e ∧ e.2.1 = v ∧ l'[j]? = some e ∧ es[j]? = some m ∧ (Instr.findKey kt key' es).run E.P w = .ok (some (j, m.val)) w ∧ Instr.sameBits 10000 m.key key' = true) := by
  obtain ⟨r, h1, h2, h3⟩ := findK_inv E.P l hok
  refine ⟨r, h1, fun ρ key' w l' es hR hv hp hes => ?_⟩
  obtain ⟨q, hrun, g2⟩ := findKey_rel hE hk hR hv hes (fun e he => h2 e (hp.mem_iff.1 he))
  unfold Fnd at g2
  cases r with
  | none =>
    rw [fstE_none (fun e he => h3 e (hp.mem_iff.1 he))] at g2
    simp only at g2 ⊢
    rw [hrun, g2]
  | some p =>
    obtain ⟨i', v⟩ := p
    obtain ⟨e, _, g3, g4, g5, g6⟩ := h3
    rw [Nat.sub_zero] at g3 g6
    have hmem : e ∈ l' := hp.mem_iff.2 (List.mem_of_getElem? g3)
    obtain ⟨j, e', q1, _, q3, q4⟩ := fstE_some (f := kB ke key) (i := 0) hmem g5
    rw [Nat.sub_zero] at q3
    have hee : e' = e := by
      have hm : e' ∈ l := hp.mem_iff.1 (List.mem_of_getElem? q3)
      obtain ⟨m, hm⟩ := List.getElem?_of_mem hm
      have := g6 m e' hm q4
      subst this
      rw [hm] at g3
      exact Option.some.inj g3
    subst hee
    rw [q1] at g2
    obtain ⟨_, g7, m, rfl, g9⟩ := g2
    rw [Nat.sub_zero] at g7 g9
    refine ⟨e', j, m, g3, g4, g7, g9, hrun, ?_⟩
    have hkr := h2 e' (hp.mem_iff.1 hmem)
    rw [g5] at hkr
    exact sameBits_kr hkr hv (hes.2 j e' m g7 g9).1
theorem map_rel {ρ : Ren} {H : Hp} {w : World} (h : Rel ρ H w) {b : Pn} {l : Ents} {c : Nat} (hb : H b = .mp l c) :
    ∃ tb es l', ρ b = some tb ∧ w.heap[tb.c]? = some (.map es c) ∧ l'.Perm l ∧ ERs ρ l' es.toList := by
  obtain ⟨tb, h1, h2⟩ := h.ob b (by rw [hb]; simp)
  rw [hb] at h2
  obtain ⟨es, l', h3, h4, h5, _⟩ := h2
  exact ⟨tb, es, l', h1, h3, h4, h5⟩
theorem map_st {ρ : Ren} {H : Hp} {w : World} (h : Rel ρ H w) {b : Pn} {l : Ents} {c : Nat} (hb : H b = .mp l c) {tb : Bk} {es : Array MapEntry} (ht : ρ b = some tb) (hw : w.heap[tb.c]? = some (.map es c)) : Stp es.toList c := by
  obtain ⟨tb', h1, h2⟩ := h.ob b (by rw [hb]; simp)
  obtain rfl := Option.some.inj (ht.symm.trans h1)
  rw [hb] at h2
  obtain ⟨es', l', h3, _, _, h6⟩ := h2
  have : es' = es := by
    rw [hw] at h3
    injection h3 with h3
    injection h3 with h3
    exact h3.symm
  rw [← this]
  exact h6
theorem rd_lookup {i j : TI} {kt e : TypeId} {ix : Operand} {ke : KE} {ok : Bool} (hE : EOK E) (hi : E.ti t = some i) (hd : i.d = .map kt e) (hk : keyEq E kt = some ke) (hj : E.ti e = some j) (ho : o.op = .lookup t x ix ok) :
    RdS E.P o (fun tm h k => opd x tm fun v => opd ix tm fun key => keyOk ke key fun _ =>
        asM v (k (Bool.rec j.zv (.tu [j.zv, .b false]) ok)) fun b => mapK h b fun l _ => findK (keyK ke h) key l 0 none fun r =>
          Option.rec (k (Bool.rec j.zv (.tu [j.zv, .b false]) ok)) (fun q => k (Bool.rec q.2 (.tu [q.2, .b true]) ok)) r) := fun tm h k hk' => by
  obtain ⟨v, h1, h2⟩ := opd_inv hk'
  simp only [h2] at hk' ⊢
  obtain ⟨key, h3, h4⟩ := opd_inv hk'
  simp only [h4] at hk' ⊢
  obtain ⟨h4, hko⟩ := keyOk_inv hk'
  rw [h4] at hk' ⊢
  have hu : E.P.underlying t = some (.map kt e) := by rw [(tok hE hi).un, hd]
  have eo : o.op.operands = #[x, ix] := by rw [ho]; rfl
  have hzero : ∀ (ρ : Ren) (w : World), ∃ z, (zeroValue e).run E.P w = .ok z w ∧ VR ρ (Bool.rec j.zv (.tu [j.zv, .b false]) ok) (if ok then .tuple #[z, .bool false] else z) := by
    intro ρ w
    obtain ⟨z, z1, z2, _⟩ := (tok hE hj).run_zero w
    refine ⟨z, z1, ?_⟩
    cases ok with
    | true => exact VR.tu' (((VRs.nil ρ).cons (.b false)).cons (ofV_rel ρ z2))
    | false => exact ofV_rel ρ z2
  rcases asM_inv hk' with ⟨rfl, h5⟩ | ⟨b, rfl, h5⟩
  · refine ⟨_, h5, fun ρ A w hr hR => ?_⟩
    obtain ⟨z, z1, z2⟩ := hzero ρ w
    refine ⟨_, z2, ?_⟩
    simp only [execOp, ho]
    refine run_v ?_
    have hck := fun b w' => run_checkKey hE hk hko (hr ix (mem1 eo (by simp)) _ h3) b w'
    rw [(hr x (mem1 eo (by simp)) _ h1).nm_inv]
    have hf : (Instr.findKey kt (A.eval ix) []).run E.P w = .ok none w := by
      obtain ⟨ik, hik, hkk⟩ := key_inv hk
      unfold Instr.findKey
      rw [Sem.run_bind, run_underlying (tok hE hik).un, Result.andThen_ok]
      rfl
    simp [Instr.lookup, run_underlying hu, hck, hf, z1]
  · rw [h5] at hk' ⊢
    obtain ⟨l, c, h6, h7⟩ := mapK_inv hk'
    rw [h7] at hk' ⊢
    obtain ⟨r, h8, h9⟩ := find_inv hE hk hk'
    rw [h8] at hk' ⊢
    have hgo := fun (ρ : Ren) (A : Act) (w : World) (hr : VRo ρ tm A o) (hR : Rel ρ (hv h) w) => map_rel hR h6
    cases r with
    | none =>
      refine ⟨_, rfl, fun ρ A w hr hR => ?_⟩
      obtain ⟨tb, g1, g2⟩ := (hr x (mem1 eo (by simp)) _ h1).m_inv
      obtain ⟨tb', es, l', g3, g4, g5, g6⟩ := hgo ρ A w hr hR
      obtain rfl := Option.some.inj (g1.symm.trans g3)
      have hf := h9 ρ _ w l' es.toList hR (hr ix (mem1 eo (by simp)) _ h3) g5 g6
      have hck := fun b w' => run_checkKey hE hk hko (hr ix (mem1 eo (by simp)) _ h3) b w'
      simp only at hf
      obtain ⟨z, z1, z2⟩ := hzero ρ w
      refine ⟨_, z2, ?_⟩
      simp only [execOp, ho]
      refine run_v ?_
      rw [g2]
      simp [Instr.lookup, run_underlying hu, hck, getObj, Sem.run, g4, hf, z1]
    | some p =>
      obtain ⟨i0, v0⟩ := p
      refine ⟨_, rfl, fun ρ A w hr hR => ?_⟩
      obtain ⟨tb, g1, g2⟩ := (hr x (mem1 eo (by simp)) _ h1).m_inv
      obtain ⟨tb', es, l', g3, g4, g5, g6⟩ := hgo ρ A w hr hR
      obtain rfl := Option.some.inj (g1.symm.trans g3)
      obtain ⟨e0, j0, m, q1, q2, q3, q4, q5, _⟩ := h9 ρ _ w l' es.toList hR (hr ix (mem1 eo (by simp)) _ h3) g5 g6
      have hck := fun b w' => run_checkKey hE hk hko (hr ix (mem1 eo (by simp)) _ h3) b w'
      have hmv := (g6.2 j0 e0 m q3 q4).2.1
      rw [q2] at hmv
      refine ⟨if ok then .tuple #[m.val, .bool true] else m.val, ?_, ?_⟩
      · cases ok with
        | true => exact VR.tu' (((VRs.nil ρ).cons (.b true)).cons hmv)
        | false => exact hmv
      · simp only [execOp, ho]
        refine run_v ?_
        rw [g2]
        simp [Instr.lookup, run_underlying hu, hck, getObj, Sem.run, g4, q5]
end
end Ax
end Go.Proofs.YtdfgnoflohfnmaaGreatDoor

/-! Blocks laid; a range's entry read again. -/

namespace Go.Proofs.YtdfgnoflohfnmaaGreatDoor
namespace Ax
section
variable {E : Env} {o : Oper} {t u : TypeId} {x y : Operand}

theorem aoI_inv {a : AO} {k : Option Pn → Nat → List Nat → Nat → R} (h : Ok (aoI a k)) : ∃ m s l c, a = .mi m s l c ∧ aoI a k = k m s l c := by
  cases a with
  | mi m s l c => exact ⟨m, s, l, c, rfl, rfl⟩
  | _ => exact (ok_er h).elim
theorem iter_rel {ρ : Ren} {H : Hp} {w : World} (h : Rel ρ H w) {b : Pn} {m : Option Pn} {s : Nat} {l : List Nat} {c : Nat} (hb : H b = .mi m s l c) :
    ∃ tb mc, ρ b = some tb ∧ tb.d = 0 ∧ w.heap[tb.c]? = some (.mapIter mc s l.toArray c) ∧ (m = none → mc = none) ∧ (∀ b, m = some b → ∃ t', ρ b = some t' ∧ mc = some t'.c) := by
  obtain ⟨tb, h1, h2⟩ := h.ob b (by rw [hb]; simp)
  rw [hb] at h2
  obtain ⟨mc, h3, h0, h4⟩ := h2
  refine ⟨tb, mc, h1, h0, h3, ?_, ?_⟩
  · rintro rfl; exact h4
  · rintro b rfl; exact h4
theorem one_entry {ρ : Ren} {l' : Ents} {es : Array MapEntry} {e : AV × AV × Option Nat} (hp : l'.Perm [e]) (hes : ERs ρ l' es.toList) : ∃ m, es = #[m] ∧ ER ρ e m := by
  have hl : l' = [e] := by simpa using hp
  subst hl
  have h1 := hes.1
  cases hl : es.toList with
  | nil => rw [hl] at h1; simp at h1
  | cons m r =>
    rw [hl] at h1
    have : r = [] := by simpa using h1
    subst this
    refine ⟨m, by rw [← Array.toArray_toList (xs := es), hl], hes.2 0 e m rfl (by rw [hl]; rfl)⟩
theorem rd_entry (ho : o.op = .entry x) : RdS E.P o (fun tm h k => opd x tm fun v => asP v fun b o => ifK (Nat.beq o 0) 150 fun _ => h.getK .x b fun o => aoI o fun m _ seen last =>
    Option.rec (.er 153) (fun m => entry1 m seen last h k) m) := fun tm h k hk => by
  obtain ⟨v, h1, h2⟩ := opd_inv hk
  simp only [h2] at hk ⊢
  obtain ⟨b, p, rfl, h3⟩ := asP_inv hk
  rw [h3] at hk ⊢
  obtain ⟨h4, h5⟩ := ifK_inv hk
  rw [h5] at hk ⊢
  obtain rfl := beq_iff.1 h4
  rw [getK_eq] at hk ⊢
  obtain ⟨m, s, seen, last, h6, h7⟩ := aoI_inv hk
  rw [h7] at hk ⊢
  cases m with
  | none => exact (ok_er hk).elim
  | some m =>
    simp only at hk ⊢
    unfold entry1 at hk ⊢
    obtain ⟨l, c, h8, h9⟩ := mapK_inv hk
    rw [h9] at hk ⊢
    split at hk
    · rename_i key val sb born
      obtain ⟨g1, g2⟩ := ifK_inv hk
      rw [Bool.and_eq_true, beq_iff, beq_iff] at g1
      obtain ⟨rfl, rfl⟩ := g1
      refine ⟨_, g2, fun ρ A w hr hR => ?_⟩
      obtain ⟨tb, q1, q2⟩ := (hr x (mem1 (l := #[x]) (by rw [ho]; rfl) (by simp)) _ h1).p_inv
      obtain ⟨tb', mc, q3, q0, q4, _, q7⟩ := iter_rel hR h6
      obtain ⟨tm', q5, rfl⟩ := q7 m rfl
      obtain rfl := Option.some.inj (q1.symm.trans q3)
      obtain ⟨tb2, es, l', g3, g4, g5, g6⟩ := map_rel hR h8
      obtain rfl := Option.some.inj (q5.symm.trans g3)
      obtain ⟨me, rfl, hme⟩ := one_entry g5 g6
      have hb : me.born = sb := hme.2.2 sb rfl
      refine ⟨_, VR.tu' (((VRs.nil ρ).cons hme.2.1).cons hme.1), ?_⟩
      simp only [execOp, ho]
      refine run_v ?_
      rw [q2, q0]
      simp [Instr.entry, getObj, Sem.run, q4, g4, hb]
    · exact (ok_er hk).elim

/-! ### blocks laid -/
theorem or_row {ρ : Ren} {t : Bk} {l : List AV} {vs : List Value} {ty : TypeId} (h : VRs ρ l vs) (hd : t.d = 0) (hs : t.sz = vs.length) : OR ρ (some (.cells vs.toArray ty (0, 0))) t (.c l ty false) := by
  refine ⟨vs.toArray, 0, 0, rfl, ⟨by simpa using hs.symm, fun _ => hd⟩, .inl rfl, by rw [hd]; simp [h.1], ?_⟩
  rw [hd]
  simp only [List.drop_zero]
  rw [List.take_of_length_le (by rw [h.1]; exact Nat.le_refl _)]
  exact h
theorem al_alloc {i : TI} (hE : EOK E) (hi : E.ti t = some i) (ho : o.op = .alloc t) : AlS E.P o (fun _ n k => k (.p n 0) (.c i.zc t false)) := fun tm n k hk => by
  refine ⟨_, _, rfl, ⟨by simp, by simp⟩, fun ρ A w hr hn => ?_⟩
  obtain ⟨z, z1, z2, z3⟩ := (tok hE hi).run_zero w
  have hz := ofSs_rel (updR ρ n ⟨w.heap.size, 0, z.cells.toList.length⟩) z3
  refine ⟨.pointer (some ⟨w.heap.size, 0, none⟩), w.alloc (.cells z.cells t), _, ⟨w.heap.size, 0, z.cells.toList.length⟩, ?_, newer_alloc _ _, rfl, .p (o := 0) (updR_same _ _), ?_⟩
  · simp only [execOp, ho]
    refine run_v ?_
    simp [Instr.alloc, z1, newVar, newRow]
  · have := or_row (t := ⟨w.heap.size, 0, z.cells.toList.length⟩) (ty := t) hz rfl rfl
    simpa using this
theorem al_box (ho : o.op = .box t x) : AlS E.P o (fun tm n k => opd x tm fun v => cellsK v fun l => k (.p n 0) (.c l t false)) := fun tm n k hk => by
  obtain ⟨v, h1, h2⟩ := opd_inv hk
  simp only [h2] at hk ⊢
  obtain ⟨h3, h4⟩ := cellsK_inv hk
  refine ⟨_, _, h4, ⟨by simp, by simp⟩, fun ρ A w hr hn => ?_⟩
  have hx := hr x (mem1 (l := #[x]) (by rw [ho]; rfl) (by simp)) _ h1
  have hc := cells_rel hx h3
  refine ⟨.pointer (some ⟨w.heap.size, 0, none⟩), w.alloc (.cells (A.eval x).cells t), _, ⟨w.heap.size, 0, (A.eval x).cells.toList.length⟩, ?_, newer_alloc _ _, rfl, .p (o := 0) (updR_same _ _), ?_⟩
  · simp only [execOp, ho]
    refine run_v ?_
    simp [Instr.box, newVar, newRow]
  · have := or_row (ρ := updR ρ n ⟨w.heap.size, 0, (A.eval x).cells.toList.length⟩) (t := ⟨w.heap.size, 0, (A.eval x).cells.toList.length⟩) (ty := t) (hc.mono (updR_le hn)) rfl rfl
    simpa using this
theorem byteCells_rel (ρ : Ren) (l : List UInt8) : VRs ρ (byteCells l) (l.map fun b => Value.int .u8 b.toNat) := by
  induction l with
  | nil => exact VRs.nil ρ
  | cons a l ih => exact ih.cons (.i .u8 (.ofNat a.toNat))
theorem byteCells_length (l : List UInt8) : (byteCells l).length = l.length := by
  induction l with
  | nil => rfl
  | cons a l ih => exact congrArg (· + 1) ih
theorem al_conv_sb {i j : TI} (hE : EOK E) (hi : E.ti t = some i) (hj : E.ti u = some j) (ho : o.op = .convert t u x) (h1 : kd i.d = 2) (h2 : kd j.d = 3) (hb : isByte E (elemT j.d) = true) :
    AlS E.P o (fun tm n k => opd x tm fun v => asS v fun l => k (.sl n 0 l.length l.length 1) (.c (byteCells l) (elemT j.d) true)) := fun tm n k hk => by
  have e1 := kd_inv.2.1 h1
  obtain ⟨e, e2⟩ := kd_inv.2.2.1 h2
  obtain ⟨v, g1, g2⟩ := opd_inv hk
  simp only [g2] at hk ⊢
  obtain ⟨l, rfl, g3⟩ := asS_inv hk
  refine ⟨_, _, g3, ⟨by simp, by simp⟩, fun ρ A w hr hn => ?_⟩
  rw [e2] at hb ⊢
  simp only [elemT] at hb ⊢
  obtain ⟨_, _, _, _, hu⟩ := isByte_inv hE hb
  have hx := (hr x (mem1 (l := #[x]) (by rw [ho]; rfl) (by simp)) _ g1).s_inv
  have hrun := run_bytes_of_string (P := E.P) w t u e ⟨l.toArray⟩ (by rw [(tok hE hi).un, e1]) (by rw [(tok hE hj).un, e2]) hu
  have hge := grownCap_ge w (ByteArray.size ⟨l.toArray⟩) 0 e
  rw [s_size] at hrun hge
  have hsz : (bytesRow ⟨l.toArray⟩ (grownCap w l.length 0 e)).size = grownCap w l.length 0 e := by
    simp [bytesRow, s_size]; omega
  refine ⟨.slice (some ⟨w.heap.size, 0, none⟩) l.length (grownCap w l.length 0 e), w.drew.alloc (.cells (bytesRow ⟨l.toArray⟩ (grownCap w l.length 0 e)) e ((bytesRow ⟨l.toArray⟩ (grownCap w l.length 0 e)).size, (bytesRow ⟨l.toArray⟩ (grownCap w l.length 0 e)).size + 1)), _, ⟨w.heap.size, 0, grownCap w l.length 0 e⟩, ?_, ⟨rfl, rfl, rfl, rfl⟩, rfl, .sl (o := 0) (t := ⟨w.heap.size, 0, grownCap w l.length 0 e⟩) (updR_same _ _) (.inl rfl) (Nat.le_refl _) hge (fun h => by cases h) (fun _ => by simp), ?_⟩
  · simp only [execOp, ho]
    exact run_v (by rw [hx]; exact hrun)
  · refine ⟨_, _, _, rfl, ⟨hsz, fun h => by cases h⟩, .inr ⟨rfl, Nat.le_refl _⟩, ?_, ?_⟩
    · rw [byteCells_length, hsz]; show 0 + l.length ≤ _; omega
    · simp only [List.drop_zero, byteCells_length]
      have : ((bytesRow ⟨l.toArray⟩ (grownCap w l.length 0 e)).toList).take l.length = l.map fun b => Value.int .u8 b.toNat := by
        simp only [bytesRow, Array.toList_append, Array.toList_map]
        rw [List.take_append_of_le_length (by simp)]
        rw [List.take_of_length_le (by simp)]
      rw [this]
      exact byteCells_rel _ l
theorem al_makeSlice {i j : TI} {e : TypeId} (hE : EOK E) (hi : E.ti t = some i) (hd : i.d = .slice e) (hj : E.ti e = some j) (hz : Nat.beq j.size 0 = false) (hl : Nat.beq j.zc.length j.size = true) (ho : o.op = .makeSlice t x y) :
    AlS E.P o (fun tm n k => opd x tm fun l => opd y tm fun c => natV l fun l => natV c fun c => ifK (Nat.ble l c && roomy c j.bytes) 217 fun _ => k (.sl n 0 l c 0) (.c (repC c j.zc) e false)) := fun tm n k hk => by
  obtain ⟨v, h1, h2⟩ := opd_inv hk
  simp only [h2] at hk ⊢
  obtain ⟨v2, h3, h4⟩ := opd_inv hk
  simp only [h4] at hk ⊢
  obtain ⟨q1, l, rfl, h5⟩ := natV_inv hk
  rw [h5] at hk ⊢
  obtain ⟨q2, c, rfl, h6⟩ := natV_inv hk
  rw [h6] at hk ⊢
  obtain ⟨h7, h8⟩ := ifK_inv hk
  refine ⟨_, _, h8, ⟨by simp, by simp⟩, fun ρ A w hr hn => ?_⟩
  have eo : o.op.operands = #[x, y] := by rw [ho]; rfl
  have g1 := (hr x (mem1 eo (by simp)) _ h1).i_inv
  have g2 := (hr y (mem1 eo (by simp)) _ h3).i_inv
  obtain ⟨ie, ze, hie, k1, k2, k3, hze, k5, k6⟩ := (tok hE hj).info
  have hu : E.P.underlying t = some (.slice e) := by rw [(tok hE hi).un, hd]
  simp only [Bool.and_eq_true, roomy, ble_iff] at h7
  obtain ⟨h71, ⟨h72, h73⟩, h74⟩ := h7
  have hc63 : c ≤ 1099511627776 := Nat.le_trans (Nat.le_mul_of_pos_right c h74) h72
  have hb : (ie.bytes : Int) * (c : Int) ≤ 281474976710656 := by
    rw [k2]
    have : ((j.bytes * c : Nat) : Int) ≤ 281474976710656 := by rw [Nat.mul_comm]; omega
    rwa [Int.natCast_mul] at this
  have hrun := run_make (P := E.P) w t e ie ze hu hie hze q1 q2 l c (by omega) (by omega) hb (by omega)
  simp only [Int.toNat_natCast, k1] at hrun
  have hls := beq_iff.1 hl
  have hpos : 0 < j.zc.length := by rw [hls]; exact Nat.pos_of_ne_zero (fun h => by rw [h] at hz; cases hz)
  have hrep := rep_rel (ofSs_rel (updR ρ n ⟨w.heap.size, 0, c * j.size⟩) k6) c hpos
  rw [hls] at hrep
  have hsz : (madeCells ze.cells (c * j.size)).toList.length = c * j.size := by rw [Array.length_toList, size_madeCells]
  refine ⟨.slice (some ⟨w.heap.size, 0, none⟩) l c, w.alloc (.cells (madeCells ze.cells (c * j.size)) e), _, ⟨w.heap.size, 0, c * j.size⟩, ?_, newer_alloc _ _, rfl, .sl (o := 0) (t := ⟨w.heap.size, 0, c * j.size⟩) (updR_same _ _) (.inl rfl) h71 (Nat.le_refl _) (fun _ => rfl) (fun h => absurd rfl h), ?_⟩
  · simp only [execOp, ho]
    exact run_v (by rw [g1, g2]; exact hrun)
  · have := or_row (t := ⟨w.heap.size, 0, c * j.size⟩) (ty := e) hrep rfl hsz.symm
    rw [Array.toArray_toList] at this
    exact this
theorem al_makeMap0 (ho : o.op = .makeMap t none) : AlS E.P o (fun _ n k => k (.m n) (.mp [] 0)) := fun tm n k hk => by
  refine ⟨_, _, rfl, ⟨by simp, by simp⟩, fun ρ A w hr hn => ?_⟩
  refine ⟨.map (some w.heap.size), w.alloc (.map #[] 0), _, ⟨w.heap.size, 0, 0⟩, ?_, newer_alloc _ _, rfl, .m (t := ⟨w.heap.size, 0, 0⟩) (updR_same _ _), ⟨#[], [], rfl, .nil, ⟨rfl, fun i e m h => by simp at h⟩, Stp.nil _⟩⟩
  simp only [execOp, ho]
  refine run_v ?_
  simp [Instr.makeMap]
theorem al_makeMap1 {i : TI} {kt e : TypeId} (hE : EOK E) (hi : E.ti t = some i) (hd : i.d = .map kt e) (ho : o.op = .makeMap t (some x)) : AlS E.P o (fun tm n k => opd x tm fun v => asI v fun _ _ => k (.m n) (.mp [] 0)) := fun tm n k hk => by
  obtain ⟨v, h1, h2⟩ := opd_inv hk
  simp only [h2] at hk ⊢
  obtain ⟨q, a, rfl, h3⟩ := asI_inv hk
  refine ⟨_, _, h3, ⟨by simp, by simp⟩, fun ρ A w hr hn => ?_⟩
  have g := (hr x (mem1 (l := #[x]) (by rw [ho]; rfl) (by simp)) _ h1).i_inv
  refine ⟨.map (some w.heap.size), w.alloc (.map #[] 0), _, ⟨w.heap.size, 0, 0⟩, ?_, newer_alloc _ _, rfl, .m (t := ⟨w.heap.size, 0, 0⟩) (updR_same _ _), ⟨#[], [], rfl, .nil, ⟨rfl, fun i e m h => by simp at h⟩, Stp.nil _⟩⟩
  simp only [execOp, ho]
  refine run_v ?_
  simp [Instr.makeMap, g, run_underlying (show E.P.underlying t = some (.map kt e) by rw [(tok hE hi).un, hd]), asInt, asIntOf]
end
end Ax
end Go.Proofs.YtdfgnoflohfnmaaGreatDoor

/-! What an effect is; cells stored; copies. -/

namespace Go.Proofs.YtdfgnoflohfnmaaGreatDoor
namespace Ax
def VeS (P : Program) (o : Oper) (f : Tr AV → Tr AO → Pn → (AV → Tr AO → Pn → R) → R) : Prop :=
  ∀ tm h n k, Ok (f tm h n k) → ∃ v h' n', f tm h n k = k v h' n' ∧ n.nat ≤ n'.nat ∧ ∀ (ρ : Ren) (a : Act) (w : World), VRo ρ tm a o → Rel ρ (hv h) w → Fresh ρ (hv h) n n' →
    ∃ ρ' w' v' nx, (execOp a.eval o).run P w = .ok nx w' ∧ (nx = .value v' ∨ (nx = .skip ∧ v' = undef)) ∧ Step ρ (hv h) w n ρ' (hv h') w' n' ∧ VR ρ' v v'
theorem VR.undef (ρ : Ren) : VR ρ (.tu []) Go.undef := .tu rfl (fun i x v h => by simp at h)
section
variable {E : Env} {o : Oper} {t u : TypeId} {x y : Operand} {ρ : Ren} {H : Hp} {w : World}
theorem rel_lt (h : Rel ρ H w) : ∀ b u, H b ≠ .x → ρ b = some u → u.c < w.heap.size := by
  intro b u hb hu
  obtain ⟨t, h1, h2⟩ := h.ob b hb
  obtain rfl := Option.some.inj (hu.symm.trans h1)
  apply Nat.lt_of_not_le
  intro hle
  rw [Array.getElem?_eq_none hle] at h2
  cases hH : H b <;> rw [hH] at h2 hb
  · exact hb rfl
  · obtain ⟨_, _, _, h, _⟩ := h2; cases h
  · obtain ⟨_, _, _, h, _⟩ := h2; cases h
  · obtain ⟨_, _, h, _⟩ := h2; cases h
  · exact h2
  · obtain ⟨_, h, _⟩ := h2; cases h
  · obtain ⟨_, _, _, _, h, _⟩ := h2; cases h
  · cases h2
theorem laid_cons {l : List Value} {o : Nat} {v : Value} {r : List Value} (h : o + 1 + r.length ≤ l.length) : laid (l.set o v) (o + 1) r = laid l o (v :: r) := by
  apply List.ext_getElem?
  intro i
  rw [laid_get (by simpa using h), laid_get (by simp; omega)]
  simp only [List.length_cons]
  by_cases h1 : o + 1 ≤ i ∧ i < o + 1 + r.length
  · rw [if_pos h1, if_pos (by omega), show i - o = (i - (o + 1)) + 1 from by omega, List.getElem?_cons_succ]
  · rw [if_neg h1]
    by_cases h2 : i = o
    · subst h2
      rw [if_pos (by omega), Nat.sub_self, List.getElem?_set_self (by omega)]; rfl
    · rw [if_neg (by omega), List.getElem?_set_ne (fun e => h2 e.symm)]
theorem heap_setCells (c : Nat) (ty : TypeId) (fr : Nat × Nat) : ∀ (vs : List Value) (o : Nat) (w : World) (arr : Array Value), w.heap[c]? = some (.cells arr ty fr) → o + vs.length ≤ arr.size →
    ∀ k, (w.setCells c o vs).heap[k]? = if k = c then some (.cells (laid arr.toList o vs).toArray ty fr) else w.heap[k]?
  | [], o, w, arr, h, _, k => by
    rw [World.setCells]
    split
    · rename_i e
      subst e
      rw [h]
      simp [laid]
    · rfl
  | v :: r, o, w, arr, h, hle, k => by
    rw [World.setCells]
    simp only [List.length_cons] at hle
    have hc : (w.setCell ⟨c, o, none⟩ v).heap[c]? = some (.cells (arr.setIfInBounds o v) ty fr) := by
      simp [World.setCell, Array.getElem?_modify, h]
    rw [heap_setCells c ty fr r (o + 1) _ _ hc (by simp; omega)]
    split
    · congr 2
      rw [← laid_cons (by simp; omega)]
      simp
    · rename_i hk
      simp [World.setCell, Array.getElem?_modify, Ne.symm hk]
theorem size_setCells (c : Nat) : ∀ (vs : List Value) (o : Nat) (w : World), (w.setCells c o vs).heap.size = w.heap.size
  | [], _, _ => rfl
  | v :: r, o, w => by rw [World.setCells, size_setCells c r]; simp [World.setCell]
theorem rest_setCells (c : Nat) : ∀ (vs : List Value) (o : Nat) (w : World), (w.setCells c o vs).os = w.os ∧ (w.setCells c o vs).tape = w.tape ∧ (w.setCells c o vs).output = w.output
  | [], _, _ => ⟨rfl, rfl, rfl⟩
  | v :: r, o, w => by rw [World.setCells]; exact rest_setCells c r _ _
theorem laid_window {l vs : List Value} {d n p : Nat} (h : d + n ≤ l.length) (hp : p + vs.length ≤ n) : ((laid l (d + p) vs).drop d).take n = laid ((l.drop d).take n) p vs := by
  apply List.ext_getElem?
  intro i
  have h1 : p + vs.length ≤ ((l.drop d).take n).length := by simp; omega
  rw [List.getElem?_take, List.getElem?_drop, laid_get h1, laid_get (by omega)]
  by_cases hi : i < n
  · rw [if_pos hi]
    by_cases hc : p ≤ i ∧ i < p + vs.length
    · rw [if_pos hc, if_pos (by omega)]; congr 1; omega
    · rw [if_neg hc, if_neg (by omega), List.getElem?_take, if_pos hi, List.getElem?_drop]
  · rw [if_neg hi, if_neg (by omega), List.getElem?_take, if_neg hi]
theorem store_arr {P : Program} {c p : Nat} {arr : Array Value} {ty : TypeId} {lo hi : Nat} {vs : List Value} (h : w.heap[c]? = some (.cells arr ty (lo, hi))) (hf : hi = lo ∨ arr.size ≤ lo) (hle : p + vs.length ≤ arr.size) (h1 : ∀ v ∈ vs, v.oneCell' = true) :
    (storeCells ⟨c, p, none⟩ vs).run P w = .ok () (w.setCells c p vs) := by
  have := run_storeCells_cells (P := P) c p vs 0 w (fun j hj => by
      simp only [World.cell?, h, Option.isSome_none, Bool.false_eq_true, if_false]
      rw [Array.getElem?_eq_getElem (by omega)]; rfl)
    (fun j hj => by
      simp only [World.frozen?, h, Bool.and_eq_false_iff, decide_eq_false_iff_not]
      rcases hf with hf | hf <;> omega) h1
  simpa using this
theorem store_rel {P : Program} {n b : Pn} {l xs : List AV} {ty : TypeId} {fz : Bool} {tb : Bk} {p : Nat} {vs : List Value} (h : Rel ρ H w) (hb : H b = .c l ty fz) (ht : ρ b = some tb) (hx : VRs ρ xs vs) (hs : scals xs = true) (hp : p + xs.length ≤ l.length) :
    ∃ w', (storeCells ⟨tb.c, tb.d + p, none⟩ vs).run P w = .ok () w' ∧ Step ρ H w n ρ (upd H b (.c (laid l p xs) ty fz)) w' n := by
  obtain ⟨tb', arr, lo, hi, h1, h2, h3, h4, h5, h6⟩ := blk_rel h (.inl hb)
  obtain rfl := Option.some.inj (ht.symm.trans h1)
  have hlen := hx.1
  have hst := store_arr (P := P) (p := tb.d + p) (vs := vs) h2 (by rcases h4 with h | ⟨_, h⟩; exact .inl h; exact .inr h) (by omega) (scals_one hx hs)
  have hl6 : ((arr.toList.drop tb.d).take l.length).length = l.length := h6.1
  refine ⟨_, hst, Step.turn h (own_c hb) ht (ob := .cells (laid arr.toList (tb.d + p) vs).toArray ty (lo, hi)) ⟨_, lo, hi, rfl, ⟨?_, h3.2⟩, ?_, ?_, ?_⟩ (.inl ⟨by simp, by simp⟩) (heap_setCells _ _ _ vs _ w arr h2 (by omega)) (size_setCells _ _ _ _) (rest_setCells _ _ _ _).1 (rest_setCells _ _ _ _).2.1 (rest_setCells _ _ _ _).2.2⟩
  · rw [← h3.1]; simp [laid_length (l := arr.toList) (o := tb.d + p) (xs := vs) (by simp; omega)]
  · rcases h4 with h | ⟨h, h'⟩
    · exact .inl h
    · exact .inr ⟨h, by simp [laid_length (l := arr.toList) (o := tb.d + p) (xs := vs) (by simp; omega)]; exact h'⟩
  · rw [laid_length hp]; simp [laid_length (l := arr.toList) (o := tb.d + p) (xs := vs) (by simp; omega)]; exact h5
  · rw [laid_length hp]
    rw [laid_window (by simpa using h5) (by omega)]
    exact h6.laid hx p
theorem ve_store {i : TI} (hE : EOK E) (hi : E.ti t = some i) (ho : o.op = .store t x y) : VeS E.P o (fun tm h n k => opd x tm fun a => opd y tm fun x => st i h a x fun h => k (.tu []) h n) := fun tm h n k hk => by
  obtain ⟨v, h1, h2⟩ := opd_inv hk
  simp only [h2] at hk ⊢
  obtain ⟨v2, h3, h4⟩ := opd_inv hk
  simp only [h4] at hk ⊢
  unfold st at hk ⊢
  obtain ⟨b, p, rfl, h5⟩ := asP_inv hk
  rw [h5] at hk ⊢
  obtain ⟨hz, h6⟩ := cellsK_inv hk
  rw [h6] at hk ⊢
  obtain ⟨h7, h8⟩ := ifK_inv hk
  rw [h8] at hk ⊢
  obtain ⟨h9, l, ty, fz, h10, h11, h12⟩ := stc_inv hk
  refine ⟨_, _, _, h12, Nat.le_refl _, fun ρ A w hr hR _ => ?_⟩
  have eo : o.op.operands = #[x, y] := by rw [ho]; rfl
  obtain ⟨tb, g1, g2⟩ := (hr x (mem1 eo (by simp)) _ h1).p_inv
  have g3 := hr y (mem1 eo (by simp)) _ h3
  have g4 := cells_rel g3 hz
  obtain ⟨w', g5, g6⟩ := store_rel (P := E.P) (n := n) hR h10 g1 g4 h9 h11
  refine ⟨ρ, w', _, .skip, ?_, .inr ⟨rfl, rfl⟩, by rw [hv_put]; exact g6, VR.undef ρ⟩
  have hsz : (A.eval y).cells.size = i.size := by rw [← Array.length_toList, g4.1, beq_iff.1 h7]
  simp only [execOp, ho, g2]
  simp [Instr.storeAt, Instr.sureAddr, storeVar, (tok hE hi).run_size, hsz, g5]

/-! ### copies -/
theorem srcK_inv {P : Program} {sz : Nat} {h : Tr AO} {v : AV} {k : Nat → List AV → R} (hk : Ok (srcK sz h v k)) : ∃ m xs, srcK sz h v k = k m xs ∧ xs.length = m * sz ∧
    ∀ (ρ : Ren) (w : World) (v' : Value), VR ρ v v' → Rel ρ (hv h) w → ∃ vs, VRs ρ xs vs ∧ ∀ w' : World, w'.heap = w.heap → (Builtin.lenOf v').run P w' = .ok m w' ∧ ∀ q, q ≤ m → (Builtin.firstCells sz q v').run P w' = .ok (vs.take (q * sz)).toArray w' := by
  unfold srcK at hk ⊢
  cases hs : isS v with
  | true =>
    rw [hs] at hk
    simp only at hk ⊢
    obtain ⟨l, rfl, h1⟩ := asS_inv hk
    rw [h1] at hk ⊢
    obtain ⟨h2, h3⟩ := ifK_inv hk
    obtain rfl := beq_iff.1 h2
    refine ⟨_, _, h3, by rw [byteCells_length, Nat.mul_one], fun ρ w v' hv hR => ⟨_, byteCells_rel ρ l, fun w' _ => ?_⟩⟩
    rw [hv.s_inv]
    refine ⟨by simp [Builtin.lenOf, s_size], fun q hq => ?_⟩
    simp only [Builtin.firstCells, Nat.mul_one]
    rw [ext_list]
    simp [List.map_take]
  | false =>
    rw [hs] at hk
    simp only at hk ⊢
    rcases asSl_inv hk with ⟨rfl, h1⟩ | ⟨b, p, n, c, ex, rfl, h1⟩
    · refine ⟨_, _, h1, by simp, fun ρ w v' hv hR => ⟨[], VRs.nil ρ, fun w' _ => ?_⟩⟩
      rw [hv.ns_inv]
      exact ⟨by simp [Builtin.lenOf], fun q hq => by simp [Builtin.firstCells]⟩
    · rw [h1] at hk ⊢
      obtain ⟨l, ty, fz, h2, h3⟩ := blkK_inv hk
      rw [h3] at hk ⊢
      obtain ⟨h4, h5⟩ := cutK_inv hk
      refine ⟨_, _, h5, by simp; omega, fun ρ w v' hv hR => ?_⟩
      obtain ⟨tb, off, c', g1, rfl, g3, g4, _, _, g5⟩ := hv.sl_inv
      obtain ⟨tb', vs, e1, e2, e3, e4⟩ := cut_rel hR h2 h4
      obtain rfl := Option.some.inj (g1.symm.trans e1)
      refine ⟨vs, e2, fun w' hw => ⟨by simp [Builtin.lenOf], fun q hq => ?_⟩⟩
      have hcell : ∀ j u, (vs.take (q * sz))[j]? = some u → w'.cell? ((⟨tb.c, off, none⟩ : Addr).add j) = some u := by
        intro j u hj
        rw [List.getElem?_take] at hj
        split at hj
        · have hjv : j < vs.length := (List.getElem?_eq_some_iff.1 hj).1
          have hn0 : n ≠ 0 := fun e => by rw [e, Nat.zero_mul] at e3; omega
          have hoff : off = tb.d + p := by rcases g3 with g | g; exact g; omega
          subst hoff
          have := e4 j u hj
          simp only [World.cell?] at this ⊢
          rw [hw]; exact this
        · cases hj
      have hl := run_loadCells_list (P := P) w' ⟨tb.c, off, none⟩ _ hcell
      have hlen : (vs.take (q * sz)).length = q * sz := by
        rw [List.length_take, e3]
        exact Nat.min_eq_left (Nat.mul_le_mul_right _ hq)
      rw [hlen] at hl
      simp [Builtin.firstCells, hl]
theorem elem_inv {j : TI} (hg : (Nat.beq j.size 0 || !(Nat.beq j.zc.length j.size)) = false) : j.size ≠ 0 ∧ j.zc.length = j.size := by
  simp only [Bool.or_eq_false_iff, Bool.not_eq_false'] at hg
  exact ⟨fun h => by rw [h] at hg; exact absurd hg.1 (by simp), beq_iff.1 hg.2⟩
theorem ve_copy {c : Call} {ts : List TypeId} {i j : TI} {e : TypeId} (hE : EOK E) (hi : E.ti t = some i) (hd : i.d = .slice e) (hj : E.ti e = some j) (ho : o.op = .call c) (hb : c.callee = .builtin .copy) (ht : c.argTypes.toList = t :: ts) (hx : c.args.toList = [x, y]) :
    VeS E.P o (fun tm h n k => opd x tm fun d => opd y tm fun x => copyK j.size d x h fun v h => k v h n) := fun tm h n k hk => by
  obtain ⟨v, h1, h2⟩ := opd_inv hk
  simp only [h2] at hk ⊢
  obtain ⟨v2, h3, h4⟩ := opd_inv hk
  simp only [h4] at hk ⊢
  unfold copyK at hk ⊢
  obtain ⟨m, xs, h5, hxl, h6⟩ := srcK_inv (P := E.P) hk
  rw [h5] at hk ⊢
  have hu : E.P.underlying t = some (.slice e) := by rw [(tok hE hi).un, hd]
  rcases asSl_inv hk with ⟨rfl, h7⟩ | ⟨b, p, n1, c1, ex, rfl, h7⟩
  · refine ⟨_, _, _, h7, Nat.le_refl _, fun ρ A w hr hR _ => ?_⟩
    have g1 := (hr x (bi_mem ho (by rw [hx]; simp)) _ h1).ns_inv
    obtain ⟨vs, g2, g3⟩ := h6 ρ w _ (hr y (bi_mem ho (by rw [hx]; simp)) _ h3) hR
    obtain ⟨g4, g5⟩ := g3 w rfl
    refine ⟨ρ, w, _, _, ?_, .inl rfl, Step.refl hR, .i .i64 (.ofNat 0)⟩
    rw [run_builtin ho hb, args_of hx, types_of ht]
    refine run_v ?_
    simp only [List.map_toArray, List.map_cons, List.map_nil, g1]
    have := g5 0 (Nat.zero_le _)
    simp [Builtin.copy_, run_underlying hu, g4, (tok hE hj).run_size, this]
    rfl
  · rw [h7] at hk ⊢
    obtain ⟨h8, h9⟩ := takeK_inv _ hk
    rw [h9] at hk ⊢
    have hfin : ∀ (ρ : Ren) (A : Act) (w : World), VRo ρ tm A o → Rel ρ (hv h) w → ∃ tb off c' vs, ρ b = some tb ∧ (off = tb.d + p ∨ c' = 0) ∧ c1 ≤ c' ∧ n1 ≤ c1 ∧ VRs ρ (xs.take (Nat.min m n1 * j.size)) vs ∧
        ∀ w', (storeCells ⟨tb.c, off, none⟩ vs).run E.P w = .ok () w' → (execOp A.eval o).run E.P w = .ok (.value (goInt (Nat.min m n1))) w' := by
      intro ρ A w hr hR
      obtain ⟨tb, off, c', g1, g2, g3, g4, _, _, g5⟩ := (hr x (bi_mem ho (by rw [hx]; simp)) _ h1).sl_inv
      obtain ⟨vs, g6, g7⟩ := h6 ρ w _ (hr y (bi_mem ho (by rw [hx]; simp)) _ h3) hR
      obtain ⟨g8, g9⟩ := g7 w rfl
      refine ⟨tb, off, c', vs.take (Nat.min m n1 * j.size), g1, g3, g4, g5, g6.take _, fun w' hst => ?_⟩
      rw [run_builtin ho hb, args_of hx, types_of ht]
      refine run_v ?_
      simp only [List.map_toArray, List.map_cons, List.map_nil, g2]
      have := g9 (Nat.min m n1) (Nat.min_le_left _ _)
      simp [Builtin.copy_, run_underlying hu, g8, (tok hE hj).run_size, this, hst]
    cases hq : Nat.min m n1 with
    | zero =>
      rw [hq] at hk hfin
      refine ⟨_, _, _, rfl, Nat.le_refl _, fun ρ A w hr hR _ => ?_⟩
      obtain ⟨tb, off, c', vs, g1, g3, g4, g5, g6, g7⟩ := hfin ρ A w hr hR
      have : vs = [] := by have := g6.1; rw [Nat.zero_mul] at this; simpa using this
      subst this
      exact ⟨ρ, w, _, _, g7 w rfl, .inl rfl, Step.refl hR, .i .i64 (.ofNat 0)⟩
    | succ q =>
      rw [hq] at hk hfin h8
      simp only at hk ⊢
      obtain ⟨h10, l, ty, fz, h11, h12, h13⟩ := stc_inv hk
      refine ⟨_, _, _, h13, Nat.le_refl _, fun ρ A w hr hR _ => ?_⟩
      obtain ⟨tb, off, c', vs, g1, g3, g4, g5, g6, g7⟩ := hfin ρ A w hr hR
      have hn1 : q + 1 ≤ n1 := by rw [← hq]; exact Nat.min_le_right _ _
      have hoff : off = tb.d + p := by rcases g3 with g | g; exact g; omega
      subst hoff
      obtain ⟨w', e1, e2⟩ := store_rel (P := E.P) (n := n) hR h11 g1 g6 h10 h12
      exact ⟨ρ, w', _, _, g7 w' e1, .inl rfl, by rw [hv_put]; exact e2, .i .i64 (.ofNat (q + 1))⟩
end
end Ax
end Go.Proofs.YtdfgnoflohfnmaaGreatDoor

/-! Append. -/

namespace Go.Proofs.YtdfgnoflohfnmaaGreatDoor
namespace Ax
section
variable {E : Env} {o : Oper} {t u : TypeId} {x y : Operand} {ρ : Ren} {H : Hp} {w w' : World}
theorem Step.rebind {n : Pn} (h : Rel ρ H w) {b : Pn} {t t2 : Bk} {o : AO} {ob : Obj} (hb : own (H b)) (ht : ρ b = some t) (hn : ρ n = none) (hH : H n = .x) (hc : t2.c = t.c) (ho : OR (updR ρ n t2) (some ob) t2 o)
    (hw : ∀ k, w'.heap[k]? = if k = t.c then some ob else w.heap[k]?) (hs : w'.heap.size = w.heap.size) (o1 : w'.os = w.os) (o2 : w'.tape = w.tape) (o3 : w'.output = w.output) (hk : ∀ l ty, o ≠ .k l ty := by simp) :
    Step ρ H w n (updR ρ n t2) (upd (upd H b .x) n o) w' n.succ := by
  have hbn : b ≠ n := fun e => by subst e; exact hb.1 hH
  have hold : ∀ c, c ≠ n → upd (upd H b .x) n o c ≠ .x → c ≠ b ∧ upd (upd H b .x) n o c = H c := by
    intro c hcn hx
    rw [upd_other _ _ hcn] at hx ⊢
    by_cases e : c = b
    · subst e; rw [upd_same] at hx; exact absurd rfl hx
    · exact ⟨e, upd_other _ _ e⟩
  refine ⟨updR_le hn, ?_, ?_, by rw [nat_succ]; omega, ⟨?_, ?_⟩, by rw [hs]; exact Nat.le_refl _, ?_, ?_, o1, o2, o3, ?_⟩
  · intro c h1 h2
    by_cases e : c = n
    · subst e; rw [nat_succ]; omega
    · rw [updR_other _ e] at h2; exact absurd h1 h2
  · intro c hx
    by_cases e : c = n
    · subst e; rw [nat_succ]; right; omega
    · obtain ⟨_, h2⟩ := hold c e hx; rw [h2] at hx; exact .inl hx
  · intro c hx
    by_cases e : c = n
    · subst e; rw [upd_same]; exact ⟨t2, updR_same _ _, by rw [hw, if_pos hc]; exact ho⟩
    · obtain ⟨h1, h2⟩ := hold c e hx
      rw [h2] at hx ⊢
      obtain ⟨u, h3, h4⟩ := h.ob c hx
      refine ⟨u, updR_le hn _ _ h3, ?_⟩
      rw [hw, if_neg (fun e2 => h1 (h.inj b c t u hb hx ht h3 e2.symm).symm)]
      exact h4.mono (updR_le hn)
  · intro c c' u u' h1 h2 h3 h4 h5
    by_cases e : c = n
    · by_cases e' : c' = n
      · rw [e, e']
      · subst e
        obtain ⟨g1, g2⟩ := hold c' e' h2
        rw [g2] at h2
        rw [updR_same] at h3; injection h3 with h3; subst h3
        rw [updR_other _ e'] at h4
        exact absurd (h.inj b c' t u' hb h2 ht h4 (by omega)).symm g1
    · obtain ⟨g1, g2⟩ := hold c e h1.1
      rw [g2] at h1
      rw [updR_other _ e] at h3
      by_cases e' : c' = n
      · subst e'
        rw [updR_same] at h4; injection h4 with h4; subst h4
        exact absurd (h.inj c b u t h1 hb.1 h3 ht (by omega)) g1
      · obtain ⟨g3, g4⟩ := hold c' e' h2
        rw [g4] at h2
        rw [updR_other _ e'] at h4
        exact h.inj c c' u u' h1 h2 h3 h4 h5
  · intro k _ hk
    rw [hw, if_neg (fun e => hk b t hb ht e.symm)]
  · intro c u h1 h2
    by_cases e : c = n
    · subst e
      rw [updR_same] at h2; injection h2 with h2; subst h2
      exact .inl ⟨b, t, hb, ht, by omega⟩
    · obtain ⟨g1, g2⟩ := hold c e h1.1
      rw [g2] at h1
      rw [updR_other _ e] at h2
      exact .inl ⟨c, u, h1, h2, rfl⟩
  · intro c l ty h1
    by_cases e : c = n
    · subst e; rw [upd_same] at h1; exact absurd h1 (hk l ty)
    · obtain ⟨_, g2⟩ := hold c e (by rw [h1]; simp)
      rw [← g2]; exact h1
theorem nums_no (hE : EOK E) {us : List TypeId} (h : isNum E us = false) : us = [] ∨ ∃ v d r, us = v :: r ∧ E.P.underlying v = some d ∧ ∀ q, d ≠ .int q := by
  cases us with
  | nil => exact .inl rfl
  | cons v r =>
    right
    unfold isNum at h
    simp only at h
    split at h
    · rename_i i hi
      refine ⟨v, i.d, r, rfl, (tok hE hi).un, fun q hq => ?_⟩
      rw [hq] at h
      simp [kd] at h
    · cases h
theorem run_append_in {P : Program} {ts : List TypeId} {ty e : TypeId} {sz n m c : Nat} {a : Option Addr} {v : Value} {new : List Value} (ht : P.underlying t = some (.slice e)) (hsz : (sizeOf e).run P w = .ok sz w)
    (hz : ts = [] ∨ ∃ v d r, ts = v :: r ∧ P.underlying v = some d ∧ ∀ q, d ≠ .int q) (hl : (Builtin.lenOf v).run P w = .ok m w) (hf : (Builtin.firstCells sz m v).run P w = .ok new.toArray w) (hfit : n + m ≤ c)
    (hst : ∀ b, a = some b → (storeCells (b.add (n * sz)) new).run P w = .ok () w') (hnone : a = none → w' = w) :
    (Builtin.append_ (t :: ts).toArray ty #[.slice a n c, v]).run P w = .ok (.slice a (n + m) c) w' := by
  cases a with
  | none =>
    obtain rfl := hnone rfl
    rcases hz with rfl | ⟨v0, d, r, rfl, h1, h2⟩
    · simp [Builtin.append_, run_underlying ht, hsz, hl, hfit, hf]
    · simp [Builtin.append_, run_underlying ht, run_underlying h1, hsz, hl, hfit, hf]
  | some b =>
    have hst := hst b rfl
    rcases hz with rfl | ⟨v0, d, r, rfl, h1, h2⟩
    · simp [Builtin.append_, run_underlying ht, hsz, hl, hfit, hf, hst]
    · simp [Builtin.append_, run_underlying ht, run_underlying h1, hsz, hl, hfit, hf, hst]
theorem run_append_over {P : Program} {ts : List TypeId} {ty e : TypeId} {j : TI} {z : Value} {n m c : Nat} {a : Option Addr} {v : Value} {old new : List Value} (ht : P.underlying t = some (.slice e)) (hT : TOK P e j) (hzr : (zeroValue e).run P w.drew = .ok z w.drew)
    (hz : ts = [] ∨ ∃ v d r, ts = v :: r ∧ P.underlying v = some d ∧ ∀ q, d ≠ .int q) (hl : (Builtin.lenOf v).run P w = .ok m w) (hf : (Builtin.firstCells j.size m v).run P w.drew = .ok new.toArray w.drew)
    (ho : (Builtin.firstCells j.size n (.slice a n c)).run P w.drew = .ok old.toArray w.drew) (hfit : c < n + m) (hroom : roomy (n + m) j.bytes = true) :
    (Builtin.append_ (t :: ts).toArray ty #[.slice a n c, v]).run P w =
      .ok (.slice (some ⟨w.heap.size, 0, none⟩) (n + m) (grownCap w (n + m) c e)) (w.drew.alloc (.cells (old.toArray ++ new.toArray ++ Builtin.zeroCells z.cells (grownCap w (n + m) c e - (n + m))) e)) := by
  obtain ⟨ie, ze, hie, k1, k2, _⟩ := hT.info
  simp only [roomy, Bool.and_eq_true, ble_iff] at hroom
  obtain ⟨⟨r1, r2⟩, r3⟩ := hroom
  have hn63 : n + m ≤ 1099511627776 := Nat.le_trans (Nat.le_mul_of_pos_right _ r3) r1
  have h1 : ¬ (n + m ≤ c) := by omega
  have h63 : ¬ (9223372036854775807 < ((n : Int) + (m : Int))) := by omega
  have h48 : ¬ (281474976710656 < Builtin.nextslicecap (n + m) c * j.bytes) := by
    have := growslice_fits (bytes := j.bytes) hfit (by omega)
    omega
  have hti : (typeInfo e).run P w = .ok ie w := by simp [typeInfo, hie]
  have hti2 : (typeInfo e).run P w.drew = .ok ie w.drew := by simp [typeInfo, hie]
  rcases hz with rfl | ⟨v0, d, r, rfl, h1', h2⟩
  · simp [Builtin.append_, run_underlying ht, hT.run_size, hl, h1, h63, h48, k2, hti, hti2, Question.forced, hf, ho, hzr, newRow, grownCap]
    congr 2
    apply Array.ext'
    simp
  · simp [Builtin.append_, run_underlying ht, run_underlying h1', hT.run_size, hl, h1, h63, h48, k2, hti, hti2, Question.forced, hf, ho, hzr, newRow, grownCap]
    congr 2
    apply Array.ext'
    simp
def SrcS (P : Program) (sz : Nat) (h : Tr AO) (v : AV) (m : Nat) (xs : List AV) : Prop := xs.length = m * sz ∧
    ∀ (ρ : Ren) (w : World) (v' : Value), VR ρ v v' → Rel ρ (hv h) w → ∃ vs, VRs ρ xs vs ∧ ∀ w' : World, w'.heap = w.heap → (Builtin.lenOf v').run P w' = .ok m w' ∧ ∀ q, q ≤ m → (Builtin.firstCells sz q v').run P w' = .ok (vs.take (q * sz)).toArray w'
theorem append_inv {P : Program} {j : TI} {e : TypeId} {s v : AV} {h : Tr AO} {n : Pn} {k : AV → Tr AO → Pn → R} (hk : Ok (append j e s v h n k)) : ∃ m xs, SrcS P j.size h v m xs ∧
    ((s = .ns ∧ m = 0 ∧ append j e s v h n k = k .ns h n) ∨
     (s = .ns ∧ 0 < m ∧ roomy m j.bytes = true ∧ append j e s v h n k = k (.sl n 0 m m j.size) (h.put .x (.c xs e false) n) n.succ) ∨
     (∃ b o l c ex, s = .sl b o l c ex ∧ m = 0 ∧ l ≤ c ∧ append j e s v h n k = k (.sl b o l c ex) h n) ∨
     (∃ b o l c ex cs ty fz, s = .sl b o l c ex ∧ 0 < m ∧ l + m ≤ c ∧ scals xs = true ∧ h.get .x b = .c cs ty fz ∧ o + l * j.size + xs.length ≤ cs.length ∧
        append j e s v h n k = k (.sl b o (l + m) c ex) (h.put .x (.c (laid cs (o + l * j.size) xs) ty fz) b) n) ∨
     (∃ b o l c cs ty fz, s = .sl b o l c 0 ∧ c < l + m ∧ roomy (l + m) j.bytes = true ∧ isBlk (h.get .x b) cs ty fz ∧ o + l * j.size ≤ cs.length ∧
        append j e s v h n k = k (.sl n 0 (l + m) (l + m) j.size) (h.put .x (.c ((cs.drop o).take (l * j.size) ++ xs) e false) n) n.succ) ∨
     (∃ b o l c cs ty fz, s = .sl b o l c j.size ∧ j.size ≠ 0 ∧ c < l + m ∧ roomy (l + m) j.bytes = true ∧ scals xs = true ∧ ty = e ∧ h.get .x b = .c cs ty fz ∧ o + l * j.size ≤ cs.length ∧
        append j e s v h n k = k (.sl n 0 (l + m) (l + m) j.size) ((h.put .x .x b).put .x (.c ((cs.drop o).take (l * j.size) ++ xs) e true) n) n.succ)) := by
  unfold append at hk ⊢
  obtain ⟨m, xs, h1, h2, h3⟩ := srcK_inv (P := P) hk
  rw [h1] at hk ⊢
  refine ⟨m, xs, ⟨h2, h3⟩, ?_⟩
  rcases asSl_inv hk with ⟨rfl, h4⟩ | ⟨b, o, l, c, ex, rfl, h4⟩
  · rw [h4] at hk ⊢
    cases m with
    | zero => refine .inl ⟨by simp, by simp, rfl⟩
    | succ m =>
      simp only at hk ⊢
      obtain ⟨h5, h6⟩ := ifK_inv hk
      rw [h6]
      exact .inr (.inl ⟨by simp, by omega, h5, by unfold newK; rw [setK_eq]⟩)
  · rw [h4] at hk ⊢
    cases hfit : Nat.ble (l + m) c with
    | true =>
      rw [hfit] at hk
      have hle := ble_iff.1 hfit
      cases m with
      | zero => exact .inr (.inr (.inl ⟨b, o, l, c, ex, rfl, rfl, by omega, rfl⟩))
      | succ m =>
        simp only at hk ⊢
        obtain ⟨h5, cs, ty, fz, h6, h7, h8⟩ := stc_inv hk
        exact .inr (.inr (.inr (.inl ⟨b, o, l, c, ex, cs, ty, fz, rfl, by omega, hle, h5, h6, h7, h8⟩)))
    | false =>
      rw [hfit] at hk
      simp only at hk ⊢
      have hlt : c < l + m := by
        apply Nat.lt_of_not_le
        intro h
        rw [ble_iff.2 h] at hfit
        cases hfit
      obtain ⟨h5, h6⟩ := ifK_inv hk
      rw [h6] at hk ⊢
      obtain ⟨cs, ty, fz, h7, h8⟩ := blkK_inv hk
      rw [h8] at hk ⊢
      obtain ⟨h9, h10⟩ := ifK_inv hk
      rw [h10] at hk ⊢
      obtain ⟨h11, h12⟩ := cutK_inv hk
      rw [h12] at hk ⊢
      unfold growK at hk ⊢
      cases hx : Nat.beq ex 0 with
      | true =>
        obtain rfl := beq_iff.1 hx
        exact .inr (.inr (.inr (.inr (.inl ⟨b, o, l, c, cs, ty, fz, rfl, hlt, h5, h7, h11, by unfold newK; simp only; rw [setK_eq]⟩))))
      | false =>
        rw [hx] at hk h9
        simp only [Bool.false_or, Bool.and_eq_true, beq_iff] at h9
        obtain ⟨⟨rfl, rfl⟩, h9⟩ := h9
        simp only at hk ⊢
        obtain ⟨cs', ty', fz', g1, g2⟩ := wblkK_inv hk
        rw [g2]
        rcases h7 with h7 | ⟨h7, _⟩
        · refine .inr (.inr (.inr (.inr (.inr ⟨b, o, l, c, cs, ty, fz, rfl, ?_, hlt, h5, h9, rfl, h7, h11, by unfold newK; rw [setK_eq, setK_eq]⟩))))
          intro h0
          rw [h0] at hx
          cases hx
        · rw [h7] at g1; cases g1
theorem zero_len {j : TI} {z : Value} (h : ofSs z.cells.toList = some j.zc) (hl : j.zc.length = j.size) : z.cells.size = j.size := by
  have := (ofSs_rel (fun _ => none) h).1
  rwa [Array.length_toList, hl] at this
theorem or_grown {n : Pn} {xs : List AV} {vs : List Value} {rest : Array Value} {e : TypeId} {c0 sz : Nat} (h : VRs ρ xs vs) (hn : ρ n = none) (hs : (vs.toArray ++ rest).size = sz) :
    OR (updR ρ n ⟨c0, 0, sz⟩) (some (.cells (vs.toArray ++ rest) e (0, 0))) ⟨c0, 0, sz⟩ (.c xs e false) := by
  refine ⟨_, 0, 0, rfl, ⟨hs, fun _ => rfl⟩, .inl rfl, ?_, ?_⟩
  · have := h.1
    simp at hs ⊢
    omega
  · simp only [List.drop_zero]
    have e1 : (vs.toArray ++ rest).toList.take xs.length = vs := by
      simp only [Array.toList_append]
      rw [List.take_append_of_le_length (by rw [h.1]; exact Nat.le_refl _), List.take_of_length_le (by rw [h.1]; exact Nat.le_refl _)]
    rw [e1]
    exact h.mono (updR_le hn)
theorem OR.frz {ob : Option Obj} {tb : Bk} {l : List AV} {ty : TypeId} (h : OR ρ ob tb (.c l ty false)) : OR ρ ob tb (.c l ty true) := by
  obtain ⟨arr, lo, hi, h1, h2, h3, h4, h5⟩ := h
  exact ⟨arr, lo, hi, h1, ⟨h2.1, fun e => by cases e⟩, .inl (by rcases h3 with h | ⟨h, _⟩; exact h; cases h), h4, h5⟩
theorem ve_append {c : Call} {ts : List TypeId} {i j : TI} {e : TypeId} (hE : EOK E) (hi : E.ti t = some i) (hd : i.d = .slice e) (hj : E.ti e = some j) (hg : (Nat.beq j.size 0 || !(Nat.beq j.zc.length j.size)) = false)
    (hnum : isNum E ts = false) (ho : o.op = .call c) (hb : c.callee = .builtin .append) (ht : c.argTypes.toList = t :: ts) (hx : c.args.toList = [x, y]) :
    VeS E.P o (fun tm h n k => opd x tm fun s => opd y tm fun x => append j e s x h n k) := fun tm h n k hk => by
  obtain ⟨sv, h1, h2⟩ := opd_inv hk
  simp only [h2] at hk ⊢
  obtain ⟨v, h3, h4⟩ := opd_inv hk
  simp only [h4] at hk ⊢
  obtain ⟨hs0, hzl⟩ := elem_inv hg
  have hu : E.P.underlying t = some (.slice e) := by rw [(tok hE hi).un, hd]
  have hz := nums_no hE hnum
  have hT := tok hE hj
  obtain ⟨m, xs, ⟨hxl, hsrc⟩, hc⟩ := append_inv (P := E.P) hk
  have hrun : ∀ (A : Act) (w w' : World) (sv v r : Value), A.eval x = sv → A.eval y = v → (Builtin.append_ (t :: ts).toArray o.type #[sv, v]).run E.P w = .ok r w' → (execOp A.eval o).run E.P w = .ok (.value r) w' := by
    intro A w w' sv v r e1 e2 h
    rw [run_builtin ho hb, args_of hx, types_of ht]
    refine run_v ?_
    simp only [List.map_toArray, List.map_cons, List.map_nil, e1, e2]
    exact h
  have mx : x ∈ o.op.operands := bi_mem ho (by rw [hx]; simp)
  have my : y ∈ o.op.operands := bi_mem ho (by rw [hx]; simp)
  rcases hc with ⟨rfl, rfl, hc⟩ | ⟨rfl, hm, hroom, hc⟩ | ⟨b, p, l, c1, ex, rfl, rfl, hlc, hc⟩ | ⟨b, p, l, c1, ex, cs, ty, fz, rfl, hm, hlc, hsc, hblk, hfit, hc⟩ | ⟨b, p, l, c1, cs, ty, fz, rfl, hlt, hroom, hblk, hfit, hc⟩ | ⟨b, p, l, c1, cs, ty, fz, rfl, hsn, hlt, hroom, hsc, rfl, hblk, hfit, hc⟩
  · refine ⟨_, _, _, hc, Nat.le_refl _, fun ρ A w hr hR _ => ?_⟩
    obtain ⟨vs, g1, g2⟩ := hsrc ρ w _ (hr y my _ h3) hR
    obtain ⟨g3, g4⟩ := g2 w rfl
    have g5 := g4 0 (Nat.le_refl _)
    rw [Nat.zero_mul] at g5
    refine ⟨ρ, w, _, _, hrun A w w _ _ _ (hr x mx _ h1).ns_inv rfl (run_append_in (new := []) hu (hT.run_size w) hz g3 (by simpa using g5) (Nat.le_refl _) (fun b hb => by cases hb) (fun _ => rfl)), .inl rfl, Step.refl hR, .ns⟩
  · refine ⟨_, _, _, hc, by rw [nat_succ]; omega, fun ρ A w hr hR hF => ?_⟩
    obtain ⟨vs, g1, g2⟩ := hsrc ρ w _ (hr y my _ h3) hR
    obtain ⟨g3, _⟩ := g2 w rfl
    obtain ⟨_, g4⟩ := g2 w.drew rfl
    have g5 := g4 m (Nat.le_refl _)
    rw [List.take_of_length_le (by rw [g1.1, hxl]; exact Nat.le_refl _)] at g5
    obtain ⟨z, z1, z2, z3⟩ := hT.run_zero w.drew
    have hf := hF n (Nat.le_refl _) (by rw [nat_succ]; omega)
    have hr' := run_append_over (n := 0) (c := 0) (a := none) (old := []) (ty := o.type) hu hT z1 hz g3 g5 (by simp [Builtin.firstCells]) (by omega) (by simpa using hroom)
    have hge := grownCap_ge w (0 + m) 0 e
    generalize hG : grownCap w (0 + m) 0 e = G at hr' hge
    have hsz : (vs.toArray ++ Builtin.zeroCells z.cells (G - (0 + m))).size = G * j.size := by
      rw [Array.size_append, size_zeroCells, zero_len z3 hzl, List.size_toArray, g1.1, hxl, ← Nat.add_mul]
      congr 1; omega
    refine ⟨updR ρ n ⟨w.heap.size, 0, G * j.size⟩, _, _, _, hrun A w _ _ _ _ (hr x mx _ h1).ns_inv rfl hr', .inl rfl, ?_, ?_⟩
    · rw [hv_put]
      have hor := or_grown (c0 := w.heap.size) (e := e) g1 hf.1 hsz
      refine Step.new hR hf.1 hf.2 rfl hor (rel_lt hR) ?_ rfl rfl rfl
      show w.heap.push _ = _
      simp
    · rw [Nat.zero_add]
      exact .sl (o := 0) (t := ⟨w.heap.size, 0, G * j.size⟩) (updR_same _ _) (.inl rfl) (Nat.le_refl _) (by omega) (fun h => absurd h hs0) (fun _ => by simp)
  · refine ⟨_, _, _, hc, Nat.le_refl _, fun ρ A w hr hR _ => ?_⟩
    obtain ⟨vs, g1, g2⟩ := hsrc ρ w _ (hr y my _ h3) hR
    obtain ⟨g3, g4⟩ := g2 w rfl
    have g5 := g4 0 (Nat.le_refl _)
    rw [Nat.zero_mul] at g5
    obtain ⟨tb, off, c', q1, q2, q3, q4, q5, q6, q7⟩ := (hr x mx _ h1).sl_inv
    refine ⟨ρ, w, _, _, hrun A w w _ _ _ q2 rfl (run_append_in (new := []) hu (hT.run_size w) hz g3 (by simpa using g5) (by omega) (fun _ _ => rfl) (fun _ => rfl)), .inl rfl, Step.refl hR, .sl q1 q3 q7 q4 q5 q6⟩
  · refine ⟨_, _, _, hc, Nat.le_refl _, fun ρ A w hr hR _ => ?_⟩
    obtain ⟨vs, g1, g2⟩ := hsrc ρ w _ (hr y my _ h3) hR
    obtain ⟨g3, g4⟩ := g2 w rfl
    have g5 := g4 m (Nat.le_refl _)
    rw [List.take_of_length_le (by rw [g1.1, hxl]; exact Nat.le_refl _)] at g5
    obtain ⟨tb, off, c', q1, q2, q3, q4, q5, q6, q7⟩ := (hr x mx _ h1).sl_inv
    have hoff : off = tb.d + p := by rcases q3 with g | g; exact g; omega
    subst hoff
    obtain ⟨w', e1, e2⟩ := store_rel (P := E.P) (n := n) hR hblk q1 g1 hsc hfit
    refine ⟨ρ, w', _, _, hrun A w w' _ _ _ q2 rfl (run_append_in hu (hT.run_size w) hz g3 g5 (by omega) (fun b hb => ?_) (fun h => by cases h)), .inl rfl, by rw [hv_put]; exact e2, .sl q1 q3 hlc q4 q5 q6⟩
    injection hb with hb
    subst hb
    rw [addr_add, Nat.add_assoc]
    exact e1
  · refine ⟨_, _, _, hc, by rw [nat_succ]; omega, fun ρ A w hr hR hF => ?_⟩
    obtain ⟨vs, g1, g2⟩ := hsrc ρ w _ (hr y my _ h3) hR
    obtain ⟨g3, _⟩ := g2 w rfl
    obtain ⟨_, g4⟩ := g2 w.drew rfl
    have g5 := g4 m (Nat.le_refl _)
    rw [List.take_of_length_le (by rw [g1.1, hxl]; exact Nat.le_refl _)] at g5
    obtain ⟨z, z1, z2, z3⟩ := hT.run_zero w.drew
    have hf := hF n (Nat.le_refl _) (by rw [nat_succ]; omega)
    obtain ⟨tb, off, c', q1, q2, q3, q4, q5, q6, q7⟩ := (hr x mx _ h1).sl_inv
    obtain rfl := q5 rfl
    obtain ⟨tb', olds, p1, p2, p3, p4⟩ := cut_rel hR hblk hfit
    obtain rfl := Option.some.inj (q1.symm.trans p1)
    have hold : (Builtin.firstCells j.size l (.slice (some ⟨tb.c, off, none⟩) l c')).run E.P w.drew = .ok olds.toArray w.drew := by
      have hcell : ∀ k u, olds[k]? = some u → w.drew.cell? ((⟨tb.c, off, none⟩ : Addr).add k) = some u := by
        intro k u hku
        have hk1 := (List.getElem?_eq_some_iff.1 hku).1
        have hl0 : l ≠ 0 := fun h0 => by rw [h0, Nat.zero_mul] at p3; omega
        have hoff : off = tb.d + p := by rcases q3 with g | g; exact g; omega
        subst hoff
        exact p4 k u hku
      have := run_loadCells_list (P := E.P) w.drew _ _ hcell
      rw [p3] at this
      simp [Builtin.firstCells, this]
    have hr' := run_append_over (ty := o.type) hu hT z1 hz g3 g5 hold hlt hroom
    have hge := grownCap_ge w (l + m) c' e
    generalize hG : grownCap w (l + m) c' e = G at hr' hge
    have hrel := p2.append g1
    have e0 : olds.toArray ++ vs.toArray = (olds ++ vs).toArray := by simp
    rw [e0] at hr'
    have hsz : ((olds ++ vs).toArray ++ Builtin.zeroCells z.cells (G - (l + m))).size = G * j.size := by
      rw [Array.size_append, size_zeroCells, zero_len z3 hzl, List.size_toArray, List.length_append, g1.1, p3, hxl, ← Nat.add_mul, ← Nat.add_mul]
      congr 1; omega
    refine ⟨updR ρ n ⟨w.heap.size, 0, G * j.size⟩, _, _, _, hrun A w _ _ _ _ q2 rfl hr', .inl rfl, ?_, ?_⟩
    · rw [hv_put]
      exact Step.new hR hf.1 hf.2 rfl (or_grown (c0 := w.heap.size) (e := e) hrel hf.1 hsz) (rel_lt hR) rfl rfl rfl rfl
    · exact .sl (o := 0) (t := ⟨w.heap.size, 0, G * j.size⟩) (updR_same _ _) (.inl rfl) (Nat.le_refl _) hge (fun h => absurd h hs0) (fun _ => by simp)
  · refine ⟨_, _, _, hc, by rw [nat_succ]; omega, fun ρ A w hr hR hF => ?_⟩
    obtain ⟨vs, g1, g2⟩ := hsrc ρ w _ (hr y my _ h3) hR
    obtain ⟨g3, g3'⟩ := g2 w rfl
    obtain ⟨_, g4⟩ := g2 w.drew rfl
    have g5 := g4 m (Nat.le_refl _)
    have g5' := g3' m (Nat.le_refl _)
    rw [List.take_of_length_le (by rw [g1.1, hxl]; exact Nat.le_refl _)] at g5 g5'
    obtain ⟨z, z1, z2, z3⟩ := hT.run_zero w.drew
    have hf := hF n (Nat.le_refl _) (by rw [nat_succ]; omega)
    obtain ⟨tb, off, c', q1, q2, q3, q4, q5, q6, q7⟩ := (hr x mx _ h1).sl_inv
    have q6 := q6 hsn
    obtain ⟨tb', olds, p1, p2, p3, p4⟩ := cut_rel hR (.inl hblk) hfit
    obtain rfl := Option.some.inj (q1.symm.trans p1)
    have hrel := p2.append g1
    have hcell : ∀ k u, olds[k]? = some u → w.cell? ((⟨tb.c, off, none⟩ : Addr).add k) = some u := by
      intro k u hku
      have hk1 := (List.getElem?_eq_some_iff.1 hku).1
      have hl0 : l ≠ 0 := fun h0 => by rw [h0, Nat.zero_mul] at p3; omega
      have hoff : off = tb.d + p := by rcases q3 with g | g; exact g; omega
      subst hoff
      exact p4 k u hku
    by_cases hin : l + m ≤ c'
    · have hoff : off = tb.d + p := by rcases q3 with g | g; exact g; omega
      subst hoff
      obtain ⟨tb', arr, lo, hi', b1, b2, b3, b4, b5, b6⟩ := blk_rel hR (.inl hblk)
      obtain rfl := Option.some.inj (q1.symm.trans b1)
      have hmul : (l + m) * j.size ≤ c' * j.size := Nat.mul_le_mul_right _ hin
      have hvl : vs.length = m * j.size := by rw [g1.1, hxl]
      have harr : arr.toList.length = arr.size := Array.length_toList
      rw [Nat.add_mul] at hmul
      have hst := store_arr (P := E.P) (p := tb.d + p + l * j.size) (vs := vs) b2 (by rcases b4 with h | ⟨_, h⟩; exact .inl h; exact .inr h) (by rw [hvl]; omega) (scals_one g1 hsc)
      have hoc := own_c hblk
      refine ⟨updR ρ n ⟨tb.c, tb.d + p, tb.sz⟩, w.setCells tb.c (tb.d + p + l * j.size) vs, _, _, hrun A w _ _ _ _ q2 rfl (run_append_in hu (hT.run_size w) hz g3 g5' hin (fun b hb => ?_) (fun h => by cases h)), .inl rfl, ?_, ?_⟩
      · injection hb with hb
        subst hb
        rw [addr_add]
        exact hst
      · rw [hv_put, hv_put]
        refine Step.rebind (ob := .cells (laid arr.toList (tb.d + p + l * j.size) vs).toArray ty (lo, hi')) (t2 := ⟨tb.c, tb.d + p, tb.sz⟩) hR hoc q1 hf.1 hf.2 rfl ?_ (heap_setCells _ _ _ vs _ w arr b2 (by rw [hvl]; omega)) (size_setCells _ _ _ _) (rest_setCells _ _ _ _).1 (rest_setCells _ _ _ _).2.1 (rest_setCells _ _ _ _).2.2
        have hsl : (laid arr.toList (tb.d + p + l * j.size) vs).length = arr.size := by rw [laid_length (by rw [harr, hvl]; omega), harr]
        have hlen : ((cs.drop p).take (l * j.size) ++ xs).length = l * j.size + m * j.size := by rw [List.length_append, hxl]; congr 1; simp; omega
        refine ⟨_, lo, hi', rfl, ⟨by simp only [List.size_toArray]; rw [hsl]; exact b3.1, fun h => by cases h⟩, ?_, ?_, ?_⟩
        · rcases b4 with h | ⟨_, h⟩
          · exact .inl h
          · exact .inr ⟨rfl, by simp only [List.size_toArray]; rw [hsl]; exact h⟩
        · rw [hlen]; simp only [List.size_toArray]; rw [hsl, b3.1]; omega
        · rw [hlen]
          simp only
          have e0 : ((laid arr.toList (tb.d + p + l * j.size) vs).drop (tb.d + p)).take (l * j.size + m * j.size) = olds ++ vs := by
            apply List.ext_getElem?
            intro k
            rw [List.getElem?_take, List.getElem?_drop, laid_get (by rw [harr, hvl]; omega), List.getElem?_append, p3]
            by_cases hk1 : k < l * j.size + m * j.size
            · rw [if_pos hk1]
              by_cases hk2 : k < l * j.size
              · rw [if_neg (by omega), if_pos hk2]
                have hko : k < olds.length := by omega
                have := p4 k _ (List.getElem?_eq_getElem hko)
                rw [addr_add] at this
                simp only [World.cell?, b2, Option.isSome_none, Bool.false_eq_true, if_false] at this
                rw [List.getElem?_eq_getElem hko, Array.getElem?_toList]
                exact this
              · rw [if_pos (by omega), if_neg hk2]
                congr 1; omega
            · rw [if_neg hk1, if_neg (by omega), List.getElem?_eq_none (by rw [hvl]; omega)]
          rw [e0]
          exact hrel.mono (updR_le hf.1)
      · exact .sl (o := 0) (t := ⟨tb.c, tb.d + p, tb.sz⟩) (updR_same _ _) (.inl rfl) (Nat.le_refl _) hin (fun h => absurd h hsn) (fun _ => q6)
    · have hold : (Builtin.firstCells j.size l (.slice (some ⟨tb.c, off, none⟩) l c')).run E.P w.drew = .ok olds.toArray w.drew := by
        have := run_loadCells_list (P := E.P) w.drew ⟨tb.c, off, none⟩ olds hcell
        rw [p3] at this
        simp [Builtin.firstCells, this]
      have hr' := run_append_over (ty := o.type) hu hT z1 hz g3 g5 hold (by omega) hroom
      have hge := grownCap_ge w (l + m) c' ty
      generalize hG : grownCap w (l + m) c' ty = G at hr' hge
      have e0 : olds.toArray ++ vs.toArray = (olds ++ vs).toArray := by simp
      rw [e0] at hr'
      have hsz : ((olds ++ vs).toArray ++ Builtin.zeroCells z.cells (G - (l + m))).size = G * j.size := by
        rw [Array.size_append, size_zeroCells, zero_len z3 hzl, List.size_toArray, List.length_append, g1.1, p3, hxl, ← Nat.add_mul, ← Nat.add_mul]
        congr 1; omega
      refine ⟨updR ρ n ⟨w.heap.size, 0, G * j.size⟩, _, _, _, hrun A w _ _ _ _ q2 rfl hr', .inl rfl, ?_, ?_⟩
      · have hst := Step.new (w' := w.drew.alloc (.cells ((olds ++ vs).toArray ++ Builtin.zeroCells z.cells (G - (l + m))) ty)) hR hf.1 hf.2 rfl (or_grown (c0 := w.heap.size) (e := ty) hrel hf.1 hsz).frz (rel_lt hR) rfl rfl rfl rfl
        refine hst.weak ?_
        intro a ha
        have hbn : b ≠ n := fun e => by subst e; exact (own_c hblk).1 hf.2
        rw [hv_put, hv_put] at ha ⊢
        by_cases e1 : a = n
        · subst e1; rw [upd_same, upd_same]
        · rw [upd_other _ _ e1] at ha ⊢
          rw [upd_other _ _ e1]
          by_cases e2 : a = b
          · subst e2; rw [upd_same] at ha; exact absurd rfl ha
          · rw [upd_other _ _ e2]
      · exact .sl (o := 0) (t := ⟨w.heap.size, 0, G * j.size⟩) (updR_same _ _) (.inl rfl) (Nat.le_refl _) hge (fun h => absurd h hs0) (fun _ => by simp)
/-! ### zeros appended to no slice -/
theorem numT_inv (hE : EOK E) {us : List TypeId} (h : numT E us = true) : ∃ v q r, us = v :: r ∧ E.P.underlying v = some (.int q) := by
  cases us with
  | nil => cases h
  | cons v r =>
    unfold numT at h
    simp only at h
    split at h
    · rename_i i hi
      obtain ⟨q, hq⟩ := kd_inv.1 (beq_iff.1 h)
      exact ⟨v, q, r, rfl, by rw [(tok hE hi).un, hq]⟩
    · cases h
theorem run_append_zero {P : Program} {ts : List TypeId} {ty e v0 : TypeId} {q q' : IntKind} {j : TI} {z : Value} {m : Nat} (ht : P.underlying t = some (.slice e)) (hT : TOK P e j) (hv : P.underlying v0 = some (.int q)) (hzr : ∀ w : World, (zeroValue e).run P w = .ok z w)
    (hs0 : j.size ≠ 0) (hm : 0 < m) (hroom : roomy m j.bytes = true) :
    (Builtin.append_ (t :: v0 :: ts).toArray ty #[.slice none 0 0, .int q' m]).run P w =
      .ok (.slice (some ⟨w.heap.size, 0, none⟩) m (grownCap w m 0 e)) (w.drew.alloc (.cells (Builtin.zeroCells z.cells m ++ Builtin.zeroCells z.cells (grownCap w m 0 e - m)) e)) := by
  obtain ⟨ie, ze, hie, k1, k2, _⟩ := hT.info
  simp only [roomy, Bool.and_eq_true, ble_iff] at hroom
  obtain ⟨⟨r1, r2⟩, r3⟩ := hroom
  have hn63 : m ≤ 1099511627776 := Nat.le_trans (Nat.le_mul_of_pos_right _ r3) r1
  have hw : IntKind.i64.wrap (m : Int) = m := wrap_fits (by show m ≤ 9223372036854775807; omega)
  have h0 : ¬ ((m : Int) < 0) := by omega
  have h1 : m ≠ 0 := by omega
  have h63 : ¬ (9223372036854775807 < (m : Int)) := by omega
  have hb48 : ¬ (281474976710656 < (m : Int) * (j.bytes : Int)) := by
    have : ((m * j.bytes : Nat) : Int) ≤ 1099511627776 := by omega
    rw [Int.natCast_mul] at this
    omega
  have h48 : ¬ (281474976710656 < Builtin.nextslicecap m 0 * j.bytes) := by
    have := growslice_fits (need := m) (old := 0) (bytes := j.bytes) hm (by omega)
    omega
  have hti : ∀ w : World, (typeInfo e).run P w = .ok ie w := fun w => by simp [typeInfo, hie]
  have hms : ¬ (m * j.size = 0) := by
    intro h
    rcases Nat.mul_eq_zero.1 h with h | h <;> omega
  simp [Builtin.append_, run_underlying ht, run_underlying hv, hT.run_size, asInt, asIntOf, hw, h0, h1, h63, hb48, h48, k2, hti, Question.forced, hzr, hms, newRow, grownCap, Builtin.firstCells]
theorem ve_appZ {c : Call} {ts : List TypeId} {i j : TI} {e : TypeId} (hE : EOK E) (hi : E.ti t = some i) (hd : i.d = .slice e) (hj : E.ti e = some j) (hg : (Nat.beq j.size 0 || !(Nat.beq j.zc.length j.size)) = false)
    (hnum : numT E ts = true) (ho : o.op = .call c) (hb : c.callee = .builtin .append) (ht : c.argTypes.toList = t :: ts) (hx : c.args.toList = [x, y]) :
    VeS E.P o (fun tm h n k => opd x tm fun s => opd y tm fun x => appZ j e s x h n k) := fun tm h n k hk => by
  obtain ⟨sv, h1, h2⟩ := opd_inv hk
  simp only [h2] at hk ⊢
  obtain ⟨v, h3, h4⟩ := opd_inv hk
  simp only [h4] at hk ⊢
  unfold appZ at hk ⊢
  obtain ⟨q', m, rfl, h5⟩ := natV_inv hk
  rw [h5] at hk ⊢
  obtain ⟨hs0, hzl⟩ := elem_inv hg
  have hu : E.P.underlying t = some (.slice e) := by rw [(tok hE hi).un, hd]
  obtain ⟨v0, q, r, rfl, hv⟩ := numT_inv hE hnum
  have hT := tok hE hj
  have hrun : ∀ (A : Act) (w w' : World) (sv v r' : Value), A.eval x = sv → A.eval y = v → (Builtin.append_ (t :: v0 :: r).toArray o.type #[sv, v]).run E.P w = .ok r' w' → (execOp A.eval o).run E.P w = .ok (.value r') w' := by
    intro A w w' sv v r' e1 e2 h
    rw [run_builtin ho hb, args_of hx, types_of ht]
    refine run_v ?_
    simp only [List.map_toArray, List.map_cons, List.map_nil, e1, e2]
    exact h
  have mx : x ∈ o.op.operands := bi_mem ho (by rw [hx]; simp)
  have my : y ∈ o.op.operands := bi_mem ho (by rw [hx]; simp)
  rcases asSl_inv hk with ⟨rfl, h6⟩ | ⟨b, p, l, c1, ex, rfl, h6⟩
  · rw [h6] at hk ⊢
    cases m with
    | zero =>
      refine ⟨_, _, _, rfl, Nat.le_refl _, fun ρ A w hr hR _ => ?_⟩
      have g2 := (hr y my _ h3).i_inv
      refine ⟨ρ, w, _, _, hrun A w w _ _ (.slice none 0 0) (hr x mx _ h1).ns_inv g2 ?_, .inl rfl, Step.refl hR, .ns⟩
      have hw : IntKind.i64.wrap (0 : Int) = 0 := rfl
      obtain ⟨ie, ze, hie, k1, k2, _⟩ := hT.info
      have hti : ∀ w : World, (typeInfo e).run E.P w = .ok ie w := fun w => by simp [typeInfo, hie]
      simp [Builtin.append_, run_underlying hu, run_underlying hv, hT.run_size, asInt, asIntOf, hti, hw]
    | succ m =>
      simp only at hk ⊢
      obtain ⟨h7, h8⟩ := ifK_inv hk
      rw [h8] at hk ⊢
      unfold newK
      rw [setK_eq]
      refine ⟨_, _, _, rfl, by rw [nat_succ]; omega, fun ρ A w hr hR hF => ?_⟩
      have g2 := (hr y my _ h3).i_inv
      obtain ⟨ie, z, hie, k1, k2, k3, hze, k5, k6⟩ := hT.info
      have hzr : ∀ w : World, (zeroValue e).run E.P w = .ok z w := fun w => by simp [zeroValue, typeInfo, hie, hze]
      have hzs := zero_len k6 hzl
      have hf := hF n (Nat.le_refl _) (by rw [nat_succ]; omega)
      have hr' := run_append_zero (w := w) (ts := r) (ty := o.type) (q' := q') (m := m + 1) hu hT hv hzr hs0 (by omega) h7
      have hge := grownCap_ge w (m + 1) 0 e
      generalize hG : grownCap w (m + 1) 0 e = G at hr' hge
      have hpos : 0 < j.zc.length := by rw [hzl]; omega
      have hrep := rep_rel (ofSs_rel ρ k6) (m + 1) hpos
      have hzc : (Array.range ((m + 1) * j.zc.length)).map (z.cells[· % z.cells.size]!) = Builtin.zeroCells z.cells (m + 1) := by
        unfold Builtin.zeroCells
        rw [hzl, hzs]
      rw [hzc] at hrep
      have e0 : Builtin.zeroCells z.cells (m + 1) = (Builtin.zeroCells z.cells (m + 1)).toList.toArray := by simp only [Array.toArray_toList]
      rw [e0] at hr'
      have hsz : ((Builtin.zeroCells z.cells (m + 1)).toList.toArray ++ Builtin.zeroCells z.cells (G - (m + 1))).size = G * j.size := by
        rw [Array.size_append, Array.toArray_toList, size_zeroCells, size_zeroCells, hzs, ← Nat.add_mul]
        congr 1; omega
      refine ⟨updR ρ n ⟨w.heap.size, 0, G * j.size⟩, _, _, _, hrun A w _ _ _ _ (hr x mx _ h1).ns_inv g2 hr', .inl rfl, ?_, ?_⟩
      · rw [hv_put]
        exact Step.new hR hf.1 hf.2 rfl (or_grown (c0 := w.heap.size) (e := e) hrep hf.1 hsz) (rel_lt hR) rfl rfl rfl rfl
      · exact .sl (o := 0) (t := ⟨w.heap.size, 0, G * j.size⟩) (updR_same _ _) (.inl rfl) (Nat.le_refl _) (by omega) (fun h => absurd h hs0) (fun _ => by simp)
  · rw [h6] at hk; exact (ok_er hk).elim
end
end Ax
end Go.Proofs.YtdfgnoflohfnmaaGreatDoor

/-! Effects on maps; cells cleared; blocks frozen. -/

namespace Go.Proofs.YtdfgnoflohfnmaaGreatDoor
namespace Ax
section
variable {E : Env} {o : Oper} {t u : TypeId} {x y z : Operand} {ρ : Ren} {H : Hp} {w w' : World}
theorem heap_putObj {c : Nat} {ob : Obj} (h : c < w.heap.size) (k : Nat) : (w.putObj c ob).heap[k]? = if k = c then some ob else w.heap[k]? := by
  split
  · rename_i e; subst e; exact World.putObj_heap_same h
  · rename_i e; exact World.putObj_heap_other e
theorem run_setObj {P : Program} {c : Nat} {ob ob' : Obj} (h : w.heap[c]? = some ob') (hne : ∀ a t f, ob' ≠ .cells a t f := by simp) : (setObj c ob).run P w = .ok () (w.putObj c ob) := by
  cases ob' <;> first | exact absurd rfl (hne _ _ _) | (simp [setObj, Sem.run, h, World.putObj])
theorem run_getObj {P : Program} {c : Nat} {ob : Obj} (h : w.heap[c]? = some ob) (hne : ∀ a t f, ob ≠ .cells a t f := by simp) : (getObj c).run P w = .ok ob w := by
  cases ob <;> first | exact absurd rfl (hne _ _ _) | (simp [getObj, Sem.run, h])
theorem lt_of_some {c : Nat} {ob : Obj} (h : w.heap[c]? = some ob) : c < w.heap.size := (Array.getElem?_eq_some_iff.1 h).1
theorem Step.obj {n b : Pn} {tb : Bk} {o : AO} {ob ob' : Obj} (h : Rel ρ H w) (hb : own (H b)) (ht : ρ b = some tb) (hk : own o) (ho : OR ρ (some ob) tb o) (hg : w.heap[tb.c]? = some ob') :
    Step ρ H w n ρ (upd H b o) (w.putObj tb.c ob) n :=
  Step.turn h hb ht ho (.inl hk) (heap_putObj (lt_of_some hg)) World.putObj_size rfl rfl rfl
theorem own_mp {o : AO} {l : Ents} {c : Nat} (h : o = .mp l c) : own o := by subst h; exact ⟨by simp, by simp⟩

/-! ### clear -/
theorem ve_clear_slice {c : Call} {ts : List TypeId} {i j : TI} {e : TypeId} (hE : EOK E) (hi : E.ti t = some i) (hd : i.d = .slice e) (hj : E.ti e = some j) (hg : (Nat.beq j.size 0 || !(Nat.beq j.zc.length j.size)) = false)
    (ho : o.op = .call c) (hb : c.callee = .builtin .clear) (ht : c.argTypes.toList = t :: ts) (hx : c.args.toList = [x]) :
    VeS E.P o (fun tm h n k => opd x tm fun v => asSl v (k (.tu []) h n) fun b o m _ _ => Nat.rec (k (.tu []) h n) (fun _ _ => stc h b o (repC m j.zc) fun h => k (.tu []) h n) m) := fun tm h n k hk => by
  obtain ⟨v, h1, h2⟩ := opd_inv hk
  simp only [h2] at hk ⊢
  obtain ⟨hs0, hzl⟩ := elem_inv hg
  have hu : E.P.underlying t = some (.slice e) := by rw [(tok hE hi).un, hd]
  have hrun : ∀ (A : Act) (w w' : World) (v : Value), A.eval x = v → (Builtin.clear_ (t :: ts).toArray o.type #[v]).run E.P w = .ok (.tuple #[]) w' → (execOp A.eval o).run E.P w = .ok (.value (.tuple #[])) w' := by
    intro A w w' v e1 h
    rw [run_builtin ho hb, args_of hx, types_of ht]
    refine run_v ?_
    simp only [List.map_toArray, List.map_cons, List.map_nil, e1]
    exact h
  have mx : x ∈ o.op.operands := bi_mem ho (by rw [hx]; simp)
  rcases asSl_inv hk with ⟨rfl, h3⟩ | ⟨b, p, m, c1, ex, rfl, h3⟩
  · refine ⟨_, _, _, h3, Nat.le_refl _, fun ρ A w hr hR _ => ⟨ρ, w, _, _, hrun A w w _ (hr x mx _ h1).ns_inv ?_, .inl rfl, Step.refl hR, VR.undef ρ⟩⟩
    simp [Builtin.clear_, run_underlying hu]
  · rw [h3] at hk ⊢
    cases m with
    | zero =>
      refine ⟨_, _, _, rfl, Nat.le_refl _, fun ρ A w hr hR _ => ?_⟩
      obtain ⟨tb, off, c', q1, q2, _⟩ := (hr x mx _ h1).sl_inv
      refine ⟨ρ, w, _, _, hrun A w w _ q2 ?_, .inl rfl, Step.refl hR, VR.undef ρ⟩
      simp [Builtin.clear_, run_underlying hu]
    | succ m =>
      simp only at hk ⊢
      obtain ⟨h4, l, ty, fz, h5, h6, h7⟩ := stc_inv hk
      refine ⟨_, _, _, h7, Nat.le_refl _, fun ρ A w hr hR _ => ?_⟩
      obtain ⟨tb, off, c', q1, q2, q3, q4, _, _, q7⟩ := (hr x mx _ h1).sl_inv
      have hoff : off = tb.d + p := by rcases q3 with g | g; exact g; omega
      subst hoff
      obtain ⟨z, z1, z2, z3⟩ := (tok hE hj).run_zero w
      have hrep := rep_rel (ofSs_rel ρ z3) (m + 1) (by omega)
      obtain ⟨w', e1, e2⟩ := store_rel (P := E.P) (n := n) hR h5 q1 hrep h4 h6
      refine ⟨ρ, w', _, _, hrun A w w' _ q2 ?_, .inl rfl, by rw [hv_put]; exact e2, VR.undef ρ⟩
      have hzs := zero_len z3 hzl
      have hze : Builtin.zeroCells z.cells (m + 1) = (Array.range ((m + 1) * j.zc.length)).map (z.cells[· % z.cells.size]!) := by
        unfold Builtin.zeroCells
        rw [hzs, hzl]
      rw [← hze] at e1
      simp [Builtin.clear_, run_underlying hu, z1, e1]
theorem ve_clear_map {c : Call} {ts : List TypeId} {i : TI} {kt e : TypeId} (hE : EOK E) (hi : E.ti t = some i) (hd : i.d = .map kt e) (ho : o.op = .call c) (hb : c.callee = .builtin .clear) (ht : c.argTypes.toList = t :: ts) (hx : c.args.toList = [x]) :
    VeS E.P o (fun tm h n k => opd x tm fun v => asM v (k (.tu []) h n) fun b => mapK h b fun _ c => h.setK .x (.mp [] c) b fun h => k (.tu []) h n) := fun tm h n k hk => by
  obtain ⟨v, h1, h2⟩ := opd_inv hk
  simp only [h2] at hk ⊢
  have hu : E.P.underlying t = some (.map kt e) := by rw [(tok hE hi).un, hd]
  have mx : x ∈ o.op.operands := bi_mem ho (by rw [hx]; simp)
  rcases asM_inv hk with ⟨rfl, h3⟩ | ⟨b, rfl, h3⟩
  · refine ⟨_, _, _, h3, Nat.le_refl _, fun ρ A w hr hR _ => ⟨ρ, w, .tuple #[], .value (.tuple #[]), ?_, .inl rfl, Step.refl hR, VR.undef ρ⟩⟩
    rw [run_builtin ho hb, args_of hx, types_of ht]
    refine run_v ?_
    simp only [List.map_toArray, List.map_cons, List.map_nil, (hr x mx _ h1).nm_inv]
    simp [Builtin.clear_, run_underlying hu]
  · rw [h3] at hk ⊢
    obtain ⟨l, c0, h4, h5⟩ := mapK_inv hk
    rw [h5] at hk ⊢
    rw [setK_eq] at hk ⊢
    refine ⟨_, _, _, rfl, Nat.le_refl _, fun ρ A w hr hR _ => ?_⟩
    obtain ⟨tb, q1, q2⟩ := (hr x mx _ h1).m_inv
    obtain ⟨tb', es, l', g3, g4, g5, g6⟩ := map_rel hR h4
    obtain rfl := Option.some.inj (q1.symm.trans g3)
    refine ⟨ρ, w.putObj tb.c (.map #[] c0), .tuple #[], .value (.tuple #[]), ?_, .inl rfl, ?_, VR.undef ρ⟩
    · rw [run_builtin ho hb, args_of hx, types_of ht]
      refine run_v ?_
      simp only [List.map_toArray, List.map_cons, List.map_nil, q2]
      simp [Builtin.clear_, run_underlying hu, run_getObj g4, run_setObj g4]
    · rw [hv_put]
      exact Step.obj hR (own_mp h4) q1 ⟨by simp, by simp⟩ ⟨#[], [], rfl, .nil, ⟨rfl, fun i e m h => by simp at h⟩, Stp.nil _⟩ g4

/-! ### entries -/
theorem setE_eq (key v : AV) : ∀ (l : Ents) (i : Nat) (e : AV × AV × Option Nat), l[i]? = some e → setE key v l i = l.set i (key, v, e.2.2)
  | [], i, e, h => by simp at h
  | a :: l, 0, e, h => by simp at h; subst h; rfl
  | a :: l, i + 1, e, h => by simp at h; exact congrArg (a :: ·) (setE_eq key v l i e h)
theorem delE_eq : ∀ (l : Ents) (i : Nat), delE l i = l.eraseIdx i
  | [], i => by cases i <;> rfl
  | a :: l, 0 => rfl
  | a :: l, i + 1 => congrArg (a :: ·) (delE_eq l i)
theorem cons_erase_perm {α : Type} : ∀ {l : List α} {i : Nat} (h : i < l.length), (l[i] :: l.eraseIdx i).Perm l
  | a :: l, 0, _ => .refl _
  | a :: l, i + 1, h => by
    have hi : i < l.length := by simpa using h
    exact (List.Perm.swap a l[i] (l.eraseIdx i)).trans ((cons_erase_perm hi).cons a)
theorem perm_erase {α : Type} {l l' : List α} {e : α} {i j : Nat} (hp : l'.Perm l) (hi : l[i]? = some e) (hj : l'[j]? = some e) : (l'.eraseIdx j).Perm (l.eraseIdx i) := by
  obtain ⟨h1, rfl⟩ := List.getElem?_eq_some_iff.1 hi
  obtain ⟨h2, h3⟩ := List.getElem?_eq_some_iff.1 hj
  have p1 := cons_erase_perm h1
  have p2 := cons_erase_perm h2
  rw [h3] at p2
  exact (p2.trans (hp.trans p1.symm)).cons_inv
theorem perm_set {α : Type} {l l' : List α} {e a : α} {i j : Nat} (hp : l'.Perm l) (hi : l[i]? = some e) (hj : l'[j]? = some e) : (l'.set j a).Perm (l.set i a) := by
  obtain ⟨h1, _⟩ := List.getElem?_eq_some_iff.1 hi
  obtain ⟨h2, _⟩ := List.getElem?_eq_some_iff.1 hj
  have p1 := cons_erase_perm (l := l.set i a) (i := i) (by simpa using h1)
  have p2 := cons_erase_perm (l := l'.set j a) (i := j) (by simpa using h2)
  simp only [List.getElem_set_self, List.eraseIdx_set_eq] at p1 p2
  exact p2.symm.trans (((perm_erase hp hi hj).cons a).trans p1)
theorem ERs.set {l : Ents} {es : List MapEntry} (h : ERs ρ l es) {j : Nat} {e : AV × AV × Option Nat} {m : MapEntry} (he : ER ρ e m) : ERs ρ (l.set j e) (es.set j m) := by
  refine ⟨by simp [h.1], fun i e' m' h1 h2 => ?_⟩
  by_cases hij : j = i
  · subst hij
    have hl : j < l.length := by have := (List.getElem?_eq_some_iff.1 h1).1; simpa using this
    have hl' : j < es.length := by rw [h.1]; exact hl
    rw [List.getElem?_set_self hl] at h1
    rw [List.getElem?_set_self hl'] at h2
    injection h1 with h1; injection h2 with h2
    subst h1; subst h2
    exact he
  · rw [List.getElem?_set_ne hij] at h1 h2
    exact h.2 i e' m' h1 h2
theorem ERs.erase {l : Ents} {es : List MapEntry} (h : ERs ρ l es) (j : Nat) : ERs ρ (l.eraseIdx j) (es.eraseIdx j) := by
  refine ⟨by simp [List.length_eraseIdx, h.1], fun i e m h1 h2 => ?_⟩
  rw [List.getElem?_eraseIdx] at h1 h2
  split at h1
  · rename_i hi; rw [if_pos hi] at h2; exact h.2 i e m h1 h2
  · rename_i hi; rw [if_neg hi] at h2; exact h.2 _ e m h1 h2
theorem ERs.push {l : Ents} {es : List MapEntry} (h : ERs ρ l es) {e : AV × AV × Option Nat} {m : MapEntry} (he : ER ρ e m) : ERs ρ (l ++ [e]) (es ++ [m]) := by
  refine ⟨by simp [h.1], fun i e' m' h1 h2 => ?_⟩
  rw [List.getElem?_append] at h1 h2
  rw [h.1] at h2
  split at h1
  · rename_i hi; rw [if_pos hi] at h2; exact h.2 i e' m' h1 h2
  · rename_i hi
    rw [if_neg hi] at h2
    cases hk : i - l.length with
    | zero => rw [hk] at h1 h2; simp at h1 h2; subst h1; subst h2; exact he
    | succ k => rw [hk] at h1; simp at h1
theorem ve_upd {i : TI} {kt e : TypeId} {ke : KE} (hE : EOK E) (hi : E.ti t = some i) (hd : i.d = .map kt e) (hk : keyEq E kt = some ke) (ho : o.op = .mapUpdate t x y z ∨ o.op = .insert t x y z) :
    VeS E.P o (fun tm h n k => opd x tm fun v => opd y tm fun key => opd z tm fun x => keyOk ke key fun _ => updK ke v key x h fun h => k (.tu []) h n) := fun tm h n k hk' => by
  obtain ⟨mv, h1, h2⟩ := opd_inv hk'
  simp only [h2] at hk' ⊢
  obtain ⟨key, h3, h4⟩ := opd_inv hk'
  simp only [h4] at hk' ⊢
  obtain ⟨xv, h5, h6⟩ := opd_inv hk'
  simp only [h6] at hk' ⊢
  obtain ⟨h60, hko⟩ := keyOk_inv hk'
  rw [h60] at hk' ⊢
  have hu : E.P.underlying t = some (.map kt e) := by rw [(tok hE hi).un, hd]
  have eo : o.op.operands = #[x, y, z] := by rcases ho with ho | ho <;> rw [ho] <;> rfl
  have hrun : ∀ (A : Act) (w w' : World), (Instr.mapUpdate t (A.eval x) (A.eval y) (A.eval z)).run E.P w = .ok () w' → (execOp A.eval o).run E.P w = .ok .skip w' := by
    intro A w w' h
    rcases ho with ho | ho <;> (simp only [execOp, ho]; simp [h])
  unfold updK at hk' ⊢
  rcases asM_inv hk' with ⟨rfl, h7⟩ | ⟨b, rfl, h7⟩
  · rw [h7] at hk'; exact (ok_er hk').elim
  rw [h7] at hk' ⊢
  obtain ⟨l, c, h8, h9⟩ := mapK_inv hk'
  rw [h9] at hk' ⊢
  obtain ⟨r, h10, h11⟩ := find_inv hE hk hk'
  rw [h10] at hk' ⊢
  cases r with
  | none =>
    simp only [setK_eq] at hk' ⊢
    refine ⟨_, _, _, rfl, Nat.le_refl _, fun ρ A w hr hR _ => ?_⟩
    obtain ⟨tb, q1, q2⟩ := (hr x (mem1 eo (by simp)) _ h1).m_inv
    obtain ⟨tb', es, l', g3, g4, g5, g6⟩ := map_rel hR h8
    obtain rfl := Option.some.inj (q1.symm.trans g3)
    have hf := h11 ρ _ w l' es.toList hR (hr y (mem1 eo (by simp)) _ h3) g5 g6
    have hck := fun b w' => run_checkKey hE hk hko (hr y (mem1 eo (by simp)) _ h3) b w'
    simp only at hf
    refine ⟨ρ, w.putObj tb.c (.map (es.push { key := A.eval y, val := A.eval z, born := c }) (c + 1)), _, .skip, hrun A w _ ?_, .inr ⟨rfl, rfl⟩, ?_, VR.undef ρ⟩
    · rw [q2]
      simp [Instr.mapUpdate, run_underlying hu, run_getObj g4, hck, hf, run_setObj g4]
    · rw [hv_put]
      refine Step.obj hR (own_mp h8) q1 ⟨by simp, by simp⟩ ⟨_, l' ++ [(key, xv, some c)], rfl, g5.append_right _, ?_⟩ g4
      rw [Array.toList_push]
      exact ⟨g6.push ⟨hr y (mem1 eo (by simp)) _ h3, hr z (mem1 eo (by simp)) _ h5, fun s h => by injection h⟩, (map_st hR h8 q1 g4).push rfl⟩
  | some p =>
    obtain ⟨i0, v0⟩ := p
    simp only [setK_eq] at hk' ⊢
    refine ⟨_, _, _, rfl, Nat.le_refl _, fun ρ A w hr hR _ => ?_⟩
    obtain ⟨tb, q1, q2⟩ := (hr x (mem1 eo (by simp)) _ h1).m_inv
    obtain ⟨tb', es, l', g3, g4, g5, g6⟩ := map_rel hR h8
    obtain rfl := Option.some.inj (q1.symm.trans g3)
    obtain ⟨e0, j0, m, p1, p2, p3, p4, p5, p6⟩ := h11 ρ _ w l' es.toList hR (hr y (mem1 eo (by simp)) _ h3) g5 g6
    have hck := fun b w' => run_checkKey hE hk hko (hr y (mem1 eo (by simp)) _ h3) b w'
    have hm : es[j0]? = some m := by rw [← Array.getElem?_toList]; exact p4
    refine ⟨ρ, w.putObj tb.c (.map (es.modify j0 fun e => { e with key := A.eval y, val := A.eval z }) c), _, .skip, hrun A w _ ?_, .inr ⟨rfl, rfl⟩, ?_, VR.undef ρ⟩
    · rw [q2]
      simp [Instr.mapUpdate, run_underlying hu, run_getObj g4, hck, p5, hm, Instr.keyThatStays, p6, run_setObj g4]
    · rw [hv_put]
      have hset := setE_eq key xv l i0 e0 p1
      rw [hset]
      refine Step.obj hR (own_mp h8) q1 ⟨by simp, by simp⟩ ⟨_, l'.set j0 (key, xv, e0.2.2), rfl, perm_set g5 p1 p3, ?_⟩ g4
      have hmo : (es.modify j0 fun e => { e with key := A.eval y, val := A.eval z }).toList = es.toList.set j0 { m with key := A.eval y, val := A.eval z } := by
        apply List.ext_getElem?
        intro k
        rw [Array.getElem?_toList, Array.getElem?_modify]
        by_cases hk : j0 = k
        · subst hk
          rw [if_pos rfl, hm, List.getElem?_set_self (List.getElem?_eq_some_iff.1 p4).1]; rfl
        · rw [if_neg hk, List.getElem?_set_ne hk, Array.getElem?_toList]
      rw [hmo]
      exact ⟨g6.set ⟨hr y (mem1 eo (by simp)) _ h3, hr z (mem1 eo (by simp)) _ h5, (g6.2 j0 e0 m p3 p4).2.2⟩, (map_st hR h8 q1 g4).set p4 rfl⟩
theorem ve_delete {c : Call} {ts : List TypeId} {i : TI} {kt e : TypeId} {ke : KE} (hE : EOK E) (hi : E.ti t = some i) (hd : i.d = .map kt e) (hk : keyEq E kt = some ke) (ho : o.op = .call c) (hb : c.callee = .builtin .delete) (ht : c.argTypes.toList = t :: ts) (hx : c.args.toList = [x, y]) :
    VeS E.P o (fun tm h n k => opd x tm fun v => opd y tm fun key => keyOk ke key fun _ => delK ke v key h fun h => k (.tu []) h n) := fun tm h n k hk' => by
  obtain ⟨mv, h1, h2⟩ := opd_inv hk'
  simp only [h2] at hk' ⊢
  obtain ⟨key, h3, h4⟩ := opd_inv hk'
  simp only [h4] at hk' ⊢
  obtain ⟨h40, hko⟩ := keyOk_inv hk'
  rw [h40] at hk' ⊢
  have hu : E.P.underlying t = some (.map kt e) := by rw [(tok hE hi).un, hd]
  have mx : x ∈ o.op.operands := bi_mem ho (by rw [hx]; simp)
  have my : y ∈ o.op.operands := bi_mem ho (by rw [hx]; simp)
  have hrun : ∀ (A : Act) (w w' : World) (v : Value), A.eval x = v → (Builtin.delete_ (t :: ts).toArray o.type #[v, A.eval y]).run E.P w = .ok (.tuple #[]) w' → (execOp A.eval o).run E.P w = .ok (.value (.tuple #[])) w' := by
    intro A w w' v e1 h
    rw [run_builtin ho hb, args_of hx, types_of ht]
    refine run_v ?_
    simp only [List.map_toArray, List.map_cons, List.map_nil, e1]
    exact h
  unfold delK at hk' ⊢
  rcases asM_inv hk' with ⟨rfl, h7⟩ | ⟨b, rfl, h7⟩
  · rw [h7] at hk'; exact (ok_er hk').elim
  rw [h7] at hk' ⊢
  obtain ⟨l, c0, h8, h9⟩ := mapK_inv hk'
  rw [h9] at hk' ⊢
  obtain ⟨r, h10, h11⟩ := find_inv hE hk hk'
  rw [h10] at hk' ⊢
  cases r with
  | none =>
    refine ⟨_, _, _, rfl, Nat.le_refl _, fun ρ A w hr hR _ => ?_⟩
    obtain ⟨tb, q1, q2⟩ := (hr x mx _ h1).m_inv
    obtain ⟨tb', es, l', g3, g4, g5, g6⟩ := map_rel hR h8
    obtain rfl := Option.some.inj (q1.symm.trans g3)
    have hf := h11 ρ _ w l' es.toList hR (hr y my _ h3) g5 g6
    have hck := fun b w' => run_checkKey hE hk hko (hr y my _ h3) b w'
    simp only at hf
    refine ⟨ρ, w.putObj tb.c (.map es c0), _, _, hrun A w _ _ q2 ?_, .inl rfl, ?_, VR.undef ρ⟩
    · simp [Builtin.delete_, run_underlying hu, run_getObj g4, hck, hf, run_setObj g4]
    · have hst := Step.obj (n := n) (o := .mp l c0) (ob := .map es c0) hR (own_mp h8) q1 ⟨by simp, by simp⟩ ⟨es, l', rfl, g5, g6, map_st hR h8 q1 g4⟩ g4
      have : upd (hv h) b (.mp l c0) = hv h := by
        funext a
        by_cases ha : a = b
        · subst ha; rw [upd_same]; exact h8.symm
        · rw [upd_other _ _ ha]
      rw [this] at hst
      exact hst
  | some p =>
    obtain ⟨i0, v0⟩ := p
    simp only [setK_eq] at hk' ⊢
    refine ⟨_, _, _, rfl, Nat.le_refl _, fun ρ A w hr hR _ => ?_⟩
    obtain ⟨tb, q1, q2⟩ := (hr x mx _ h1).m_inv
    obtain ⟨tb', es, l', g3, g4, g5, g6⟩ := map_rel hR h8
    obtain rfl := Option.some.inj (q1.symm.trans g3)
    obtain ⟨e0, j0, m, p1, p2, p3, p4, p5, p6⟩ := h11 ρ _ w l' es.toList hR (hr y my _ h3) g5 g6
    have hck := fun b w' => run_checkKey hE hk hko (hr y my _ h3) b w'
    refine ⟨ρ, w.putObj tb.c (.map (es.eraseIdxIfInBounds j0) c0), _, _, hrun A w _ _ q2 ?_, .inl rfl, ?_, VR.undef ρ⟩
    · simp [Builtin.delete_, run_underlying hu, run_getObj g4, hck, p5, run_setObj g4]
    · rw [hv_put, delE_eq]
      have hj : j0 < es.size := by have := (List.getElem?_eq_some_iff.1 p4).1; simpa using this
      refine Step.obj hR (own_mp h8) q1 ⟨by simp, by simp⟩ ⟨_, l'.eraseIdx j0, rfl, perm_erase g5 p1 p3, ?_⟩ g4
      have : (es.eraseIdxIfInBounds j0).toList = es.toList.eraseIdx j0 := by simp [Array.eraseIdxIfInBounds, hj]
      rw [this]
      exact ⟨g6.erase j0, (map_st hR h8 q1 g4).erase j0⟩
end
end Ax
end Go.Proofs.YtdfgnoflohfnmaaGreatDoor

/-! Ranges over maps; blocks frozen. -/

namespace Go.Proofs.YtdfgnoflohfnmaaGreatDoor
namespace Ax
section
variable {E : Env} {o : Oper} {t u : TypeId} {x y z : Operand} {ρ : Ren} {H : Hp} {w w' : World}
theorem ve_range {i : TI} {kt e : TypeId} (hE : EOK E) (hi : E.ti t = some i) (hd : i.d = .map kt e) (ho : o.op = .range t x) :
    VeS E.P o (fun tm h n k => opd x tm fun v => asM v (newK h n (.mi none 0 [] 0) fun h n' => k (.p n 0) h n')
        fun b => mapK h b fun _ c => newK h n (.mi (some b) c [] c) fun h n' => k (.p n 0) h n') := fun tm h n k hk => by
  obtain ⟨v, h1, h2⟩ := opd_inv hk
  simp only [h2] at hk ⊢
  have hu : E.P.underlying t = some (.map kt e) := by rw [(tok hE hi).un, hd]
  have mx : x ∈ o.op.operands := mem1 (l := #[x]) (by rw [ho]; rfl) (by simp)
  unfold newK at hk ⊢
  rcases asM_inv hk with ⟨rfl, h3⟩ | ⟨b, rfl, h3⟩
  · rw [h3, setK_eq]
    refine ⟨_, _, _, rfl, by rw [nat_succ]; omega, fun ρ A w hr hR hF => ?_⟩
    have hf := hF n (Nat.le_refl _) (by rw [nat_succ]; omega)
    refine ⟨updR ρ n ⟨w.heap.size, 0, 0⟩, w.alloc (.mapIter none 0 #[] 0), .pointer (some ⟨w.heap.size, 0, none⟩), _, ?_, .inl rfl, ?_, .p (o := 0) (t := ⟨w.heap.size, 0, 0⟩) (updR_same _ _)⟩
    · simp only [execOp, ho]
      refine run_v ?_
      rw [(hr x mx _ h1).nm_inv]
      simp [Instr.range, run_underlying hu]
    · rw [hv_put]
      exact Step.new hR hf.1 hf.2 rfl ⟨none, rfl, rfl, rfl⟩ (rel_lt hR) rfl rfl rfl rfl
  · rw [h3] at hk ⊢
    obtain ⟨l, c, h4, h5⟩ := mapK_inv hk
    rw [h5, setK_eq]
    refine ⟨_, _, _, rfl, by rw [nat_succ]; omega, fun ρ A w hr hR hF => ?_⟩
    have hf := hF n (Nat.le_refl _) (by rw [nat_succ]; omega)
    obtain ⟨tb, q1, q2⟩ := (hr x mx _ h1).m_inv
    obtain ⟨tb', es, l', g3, g4, g5, g6⟩ := map_rel hR h4
    obtain rfl := Option.some.inj (q1.symm.trans g3)
    refine ⟨updR ρ n ⟨w.heap.size, 0, 0⟩, w.alloc (.mapIter (some tb.c) c #[] c), .pointer (some ⟨w.heap.size, 0, none⟩), _, ?_, .inl rfl, ?_, .p (o := 0) (t := ⟨w.heap.size, 0, 0⟩) (updR_same _ _)⟩
    · simp only [execOp, ho]
      refine run_v ?_
      rw [q2]
      simp [Instr.range, run_underlying hu, run_getObj g4]
    · rw [hv_put]
      exact Step.new hR hf.1 hf.2 rfl ⟨some tb.c, rfl, rfl, tb, updR_le hf.1 _ _ q1, rfl⟩ (rel_lt hR) rfl rfl rfl rfl
theorem own_mi {o : AO} {m : Option Pn} {s : Nat} {l : List Nat} {c : Nat} (h : o = .mi m s l c) : own o := by subst h; exact ⟨by simp, by simp⟩
theorem ve_next (ho : o.op = .next x false) :
    VeS E.P o (fun tm h n k => opd x tm fun v => asP v fun b o => ifK (Nat.beq o 0) 150 fun _ => h.getK .x b fun o => aoI o fun m since seen last =>
      Option.rec (k (.tu [.b false]) h n) (fun m => next1 m since seen last b h fun v h => k v h n) m) := fun tm h n k hk => by
  obtain ⟨v, h1, h2⟩ := opd_inv hk
  simp only [h2] at hk ⊢
  have mx : x ∈ o.op.operands := mem1 (l := #[x]) (by rw [ho]; rfl) (by simp)
  obtain ⟨b, p, rfl, h3⟩ := asP_inv hk
  rw [h3] at hk ⊢
  obtain ⟨h4, h5⟩ := ifK_inv hk
  rw [h5] at hk ⊢
  obtain rfl := beq_iff.1 h4
  rw [getK_eq] at hk ⊢
  obtain ⟨m, since, seen, last, h6, h7⟩ := aoI_inv hk
  rw [h7] at hk ⊢
  have hfalse : ∀ ρ, VR ρ (.tu [.b false]) (.tuple #[.bool false]) := fun ρ => VR.tu' ((VRs.nil ρ).cons (.b false))
  cases m with
  | none =>
    refine ⟨_, _, _, rfl, Nat.le_refl _, fun ρ A w hr hR _ => ?_⟩
    obtain ⟨tb, q1, q2⟩ := (hr x mx _ h1).p_inv
    obtain ⟨tb', mc, q3, q0, q4, q6, _⟩ := iter_rel hR h6
    obtain rfl := Option.some.inj (q1.symm.trans q3)
    obtain rfl := q6 rfl
    refine ⟨ρ, w, _, _, ?_, .inl rfl, Step.refl hR, hfalse ρ⟩
    simp only [execOp, ho]
    refine run_v ?_
    rw [q2, q0]
    simp [Instr.next, run_getObj q4]
  | some m =>
    simp only at hk ⊢
    unfold next1 at hk ⊢
    obtain ⟨l, c, h8, h9⟩ := mapK_inv hk
    rw [h9] at hk ⊢
    have hsem := fun (ρ : Ren) (A : Act) (w : World) (hr : VRo ρ tm A o) (hR : Rel ρ (hv h) w) => (show ∃ (tb : Bk) (es : Array MapEntry) (l' : Ents) (tm' : Bk), ρ b = some tb ∧ A.eval x = .pointer (some ⟨tb.c, 0, none⟩) ∧
        w.heap[tb.c]? = some (.mapIter (some tm'.c) since seen.toArray last) ∧ ρ m = some tm' ∧ tb.d = 0 ∧ w.heap[tm'.c]? = some (.map es c) ∧ l'.Perm l ∧ ERs ρ l' es.toList by
      obtain ⟨tb, q1, q2⟩ := (hr x mx _ h1).p_inv
      obtain ⟨tb', mc, q3, q0, q4, _, q7⟩ := iter_rel hR h6
      obtain ⟨tm', q5, rfl⟩ := q7 m rfl
      obtain rfl := Option.some.inj (q1.symm.trans q3)
      obtain ⟨tb2, es, l', g3, g4, g5, g6⟩ := map_rel hR h8
      obtain rfl := Option.some.inj (q5.symm.trans g3)
      rw [q0] at q2
      exact ⟨tb, es, l', tm', q1, q2, q4, q5, q0, g4, g5, g6⟩)
    split at hk
    · refine ⟨_, _, _, rfl, Nat.le_refl _, fun ρ A w hr hR _ => ?_⟩
      obtain ⟨tb, es, l', tm', q1, q2, q4, q5, q0, g4, g5, g6⟩ := hsem ρ A w hr hR
      have hl : l' = [] := List.Perm.eq_nil (by simpa using g5)
      subst hl
      have hes : es = #[] := by have := g6.1; rw [Array.length_toList] at this; exact Array.eq_empty_of_size_eq_zero (by simpa using this)
      subst hes
      refine ⟨ρ, w, _, _, ?_, .inl rfl, Step.refl hR, hfalse ρ⟩
      simp only [execOp, ho]
      refine run_v ?_
      rw [q2]
      simp [Instr.next, run_getObj q4, run_getObj g4, Question.forced]
    · rename_i key val born
      obtain ⟨h10, h11⟩ := ifK_inv hk
      rw [h11] at hk ⊢
      simp only [setK_eq] at hk ⊢
      have hbs := ble_iff.1 h10
      refine ⟨_, _, _, rfl, Nat.le_refl _, fun ρ A w hr hR _ => ?_⟩
      obtain ⟨tb, es, l', tm', q1, q2, q4, q5, q0, g4, g5, g6⟩ := hsem ρ A w hr hR
      obtain ⟨me, rfl, hme⟩ := one_entry g5 g6
      have hb : me.born = born := hme.2.2 born rfl
      refine ⟨ρ, w.putObj tb.c (.mapIter (some tm'.c) since #[born] c), .tuple #[.bool true, me.key, me.val], _, ?_, .inl rfl, ?_, VR.tu' ((((VRs.nil ρ).cons hme.2.1).cons hme.1).cons (.b true))⟩
      · simp only [execOp, ho]
        refine run_v ?_
        rw [q2]
        have h2 : ¬ (since ≤ born) := by omega
        have h4 : born < since := by omega
        simp [Instr.next, run_getObj q4, run_getObj g4, Question.forced, hb, h2, h4, run_setObj q4]
      · rw [hv_put]
        exact Step.obj hR (own_mi h6) q1 ⟨by simp, by simp⟩ ⟨some tm'.c, rfl, q0, tm', q5, rfl⟩ q4
    · rename_i born s
      obtain ⟨h10, h11⟩ := ifK_inv hk
      rw [h11] at hk ⊢
      rw [Bool.and_eq_true, beq_iff, ble_iff] at h10
      obtain ⟨rfl, h10⟩ := h10
      refine ⟨_, _, _, rfl, Nat.le_refl _, fun ρ A w hr hR _ => ?_⟩
      obtain ⟨tb, es, l', tm', q1, q2, q4, q5, q0, g4, g5, g6⟩ := hsem ρ A w hr hR
      obtain ⟨me, rfl, hme⟩ := one_entry g5 g6
      have hb : me.born = s := hme.2.2 s rfl
      refine ⟨ρ, w, _, _, ?_, .inl rfl, Step.refl hR, hfalse ρ⟩
      simp only [execOp, ho]
      refine run_v ?_
      rw [q2]
      simp [Instr.next, run_getObj q4, run_getObj g4, Question.forced, hb]
      omega
    · exact (ok_er hk).elim
/-! ### blocks frozen -/
theorem freeze_heap {c p q : Nat} {arr : Array Value} {ty : TypeId} {lo hi : Nat} (hq : q ≠ 0) (h : w.heap[c]? = some (.cells arr ty (lo, hi))) (k : Nat) :
    (w.freeze ⟨c, p, none⟩ q).heap[k]? = if k = c then some (.cells arr ty (if lo == hi then (p, p + q) else (min lo p, max hi (p + q)))) else w.heap[k]? := by
  unfold World.freeze
  rw [if_neg hq]
  simp only [Array.getElem?_modify]
  split
  · rename_i e
    rw [← e, h, if_pos rfl]; rfl
  · rename_i e
    rw [if_neg (fun x => e x.symm)]
theorem freeze_rest {a : Addr} {q : Nat} : (w.freeze a q).heap.size = w.heap.size ∧ (w.freeze a q).os = w.os ∧ (w.freeze a q).tape = w.tape ∧ (w.freeze a q).output = w.output := by
  unfold World.freeze
  split <;> simp
theorem ve_conv_bb {i : TI} (hE : EOK E) (hi : E.ti t = some i) (hd : kd i.d = 3) (hb : isByte E (elemT i.d) = true) (ho : o.op = .convert t t x) :
    VeS E.P o (fun tm h n k => opd x tm fun v => asSl v (.er 119) fun b o m c ex => wblkK h b fun l ty _ => h.setK .x (.c l ty true) b fun h => k (.sl b o m c ex) h n) := fun tm h n k hk => by
  obtain ⟨v, h1, h2⟩ := opd_inv hk
  simp only [h2] at hk ⊢
  obtain ⟨e, e1⟩ := kd_inv.2.2.1 hd
  rw [e1] at hb
  simp only [elemT] at hb
  obtain ⟨_, _, _, _, hu⟩ := isByte_inv hE hb
  have mx : x ∈ o.op.operands := mem1 (l := #[x]) (by rw [ho]; rfl) (by simp)
  rcases asSl_inv hk with ⟨rfl, h3⟩ | ⟨b, p, m, c1, ex, rfl, h3⟩
  · rw [h3] at hk; exact (ok_er hk).elim
  rw [h3] at hk ⊢
  obtain ⟨l, ty, fz, h4, h5⟩ := wblkK_inv hk
  rw [h5] at hk ⊢
  rw [setK_eq] at hk ⊢
  refine ⟨_, _, _, rfl, Nat.le_refl _, fun ρ A w hr hR _ => ?_⟩
  obtain ⟨tb, off, c', q1, q2, q3, q4, q5, q6, q7⟩ := (hr x mx _ h1).sl_inv
  obtain ⟨tb', arr, lo, hi', b1, b2, b3, b4, b5, b6⟩ := blk_rel hR (.inl h4)
  obtain rfl := Option.some.inj (q1.symm.trans b1)
  have hsh : w.shape? tb.c = some (ty, arr.size) := by simp [World.shape?, b2]
  refine ⟨ρ, w.freeze ⟨tb.c, arr.size, none⟩ 1, A.eval x, _, ?_, .inl rfl, ?_, hr x mx _ h1⟩
  · simp only [execOp, ho]
    refine run_v ?_
    rw [q2]
    simp [convert, (tok hE hi).run_un, e1, run_underlying hu, markStringish, hsh]
  · rw [hv_put]
    have hheap := freeze_heap (p := arr.size) (q := 1) (by omega) b2
    obtain ⟨s1, s2, s3, s4⟩ := freeze_rest (w := w) (a := ⟨tb.c, arr.size, none⟩) (q := 1)
    refine Step.turn hR (own_c h4) q1 ?_ (.inl ⟨by simp, by simp⟩) hheap s1 s2 s3 s4
    by_cases hlh : lo = hi'
    · subst hlh
      simp only [beq_self_eq_true, if_true]
      exact ⟨arr, _, _, rfl, ⟨b3.1, fun h => by cases h⟩, .inr ⟨rfl, Nat.le_refl _⟩, b5, b6⟩
    · have : (lo == hi') = false := by simpa using hlh
      simp only [this, Bool.false_eq_true, if_false]
      refine ⟨arr, _, _, rfl, ⟨b3.1, fun h => by cases h⟩, .inr ⟨rfl, ?_⟩, b5, b6⟩
      rcases b4 with h | ⟨_, h⟩
      · exact absurd h.symm hlh
      · omega
theorem run_loadInts {P : Program} : ∀ (ns : List Int) (a : Addr) (acc : ByteArray), (∀ j v, ns[j]? = some v → w.cell? (a.add j) = some (.int .u8 v)) →
    (loadBytes a acc ns.length).run P w = .ok ⟨acc.data ++ (ns.map fun n => UInt8.ofNat n.toNat).toArray⟩ w
  | [], a, acc, _ => by simp [loadBytes]
  | x :: l, a, acc, h => by
    have h0 : w.cell? a = some (.int .u8 x) := by
      have := h 0 x rfl
      simpa [Addr.add] using this
    have ih := run_loadInts (P := P) l (a.add 1) (acc.push x.toNat.toUInt8) (fun j y hy => by
      have := h (j + 1) y (by simpa using hy)
      have e : (a.add 1).add j = a.add (j + 1) := by
        unfold Addr.add
        by_cases hj : j = 0
        · subst hj; simp
        · simp [hj]; omega
      rw [e]; exact this)
    simp only [List.length_cons, loadBytes, Sem.run_bind, run_load, h0, Result.andThen]
    rw [ih]
    congr 1
    apply ByteArray.ext
    simp [ByteArray.push]
theorem liesAt_off {P : Program} {e : TypeId} (hc : P.cellsOf e = 1) (count off n : Nat) (hn : off + n ≤ count) : liesAt P P.depth e count off e n = true := by
  have hd : P.depth = (2 * (P.types.size + Made.depth) + 1) + 1 := rfl
  rw [hd]
  simp only [liesAt, Bool.or_eq_true]
  left
  rw [hd]
  simp [rowAt, hc, hn, sameLayout, Nat.mod_one]
theorem string_shape (ts : List TypeId) (ty pt : TypeId) (a : Option Addr) (q : IntKind) (n : Int) : ∃ (s1 s2 : Sem PUnit) (s3 s4 : Sem Value), Builtin.unsafeString_ (pt :: ts).toArray ty #[.pointer a, .int q n] =
    (do
      let n ← asInt (.int q n)
      if n < 0 then s1
      if n > IntKind.i64.max then s2
      match a with
      | none => if n = 0 then pure (.string .empty) else s3
      | some a =>
        if n = 0 then pure (.string .empty)
        else if ← variablesAt a (← elemOf pt) n.toNat then do
          let s ← loadBytes a .empty n.toNat
          freeze a n.toNat
          pure (.string s)
        else s4) := ⟨_, _, _, _, rfl⟩
theorem ve_unsafeString {c : Call} {ts : List TypeId} {i : TI} (hE : EOK E) (hi : E.ti t = some i) (ho : o.op = .call c) (hb : c.callee = .builtin .unsafeString) (ht : c.argTypes.toList = t :: ts) (hx : c.args.toList = [x, y]) :
    VeS E.P o (fun tm h n k => opd x tm fun v => opd y tm fun w => natV w fun m => Nat.rec (ifK (isP v || isNp v) 204 fun _ => k (.s []) h n) (fun _ _ =>
        asP v fun b o => wblkK h b fun cs ty _ => ifK (Nat.beq ty (elemT i.d) && isByte E ty && Nat.beq (kd i.d) 4 && Nat.ble m 1073741824) 203 fun _ => cutK cs o m fun cs => toBytes cs fun r => h.setK .x .x b fun h => k (.s r) h n) m) := fun tm h n k hk => by
  obtain ⟨v, h1, h2⟩ := opd_inv hk
  simp only [h2] at hk ⊢
  obtain ⟨v2, h3, h4⟩ := opd_inv hk
  simp only [h4] at hk ⊢
  obtain ⟨q, m, rfl, h5⟩ := natV_inv hk
  rw [h5] at hk ⊢
  have mx : x ∈ o.op.operands := bi_mem ho (by rw [hx]; simp)
  have my : y ∈ o.op.operands := bi_mem ho (by rw [hx]; simp)
  have hmax : IntKind.i64.max = 9223372036854775807 := rfl
  cases m with
  | zero =>
    obtain ⟨h6, h7⟩ := ifK_inv hk
    refine ⟨_, _, _, h7, Nat.le_refl _, fun ρ A w hr hR _ => ⟨ρ, w, .string .empty, _, ?_, .inl rfl, Step.refl hR, .s []⟩⟩
    rw [run_builtin ho hb, args_of hx, types_of ht]
    refine run_v ?_
    have g2 := (hr y my _ h3).i_inv
    have g1 : ∃ a, A.eval x = .pointer a := by
      rw [Bool.or_eq_true] at h6
      rcases h6 with h6 | h6
      · obtain ⟨b, p, rfl⟩ := isP_inv h6
        obtain ⟨_, _, e⟩ := (hr x mx _ h1).p_inv
        exact ⟨_, e⟩
      · obtain rfl := isNp_inv h6
        exact ⟨none, (hr x mx _ h1).np_inv⟩
    obtain ⟨a, g1⟩ := g1
    simp only [List.map_toArray, List.map_cons, List.map_nil, g1, g2]
    obtain ⟨s1, s2, s3, s4, hdef⟩ := string_shape ts o.type t a q ((0 : Nat) : Int)
    rw [hdef]
    cases a <;> simp [asInt, asIntOf, hmax]
  | succ m =>
    simp only at hk ⊢
    obtain ⟨b, p, rfl, h6⟩ := asP_inv hk
    rw [h6] at hk ⊢
    obtain ⟨l, ty, fz, h7, h8⟩ := wblkK_inv hk
    rw [h8] at hk ⊢
    obtain ⟨h9, h10⟩ := ifK_inv hk
    rw [h10] at hk ⊢
    obtain ⟨h11, h12⟩ := cutK_inv hk
    rw [h12] at hk ⊢
    obtain ⟨r, h13, h14, h15⟩ := toBytes_inv _ hk
    rw [h13] at hk ⊢
    rw [setK_eq] at hk ⊢
    refine ⟨_, _, _, rfl, Nat.le_refl _, fun ρ A w hr hR _ => ?_⟩
    simp only [Bool.and_eq_true, beq_iff, ble_iff] at h9
    obtain ⟨⟨⟨hty, hby⟩, hkd⟩, hm30⟩ := h9
    obtain ⟨e, e1⟩ := kd_inv.2.2.2.1 hkd
    rw [e1] at hty
    simp only [elemT] at hty
    subst hty
    obtain ⟨jb, hjb, _, hsz, hub⟩ := isByte_inv hE hby
    have hcs : E.P.cellsOf ty = 1 := by rw [(tok hE hjb).cells, hsz]
    obtain ⟨tb, q1, q2⟩ := (hr x mx _ h1).p_inv
    have g2 := (hr y my _ h3).i_inv
    obtain ⟨tb', arr, lo, hi', b1, b2, b3, b4, b5, b6⟩ := blk_rel hR (.inl h7)
    obtain rfl := Option.some.inj (q1.symm.trans b1)
    obtain ⟨tb', vs, c1, c2, c3, c4⟩ := cut_rel hR (.inl h7) h11
    obtain rfl := Option.some.inj (q1.symm.trans c1)
    obtain ⟨ns, rfl, rfl⟩ := h15 ρ vs c2
    have hlen : ns.length = m + 1 := by simpa using c3
    have hload := run_loadInts (P := E.P) (w := w) ns ⟨tb.c, tb.d + p, none⟩ .empty (fun j v hj => c4 j _ (by simp [hj]))
    rw [hlen] at hload
    have hsh : w.shape? tb.c = some (ty, arr.size) := by simp [World.shape?, b2]
    have hlies := liesAt_off (P := E.P) hcs (arr.size / E.P.cellsOf ty) (tb.d + p) (m + 1) (by rw [hcs, Nat.div_one]; omega)
    have hup : E.P.underlying t = some (.pointer ty) := by rw [(tok hE hi).un, e1]
    refine ⟨ρ, w.freeze ⟨tb.c, tb.d + p, none⟩ (m + 1), .string ⟨(ns.map fun n => UInt8.ofNat n.toNat).toArray⟩, _, ?_, .inl rfl, ?_, .s _⟩
    · rw [run_builtin ho hb, args_of hx, types_of ht]
      refine run_v ?_
      simp only [List.map_toArray, List.map_cons, List.map_nil, q2, g2]
      obtain ⟨s1, s2, s3, s4, hdef⟩ := string_shape ts o.type t (some ⟨tb.c, tb.d + p, none⟩) q ((m + 1 : Nat) : Int)
      rw [hdef]
      have n1 : ¬ ((m : Int) + 1 < 0) := by omega
      have n2 : ¬ (9223372036854775807 < (m : Int) + 1) := by omega
      have n3 : ¬ ((m : Int) + 1 = 0) := by omega
      have n4 : ((m : Int) + 1).toNat = m + 1 := by omega
      simp [asInt, asIntOf, hmax, n1, n2, n3, n4, variablesAt, hsh, elemOf, run_underlying hup, hlies, hload]
    · rw [hv_put]
      have hheap := freeze_heap (p := tb.d + p) (q := m + 1) (by omega) b2
      obtain ⟨s1, s2, s3, s4⟩ := freeze_rest (w := w) (a := ⟨tb.c, tb.d + p, none⟩) (q := m + 1)
      exact Step.turn hR (own_c h7) q1 trivial (.inr rfl) hheap s1 s2 s3 s4
end
end Ax
end Go.Proofs.YtdfgnoflohfnmaaGreatDoor

/-! What is asked of a body; calls of functions with bodies, their deferred calls, their results. -/

namespace Go.Proofs.YtdfgnoflohfnmaaGreatDoor
namespace Ax
def FW (ro : Option Nat) : Fence := { fn := fun _ => True, depth := none, alive := false, round := ro }
def GL (E : Env) (ρ : Ren) : Prop := ∀ g, g < E.ng → ∃ t, ρ (pth g) = some t ∧ t.c = g ∧ t.d = 0
theorem GL.mono {E : Env} {ρ ρ' : Ren} (h : GL E ρ) (hl : ρ.le ρ') : GL E ρ' := fun g hg => by
  obtain ⟨t, h1, h2⟩ := h g hg
  exact ⟨t, hl _ _ h1, h2⟩
theorem gl_opd {E : Env} {ρ : Ren} {nt : Nat} {tm : Tr AV} {a : Act} {x : Operand} {v : AV} (hg : GL E ρ) (hf : FR ρ nt tm a.tmps) (hx : gOk1 E x = true) (hv : eva x tm = some v) : VR ρ v (a.eval x) := by
  cases x with
  | tmp t => injection hv with hv; subst hv; exact hf.2 t
  | const w => exact ofV_rel ρ hv
  | global g =>
    injection hv with hv
    subst hv
    obtain ⟨t, h1, h2, h3⟩ := hg g (ble_iff.1 hx)
    have : a.eval (.global g) = .pointer (some ⟨t.c, t.d + 0, none⟩) := by rw [h2, h3]; rfl
    rw [this]
    exact .p h1
  | func f => injection hv with hv; subst hv; exact .f rfl rfl (fun i x v h => by simp at h) (fun i x v h => by simp at h)
def DR (E : Env) (ρ : Ren) : List AD → List Deferred → Prop
  | [], [] => True
  | .fn f us :: l, d :: ds => (hasBody E f = true ∧ ∃ cap, d.target = .fn (.func f) cap ∧ VRs ρ us (d.args ++ cap).toList) ∧ DR E ρ l ds
  | .mk b :: l, d :: ds => (∃ t, ρ b = some t ∧ d = { target := .collected t.c, args := #[] }) ∧ DR E ρ l ds
  | _, _ => False
theorem DR.mono {E : Env} {ρ ρ' : Ren} (hl : ρ.le ρ') : ∀ {l : List AD} {ds : List Deferred}, DR E ρ l ds → DR E ρ' l ds
  | [], [], _ => trivial
  | .fn f us :: l, d :: ds, h => by
    obtain ⟨⟨h1, cap, h2, h3⟩, h4⟩ := h
    exact ⟨⟨h1, cap, h2, h3.mono hl⟩, h4.mono hl⟩
  | .mk b :: l, d :: ds, h => by
    obtain ⟨⟨t, h1, h2⟩, h3⟩ := h
    exact ⟨⟨t, hl _ _ h1, h2⟩, h3.mono hl⟩
  | [], _ :: _, h => h.elim
  | .fn _ _ :: _, [], h => h.elim
  | .mk _ :: _, [], h => h.elim
def PostR (E : Env) (nt : Nat) (ρ : Ren) (H : Hp) (w : World) (n : Pn) (Q : Exit → Act → World → Prop) : R → Prop
  | .er _ => True
  | .nm tm df h n' => ∀ ρ' a' w', Step ρ H w n ρ' (hv h) w' n' → FR ρ' nt tm a'.tmps → DR E ρ' df a'.defers → Q .normal a' w'
  | .ex id tm df h n' => ∀ ρ' a' w', Step ρ H w n ρ' (hv h) w' n' → FR ρ' nt tm a'.tmps → DR E ρ' df a'.defers → Q (.exit id) a' w'
  | .rt tm df h n' => ∀ ρ' a' w', Step ρ H w n ρ' (hv h) w' n' → FR ρ' nt tm a'.tmps → DR E ρ' df a'.defers → Q .ret a' w'
  | .al a b => PostR E nt ρ H w n Q a ∧ PostR E nt ρ H w n Q b
noncomputable def endN : R → Pn
  | .er _ => .one
  | .nm _ _ _ n => n
  | .ex _ _ _ _ n => n
  | .rt _ _ _ n => n
  | .al a b => mx (endN a) (endN b)
theorem Ot.post {E : Env} {nt : Nat} {ρ : Ren} {H : Hp} {w : World} {n : Pn} {Q : Exit → Act → World → Prop} {k : AV → Tr AO → Pn → R} : ∀ {o : Ot}, PostR E nt ρ H w n Q (o.app k) → ∀ {v h n'}, o.has v h n' → PostR E nt ρ H w n Q (k v h n')
  | .one _ _ _, hk, _, _, _, ⟨rfl, rfl, rfl⟩ => hk
  | .al a b, hk, _, _, _, hh => by
    rcases hh with hh | hh
    · exact Ot.post (o := a) hk.1 hh
    · exact Ot.post (o := b) hk.2 hh
theorem Ot.endN_le {k : AV → Tr AO → Pn → R} : ∀ {o : Ot} {v h n}, o.has v h n → (endN (k v h n)).nat ≤ (endN (o.app k)).nat
  | .one _ _ _, _, _, _, ⟨rfl, rfl, rfl⟩ => Nat.le_refl _
  | .al a b, _, _, _, hh => by
    rcases hh with hh | hh
    · exact Nat.le_trans (Ot.endN_le (o := a) hh) (mx_l _ _)
    · exact Nat.le_trans (Ot.endN_le (o := b) hh) (mx_r _ _)
structure BdOK (E : Env) (B : Bd) : Prop where
  fn : ∀ f us h n, Ok (B (.fn f us) h n) → n.nat ≤ (endN (B (.fn f us) h n)).nat ∧
    ∀ (fn : Func) (c : Code), E.fn f = some fn → fn.body = some c → ∀ (ρ : Ren) (w : World) (args : Array Value), Rel ρ (hv h) w → GL E ρ → VRs ρ us args.toList → Fresh ρ (hv h) n (endN (B (.fn f us) h n)) →
      ∀ Q, PostR E fn.ntmps ρ (hv h) w n Q (B (.fn f us) h n) → c.wpIn (FW none) 0 E.P Q { tmps := args ++ Array.replicate (fn.ntmps - args.size) undef, defers := [] } w
  rd : ∀ nt c tm h n, Ok (B (.rd nt c tm) h n) → n.nat ≤ (endN (B (.rd nt c tm) h n)).nat ∧
    ∀ (l : Nat) (ρ : Ren) (w : World) (tmps : Array Value), Rel ρ (hv h) w → GL E ρ → FR ρ nt tm tmps → Fresh ρ (hv h) n (endN (B (.rd nt c tm) h n)) →
      ∀ Q, PostR E nt ρ (hv h) w n Q (B (.rd nt c tm) h n) → c.wpIn (FW (some l)) 0 E.P Q { tmps, defers := [] } w
def RetT (T : Value → World → Prop) : Ending → World → Prop
  | .returned v, w => T v w
  | _, _ => False
def NxR (P : Program) (s : Sem Next) (w : World) (T : Value → World → Prop) : Prop :=
  ∃ nx w1, s.run P w = .ok nx w1 ∧ match nx with
    | .value v => T v w1
    | .enter f args => CallsIn (FW none) 0 P f args w1 (RetT T)
    | .round l f tmps assign body => RoundIn (FW none) 0 P l f tmps assign body w1 (RetT T)
    | _ => False
theorem NxR.upon {P : Program} {s : Sem Next} {w : World} {T : Value → World → Prop} (h : NxR P s w T) (ro : Option Nat) (o : Oper) (a : Act) {next : Act → World → Prop} {Q : Exit → Act → World → Prop} (hn : ∀ v w', T v w' → next (a.put o.dst v) w') :
    o.uponIn (FW ro) 0 P a next Q (s.run P w) := by
  obtain ⟨nx, w1, h1, h2⟩ := h
  rw [h1]
  cases nx <;> first | exact h2.elim | skip
  · exact hn _ _ h2
  · refine ⟨fun h => (by cases h), ?_⟩
    have : CallsIn (FW ro) 0 P _ _ w1 (RetT T) := h2
    refine this.mono fun e w' hr => ?_
    cases e with
    | returned v => exact hn _ _ hr
    | panicked c => exact hr.elim
    | outgrown => exact hr.elim
  · refine ⟨fun h => (by cases h), ?_⟩
    have : RoundIn (FW ro) 0 P _ _ _ _ _ w1 (RetT T) := h2
    refine this.mono fun e w' hr => ?_
    cases e with
    | returned v => exact hn _ _ hr
    | panicked c => exact hr.elim
    | outgrown => exact hr.elim
section
variable {E : Env} {ρ : Ren} {H : Hp} {w w' : World}

def resM (tmps : Array Value) : ResultVar → Sem Value
  | .tmp t => pure (tmps.getD t undef)
  | .cell a t => do loadVar t (← asAddr (tmps.getD a undef))
theorem resK_inv (hE : EOK E) (l : List ResultVar) : ∀ {tm : Tr AV} {h : Tr AO} {k : List AV → R}, Ok (resK E l tm h k) → ∃ vs, resK E l tm h k = k vs ∧ ∀ (ρ : Ren) (nt : Nat) (w : World) (tmps : Array Value), FR ρ nt tm tmps → Rel ρ (hv h) w →
    ∃ us, VRs ρ vs us ∧ (l.mapM (resM tmps)).run E.P w = .ok us w := by
  induction l with
  | nil => exact fun _ => ⟨[], rfl, fun ρ nt w tmps _ _ => ⟨[], VRs.nil ρ, rfl⟩⟩
  | cons r l ih =>
    intro tm h k hk
    cases r with
    | tmp t =>
      have e : resK E (.tmp t :: l) tm h k = opT t tm fun v => resK E l tm h fun l => k (v :: l) := rfl
      have e2 : ∀ k : AV → R, opT t tm k = k (tm.get (.tu []) (pth t)) := fun k => getK_eq _ _ _ _
      rw [e, e2] at hk ⊢
      obtain ⟨vs, h1, h2⟩ := ih hk
      refine ⟨_, h1, fun ρ nt w tmps hf hR => ?_⟩
      obtain ⟨us, h3, h4⟩ := h2 ρ nt w tmps hf hR
      refine ⟨_, h3.cons (hf.2 t), ?_⟩
      rw [List.mapM_cons]
      simp only [resM, Sem.run_bind, Sem.run_pure, Result.andThen_ok, h4]
    | cell a t =>
      have e : resK E (.cell a t :: l) tm h k = Option.rec (.er 170) (fun i => opT a tm fun v => ld i h v fun x => resK E l tm h fun l => k (x :: l)) (E.ti t) := rfl
      have e2 : ∀ k : AV → R, opT a tm k = k (tm.get (.tu []) (pth a)) := fun k => getK_eq _ _ _ _
      rw [e] at hk ⊢
      cases ht : E.ti t with
      | none => rw [ht] at hk; exact (ok_er hk).elim
      | some i =>
        rw [ht] at hk
        simp only [e2] at hk ⊢
        obtain ⟨r, h1, h2⟩ := ld_inv (tok hE ht) hk
        rw [h1] at hk ⊢
        obtain ⟨vs, h3, h4⟩ := ih hk
        refine ⟨_, h3, fun ρ nt w tmps hf hR => ?_⟩
        obtain ⟨us, h5, h6⟩ := h4 ρ nt w tmps hf hR
        obtain ⟨r', h7, h8⟩ := h2 ρ w _ (hf.2 a) hR
        have h9 : (resM tmps (.cell a t)).run E.P w = .ok r' w := by
          show (do loadVar t (← asAddr (tmps.getD a undef)) : Sem Value).run E.P w = .ok r' w
          unfold Instr.loadAt at h8
          generalize tmps.getD a undef = u at h8 ⊢
          unfold Instr.sureAddr at h8
          unfold asAddr
          cases u with
          | pointer p => cases p with
            | none => simp at h8
            | some q => exact h8
          | _ => simp at h8
        refine ⟨_, h5.cons h7, ?_⟩
        rw [List.mapM_cons, Sem.run_bind, h9]
        simp only [Sem.run_bind, Sem.run_pure, Result.andThen_ok, h6]
theorem oneV_rel {vs : List AV} {us : List Value} (h : VRs ρ vs us) : VR ρ (oneV vs) (if h : us.toArray.size = 1 then us.toArray[0] else .tuple us.toArray) := by
  by_cases h1 : us.length = 1
  · obtain ⟨u, rfl⟩ := List.length_eq_one_iff.1 h1
    obtain ⟨v, rfl⟩ := List.length_eq_one_iff.1 (h.1.symm.trans h1)
    exact h.2 0 v u rfl rfl
  · have h2 : vs.length ≠ 1 := fun e => h1 (h.1.trans e)
    have e : oneV vs = .tu vs := by
      unfold oneV
      split
      · exact absurd rfl h2
      · rfl
    rw [e, dif_neg (by simpa using h1)]
    exact VR.tu' h
theorem run_results {P : Program} {fn : Func} {tmps : Array Value} {us : List Value} (h : (fn.results.toList.mapM (resM tmps)).run P w = .ok us w) :
    (results fn tmps).run P w = .ok (if h : us.toArray.size = 1 then us.toArray[0] else .tuple us.toArray) w := by
  have e : results fn tmps = (do let vs ← fn.results.mapM (resM tmps); pure (if h : vs.size = 1 then vs[0] else .tuple vs)) := rfl
  rw [e, Sem.run_bind, Array.mapM_eq_mapM_toList, Sem.run_map, h]
  rfl
theorem bareK_inv {r : R} {k : Tr AO → Pn → R} (h : Ok (bareK r k)) : ∃ tm h' n, (r = .nm tm [] h' n ∨ r = .rt tm [] h' n) ∧ bareK r k = k h' n := by
  cases r with
  | er c => exact (ok_er h).elim
  | nm tm df h' n => cases df with
    | nil => exact ⟨tm, h', n, .inl rfl, rfl⟩
    | cons a l => exact (ok_er h).elim
  | ex id tm df h' n => exact (ok_er h).elim
  | rt tm df h' n => cases df with
    | nil => exact ⟨tm, h', n, .inr rfl, rfl⟩
    | cons a l => exact (ok_er h).elim
  | al a b => exact (ok_er h).elim
theorem ok_nm {r : R} {tm : Tr AV} {df : List AD} {h : Tr AO} {n : Pn} (e : r = .nm tm df h n ∨ r = .rt tm df h n) : Ok r ∧ endN r = n := by
  rcases e with rfl | rfl <;> exact ⟨trivial, rfl⟩
theorem post_nm {nt : Nat} {n : Pn} {r : R} {tm : Tr AV} {df : List AD} {h : Tr AO} {n' : Pn} {Q : Exit → Act → World → Prop} (e : r = .nm tm df h n' ∨ r = .rt tm df h n')
    (hq : ∀ ρ' a' w', Step ρ H w n ρ' (hv h) w' n' → FR ρ' nt tm a'.tmps → DR E ρ' df a'.defers → Q .normal a' w' ∧ Q .ret a' w') : PostR E nt ρ H w n Q r := by
  rcases e with rfl | rfl
  · exact fun ρ' a' w' h1 h2 h3 => (hq ρ' a' w' h1 h2 h3).1
  · exact fun ρ' a' w' h1 h2 h3 => (hq ρ' a' w' h1 h2 h3).2
theorem DR.nil {ds : List Deferred} (h : DR E ρ [] ds) : ds = [] := by cases ds with
  | nil => rfl
  | cons d ds => exact h.elim
theorem body_of {f : FuncId} (h : hasBody E f = true) : ∃ fn c, E.fn f = some fn ∧ fn.body = some c ∧ fn.results = #[] := by
  unfold hasBody at h
  split at h
  · rename_i fn hf
    rw [Bool.and_eq_true] at h
    obtain ⟨c, hc⟩ := Option.isSome_iff_exists.1 h.1
    refine ⟨fn, c, hf, hc, ?_⟩
    have := List.isEmpty_iff.1 h.2
    simpa using this
  · cases h
theorem run_callFunc (hE : EOK E) {f : FuncId} {fn : Func} {c : Code} (hf : E.fn f = some fn) (hc : fn.body = some c) (args : Array Value) (w : World) : (callFunc f args).run E.P w = .ok (.enter f args) w := by
  obtain ⟨h1, h2⟩ := hE.fn f fn hf
  have h3 : fn.name ≠ "runtime.NumGoroutine" := by simpa using h2
  simp [callFunc, h1, h3, hc]
theorem runD_inv (hE : EOK E) {B : Bd} (hB : BdOK E B) (df : List AD) : ∀ {h : Tr AO} {n : Pn} {k : Tr AO → Pn → R}, Ok (runD B df h n k) → ∃ h2 n2, runD B df h n k = k h2 n2 ∧ n.nat ≤ n2.nat ∧
    ∀ (ρ : Ren) (w : World) (ds : List Deferred) (fn : Func) (tmps : Array Value) (T : Ending → World → Prop), GL E ρ → DR E ρ df ds → Rel ρ (hv h) w → Fresh ρ (hv h) n n2 →
      (∀ ρ' w', Step ρ (hv h) w n ρ' (hv h2) w' n2 → ∃ v, (results fn tmps).run E.P w' = .ok v w' ∧ T (.returned v) w') → LeavesInM (FW none) 0 E.P fn tmps T ds .returning w := by
  induction df with
  | nil =>
    intro h n k hk
    refine ⟨h, n, rfl, Nat.le_refl _, fun ρ w ds fn tmps T hg hd hR hF ht => ?_⟩
    rw [hd.nil]
    obtain ⟨v, h1, h2⟩ := ht ρ w (Step.refl hR)
    exact ⟨v, h1, h2⟩
  | cons d df ih =>
    intro h n k hk
    cases d with
    | fn g us =>
      have e : runD B (.fn g us :: df) h n k = bareK (B (.fn g us) h n) fun h n => runD B df h n k := rfl
      rw [e] at hk ⊢
      obtain ⟨tm, h1, n1, h2, h3⟩ := bareK_inv hk
      rw [h3] at hk ⊢
      obtain ⟨hok, hen⟩ := ok_nm h2
      obtain ⟨h4, n4, h5, h6, h7⟩ := ih hk
      obtain ⟨hle, hsem⟩ := hB.fn g us h n hok
      rw [hen] at hle hsem
      refine ⟨h4, n4, h5, by omega, fun ρ w ds fn tmps T hg hd hR hF ht => ?_⟩
      cases ds with
      | nil => exact hd.elim
      | cons d ds =>
        obtain ⟨⟨hb, cap, q1, q2⟩, q3⟩ := hd
        obtain ⟨fg, c, g1, g2, g3⟩ := body_of hb
        refine ⟨by simp, .inr ⟨fun h => (by cases h), .func g, cap, g, d.args ++ cap, q1, ?_, fun _ _ => trivial, ?_⟩⟩
        · rw [q1]; exact run_callFunc hE g1 g2 _ w
        · have hwp := hsem fg c g1 g2 ρ w (d.args ++ cap) hR hg q2 (hF.left h6)
            (bodyPost E.P fg (fun e w' => match e with | .returned _ => ∃ ρ', Step ρ (hv h) w n ρ' (hv h1) w' n1 | _ => False)) (post_nm h2 fun ρ' a' w' s1 s2 s3 => by
              have hnil := s3.nil
              have hr0 : (results fg a'.tmps).run E.P w' = .ok (.tuple #[]) w' := by
                unfold results
                rw [g3]
                simp
              exact ⟨⟨hnil, _, hr0, ρ', s1⟩, ⟨hnil, _, hr0, ρ', s1⟩⟩)
          have hcd := callsDIn_of_wp (u := .returning) (hE.fn g fg g1).1 g2 trivial hwp
          refine hcd.mono fun e u' w' hr => ?_
          obtain ⟨rfl, hr⟩ := hr
          cases e with
          | panicked c => exact hr.elim
          | outgrown => exact hr.elim
          | returned v =>
            obtain ⟨ρ', hst⟩ := hr
            exact h7 ρ' w' ds fn tmps T (hg.mono hst.ext) (q3.mono hst.ext) hst.rel (hF.right hst) (fun ρ2 w2 s2 => ht ρ2 w2 (hst.trans s2))
    | mk b =>
      have e : runD B (.mk b :: df) h n k = h.getK .x b fun o => dqK o fun _ => h.setK .x (.dq true) b fun h => runD B df h n k := rfl
      rw [e] at hk ⊢
      rw [getK_eq] at hk ⊢
      have hdq : h.get .x b = .dq false ∧ dqK (h.get .x b) (fun _ => h.setK .x (.dq true) b fun h => runD B df h n k) = h.setK .x (.dq true) b fun h => runD B df h n k := by
        cases ho : h.get .x b with
        | dq t => cases t with
          | false => exact ⟨rfl, rfl⟩
          | true => rw [ho] at hk; exact (ok_er hk).elim
        | _ => rw [ho] at hk; exact (ok_er hk).elim
      rw [hdq.2, setK_eq] at hk ⊢
      obtain ⟨h4, n4, h5, h6, h7⟩ := ih hk
      refine ⟨h4, n4, h5, h6, fun ρ w ds fn tmps T hg hd hR hF ht => ?_⟩
      cases ds with
      | nil => exact hd.elim
      | cons d ds =>
        obtain ⟨⟨t, q1, rfl⟩, q3⟩ := hd
        have hob := hR.ob b (by show h.get .x b ≠ .x; rw [hdq.1]; simp)
        rw [show hv h b = .dq false from hdq.1] at hob
        obtain ⟨t', p1, p2⟩ := hob
        obtain rfl := Option.some.inj (q1.symm.trans p1)
        have p2 : w.heap[t.c]? = some (.deferred (some [])) := p2
        refine ⟨by simp, .inl ⟨t.c, w.putObj t.c (.deferred none), rfl, run_takeDeferred p2, ?_⟩⟩
        have hst : Step ρ (hv h) w n ρ (hv (h.put .x (.dq true) b)) (w.putObj t.c (.deferred none)) n := by
          rw [hv_put]
          exact Step.obj hR (by show own (h.get .x b); rw [hdq.1]; exact ⟨by simp, by simp⟩) q1 ⟨by simp, by simp⟩ rfl p2
        exact h7 ρ _ ds fn tmps T hg q3 hst.rel (hF.right hst) (fun ρ2 w2 s2 => ht ρ2 w2 (hst.trans s2))
def CallS (E : Env) (f : FuncId) (us : List AV) (h : Tr AO) (n : Pn) (v : AV) (h' : Tr AO) (n' : Pn) : Prop :=
  n.nat ≤ n'.nat ∧ ∀ (ρ : Ren) (w : World) (args : Array Value), GL E ρ → VRs ρ us args.toList → Rel ρ (hv h) w → Fresh ρ (hv h) n n' →
    NxR E.P (callFunc f args) w fun v' w' => ∃ ρ', Step ρ (hv h) w n ρ' (hv h') w' n' ∧ VR ρ' v v'
def CallA (E : Env) (f : FuncId) (us : List AV) (h : Tr AO) (n : Pn) (o : Ot) : Prop :=
  n.nat ≤ o.top.nat ∧ ∀ (ρ : Ren) (w : World) (args : Array Value), GL E ρ → VRs ρ us args.toList → Rel ρ (hv h) w → Fresh ρ (hv h) n o.top →
    NxR E.P (callFunc f args) w fun v' w' => ∃ v h' n', o.has v h' n' ∧ ∃ ρ', Step ρ (hv h) w n ρ' (hv h') w' n' ∧ VR ρ' v v'
theorem NxR.imp {P : Program} {s : Sem Next} {w : World} {T T' : Value → World → Prop} (h : NxR P s w T) (hT : ∀ v w', T v w' → T' v w') : NxR P s w T' := by
  obtain ⟨nx, w1, h1, h2⟩ := h
  refine ⟨nx, w1, h1, ?_⟩
  have hR : ∀ e w', RetT T e w' → RetT T' e w' := fun e w' hr => by
    cases e with
    | returned v => exact hT _ _ hr
    | panicked c => exact hr
    | outgrown => exact hr
  cases nx <;> first | exact h2.elim | exact hT _ _ h2 | exact CallsIn.mono h2 hR | exact RoundIn.mono h2 hR
theorem CallS.all {f : FuncId} {us : List AV} {h : Tr AO} {n : Pn} {v : AV} {h' : Tr AO} {n' : Pn} (hc : CallS E f us h n v h' n') : CallA E f us h n (.one v h' n') :=
  ⟨hc.1, fun ρ w args hg ha hR hF => (hc.2 ρ w args hg ha hR hF).imp fun _ _ ⟨ρ', s, r⟩ => ⟨v, h', n', ⟨rfl, rfl, rfl⟩, ρ', s, r⟩⟩
theorem callB_inv (hE : EOK E) {B : Bd} (hB : BdOK E B) {f : FuncId} {us : List AV} {h : Tr AO} {n : Pn} {k : AV → Tr AO → Pn → R} (hk : Ok (callB E f us B h n k)) :
    ∃ o : Ot, callB E f us B h n k = o.app k ∧ n.nat ≤ o.top.nat ∧ ∀ (ρ : Ren) (w : World) (args : Array Value), GL E ρ → VRs ρ us args.toList → Rel ρ (hv h) w → Fresh ρ (hv h) n o.top →
      (callFunc f args).run E.P w = .ok (.enter f args) w ∧ CallsIn (FW none) 0 E.P f args w (RetT fun v' w' => ∃ v h' n', o.has v h' n' ∧ ∃ ρ', Step ρ (hv h) w n ρ' (hv h') w' n' ∧ VR ρ' v v') := by
  unfold callB at hk ⊢
  cases hf : E.fn f with
  | none => rw [hf] at hk; exact (ok_er hk).elim
  | some fn =>
    rw [hf] at hk
    simp only at hk ⊢
    cases hc : fn.body with
    | none => rw [hc] at hk; exact (ok_er hk).elim
    | some c =>
      rw [hc] at hk
      simp only at hk ⊢
      have key : ∀ r : R, Ok (leftK r fun tm df h n => endK E fn B tm df h n k) → ∃ o : Ot, (leftK r fun tm df h n => endK E fn B tm df h n k) = o.app k ∧ (endN r).nat ≤ o.top.nat ∧ Ok r ∧
          ∀ (D : AV → Tr AO → Pn → Prop), (∀ v h n, o.has v h n → D v h n) → ∀ (ρ : Ren) (w : World) (N : Pn), GL E ρ → Fresh ρ (hv h) n N → o.top.nat ≤ N.nat →
            PostR E fn.ntmps ρ (hv h) w n (bodyPostM (FW none) 0 E.P fn (RetT fun v' w' => ∃ v h' n', D v h' n' ∧ ∃ ρ', Step ρ (hv h) w n ρ' (hv h') w' n' ∧ VR ρ' v v')) r := by
        have leaf : ∀ (tm : Tr AV) (df : List AD) (h1 : Tr AO) (n1 : Pn), Ok (endK E fn B tm df h1 n1 k) → ∃ v h4 n4, endK E fn B tm df h1 n1 k = k v h4 n4 ∧ n1.nat ≤ n4.nat ∧
            ∀ (D : AV → Tr AO → Pn → Prop), D v h4 n4 → ∀ (ρ : Ren) (w : World) (N : Pn), GL E ρ → Fresh ρ (hv h) n N → n4.nat ≤ N.nat → ∀ ρ' (a' : Act) w', Step ρ (hv h) w n ρ' (hv h1) w' n1 → FR ρ' fn.ntmps tm a'.tmps → DR E ρ' df a'.defers →
              LeavesInM (FW none) 0 E.P fn a'.tmps (RetT fun v' w' => ∃ v h' n', D v h' n' ∧ ∃ ρ', Step ρ (hv h) w n ρ' (hv h') w' n' ∧ VR ρ' v v') a'.defers .returning w' := by
          intro tm df h1 n1 hk
          unfold endK at hk ⊢
          obtain ⟨h4, n4, h5, h6, h7⟩ := runD_inv hE hB df hk
          rw [h5] at hk ⊢
          obtain ⟨vs, h8, h9⟩ := resK_inv hE _ hk
          refine ⟨_, _, _, h8, h6, fun D hD ρ w N hg hF hN ρ' a' w' s1 s2 s3 => ?_⟩
          refine h7 ρ' w' a'.defers fn a'.tmps _ (hg.mono s1.ext) s3 s1.rel ((hF.left hN).right s1) fun ρ2 w2 s4 => ?_
          obtain ⟨us', q1, q2⟩ := h9 ρ2 fn.ntmps w2 a'.tmps (s2.mono s4.ext) s4.rel
          exact ⟨_, run_results q2, _, _, _, hD, ρ2, s1.trans s4, oneV_rel q1⟩
        intro r
        induction r with
        | er c => exact fun hk => (ok_er hk).elim
        | ex id tm df h1 n1 => exact fun hk => (ok_er hk).elim
        | nm tm df h1 n1 =>
          intro hk
          obtain ⟨v, h4, n4, g1, g2, g3⟩ := leaf tm df h1 n1 hk
          exact ⟨.one v h4 n4, g1, g2, trivial, fun D hD ρ w N hg hF hN ρ' a' w' s1 s2 s3 => g3 D (hD _ _ _ ⟨rfl, rfl, rfl⟩) ρ w N hg hF hN ρ' a' w' s1 s2 s3⟩
        | rt tm df h1 n1 =>
          intro hk
          obtain ⟨v, h4, n4, g1, g2, g3⟩ := leaf tm df h1 n1 hk
          exact ⟨.one v h4 n4, g1, g2, trivial, fun D hD ρ w N hg hF hN ρ' a' w' s1 s2 s3 => g3 D (hD _ _ _ ⟨rfl, rfl, rfl⟩) ρ w N hg hF hN ρ' a' w' s1 s2 s3⟩
        | al a b ih1 ih2 =>
          intro hk
          obtain ⟨o1, g1, g2, g3, g4⟩ := ih1 hk.1
          obtain ⟨o2, q1, q2, q3, q4⟩ := ih2 hk.2
          refine ⟨.al o1 o2, ?_, ?_, ⟨g3, q3⟩, fun D hD ρ w N hg hF hN => ⟨g4 D (fun v h n hh => hD v h n (.inl hh)) ρ w N hg hF (Nat.le_trans (mx_l _ _) hN), q4 D (fun v h n hh => hD v h n (.inr hh)) ρ w N hg hF (Nat.le_trans (mx_r _ _) hN)⟩⟩
          · show R.al _ _ = R.al _ _
            rw [← g1, ← q1]
            rfl
          · show (mx (endN a) (endN b)).nat ≤ (mx o1.top o2.top).nat
            rcases mx_or (endN a) (endN b) with e | e
            · rw [e]; exact Nat.le_trans g2 (mx_l _ _)
            · rw [e]; exact Nat.le_trans q2 (mx_r _ _)
      obtain ⟨o, g1, g2, g3, g4⟩ := key _ hk
      obtain ⟨hle, hsem⟩ := hB.fn f us h n g3
      refine ⟨o, g1, Nat.le_trans hle g2, fun ρ w args hg ha hR hF => ⟨run_callFunc hE hf hc args w, ?_⟩⟩
      have hp := g4 (fun v h n => o.has v h n) (fun _ _ _ h => h) ρ w o.top hg hF (Nat.le_refl _)
      refine callsIn_of_wp_marks (hE.fn f fn hf).1 hc trivial (hsem fn c hf hc ρ w args hR hg ha (hF.left g2) _ ?_)
      exact hp
def IxOK (E : Env) (ix : FuncId → Option Ix) : Prop := ∀ f g, ix f = some g → ∀ B, BdOK E B → ∀ us h n k, Ok (g B us h n k) → ∃ o : Ot, g B us h n k = o.app k ∧ CallA E f us h n o
def IxOK1 (E : Env) (ix : FuncId → Option Ix) : Prop := ∀ f g, ix f = some g → ∀ B, BdOK E B → ∀ us h n k, Ok (g B us h n k) → ∃ v h' n', g B us h n k = k v h' n' ∧ CallS E f us h n v h' n'
theorem IxOK1.all {ix : FuncId → Option Ix} (h : IxOK1 E ix) : IxOK E ix := fun f g hg B hB us hh n k hk => by
  obtain ⟨v, h', n', h1, h2⟩ := h f g hg B hB us hh n k hk
  exact ⟨.one v h' n', h1, h2.all⟩
theorem callK_inv (hE : EOK E) {ix : FuncId → Option Ix} (hI : IxOK E ix) {B : Bd} (hB : BdOK E B) {f : FuncId} {us : List AV} {h : Tr AO} {n : Pn} {k : AV → Tr AO → Pn → R} (hk : Ok (callK E ix f us B h n k)) :
    ∃ o : Ot, callK E ix f us B h n k = o.app k ∧ CallA E f us h n o := by
  unfold callK at hk ⊢
  cases hi : ix f with
  | some g =>
    rw [hi] at hk
    exact hI f g hi B hB us h n k hk
  | none =>
    rw [hi] at hk
    simp only at hk ⊢
    obtain ⟨o, h1, h2, h3⟩ := callB_inv hE hB hk
    refine ⟨o, h1, h2, fun ρ w args hg ha hR hF => ?_⟩
    obtain ⟨h4, h5⟩ := h3 ρ w args hg ha hR hF
    exact ⟨_, _, h4, h5⟩
end
end Ax
end Go.Proofs.YtdfgnoflohfnmaaGreatDoor

/-! Calls of function values, of yields, of methods. -/

namespace Go.Proofs.YtdfgnoflohfnmaaGreatDoor
namespace Ax
section
variable {E : Env} {ρ : Ren} {H : Hp} {w w' : World}
theorem FR.put {nt : Nat} {tm : Tr AV} {tmps : Array Value} (h : FR ρ nt tm tmps) {p : Nat} (hp : p < nt) {v : AV} {v' : Value} (hv : VR ρ v v') : FR ρ nt (tm.put (.tu []) v (pth p)) (tmps.setIfInBounds p v') := by
  refine ⟨by simpa using h.1, fun t => ?_⟩
  by_cases e : t = p
  · subst e
    rw [get_put_same]
    have hlt : t < tmps.size := by rw [h.1]; exact hp
    have : (tmps.setIfInBounds t v').getD t undef = v' := by simp [Array.getD, hlt]
    rw [this]
    exact hv
  · rw [get_put_other _ _ _ _ (fun x => e (pth_inj x).symm)]
    have : (tmps.setIfInBounds p v').getD t undef = tmps.getD t undef := by
      simp only [Array.getD_eq_getD_getElem?]
      rw [Array.getElem?_setIfInBounds_ne (fun x => e x.symm)]
    rw [this]
    exact h.2 t
theorem parsK_inv {nt : Nat} (ps : List Nat) : ∀ {us : List AV} {tm : Tr AV} {k : Tr AV → R}, Ok (parsK nt ps us tm k) → us.length = ps.length ∧ ∃ tm', parsK nt ps us tm k = k tm' ∧
    ∀ (ρ : Ren) (args : List Value) (tmps : Array Value), VRs ρ us args → FR ρ nt tm tmps → FR ρ nt tm' ((ps.zip args).foldl (fun tmps (t, a) => tmps.setIfInBounds t a) tmps) := by
  induction ps with
  | nil =>
    intro us tm k h
    cases us with
    | nil => exact ⟨rfl, tm, rfl, fun ρ args tmps _ h => h⟩
    | cons u us => exact (ok_er h).elim
  | cons p ps ih =>
    intro us tm k h
    cases us with
    | nil => exact (ok_er h).elim
    | cons u us =>
      have e : parsK nt (p :: ps) (u :: us) tm k = ifK (Nat.ble (p + 1) nt) 179 fun _ => tm.setK (.tu []) u (pth p) fun t => parsK nt ps us t k := rfl
      rw [e] at h ⊢
      obtain ⟨h1, h2⟩ := ifK_inv h
      rw [h2] at h ⊢
      rw [setK_eq] at h ⊢
      obtain ⟨h3, tm', h4, h5⟩ := ih h
      refine ⟨by simp [h3], tm', h4, fun ρ args tmps ha hf => ?_⟩
      obtain ⟨a, r, rfl, g1, g2⟩ := ha.cons_inv
      exact h5 ρ r _ g2 (hf.put (ble_iff.1 h1) g1)
theorem lpK_inv {o : AO} {k : Nat → Option Code → Nat → Tr AV → List Nat → Code → Code → Pn → R} (h : Ok (lpK o k)) : ∃ st pend nt tm ps a b dq, o = .lp st pend nt tm ps a b dq ∧ lpK o k = k st pend nt tm ps a b dq := by
  cases o with
  | lp st pend nt tm ps a b dq => exact ⟨st, pend, nt, tm, ps, a, b, dq, rfl, rfl⟩
  | _ => exact (ok_er h).elim
theorem loop_rel (h : Rel ρ H w) {b : Pn} {st nt : Nat} {pend : Option Code} {tm : Tr AV} {ps : List Nat} {x y : Code} {dq : Pn} (hb : H b = .lp st pend nt tm ps x y dq) :
    ∃ (t t' : Bk) (fn : FuncId) (tmps : Array Value), ρ b = some t ∧ ρ dq = some t' ∧ FR ρ nt tm tmps ∧ w.heap[t.c]? = some (.loop { state := lst st, pending := pend, fn, tmps, params := ps.toArray, assign := x, body := y, defers := t'.c }) := by
  obtain ⟨t, h1, h2⟩ := h.ob b (by rw [hb]; simp)
  rw [hb] at h2
  obtain ⟨fn, tmps, s, t', h3, h4, h5, h6⟩ := h2
  subst h5
  exact ⟨t, t', fn, tmps, h1, h4, h6, h3⟩
theorem own_lp {o : AO} {st nt : Nat} {pend : Option Code} {tm : Tr AV} {ps : List Nat} {x y : Code} {dq : Pn} (h : o = .lp st pend nt tm ps x y dq) : own o := by subst h; exact ⟨by simp, by simp⟩
theorem loop_step {n : Pn} (h : Rel ρ H w) {b : Pn} {st nt st' : Nat} {pend pend' : Option Code} {tm : Tr AV} {ps : List Nat} {x y : Code} {dq : Pn} (hb : H b = .lp st pend nt tm ps x y dq) {t t' : Bk} {fn : FuncId} {tmps : Array Value} {s' : LoopState}
    (h1 : ρ b = some t) (h2 : ρ dq = some t') (h3 : FR ρ nt tm tmps) {ob : Obj} (hg : w.heap[t.c]? = some ob) (hs : s' = lst st') :
    Step ρ H w n ρ (upd H b (.lp st' pend' nt tm ps x y dq)) (w.putObj t.c (.loop { state := s', pending := pend', fn, tmps, params := ps.toArray, assign := x, body := y, defers := t'.c })) n :=
  Step.obj h (own_lp hb) h1 ⟨by simp, by simp⟩ ⟨fn, tmps, s', t', rfl, h2, hs, h3⟩ hg
theorem asgK_inv {r : R} {k : Tr AV → Tr AO → Pn → R} (h : Ok (asgK r k)) : ∃ tm h' n, r = .nm tm [] h' n ∧ asgK r k = k tm h' n := by
  cases r with
  | nm tm df h' n => cases df with
    | nil => exact ⟨tm, h', n, rfl, rfl⟩
    | cons a l => exact (ok_er h).elim
  | _ => exact (ok_er h).elim
theorem setLp_inv {b : Pn} {st : Nat} {pend : Option Code} {h : Tr AO} {k : Tr AO → R} (hk : Ok (setLp b st pend h k)) : ∃ st0 pend0 nt tm ps x y dq, h.get .x b = .lp st0 pend0 nt tm ps x y dq ∧ setLp b st pend h k = k (h.put .x (.lp st pend nt tm ps x y dq) b) := by
  unfold setLp at hk ⊢
  rw [getK_eq] at hk ⊢
  obtain ⟨st0, pend0, nt, tm, ps, x, y, dq, h1, h2⟩ := lpK_inv hk
  rw [h2] at hk ⊢
  exact ⟨st0, pend0, nt, tm, ps, x, y, dq, h1, by rw [setK_eq]⟩
theorem roundK_inv {P : Program} {b : Pn} {r : R} {k : AV → Tr AO → Pn → R} (hk : Ok (roundK b r k)) : ∃ x h' n', roundK b r k = k (.b x) h' n' ∧ Ok r ∧ endN r = n' ∧
    ∀ (E : Env) (nt : Nat) (ρ : Ren) (H : Hp) (w : World) (n : Pn) (t : Bk) (T : Ending → World → Prop), ρ b = some t → (∀ ρ' w', Step ρ H w n ρ' (hv h') w' n' → T (.returned (.bool x)) w') → PostR E nt ρ H w n (roundPost P t.c T) r := by
  have key : ∀ (st : Nat) (jump : Option Code) (h3 : Tr AO) (n3 : Pn), lst st = (if jump.isNone then .ready else .done) → ∀ k : Tr AO → R, Ok (setLp b st jump h3 k) → ∃ h', setLp b st jump h3 k = k h' ∧
      ∀ (ρ : Ren) (H : Hp) (w : World) (n : Pn) (t : Bk) (ρ' : Ren) (w' : World), ρ b = some t → Step ρ H w n ρ' (hv h3) w' n3 → ∃ w'', (Instr.endRound t.c jump).run P w' = .ok (.bool jump.isNone) w'' ∧ Step ρ H w n ρ' (hv h') w'' n3 := by
    intro st jump h3 n3 hl k hk
    obtain ⟨st0, pend0, nt0, tm0, ps, x, y, dq, h4, h5⟩ := setLp_inv hk
    refine ⟨_, h5, fun ρ H w n t ρ' w' ht hs => ?_⟩
    obtain ⟨t1, t', fn, tmps, g1, g2, g3, g4⟩ := loop_rel hs.rel h4
    obtain rfl := Option.some.inj ((hs.ext _ _ ht).symm.trans g1)
    refine ⟨_, run_endRound jump g4, ?_⟩
    rw [hv_put]
    exact hs.trans (loop_step hs.rel h4 g1 g2 g3 g4 hl.symm)
  cases r with
  | er c => exact (ok_er hk).elim
  | al a b => exact (ok_er hk).elim
  | nm tm df h3 n3 => cases df with
    | cons a l => exact (ok_er hk).elim
    | nil =>
      have e : roundK b (.nm tm [] h3 n3) k = setLp b 0 none h3 fun h => k (.b true) h n3 := rfl
      rw [e] at hk ⊢
      obtain ⟨h', g1, g2⟩ := key 0 none h3 n3 rfl _ hk
      refine ⟨true, h', n3, g1, trivial, rfl, fun E nt ρ H w n t T ht hT => ?_⟩
      intro ρ' a' w' s1 _ _
      obtain ⟨w'', g3, g4⟩ := g2 ρ H w n t ρ' w' ht s1
      exact ⟨_, w'', g3, hT ρ' w'' g4⟩
  | ex id tm df h3 n3 => cases df with
    | cons a l => exact (ok_er hk).elim
    | nil =>
      have e : roundK b (.ex id tm [] h3 n3) k = setLp b 2 (some (.exit id)) h3 fun h => k (.b false) h n3 := rfl
      rw [e] at hk ⊢
      obtain ⟨h', g1, g2⟩ := key 2 (some (.exit id)) h3 n3 rfl _ hk
      refine ⟨false, h', n3, g1, trivial, rfl, fun E nt ρ H w n t T ht hT => ?_⟩
      intro ρ' a' w' s1 _ _
      obtain ⟨w'', g3, g4⟩ := g2 ρ H w n t ρ' w' ht s1
      exact ⟨_, w'', g3, hT ρ' w'' g4⟩
  | rt tm df h3 n3 => cases df with
    | cons a l => exact (ok_er hk).elim
    | nil =>
      have e : roundK b (.rt tm [] h3 n3) k = setLp b 2 (some .ret) h3 fun h => k (.b false) h n3 := rfl
      rw [e] at hk ⊢
      obtain ⟨h', g1, g2⟩ := key 2 (some .ret) h3 n3 rfl _ hk
      refine ⟨false, h', n3, g1, trivial, rfl, fun E nt ρ H w n t T ht hT => ?_⟩
      intro ρ' a' w' s1 _ _
      obtain ⟨w'', g3, g4⟩ := g2 ρ H w n t ρ' w' ht s1
      exact ⟨_, w'', g3, hT ρ' w'' g4⟩
theorem yieldK_inv {B : Bd} (hB : BdOK E B) {b : Pn} {us : List AV} {h : Tr AO} {n : Pn} {k : AV → Tr AO → Pn → R} (hk : Ok (yieldK b us B h n k)) :
    ∃ v h' n', yieldK b us B h n k = k v h' n' ∧ n.nat ≤ n'.nat ∧ ∀ (ρ : Ren) (w : World) (t : Bk) (args : Array Value), GL E ρ → ρ b = some t → VRs ρ us args.toList → Rel ρ (hv h) w → Fresh ρ (hv h) n n' →
      NxR E.P (Instr.yield t.c args) w fun v' w' => ∃ ρ', Step ρ (hv h) w n ρ' (hv h') w' n' ∧ VR ρ' v v' := by
  unfold yieldK at hk ⊢
  rw [getK_eq] at hk ⊢
  obtain ⟨st, pend, nt, tm, ps, x, y, dq, h1, h2⟩ := lpK_inv hk
  rw [h2] at hk ⊢
  obtain ⟨hlen, tm1, h3, h4⟩ := parsK_inv ps hk
  rw [h3] at hk ⊢
  obtain ⟨tm2, ha, n1, h5, h6⟩ := asgK_inv hk
  rw [h6] at hk ⊢
  rw [getK_eq] at hk ⊢
  obtain ⟨st', pend', nt', tm', ps', x', y', dq', h7, h8⟩ := lpK_inv hk
  rw [h8] at hk ⊢
  obtain ⟨h9, h10⟩ := ifK_inv hk
  rw [h10] at hk ⊢
  obtain rfl := beq_iff.1 h9
  rw [setK_eq] at hk ⊢
  obtain ⟨v, h', n', h11, h12, h13, h14⟩ := roundK_inv (P := E.P) hk
  obtain ⟨hle1, hsem1⟩ := hB.rd nt x tm1 h n (by rw [h5]; trivial)
  obtain ⟨hle2, hsem2⟩ := hB.rd nt y tm2 (ha.put .x (.lp 1 pend' nt' tm' ps' x' y' dq') b) n1 h12
  rw [h5] at hle1 hsem1
  rw [h13] at hle2 hsem2
  simp only [endN] at hle1 hsem1
  refine ⟨_, _, _, h11, by omega, fun ρ w t args hg ht hu hR hF => ?_⟩
  obtain ⟨t1, tq, fn, tmps, g1, g2, g3, g4⟩ := loop_rel hR h1
  obtain rfl := Option.some.inj (ht.symm.trans g1)
  have hsz : args.size = ps.toArray.size := by rw [← Array.length_toList, hu.1, hlen]; simp
  refine ⟨_, w, run_yield g4 hsz, ?_⟩
  refine roundIn_of_wpIn trivial ?_
  have hfold : (ps.toArray.zip args).foldl (fun tmps (t, a) => tmps.setIfInBounds t a) tmps = (ps.zip args.toList).foldl (fun tmps (t, a) => tmps.setIfInBounds t a) tmps := by
    rw [← Array.foldl_toList, Array.toList_zip]
  simp only [hfold]
  have hf1 := h4 ρ args.toList tmps hu g3
  refine hsem1 t.c ρ w _ hR hg hf1 (hF.left hle2) _ ?_
  intro ρ' a' w' s1 s2 s3
  show ∃ w₂, _ ∧ _
  obtain ⟨t2, tq', fn', tmps', q1, q2, q3, q4⟩ := loop_rel s1.rel h7
  obtain rfl := Option.some.inj ((s1.ext _ _ ht).symm.trans q1)
  have s4 := loop_step (n := n1) (fn := fn') (st' := 1) (pend' := pend') (s' := .busy) s1.rel h7 q1 q2 q3 q4 rfl
  rw [← hv_put] at s4
  refine ⟨_, run_beginRound q4 rfl, ?_⟩
  have ha' : a' = { tmps := a'.tmps, defers := [] } := by
    have := s3.nil
    cases a'
    simp at this
    subst this
    rfl
  rw [ha']
  refine hsem2 t.c ρ' _ a'.tmps s4.rel (hg.mono s1.ext) s2 ((hF.right s1).right s4) _ (h14 E nt ρ' _ _ n1 t _ q1 fun ρ2 w2 s5 => ?_)
  exact ⟨ρ2, (s1.trans s4).trans s5, .b v⟩
theorem VR.func_inv {fn : Fn} {l m : List AV} {v : Value} (h : VR ρ (.f fn l m) v) : ∃ a b : Array Value, v = .func fn a b ∧ VRs ρ l a.toList ∧ VRs ρ m b.toList := by
  cases h with
  | f h1 h2 h3 h4 => exact ⟨_, _, rfl, ⟨by simpa using h1, fun i x v p q => h3 i x v p (by simpa using q)⟩, ⟨by simpa using h2, fun i x v p q => h4 i x v p (by simpa using q)⟩⟩
theorem applyK_inv (hE : EOK E) {ix : FuncId → Option Ix} (hI : IxOK E ix) {B : Bd} (hB : BdOK E B) {fv : AV} {us : List AV} {h : Tr AO} {n : Pn} {k : AV → Tr AO → Pn → R} (hk : Ok (applyK E ix fv us B h n k)) :
    ∃ o : Ot, applyK E ix fv us B h n k = o.app k ∧ n.nat ≤ o.top.nat ∧ ∀ (ρ : Ren) (w : World) (fv' : Value) (args : Array Value), GL E ρ → VR ρ fv fv' → VRs ρ us args.toList → Rel ρ (hv h) w → Fresh ρ (hv h) n o.top →
      NxR E.P (do let d ← Deferred.ofValue fv' args; invoke d.target d.args) w fun v' w' => ∃ v h' n', o.has v h' n' ∧ ∃ ρ', Step ρ (hv h) w n ρ' (hv h') w' n' ∧ VR ρ' v v' := by
  unfold applyK at hk ⊢
  split at hk
  · rename_i g a c
    obtain ⟨o, h1, h2, h3⟩ := callK_inv hE hI hB hk
    refine ⟨o, h1, h2, fun ρ w fv' args hg hf hu hR hF => ?_⟩
    obtain ⟨a', c', rfl, g1, g2⟩ := hf.func_inv
    have := h3 ρ w (a' ++ args ++ c') hg (by simpa using (g1.append hu).append g2) hR hF
    exact this
  · rename_i b
    obtain ⟨v, h', n', h1, h2, h3⟩ := yieldK_inv hB hk
    refine ⟨.one v h' n', h1, h2, fun ρ w fv' args hg hf hu hR hF => ?_⟩
    obtain ⟨t, g1, rfl⟩ := hf.y_inv
    have := h3 ρ w t args hg g1 hu hR hF
    have e : (do let d ← Deferred.ofValue (.func (.yield t.c) #[] #[]) args; invoke d.target d.args : Sem Next) = Instr.yield t.c (#[] ++ args) := rfl
    rw [e, Array.empty_append]
    exact this.imp fun _ _ ⟨ρ', s, r⟩ => ⟨v, h', n', ⟨rfl, rfl, rfl⟩, ρ', s, r⟩
  · exact (ok_er hk).elim
theorem mth_inv (hE : EOK E) {t : TypeId} {name : String} {f : FuncId} {j : Option TI} (hm : mth E t name = some (f, j)) : 
    (j = none → ∀ (d : Nat) (v : Value) (w : World), (method (d + 1) t v name).run E.P w = .ok (f, v) w) ∧
    (∀ i, j = some i → ∃ e, TOK E.P e i ∧ ∀ (d : Nat) (a : Addr) (w : World) (v : Value), (Instr.loadAt e (.pointer (some a))).run E.P w = .ok v w → (method (d + 1) t (.pointer (some a)) name).run E.P w = .ok (f, v) w) := by
  unfold mth at hm
  split at hm
  · rename_i i hi
    split at hm
    · rename_i m hfind
      split at hm
      · rename_i g pr hpath hfunc
        have hfind' : Array.find? (fun x => x.name == name) i.methods = some m := hfind
        split at hm
        · rename_i e hu
          injection hm with hm
          obtain ⟨rfl, rfl⟩ := Prod.mk.inj hm
          refine ⟨fun _ d v w => ?_, fun i h => by cases h⟩
          simp [method, typeInfo, hi, hfind', hpath, follow, hfunc, receiverAt, run_underlying hu, Place.get]
        · rename_i e hu
          split at hm
          · rename_i j' hj
            injection hm with hm
            obtain ⟨rfl, rfl⟩ := Prod.mk.inj hm
            refine ⟨fun h => (by cases h), fun i' h => ?_⟩
            injection h with h
            subst h
            refine ⟨e, tok hE hj, fun d a w v hl => ?_⟩
            have hl' : (loadVar e a).run E.P w = .ok v w := hl
            have hwrap : ∀ s : String, Builtin.ssaWrapNilChk_ #[t] t #[.pointer (some a), strVal "", strVal s] = pure (.pointer (some a)) := fun s => rfl
            simp [method, typeInfo, hi, hfind', hpath, follow, hfunc, receiverAt, run_underlying hu, Place.get, hwrap, asAddr]
            split <;> simp [hl']
          · cases hm
        · rename_i d' hne hu
          injection hm with hm
          obtain ⟨rfl, rfl⟩ := Prod.mk.inj hm
          refine ⟨fun _ d v w => ?_, fun i h => by cases h⟩
          have hnp : ∀ e, d' ≠ .pointer e := fun e he => hne e (by rw [he])
          cases d' <;> first | exact absurd rfl (hnp _) | simp [method, typeInfo, hi, hfind', hpath, follow, hfunc, receiverAt, run_underlying hu, Place.get]
        · cases hm
      · cases hm
    · cases hm
  · cases hm
theorem mthV_inv (hE : EOK E) {t : TypeId} {name : String} {off : Nat} {j : TI} (hm : mthV E t name = some (off, j)) : ∃ ft, TOK E.P ft j ∧ ∀ (d : Nat) (a : Addr) (w : World) (t' : TypeId) (v' : Value),
    (Instr.loadAt ft (.pointer (some (a.add off)))).run E.P w = .ok (.iface t' v') w → (method (d + 1) t (.pointer (some a)) name).run E.P w = (method d t' v' name).run E.P w := by
  unfold mthV at hm
  split at hm
  · rename_i i hi
    split at hm
    · rename_i m hfind
      have hfind' : Array.find? (fun x => x.name == name) i.methods = some m := hfind
      split at hm
      · rename_i hfunc
        split at hm
        · rename_i s hpath
          split at hm
          · rename_i hdr
            split at hm
            · rename_i fields hu
              split at hm
              · rename_i f hf
                split at hm
                · rename_i j' hj
                  split at hm
                  · rename_i hz
                    injection hm with hm
                    obtain ⟨rfl, rfl⟩ := Prod.mk.inj hm
                    have hT := tok hE hj
                    refine ⟨f.type, hT, fun d a w t' v' hl => ?_⟩
                    have hl' : (loadVar f.type (a.add f.offset)).run E.P w = .ok (.iface t' v') w := hl
                    have hz' : ¬ (j'.size = 0) := fun e => by rw [e] at hz; cases hz
                    simp [method, typeInfo, hi, hfind', hpath, follow, hfunc, hdr, run_underlying hu, hf, Place.get, asAddr, fieldPlace, hT.run_size, hz', hl']
                  · cases hm
                · cases hm
              · cases hm
            · cases hm
          · cases hm
        · cases hm
      · cases hm
    · cases hm
  · cases hm
theorem NxR.of_run {P : Program} {s s' : Sem Next} {T : Value → World → Prop} (h : s.run P w = s'.run P w) (k : NxR P s' w T) : NxR P s w T := by
  obtain ⟨nx, w1, h1, h2⟩ := k
  exact ⟨nx, w1, h.trans h1, h2⟩
def callMeth (d : Nat) (recv : Value) (name : String) (args : Array Value) : Sem Next :=
  match recv with
  | .iface t v => do
    let (f, receiver) ← method (d + 1) t v name
    callFunc f (#[receiver] ++ args)
  | .nilIface => runtimePanic .nilDeref
  | _ => stuck "invoke: interface value expected"
theorem run_callMethod {P : Program} (recv : Value) (name : String) (args : Array Value) (w : World) : (callMethod recv name args).run P w = (callMeth (P.types.size + 99) recv name args).run P w := by
  have e : P.types.size + Made.depth = (P.types.size + 99) + 1 := rfl
  cases recv <;> simp only [callMethod, callMeth, Sem.run_bind, run_program, Result.andThen_ok, e]
theorem invoke1_inv (hE : EOK E) {ix : FuncId → Option Ix} (hI : IxOK E ix) {B : Bd} (hB : BdOK E B) {name : String} {v : AV} {us : List AV} {h : Tr AO} {n : Pn} {k : AV → Tr AO → Pn → R} (hk : Ok (invoke1 E ix name v us B h n k)) :
    ∃ o : Ot, invoke1 E ix name v us B h n k = o.app k ∧ n.nat ≤ o.top.nat ∧ ∀ (d : Nat) (ρ : Ren) (w : World) (v' : Value) (args : Array Value), GL E ρ → VR ρ v v' → VRs ρ us args.toList → Rel ρ (hv h) w → Fresh ρ (hv h) n o.top →
      NxR E.P (callMeth d v' name args) w fun r' w' => ∃ r h' n', o.has r h' n' ∧ ∃ ρ', Step ρ (hv h) w n ρ' (hv h') w' n' ∧ VR ρ' r r' := by
  unfold invoke1 at hk ⊢
  rcases asIfc_inv hk with ⟨rfl, h1⟩ | ⟨t, y, rfl, h1⟩
  · rw [h1] at hk; exact (ok_er hk).elim
  rw [h1] at hk ⊢
  cases hm : mth E t name with
  | none => rw [hm] at hk; exact (ok_er hk).elim
  | some p =>
    obtain ⟨f, j⟩ := p
    rw [hm] at hk
    obtain ⟨m1, m2⟩ := mth_inv hE hm
    cases j with
    | none =>
      simp only at hk ⊢
      obtain ⟨o, h2, h3, h4⟩ := callK_inv hE hI hB hk
      refine ⟨o, h2, h3, fun d ρ w v' args hg hv hu hR hF => ?_⟩
      obtain ⟨y', rfl, g1⟩ := hv.ifc_inv
      have hc := h4 ρ w (#[y'] ++ args) hg (by simpa using hu.cons g1) hR hF
      refine NxR.of_run ?_ hc
      have hmr := m1 rfl d y' w
      simp only [callMeth, Sem.run_bind, hmr, Result.andThen_ok]
    | some i =>
      simp only at hk ⊢
      obtain ⟨e, hT, hmr⟩ := m2 i rfl
      have hyp : ∃ b o, y = .p b o := by
        have hk2 := hk
        unfold ld at hk2
        cases ha : i.agg with
        | false => rw [ha] at hk2; obtain ⟨b, o, e, _⟩ := asP_inv hk2; exact ⟨b, o, e⟩
        | true => rw [ha] at hk2; obtain ⟨b, o, e, _⟩ := asP_inv hk2; exact ⟨b, o, e⟩
      obtain ⟨b, p, rfl⟩ := hyp
      obtain ⟨x, h5, h6⟩ := ld_inv hT hk
      rw [h5] at hk ⊢
      obtain ⟨o, h2, h3, h4⟩ := callK_inv hE hI hB hk
      refine ⟨o, h2, h3, fun d ρ w v' args hg hv hu hR hF => ?_⟩
      obtain ⟨y', rfl, g1⟩ := hv.ifc_inv
      obtain ⟨x', q1, q2⟩ := h6 ρ w y' g1 hR
      obtain ⟨t', _, rfl⟩ := g1.p_inv
      have hc := h4 ρ w (#[x'] ++ args) hg (by simpa using hu.cons q1) hR hF
      refine NxR.of_run ?_ hc
      have hmr := hmr d _ w x' q2
      simp only [callMeth, Sem.run_bind, hmr, Result.andThen_ok]
theorem invokeK_inv (hE : EOK E) {ix : FuncId → Option Ix} (hI : IxOK E ix) {B : Bd} (hB : BdOK E B) {name : String} {v : AV} {us : List AV} {h : Tr AO} {n : Pn} {k : AV → Tr AO → Pn → R} (hk : Ok (invokeK E ix name v us B h n k)) :
    ∃ o : Ot, invokeK E ix name v us B h n k = o.app k ∧ n.nat ≤ o.top.nat ∧ ∀ (ρ : Ren) (w : World) (v' : Value) (args : Array Value), GL E ρ → VR ρ v v' → VRs ρ us args.toList → Rel ρ (hv h) w → Fresh ρ (hv h) n o.top →
      NxR E.P (callMethod v' name args) w fun r' w' => ∃ r h' n', o.has r h' n' ∧ ∃ ρ', Step ρ (hv h) w n ρ' (hv h') w' n' ∧ VR ρ' r r' := by
  unfold invokeK at hk ⊢
  rcases asIfc_inv hk with ⟨rfl, h1⟩ | ⟨t, y, rfl, h1⟩
  · rw [h1] at hk; exact (ok_er hk).elim
  rw [h1] at hk ⊢
  cases hm : mthV E t name with
  | none =>
    rw [hm] at hk
    simp only at hk ⊢
    obtain ⟨o, h2, h3, h4⟩ := invoke1_inv hE hI hB hk
    exact ⟨o, h2, h3, fun ρ w v' args hg hv hu hR hF => NxR.of_run (run_callMethod _ _ _ _) (h4 _ ρ w v' args hg hv hu hR hF)⟩
  | some p =>
    obtain ⟨off, j⟩ := p
    rw [hm] at hk
    simp only at hk ⊢
    obtain ⟨ft, hT, hmr⟩ := mthV_inv hE hm
    obtain ⟨b, q, rfl, h2⟩ := asP_inv hk
    rw [h2] at hk ⊢
    obtain ⟨iv, h3, h4⟩ := ld_inv hT hk
    rw [h3] at hk ⊢
    have hiv := hk
    unfold invoke1 at hiv
    rcases asIfc_inv hiv with ⟨rfl, h5⟩ | ⟨t2, y2, rfl, h5⟩
    · rw [h5] at hiv; exact (ok_er hiv).elim
    obtain ⟨o, h6, h7, h8⟩ := invoke1_inv hE hI hB hk
    refine ⟨o, h6, h7, fun ρ w v' args hg hv hu hR hF => ?_⟩
    obtain ⟨y', rfl, g1⟩ := hv.ifc_inv
    obtain ⟨tb, g2, rfl⟩ := g1.p_inv
    obtain ⟨x', q1, q2⟩ := h4 ρ w _ (.p g2) hR
    obtain ⟨z', rfl, q3⟩ := q1.ifc_inv
    have hc := h8 (E.P.types.size + 98) ρ w (.iface t2 z') args hg q1 hu hR hF
    refine NxR.of_run ?_ hc
    rw [run_callMethod]
    have hadd : (⟨tb.c, tb.d + q, none⟩ : Addr).add off = ⟨tb.c, tb.d + (q + off), none⟩ := by rw [addr_add]; congr 1; omega
    have := hmr (E.P.types.size + 99) ⟨tb.c, tb.d + q, none⟩ w t2 z' (by rw [hadd]; exact q2)
    simp only [callMeth, Sem.run_bind]
    rw [this]
end
end Ax
end Go.Proofs.YtdfgnoflohfnmaaGreatDoor

/-! Every operation of the executor does what the model's does. -/

namespace Go.Proofs.YtdfgnoflohfnmaaGreatDoor
namespace Ax
def EfS (E : Env) (o : Oper) (f : Bd → Tr AV → Tr AO → Pn → (AV → Tr AO → Pn → R) → R) : Prop :=
  (∀ c, o.op ≠ .defer c) ∧ ∀ B, BdOK E B → ∀ tm h n k, Ok (f B tm h n k) → ∃ ot : Ot, f B tm h n k = ot.app k ∧ n.nat ≤ ot.top.nat ∧
    ∀ (ρ : Ren) (a : Act) (w : World), GL E ρ → VRo ρ tm a o → Rel ρ (hv h) w → Fresh ρ (hv h) n ot.top →
      ∀ (ro : Option Nat) (next : Act → World → Prop) (Q : Exit → Act → World → Prop), (∀ v h' n', ot.has v h' n' → ∀ ρ' v' w', Step ρ (hv h) w n ρ' (hv h') w' n' → VR ρ' v v' → next (a.put o.dst v') w') →
        o.uponIn (FW ro) 0 E.P a next Q ((execOp a.eval o).run E.P w)
def EfS1 (E : Env) (o : Oper) (f : Bd → Tr AV → Tr AO → Pn → (AV → Tr AO → Pn → R) → R) : Prop :=
  (∀ c, o.op ≠ .defer c) ∧ ∀ B, BdOK E B → ∀ tm h n k, Ok (f B tm h n k) → ∃ v h' n', f B tm h n k = k v h' n' ∧ n.nat ≤ n'.nat ∧
    ∀ (ρ : Ren) (a : Act) (w : World), GL E ρ → VRo ρ tm a o → Rel ρ (hv h) w → Fresh ρ (hv h) n n' →
      ∀ (ro : Option Nat) (next : Act → World → Prop) (Q : Exit → Act → World → Prop), (∀ ρ' v' w', Step ρ (hv h) w n ρ' (hv h') w' n' → VR ρ' v v' → next (a.put o.dst v') w') →
        o.uponIn (FW ro) 0 E.P a next Q ((execOp a.eval o).run E.P w)
theorem EfS.alone {E : Env} {o : Oper} {f : Bd → Tr AV → Tr AO → Pn → (AV → Tr AO → Pn → R) → R} (h : EfS E o f) : EfS1 E o (fun B tm h n k => oneK (f B tm h n pkO) k) := by
  refine ⟨h.1, fun B hB tm hh n k hk => ?_⟩
  have hk2 : Ok (f B tm hh n pkO) := by
    have hk3 := hk
    unfold oneK at hk3
    cases hr : f B tm hh n pkO with
    | er c => simp only [hr] at hk3; exact (ok_er hk3).elim
    | al a b => simp only [hr] at hk3; exact (ok_er hk3).elim
    | _ => trivial
  obtain ⟨ot, h1, h2, h3⟩ := h.2 B hB tm hh n pkO hk2
  simp only at hk ⊢
  rw [h1] at hk ⊢
  cases ot with
  | al a b => exact (ok_er hk).elim
  | one v h' n' =>
    refine ⟨v, h', n', rfl, h2, fun ρ a w hg hr hR hF ro next Q hn => ?_⟩
    exact h3 ρ a w hg hr hR hF ro next Q fun v2 h2' n2 hh ρ' v' w' s r => by
      obtain ⟨rfl, rfl, rfl⟩ := hh
      exact hn ρ' v' w' s r
def DeS (E : Env) (o : Oper) (f : Tr AV → (AD → R) → R) : Prop :=
  (∃ c, o.op = .defer c) ∧ ∀ tm k, Ok (f tm k) → ∃ ad, f tm k = k ad ∧ ∀ (ρ : Ren) (a : Act) (w : World), VRo ρ tm a o → ∃ d, (execOp a.eval o).run E.P w = .ok (.defer d) w ∧ DR E ρ [ad] [d]
def CS (E : Env) (o : Oper) : COp → Prop
  | .pu f => (∀ c, o.op ≠ .defer c) ∧ PuS E.P o f
  | .rd f => (∀ c, o.op ≠ .defer c) ∧ RdS E.P o f
  | .al f => (∀ c, o.op ≠ .defer c) ∧ AlS E.P o f
  | .ef f => EfS E o f
  | .de f => DeS E o f
  | .no _ => True
section
variable {E : Env} {o : Oper} {t u : TypeId} {x y : Operand}
theorem cs_ve {f : Tr AV → Tr AO → Pn → (AV → Tr AO → Pn → R) → R} (hnd : ∀ c, o.op ≠ .defer c) (h : VeS E.P o f) : CS E o (.ef fun _ => f) := by
  refine ⟨hnd, fun B _ tm hp n k hk => ?_⟩
  obtain ⟨v, h', n', h1, h2, h3⟩ := h tm hp n k hk
  refine ⟨.one v h' n', h1, h2, fun ρ a w _ hr hR hF ro next Q hn => ?_⟩
  obtain ⟨ρ', w', v', nx, g1, g2, g3, g4⟩ := h3 ρ a w hr hR hF
  rw [g1]
  rcases g2 with rfl | ⟨rfl, rfl⟩
  · exact hn v h' n' ⟨rfl, rfl, rfl⟩ ρ' v' w' g3 g4
  · exact hn v h' n' ⟨rfl, rfl, rfl⟩ ρ' undef w' g3 g4
theorem cs_pu {f : Tr AV → (AV → R) → R} (hnd : ∀ c, o.op ≠ .defer c) (h : PuS E.P o f) : CS E o (.pu f) := ⟨hnd, h⟩
theorem cs_rd {f : Tr AV → Tr AO → (AV → R) → R} (hnd : ∀ c, o.op ≠ .defer c) (h : RdS E.P o f) : CS E o (.rd f) := ⟨hnd, h⟩
theorem cs_al {f : Tr AV → Pn → (AV → AO → R) → R} (hnd : ∀ c, o.op ≠ .defer c) (h : AlS E.P o f) : CS E o (.al f) := ⟨hnd, h⟩
theorem cs_ex {c : COp} (hnd : ∀ c, o.op ≠ .defer c) (h : ∃ f, c = .pu f ∧ PuS E.P o f) : CS E o c := by
  obtain ⟨f, rfl, h⟩ := h
  exact ⟨hnd, h⟩
theorem eq_cs (hE : EOK E) (ho : o.op = .binOp .eql t x y u) : CS E o (eqK E t x y) := by
  have hnd : ∀ c, o.op ≠ .defer c := fun c => by rw [ho]; simp
  have hop : isEq2 .eql := .inl rfl
  have hex : ∀ {c : COp}, (∃ f, c = .pu f ∧ PuS E.P o (if isNeq .eql then fun tm k => f tm fun v => notB v k else f)) → CS E o c := fun h => cs_ex hnd h
  unfold eqK
  split
  · trivial
  · rename_i i hi
    split
    · rename_i e hd
      split
      · rename_i j hj
        split
        · rename_i hz; exact cs_rd hnd (rd_eq_ptr hE hi hd hj hz hop ho)
        · trivial
      · trivial
    · rename_i fs hd
      split
      · rename_i ks hks hg; exact hex (pu_eq_struct hE hi ⟨_, hd⟩ hks hg hop ho)
      · trivial
    · rename_i ms hd; exact hex (pu_eq_ifc hE hi hd hop ho)
    · rename_i hd; exact hex (pu_eq_pl hE hi (.inl ⟨rfl, hd⟩) hop ho)
    · rename_i q hd; exact hex (pu_eq_pl hE hi (.inr (.inl ⟨rfl, q, hd⟩)) hop ho)
    · rename_i hd; exact hex (pu_eq_pl hE hi (.inr (.inr ⟨rfl, hd⟩)) hop ho)
    · rename_i e hd; exact hex (pu_eq_sl hE hi hd hop ho)
    · rename_i kt e hd; exact hex (pu_eq_mp hE hi hd hop ho)
    · rename_i ps rs va hd; exact hex (pu_eq_fn hE hi hd hop ho)
    · rename_i n e hd
      split
      · rename_i j hj
        split
        · rename_i q hjd hg hz; exact hex (pu_eq_arr hE hi hd hj hjd hg hz hop ho)
        · trivial
      · trivial
    · trivial
theorem neq_cs (hE : EOK E) (ho : o.op = .binOp .neq t x y u) : CS E o (negC (eqK E t x y)) := by
  have hnd : ∀ c, o.op ≠ .defer c := fun c => by rw [ho]; simp
  have hop : isEq2 .neq := .inr rfl
  have hex : ∀ {c : COp}, (∃ f, c = .pu f ∧ PuS E.P o (if isNeq .neq then fun tm k => f tm fun v => notB v k else f)) → CS E o (negC c) := fun h => by
    obtain ⟨f, rfl, h⟩ := h
    exact ⟨hnd, h⟩
  unfold eqK
  split
  · trivial
  · rename_i i hi
    split
    · rename_i e hd
      split
      · rename_i j hj
        split
        · rename_i hz; exact cs_rd hnd (rd_eq_ptr hE hi hd hj hz hop ho)
        · trivial
      · trivial
    · rename_i fs hd
      split
      · rename_i ks hks hg; exact hex (pu_eq_struct hE hi ⟨_, hd⟩ hks hg hop ho)
      · trivial
    · rename_i ms hd; exact hex (pu_eq_ifc hE hi hd hop ho)
    · rename_i hd; exact hex (pu_eq_pl hE hi (.inl ⟨rfl, hd⟩) hop ho)
    · rename_i q hd; exact hex (pu_eq_pl hE hi (.inr (.inl ⟨rfl, q, hd⟩)) hop ho)
    · rename_i hd; exact hex (pu_eq_pl hE hi (.inr (.inr ⟨rfl, hd⟩)) hop ho)
    · rename_i e hd; exact hex (pu_eq_sl hE hi hd hop ho)
    · rename_i kt e hd; exact hex (pu_eq_mp hE hi hd hop ho)
    · rename_i ps rs va hd; exact hex (pu_eq_fn hE hi hd hop ho)
    · rename_i n e hd
      split
      · rename_i j hj
        split
        · rename_i q hjd hg hz; exact hex (pu_eq_arr hE hi hd hj hjd hg hz hop ho)
        · trivial
      · trivial
    · trivial
theorem bin_cs (hE : EOK E) {op : BinOp} (ho : o.op = .binOp op t x y u) : CS E o (binC E op t x y) := by
  have hnd : ∀ c, o.op ≠ .defer c := fun c => by rw [ho]; simp
  cases op with
  | add => exact cs_ex hnd (pu_add ho)
  | sub => exact cs_ex hnd (pu_sub ho)
  | mul => exact cs_ex hnd (pu_mul ho)
  | quo => exact cs_ex hnd (pu_quo ho)
  | rem => exact cs_ex hnd (pu_rem ho)
  | and => exact cs_ex hnd (pu_bits (.inl rfl) ho)
  | or => exact cs_ex hnd (pu_bits (.inr (.inl rfl)) ho)
  | xor => exact cs_ex hnd (pu_bits (.inr (.inr (.inl rfl))) ho)
  | andNot => exact cs_ex hnd (pu_bits (.inr (.inr (.inr rfl))) ho)
  | shl => exact cs_ex hnd (pu_shl ho)
  | shr => exact cs_ex hnd (pu_shr ho)
  | eql => exact eq_cs hE ho
  | neq => exact neq_cs hE ho
  | lss => exact cs_ex hnd (pu_lss ho)
  | leq => exact cs_ex hnd (pu_leq ho)
  | gtr => exact cs_ex hnd (pu_gtr ho)
  | geq => exact cs_ex hnd (pu_geq ho)
theorem conv_cs (hE : EOK E) (ho : o.op = .convert t u x) : CS E o (convC E t u x) := by
  have hnd : ∀ c, o.op ≠ .defer c := fun c => by rw [ho]; simp
  unfold convC
  split
  · rename_i i j hi hj
    split
    · rename_i h1 h2; exact cs_pu hnd (pu_conv_ii hE hi hj ho h1 h2)
    · rename_i h1 h2; exact cs_pu hnd (pu_conv_is hE hi hj ho h1 h2)
    · rename_i h1 h2; exact cs_pu hnd (pu_conv_ss hE hi hj ho h1 h2)
    · rename_i h1 h2
      split
      · rename_i hb; exact cs_al hnd (al_conv_sb hE hi hj ho h1 h2 hb)
      · trivial
    · rename_i h1 h2
      split
      · rename_i hb; exact cs_rd hnd (rd_conv_bs hE hi hj ho h1 h2 hb)
      · trivial
    · rename_i h1 h2
      split
      · rename_i hb
        rw [Bool.and_eq_true, beq_iff] at hb
        obtain ⟨rfl, hb⟩ := hb
        exact cs_ve hnd (ve_conv_bb hE hi h1 hb ho)
      · trivial
    · rename_i h1 h2
      split
      · rename_i e he
        split
        · trivial
        · rename_i hz; exact cs_rd hnd (rd_conv_pu hE hi hj ho h1 h2 he hz)
      · trivial
    · rename_i h1 h2
      split
      · rename_i e he
        split
        · trivial
        · rename_i hz; exact cs_rd hnd (rd_conv_up hE hi hj ho h1 h2 he hz)
      · trivial
    · trivial
  · trivial
theorem builtin_cs (hE : EOK E) {c : Call} {b : Builtin} (ho : o.op = .call c) (hb : c.callee = .builtin b) : CS E o (builtinC E b c.argTypes.toList c.args.toList) := by
  have hnd : ∀ c, o.op ≠ .defer c := fun c => by rw [ho]; simp
  generalize ht : c.argTypes.toList = ts
  generalize hx : c.args.toList = xs
  unfold builtinC
  split
  · rename_i t us s x
    split
    · split
      · rename_i hnum
        unfold elemC
        split
        · rename_i i hi
          split
          · rename_i e hd
            split
            · rename_i j hj
              split
              · trivial
              · rename_i hg; exact cs_ve hnd (ve_appZ hE hi hd hj hg hnum ho hb ht hx)
            · trivial
          · trivial
        · trivial
      · trivial
    · rename_i hnum
      unfold elemC
      split
      · rename_i i hi
        split
        · rename_i e hd
          split
          · rename_i j hj
            split
            · trivial
            · rename_i hg; exact cs_ve hnd (ve_append hE hi hd hj hg hnum ho hb ht hx)
          · trivial
        · trivial
      · trivial
  · unfold elemC
    split
    · rename_i i hi
      split
      · rename_i e hd
        split
        · rename_i j hj
          split
          · trivial
          · exact cs_ve hnd (ve_copy hE hi hd hj ho hb ht hx)
        · trivial
      · trivial
    · trivial
  · unfold lenC
    split
    · rename_i i hi
      split
      · rename_i hd; exact cs_pu hnd (pu_len_string hE hi ho hb ht hx hd)
      · rename_i n e hd; exact cs_pu hnd (pu_len_array hE hi ho hb ht hx hd)
      · rename_i e hd; exact cs_pu hnd (pu_len_slice hE hi ho hb ht hx hd)
      · rename_i kt e hd; exact cs_rd hnd (rd_len_map hE hi ho hb ht hx hd)
      · trivial
    · trivial
  · unfold capC
    split
    · rename_i i hi
      split
      · rename_i e hd; exact cs_pu hnd (pu_cap_slice hE hi ho hb ht hx hd)
      · trivial
    · trivial
  · exact cs_ex hnd (pu_min ho hb hx)
  · exact cs_ex hnd (pu_max ho hb hx)
  · exact cs_pu hnd (pu_min3 ho hb hx)
  · unfold clearC
    split
    · rename_i i hi
      split
      · rename_i e hd
        split
        · rename_i j hj
          split
          · trivial
          · rename_i hg; exact cs_ve hnd (ve_clear_slice hE hi hd hj hg ho hb ht hx)
        · trivial
      · rename_i kt e hd; exact cs_ve hnd (ve_clear_map hE hi hd ho hb ht hx)
      · trivial
    · trivial
  · split
    · rename_i i hi
      split
      · rename_i kt e hd
        split
        · rename_i kd hk; exact cs_ve hnd (ve_delete hE hi hd hk ho hb ht hx)
        · trivial
      · trivial
    · trivial
  · exact cs_pu hnd (pu_sliceData ho hb hx)
  · split
    · rename_i i hi; exact cs_ve hnd (ve_unsafeString hE hi ho hb ht hx)
    · trivial
  · trivial
theorem call_mem {c : Call} (ho : o.op = .call c ∨ o.op = .defer c) : (∀ x ∈ c.args.toList, x ∈ o.op.operands) ∧ (∀ g, c.callee = .value g → g ∈ o.op.operands) ∧ (∀ r name, c.callee = .invoke r name → r ∈ o.op.operands) := by
  have e : o.op.operands = c.operands := by rcases ho with ho | ho <;> rw [ho] <;> rfl
  rw [e]
  unfold Call.operands
  refine ⟨fun x hx => Array.mem_append_right _ (Array.mem_toList_iff.1 hx), fun g hg => ?_, fun r name hr => ?_⟩
  · rw [hg]; simp
  · rw [hr]; simp
theorem args_rel {c : Call} {ρ : Ren} {tm : Tr AV} {a : Act} {us : List AV} (ho : o.op = .call c ∨ o.op = .defer c) (hr : VRo ρ tm a o) (hu : evas tm c.args.toList us) : VRs ρ us (c.args.map a.eval).toList := by
  rw [Array.toList_map]
  exact evas_rel hu fun x hx => hr x ((call_mem ho).1 x hx)
theorem call_cs (hE : EOK E) {ix : FuncId → Option Ix} (hI : IxOK E ix) {c : Call} (ho : o.op = .call c) : CS E o (callC E ix c) := by
  have hnd : ∀ c, o.op ≠ .defer c := fun c => by rw [ho]; simp
  unfold callC
  split
  · rename_i b hb; exact builtin_cs hE ho hb
  · rename_i f hf
    refine ⟨hnd, fun B hB tm h n k hk => ?_⟩
    obtain ⟨us, h1, h2⟩ := opds_inv _ hk
    simp only [h2] at hk ⊢
    obtain ⟨ot, h3, h4, h5⟩ := callK_inv hE hI hB hk
    refine ⟨ot, h3, h4, fun ρ a w hg hr hR hF ro next Q hn => ?_⟩
    have hc := h5 ρ w (c.args.map a.eval) hg (args_rel (.inl ho) hr h1) hR hF
    have hs : (execOp a.eval o).run E.P w = (callFunc f (c.args.map a.eval)).run E.P w := by
      simp only [execOp, ho, resolve, hf]
      have e : a.eval (.func f) = .func (.func f) #[] #[] := rfl
      rw [e]
      simp [Deferred.ofValue, invoke]
    exact (NxR.of_run hs hc).upon ro o a fun v' w' ⟨v, h', n', hh, ρ', s, r⟩ => hn v h' n' hh ρ' v' w' s r
  · rename_i g hgv hgc
    refine ⟨hnd, fun B hB tm h n k hk => ?_⟩
    obtain ⟨fv, h1, h2⟩ := opd_inv hk
    simp only [h2] at hk ⊢
    obtain ⟨us, h3, h4⟩ := opds_inv _ hk
    simp only [h4] at hk ⊢
    obtain ⟨ot, h5, h6, h7⟩ := applyK_inv hE hI hB hk
    refine ⟨ot, h5, h6, fun ρ a w hg hr hR hF ro next Q hn => ?_⟩
    have hc := h7 ρ w (a.eval g) (c.args.map a.eval) hg (hr g ((call_mem (.inl ho)).2.1 g (by assumption)) _ h1) (args_rel (.inl ho) hr h3) hR hF
    have hs : (execOp a.eval o).run E.P w = (do let d ← Deferred.ofValue (a.eval g) (c.args.map a.eval); invoke d.target d.args : Sem Next).run E.P w := by
      simp only [execOp, ho, resolve]
      split
      · rename_i q hq; rw [hq] at hgc; cases hgc
      · rename_i q nm hq; rw [hq] at hgc; cases hgc
      · rename_i q hq
        rw [hq] at hgc
        injection hgc with hgc
        subst hgc
        rfl
    exact (NxR.of_run hs hc).upon ro o a fun v' w' ⟨v, h', n', hh, ρ', s, r⟩ => hn v h' n' hh ρ' v' w' s r
  · rename_i r name hc'
    refine ⟨hnd, fun B hB tm h n k hk => ?_⟩
    obtain ⟨rv, h1, h2⟩ := opd_inv hk
    simp only [h2] at hk ⊢
    obtain ⟨us, h3, h4⟩ := opds_inv _ hk
    simp only [h4] at hk ⊢
    obtain ⟨ot, h5, h6, h7⟩ := invokeK_inv hE hI hB hk
    refine ⟨ot, h5, h6, fun ρ a w hg hr hR hF ro next Q hn => ?_⟩
    have hc := h7 ρ w (a.eval r) (c.args.map a.eval) hg (hr r ((call_mem (.inl ho)).2.2 r name hc') _ h1) (args_rel (.inl ho) hr h3) hR hF
    have hs : (execOp a.eval o).run E.P w = (callMethod (a.eval r) name (c.args.map a.eval)).run E.P w := by
      simp only [execOp, ho, resolve, hc']
      have e : (#[a.eval r] ++ c.args.map a.eval).extract 1 (#[a.eval r] ++ c.args.map a.eval).size = c.args.map a.eval := by
        apply Array.ext'
        simp
        exact List.take_of_length_le (by simp)
      have h0 : (#[a.eval r] ++ c.args.map a.eval)[0]? = some (a.eval r) := by
        rw [Array.getElem?_append_left (by simp)]; rfl
      simp only [Sem.run_bind, Sem.run_pure, Result.andThen_ok, invoke, h0, e]
    exact (NxR.of_run hs hc).upon ro o a fun v' w' ⟨v, h', n', hh, ρ', s, r⟩ => hn v h' n' hh ρ' v' w' s r
theorem defer_cs {c : Call} (ho : o.op = .defer c) : CS E o (deferC E c) := by
  unfold deferC
  split
  · rename_i g hg
    refine ⟨⟨c, ho⟩, fun tm k hk => ?_⟩
    obtain ⟨fv, h1, h2⟩ := opd_inv hk
    simp only [h2] at hk ⊢
    obtain ⟨us, h3, h4⟩ := opds_inv _ hk
    simp only [h4] at hk ⊢
    unfold dfK at hk ⊢
    split at hk
    · rename_i f l m
      obtain ⟨h5, h6⟩ := ifK_inv hk
      refine ⟨_, h6, fun ρ a w hr => ?_⟩
      obtain ⟨a', c', q1, q2, q3⟩ := (hr g ((call_mem (.inr ho)).2.1 g hg) _ h1).func_inv
      refine ⟨{ target := .fn (.func f) c', args := a' ++ c.args.map a.eval }, ?_, ⟨h5, c', rfl, ?_⟩, trivial⟩
      · simp only [execOp, ho, resolve, hg, q1]
        simp [Deferred.ofValue]
      · simpa using (q2.append (args_rel (.inr ho) hr h3)).append q3
    · exact (ok_er hk).elim
  · trivial
theorem cop_cs (hE : EOK E) {ix : FuncId → Option Ix} (hI : IxOK E ix) : CS E o (cop E ix o) := by
  unfold cop
  split
  · rename_i x ho; exact cs_pu (fun c => by rw [ho]; simp) (pu_move ho)
  · rename_i x ho; exact cs_pu (fun c => by rw [ho]; simp) (pu_assign ho)
  · rename_i c a b ho; exact cs_pu (fun c => by rw [ho]; simp) (pu_pick ho)
  · rename_i t ho
    split
    · rename_i i hi; exact cs_al (fun c => by rw [ho]; simp) (al_alloc hE hi ho)
    · trivial
  · rename_i t x ho; exact cs_al (fun c => by rw [ho]; simp) (al_box ho)
  · rename_i t ps ho
    unfold buildC
    split
    · rename_i i hi
      split
      · rename_i fs hd
        split
        · rename_i l ha hl; exact cs_pu (fun c => by rw [ho]; simp) (pu_build_struct hE hi hd ha hl ho)
        · trivial
      · rename_i n e hd
        split
        · rename_i j hj; exact cs_pu (fun c => by rw [ho]; simp) (pu_build_array hE hi hd hj ho)
        · trivial
      · trivial
    · trivial
  · rename_i t len ps ho
    unfold buildSliceC
    split
    · rename_i i hi
      split
      · rename_i e hd
        split
        · rename_i j hj
          split
          · trivial
          · rename_i hg; exact cs_al (fun c => by rw [ho]; simp) (al_buildSlice hE hi hd hj hg ho)
        · trivial
      · trivial
    · trivial
  · rename_i t m key x ho
    unfold updC
    split
    · rename_i i hi
      split
      · rename_i kt e hd
        split
        · rename_i kd hk; exact cs_ve (fun c => by rw [ho]; simp) (ve_upd hE hi hd hk (.inr ho))
        · trivial
      · trivial
    · trivial
  · rename_i t a ho
    split
    · rename_i i hi; exact cs_rd (fun c => by rw [ho]; simp) (rd_load hE hi ho)
    · trivial
  · rename_i t a x ho
    split
    · rename_i i hi; exact cs_ve (fun c => by rw [ho]; simp) (ve_store hE hi ho)
    · trivial
  · rename_i x ho; exact cs_pu (fun c => by rw [ho]; simp) (pu_nilCheck ho)
  · rename_i op t x y u ho; exact bin_cs hE ho
  · rename_i op t x ho
    unfold unC
    split
    · exact cs_pu (fun c => by rw [ho]; simp) (pu_neg ho)
    · exact cs_pu (fun c => by rw [ho]; simp) (pu_not ho)
    · exact cs_pu (fun c => by rw [ho]; simp) (pu_xor ho)
    · trivial
  · rename_i s d x ho; exact conv_cs hE ho
  · rename_i t x ho
    unfold s2apC
    split
    · rename_i i hi
      split
      · rename_i n e hd; exact cs_pu (fun c => by rw [ho]; simp) (pu_s2ap hE hi hd ho)
      · trivial
    · trivial
  · rename_i t x ho
    split
    · rename_i i hi
      split
      · trivial
      · rename_i hd; exact cs_pu (fun c => by rw [ho]; simp) (pu_makeInterface hE hi (fun ms h => hd ms h) ho)
    · trivial
  · rename_i fn a c ho; exact cs_pu (fun c => by rw [ho]; simp) (pu_makeFunc ho)
  · rename_i t r ho
    unfold makeMapC
    split
    · rename_i i hi
      split
      · rename_i kt e hd
        split
        · exact cs_al (fun c => by rw [ho]; simp) (al_makeMap0 ho)
        · exact cs_al (fun c => by rw [ho]; simp) (al_makeMap1 hE hi hd ho)
      · trivial
    · trivial
  · rename_i t l c ho
    unfold makeSliceC elemC
    split
    · rename_i i hi
      split
      · rename_i e hd
        split
        · rename_i j hj
          split
          · trivial
          · rename_i hg
            obtain ⟨h0, hl⟩ := elem_inv hg
            dsimp only
            split
            · trivial
            · rename_i hb; exact cs_al (fun c => by rw [ho]; simp) (al_makeSlice hE hi hd hj (by cases hz : Nat.beq j.size 0 with | false => rfl | true => exact absurd (beq_iff.1 hz) h0) hb ho)
        · trivial
      · trivial
    · trivial
  · rename_i t x lo hi mx ho
    unfold sliceC
    split
    · trivial
    · rename_i i hi'
      split
      · rename_i hd
        split
        · trivial
        · exact cs_pu (fun c => by rw [ho]; simp) (pu_slS hE hi' hd ho)
      · rename_i e hd
        split
        · trivial
        · rename_i j hj
          split
          · trivial
          · rename_i hm; exact cs_pu (fun c => by rw [ho]; simp) (pu_slL hE hi' hd hj hm ho)
      · rename_i n e hd
        split
        · rename_i j hj
          split
          · trivial
          · rename_i hm; exact cs_pu (fun c => by rw [ho]; simp) (pu_slA hE hi' hd hj hm ho)
        · trivial
      · trivial
  · rename_i s x f ho
    unfold fieldAddrC
    split
    · rename_i i hi
      split
      · rename_i fs hd
        split
        · rename_i fd hf
          split
          · rename_i j hj
            split
            · trivial
            · rename_i hz; exact cs_pu (fun c => by rw [ho]; simp) (pu_fieldAddr hE hi hd hf hj hz ho)
          · trivial
        · trivial
      · trivial
    · trivial
  · rename_i s x f ho
    unfold fieldC
    split
    · rename_i i hi
      split
      · rename_i fs hd
        split
        · rename_i fd hf
          split
          · rename_i j hj; exact cs_pu (fun c => by rw [ho]; simp) (pu_field hE hi hd hf hj ho)
          · trivial
        · trivial
      · trivial
    · trivial
  · rename_i t x ix ho
    unfold indexAddrC
    split
    · rename_i i hi
      split
      · rename_i n e hd
        split
        · rename_i j hj; exact cs_pu (fun c => by rw [ho]; simp) (pu_indexAddrA hE hi hd hj ho)
        · trivial
      · rename_i e hd
        split
        · rename_i j hj; exact cs_pu (fun c => by rw [ho]; simp) (pu_indexAddrS hE hi hd hj ho)
        · trivial
      · trivial
    · trivial
  · rename_i t x ix ho
    unfold indexC
    split
    · rename_i i hi
      split
      · rename_i hd; exact cs_pu (fun c => by rw [ho]; simp) (pu_indexS hE hi hd ho)
      · rename_i n e hd
        split
        · rename_i j hj; exact cs_pu (fun c => by rw [ho]; simp) (pu_indexA hE hi hd hj ho)
        · trivial
      · trivial
    · trivial
  · rename_i t x ix ok ho
    unfold lookupC
    split
    · rename_i i hi
      split
      · rename_i kt e hd
        split
        · rename_i kd j hk hj; exact cs_rd (fun c => by rw [ho]; simp) (rd_lookup hE hi hd hk hj ho)
        · trivial
      · trivial
    · trivial
  · rename_i t m key x ho
    unfold updC
    split
    · rename_i i hi
      split
      · rename_i kt e hd
        split
        · rename_i kd hk; exact cs_ve (fun c => by rw [ho]; simp) (ve_upd hE hi hd hk (.inl ho))
        · trivial
      · trivial
    · trivial
  · rename_i t x ho
    unfold rangeC
    split
    · rename_i i hi
      split
      · rename_i kt e hd; exact cs_ve (fun c => by rw [ho]; simp) (ve_range hE hi hd ho)
      · trivial
    · trivial
  · rename_i it s ho
    unfold nextC
    split
    · trivial
    · exact cs_ve (fun c => by rw [ho]; simp) (ve_next ho)
  · rename_i it ho; exact cs_rd (fun c => by rw [ho]; simp) (rd_entry ho)
  · rename_i x xt t ok ho
    unfold typeAssertC
    split
    · rename_i i hi
      split
      · trivial
      · rename_i hd; exact cs_pu (fun c => by rw [ho]; simp) (pu_typeAssert hE hi (fun ms h => hd ms h) ho)
    · trivial
  · rename_i t ix ho; exact cs_pu (fun c => by rw [ho]; simp) (pu_extract ho)
  · rename_i c ho; exact call_cs hE hI ho
  · rename_i c ho; exact defer_cs ho
  · trivial
end
end Ax
end Go.Proofs.YtdfgnoflohfnmaaGreatDoor

/-! Regions in their given order. -/

namespace Go.Proofs.YtdfgnoflohfnmaaGreatDoor
namespace Ax
section
variable {E : Env} {o : Oper}
theorem getD_some {tmps : Array Value} {t : Nat} {v : Value} (h : tmps[t]? = some v) : tmps.getD t undef = v := by
  simp [Array.getD_eq_getD_getElem?, h]
theorem getD_none {tmps : Array Value} {t : Nat} (h : tmps[t]? = none) : tmps.getD t undef = undef := by
  simp [Array.getD_eq_getD_getElem?, h]
def GdT (ops : Array Oper) (o : Oper) (t : Nat) : Prop := ∃ j w q, o.guard = some (j, w) ∧ ops[j]? = some q ∧ q.dst = some t
theorem gd_inv {ops : Array Oper} {g : Option (Pn × Bool)} (hg : guardOf ops.toList o = some g) {tm : Tr AV} {yes no : R} (hk : Ok (gd g tm yes no)) :
    ∃ b : Bool, gd g tm yes no = (if b then yes else no) ∧ ∀ (ρ : Ren) (tmps : Array Value), (∀ t, GdT ops o t → VR ρ (tm.get (.tu []) (pth t)) (tmps.getD t undef)) → Region.wanted o (yielded ops tmps) = b := by
  unfold guardOf at hg
  split at hg
  · rename_i hn
    injection hg with hg
    subst hg
    exact ⟨true, rfl, fun ρ tmps _ => by simp [Region.wanted, hn]⟩
  · rename_i j want hn
    split at hg
    · rename_i q hq
      split at hg
      · rename_i t ht
        injection hg with hg
        subst hg
        have e : gd (some (pth t, want)) tm yes no = gdV (tm.get (.tu []) (pth t)) want yes no := getK_eq _ _ _ _
        rw [e] at hk ⊢
        have hq' : ops[j]? = some q := by rw [← Array.getElem?_toList]; exact hq
        have hgt : GdT ops o t := ⟨j, want, q, hn, hq', ht⟩
        have hy : ∀ tmps : Array Value, yielded ops tmps j = (match tmps[t]? with | some (.bool b) => some b | _ => none) := by
          intro tmps
          unfold yielded
          rw [hq']
          simp only [Option.bind_some, ht]
          cases tmps[t]? with
          | none => rfl
          | some v => cases v <;> rfl
        have hw : ∀ tmps : Array Value, Region.wanted o (yielded ops tmps) = (yielded ops tmps j == some want) := fun tmps => by simp [Region.wanted, hn]
        generalize hv : tm.get (.tu []) (pth t) = v at hk ⊢
        have hno : gdV v want yes no = no → (∀ x, v ≠ .b x) → v ≠ .z → ∃ b : Bool, gdV v want yes no = (if b then yes else no) ∧ ∀ (ρ : Ren) (tmps : Array Value), (∀ t, GdT ops o t → VR ρ (tm.get (.tu []) (pth t)) (tmps.getD t undef)) → Region.wanted o (yielded ops tmps) = b := by
          intro h1 h2 h3
          refine ⟨false, h1, fun ρ tmps hf => ?_⟩
          have hr := hf t hgt
          rw [hv] at hr
          rw [hw, hy]
          cases hc : tmps[t]? with
          | none => rfl
          | some u =>
            rw [getD_some hc] at hr
            cases u with
            | bool x => cases hr with
              | z => exact absurd rfl h3
              | b => exact absurd rfl (h2 _)
            | _ => rfl
        cases v with
        | b x =>
          refine ⟨beq x want, ?_, fun ρ tmps hf => ?_⟩
          · have e3 : gdV (.b x) want yes no = Bool.rec no yes (beq x want) := rfl
            rw [e3]
            cases beq x want <;> rfl
          · have hr := hf t hgt
            rw [hv] at hr
            have hr := hr.b_inv
            rw [hw, hy]
            cases hc : tmps[t]? with
            | none => rw [getD_none hc] at hr; cases hr
            | some u =>
              rw [getD_some hc] at hr
              subst hr
              rw [beq_eq]
              cases x <;> cases want <;> rfl
        | z => exact (ok_er hk).elim
        | i _ _ => exact hno rfl (by simp) (by simp)
        | s _ => exact hno rfl (by simp) (by simp)
        | p _ _ => exact hno rfl (by simp) (by simp)
        | np => exact hno rfl (by simp) (by simp)
        | sl _ _ _ _ _ => exact hno rfl (by simp) (by simp)
        | ns => exact hno rfl (by simp) (by simp)
        | m _ => exact hno rfl (by simp) (by simp)
        | nm => exact hno rfl (by simp) (by simp)
        | f _ _ _ => exact hno rfl (by simp) (by simp)
        | nf => exact hno rfl (by simp) (by simp)
        | ifc _ _ => exact hno rfl (by simp) (by simp)
        | ni => exact hno rfl (by simp) (by simp)
        | ag _ => exact hno rfl (by simp) (by simp)
        | tu _ => exact hno rfl (by simp) (by simp)
        | y _ => exact hno rfl (by simp) (by simp)
        | iv _ _ _ => exact hno rfl (by simp) (by simp)
        | tx _ => exact hno rfl (by simp) (by simp)
      · cases hg
    · cases hg
noncomputable def putD (d : Option Pn) (v : AV) (tm : Tr AV) : Tr AV := match d with
  | none => tm
  | some p => tm.put (.tu []) v p
theorem put_eq (d : Option Pn) (v : AV) (tm : Tr AV) (k : Tr AV → R) : put d v tm k = k (putD d v tm) := by
  cases d with
  | none => rfl
  | some p => exact setK_eq _ _ _ _ _
theorem putD_rel {nt : Nat} {d : Option Pn} (hd : dstOf nt o = some d) {ρ : Ren} {tm : Tr AV} {a : Act} {v : AV} {v' : Value} (hf : FR ρ nt tm a.tmps) (hv : VR ρ v v') : FR ρ nt (putD d v tm) (a.put o.dst v').tmps := by
  unfold dstOf at hd
  split at hd
  · rename_i hn
    injection hd with hd
    subst hd
    rw [hn]
    exact hf
  · rename_i t ht
    split at hd
    · rename_i hlt
      injection hd with hd
      subst hd
      rw [ht]
      exact hf.put (ble_iff.1 hlt) hv
    · cases hd
theorem put_defers (a : Act) (d : Option Tmp) (v : Value) : (a.put d v).defers = a.defers := by cases d <;> rfl
theorem runC_inv {c : COp} (hc : CS E o c) {l : Option Nat} (hl : (∃ f, c = .de f) → l = none) {B : Bd} (hB : BdOK E B) {d : Option Pn} {tm : Tr AV} {df : List AD} {h : Tr AO} {n : Pn} {k : K3} (hk : Ok (runC c d B tm df h n k)) :
    ∃ (df2 : List AD) (ot : Ot), runC c d B tm df h n k = ot.app (fun v h2 n2 => k (putD d v tm) df2 h2 n2) ∧ n.nat ≤ ot.top.nat ∧ ∀ (ρ : Ren) (a : Act) (w : World), GL E ρ → VRo ρ tm a o → DR E ρ df a.defers → Rel ρ (hv h) w → Fresh ρ (hv h) n ot.top →
      ∀ (next : Act → World → Prop) (Q : Exit → Act → World → Prop), (∀ v h2 n2, ot.has v h2 n2 → ∀ ρ' v' w' ds', Step ρ (hv h) w n ρ' (hv h2) w' n2 → VR ρ' v v' → DR E ρ' df2 ds' → next (({ a with defers := ds' } : Act).put o.dst v') w') → o.wpIn (FW l) 0 E.P a w next Q := by
  have hex : ∀ {ro : Option Nat} {ρ : Operand → Value}, (∀ c, o.op ≠ .defer c) → o.semAt ro ρ = execOp ρ o := fun h => Oper.semAt_eq _ _ _ h
  cases c with
  | pu f =>
    obtain ⟨hnd, hs⟩ := hc
    have e : runC (.pu f) d B tm df h n k = f tm fun v => put d v tm fun tm => k tm df h n := rfl
    rw [e] at hk ⊢
    obtain ⟨v, h1, h2⟩ := hs tm _ hk
    rw [h1, put_eq]
    refine ⟨df, .one v h n, rfl, Nat.le_refl _, fun ρ a w hg hr hd hR hF next Q hn => ⟨fun _ _ => trivial, ?_⟩⟩
    rw [hex hnd]
    obtain ⟨v', g1, g2⟩ := h2 ρ a w hr
    rw [g2]
    exact hn v h n ⟨rfl, rfl, rfl⟩ ρ v' w a.defers (Step.refl hR) g1 hd
  | rd f =>
    obtain ⟨hnd, hs⟩ := hc
    have e : runC (.rd f) d B tm df h n k = f tm h fun v => put d v tm fun tm => k tm df h n := rfl
    rw [e] at hk ⊢
    obtain ⟨v, h1, h2⟩ := hs tm h _ hk
    rw [h1, put_eq]
    refine ⟨df, .one v h n, rfl, Nat.le_refl _, fun ρ a w hg hr hd hR hF next Q hn => ⟨fun _ _ => trivial, ?_⟩⟩
    rw [hex hnd]
    obtain ⟨v', g1, g2⟩ := h2 ρ a w hr hR
    rw [g2]
    exact hn v h n ⟨rfl, rfl, rfl⟩ ρ v' w a.defers (Step.refl hR) g1 hd
  | al f =>
    obtain ⟨hnd, hs⟩ := hc
    have e : runC (.al f) d B tm df h n k = f tm n fun v o => put d v tm fun tm => newK h n o fun h n => k tm df h n := rfl
    rw [e] at hk ⊢
    obtain ⟨v, b, h1, hown, h2⟩ := hs tm n _ hk
    rw [h1, put_eq]
    unfold newK
    rw [setK_eq]
    refine ⟨df, .one v _ n.succ, rfl, (by show n.nat ≤ n.succ.nat; rw [nat_succ]; omega), fun ρ a w hg hr hd hR hF next Q hn => ⟨fun _ _ => trivial, ?_⟩⟩
    rw [hex hnd]
    have hf := hF n (Nat.le_refl _) (by show n.nat < n.succ.nat; rw [nat_succ]; omega)
    obtain ⟨v', w', ob, t, g1, g2, g3, g4, g5⟩ := h2 ρ a w hr hf.1
    rw [g1]
    have hst := Step.new hR hf.1 hf.2 g3 g5 (rel_lt hR) g2.heap g2.os g2.tape g2.output hown.2
    rw [← hv_put] at hst
    exact hn _ _ _ ⟨rfl, rfl, rfl⟩ _ v' w' a.defers hst g4 (hd.mono hst.ext)
  | ef f =>
    obtain ⟨hnd, hs⟩ := hc
    have e : runC (.ef f) d B tm df h n k = f B tm h n fun v h n => put d v tm fun tm => k tm df h n := rfl
    rw [e] at hk ⊢
    obtain ⟨ot, h1, hle, h2⟩ := hs B hB tm h n _ hk
    rw [h1]
    refine ⟨df, ot, by simp only [put_eq], hle, fun ρ a w hg hr hd hR hF next Q hn => ⟨fun _ _ => trivial, ?_⟩⟩
    rw [hex hnd]
    exact h2 ρ a w hg hr hR hF l next Q fun v h' n' hh ρ' v' w' s r => hn v h' n' hh ρ' v' w' a.defers s r (hd.mono s.ext)
  | de f =>
    obtain ⟨hdf, hs⟩ := hc
    have e : runC (.de f) d B tm df h n k = f tm fun a => put d (.tu []) tm fun tm => k tm (a :: df) h n := rfl
    rw [e] at hk ⊢
    obtain ⟨ad, h1, h2⟩ := hs tm _ hk
    rw [h1, put_eq]
    obtain rfl := hl ⟨f, rfl⟩
    refine ⟨ad :: df, .one (.tu []) h n, rfl, Nat.le_refl _, fun ρ a w hg hr hd hR hF next Q hn => ⟨fun _ _ => trivial, ?_⟩⟩
    obtain ⟨dd, g1, g2⟩ := h2 ρ a w hr
    show o.uponIn (FW none) 0 E.P a next Q ((execOp a.eval o).run E.P w)
    rw [g1]
    refine hn (.tu []) h n ⟨rfl, rfl, rfl⟩ ρ undef w (dd :: a.defers) (Step.refl hR) (VR.undef ρ) ?_
    cases ad with
    | fn g us => exact ⟨g2.1, hd⟩
    | mk b => exact ⟨g2.1, hd⟩
  | no c => exact (ok_er hk).elim
theorem gOk_mem (h : gOk E o = true) : ∀ x ∈ o.op.operands, gOk1 E x = true := fun x hx => List.all_eq_true.1 h x (Array.mem_toList_iff.2 hx)
theorem vro_of {ρ : Ren} {nt : Nat} {tm : Tr AV} {a : Act} (hg : GL E ρ) (hf : FR ρ nt tm a.tmps) (h : gOk E o = true) : VRo ρ tm a o := fun x hx _ hv => gl_opd hg hf (gOk_mem h x hx) hv
theorem coOf_inv {ix : FuncId → Option Ix} {nt : Nat} {ro : Bool} {ops : List Oper} {o : Oper} :
    (∃ c, coOf E ix nt ro ops o = { g := none, d := none, c := .no c }) ∨ ∃ g d, guardOf ops o = some g ∧ dstOf nt o = some d ∧ gOk E o = true ∧ coOf E ix nt ro ops o = { g, d, c := noDef ro (cop E ix o) } := by
  unfold coOf
  split
  · rename_i g d h1 h2 h3; exact .inr ⟨g, d, h1, h2, h3, rfl⟩
  · exact .inl ⟨_, rfl⟩
theorem noDef_cs {ro : Bool} {c : COp} (h : CS E o c) : CS E o (noDef ro c) := by
  unfold noDef
  split
  · split
    · trivial
    · exact h
  · exact h
theorem noDef_de {c : COp} {l : Option Nat} {ro : Bool} (hl : ro = false → l = none) : (∃ f, noDef ro c = .de f) → l = none := by
  rintro ⟨f, hf⟩
  cases ro with
  | false => exact hl rfl
  | true =>
    cases c <;> (simp [noDef] at hf)
theorem PostR.step0 {nt : Nat} {ρ ρ' : Ren} {H H' : Hp} {w w' : World} {n n' : Pn} {Q : Exit → Act → World → Prop} {r : R} (h : PostR E nt ρ H w n Q r) (s : Step ρ H w n ρ' H' w' n') : PostR E nt ρ' H' w' n' Q r := by
  induction r with
  | er c => trivial
  | nm tm df h2 n2 => exact fun ρ2 a2 w2 s2 f2 d2 => h ρ2 a2 w2 (s.trans s2) f2 d2
  | ex id tm df h2 n2 => exact fun ρ2 a2 w2 s2 f2 d2 => h ρ2 a2 w2 (s.trans s2) f2 d2
  | rt tm df h2 n2 => exact fun ρ2 a2 w2 s2 f2 d2 => h ρ2 a2 w2 (s.trans s2) f2 d2
  | al a b ih1 ih2 => exact ⟨ih1 h.1, ih2 h.2⟩
theorem runL_inv (hE : EOK E) {ix : FuncId → Option Ix} (hI : IxOK E ix) {B : Bd} (hB : BdOK E B) {nt : Nat} {ro : Bool} {l : Option Nat} (hl : ro = false → l = none) {ops : Array Oper} :
    ∀ (rest : List Oper) (i : Nat), ops.toList.drop i = rest → ∀ {tm : Tr AV} {df : List AD} {h : Tr AO} {n : Pn}, Ok (runL (cosOf E ix nt ro ops.toList rest) B tm df h n .nm) →
    n.nat ≤ (endN (runL (cosOf E ix nt ro ops.toList rest) B tm df h n .nm)).nat ∧ ∀ (ρ : Ren) (a : Act) (w : World), GL E ρ → FR ρ nt tm a.tmps → DR E ρ df a.defers → Rel ρ (hv h) w → Fresh ρ (hv h) n (endN (runL (cosOf E ix nt ro ops.toList rest) B tm df h n .nm)) →
      ∀ Q : Exit → Act → World → Prop, PostR E nt ρ (hv h) w n Q (runL (cosOf E ix nt ro ops.toList rest) B tm df h n .nm) → wpOpsIn (FW l) 0 E.P ops Q (List.range' i rest.length) a w := by
  intro rest
  induction rest with
  | nil =>
    intro i _ tm df h n _
    exact ⟨Nat.le_refl _, fun ρ a w hg hf hd hR hF Q hq => hq ρ a w (Step.refl hR) hf hd⟩
  | cons o rest ih =>
    intro i hi tm df h n hk
    have hio : ops[i]? = some o := by
      have : (ops.toList.drop i)[0]? = some o := by rw [hi]; rfl
      rw [List.getElem?_drop] at this
      rw [← Array.getElem?_toList]
      simpa using this
    have hi' : ops.toList.drop (i + 1) = rest := by
      have : ops.toList.drop (i + 1) = (ops.toList.drop i).drop 1 := by rw [List.drop_drop]
      rw [this, hi]; rfl
    have e : runL (cosOf E ix nt ro ops.toList (o :: rest)) B tm df h n .nm =
        gd (coOf E ix nt ro ops.toList o).g tm (runC (coOf E ix nt ro ops.toList o).c (coOf E ix nt ro ops.toList o).d B tm df h n fun tm df h n => runL (cosOf E ix nt ro ops.toList rest) B tm df h n .nm)
          (put (coOf E ix nt ro ops.toList o).d (.tu []) tm fun tm => runL (cosOf E ix nt ro ops.toList rest) B tm df h n .nm) := rfl
    rw [e] at hk ⊢
    rcases coOf_inv (E := E) (ix := ix) (nt := nt) (ro := ro) (ops := ops.toList) (o := o) with ⟨c, hc⟩ | ⟨g, d, hgu, hds, hgo, hc⟩
    · rw [hc] at hk; exact (ok_er hk).elim
    · rw [hc] at hk ⊢
      obtain ⟨b, h1, h2⟩ := gd_inv hgu hk
      rw [h1] at hk ⊢
      cases b with
      | true =>
        simp only [if_true] at hk ⊢
        obtain ⟨df2, ot, h4, h5, h6⟩ := runC_inv (noDef_cs (cop_cs hE hI)) (noDef_de hl) hB hk
        rw [h4] at hk ⊢
        have ihx := fun (v : AV) (h2 : Tr AO) (n2 : Pn) (hh : ot.has v h2 n2) => ih (i + 1) hi' (Ot.ok hk hh)
        have hend : ∀ v h2 n2, ot.has v h2 n2 → (endN (runL (cosOf E ix nt ro ops.toList rest) B (putD d v tm) df2 h2 n2 .nm)).nat ≤ (endN (ot.app fun v h2 n2 => runL (cosOf E ix nt ro ops.toList rest) B (putD d v tm) df2 h2 n2 .nm)).nat := fun v h2 n2 hh => Ot.endN_le (k := fun v h2 n2 => runL (cosOf E ix nt ro ops.toList rest) B (putD d v tm) df2 h2 n2 .nm) hh
        have htop : ot.top.nat ≤ (endN (ot.app fun v h2 n2 => runL (cosOf E ix nt ro ops.toList rest) B (putD d v tm) df2 h2 n2 .nm)).nat := by
          obtain ⟨v, h2, hh⟩ := ot.at_top
          exact Nat.le_trans (ihx v h2 _ hh).1 (hend v h2 _ hh)
        refine ⟨Nat.le_trans h5 htop, fun ρ a w hg hf hd hR hF Q hq => ?_⟩
        rw [show (o :: rest).length = rest.length + 1 from rfl, List.range'_succ]
        unfold wpOpsIn
        simp only [hio, h2 ρ a.tmps (fun t _ => hf.2 t), if_true]
        refine h6 ρ a w hg (vro_of hg hf hgo) hd hR (hF.left htop) _ Q fun v h2 n2 hh ρ' v' w' ds' s r dr => ?_
        have hf' := putD_rel (a := { a with defers := ds' }) hds (hf.mono s.ext) r
        refine (ihx v h2 n2 hh).2 ρ' _ w' (hg.mono s.ext) hf' (by rw [put_defers]; exact dr) s.rel ?_ Q ?_
        · exact (hF.left (hend v h2 n2 hh)).right s
        · exact (Ot.post hq hh).step0 s
      | false =>
        simp only [Bool.false_eq_true, if_false] at hk ⊢
        rw [put_eq] at hk ⊢
        obtain ⟨h8, h9⟩ := ih (i + 1) hi' hk
        refine ⟨h8, fun ρ a w hg hf hd hR hF Q hq => ?_⟩
        rw [show (o :: rest).length = rest.length + 1 from rfl, List.range'_succ]
        unfold wpOpsIn
        simp only [hio, h2 ρ a.tmps (fun t _ => hf.2 t), Bool.false_eq_true, if_false]
        refine ⟨fun _ _ => trivial, ?_⟩
        exact h9 ρ _ w hg (putD_rel hds hf (VR.undef ρ)) (by rw [put_defers]; exact hd) hR hF Q hq
theorem runL_inv1 (hE : EOK E) {ix : FuncId → Option Ix} (hI : IxOK E ix) {B : Bd} (hB : BdOK E B) {nt : Nat} {ro : Bool} {l : Option Nat} (hl : ro = false → l = none) {ops : Array Oper}
    (rest : List Oper) (i : Nat) (hi : ops.toList.drop i = rest) {tm : Tr AV} {df : List AD} {h : Tr AO} {n : Pn} {tm' : Tr AV} {df' : List AD} {h' : Tr AO} {n' : Pn} (hr : runL (cosOf E ix nt ro ops.toList rest) B tm df h n .nm = .nm tm' df' h' n') :
    n.nat ≤ n'.nat ∧ ∀ (ρ : Ren) (a : Act) (w : World), GL E ρ → FR ρ nt tm a.tmps → DR E ρ df a.defers → Rel ρ (hv h) w → Fresh ρ (hv h) n n' →
      ∀ Q : Exit → Act → World → Prop, (∀ ρ' a' w', Step ρ (hv h) w n ρ' (hv h') w' n' → FR ρ' nt tm' a'.tmps → DR E ρ' df' a'.defers → Q .normal a' w') → wpOpsIn (FW l) 0 E.P ops Q (List.range' i rest.length) a w := by
  obtain ⟨h1, h2⟩ := runL_inv (l := l) hE hI hB hl rest i hi (tm := tm) (df := df) (h := h) (n := n) (by rw [hr]; trivial)
  rw [hr] at h1 h2
  exact ⟨h1, fun ρ a w hg hf hd hR hF Q hq => h2 ρ a w hg hf hd hR hF Q hq⟩
end
end Ax
end Go.Proofs.YtdfgnoflohfnmaaGreatDoor

/-! Plain laws for the rule on ranges over maps: places under a permutation; two trees that agree. -/

namespace Go.Proofs.YtdfgnoflohfnmaaGreatDoor
namespace Ax
structure Pi {α : Type} (l' l : List α) (f : Nat → Nat) : Prop where
  at' : ∀ i, i < l'.length → f i < l.length ∧ l[f i]? = l'[i]?
  inj : ∀ i j, i < l'.length → j < l'.length → f i = f j → i = j
  onto : ∀ p, p < l.length → ∃ i, i < l'.length ∧ f i = p
theorem perm_places {α : Type} {l' l : List α} (h : l'.Perm l) : ∃ f, Pi l' l f := by
  induction h with
  | nil => exact ⟨id, fun i h => by simp at h, fun i j h => by simp at h, fun p h => by simp at h⟩
  | cons x h ih =>
    obtain ⟨f, h1, h2, h3⟩ := ih
    refine ⟨fun i => match i with | 0 => 0 | i + 1 => f i + 1, fun i hi => ?_, fun i j hi hj e => ?_, fun p hp => ?_⟩
    · cases i with
      | zero => simp
      | succ i =>
        have hi' : i < _ := Nat.lt_of_succ_lt_succ hi
        exact ⟨Nat.succ_lt_succ (h1 i hi').1, by simpa using (h1 i hi').2⟩
    · cases i with
      | zero => cases j with
        | zero => rfl
        | succ j => simp at e
      | succ i => cases j with
        | zero => simp at e
        | succ j =>
          have := h2 i j (Nat.lt_of_succ_lt_succ hi) (Nat.lt_of_succ_lt_succ hj) (by simpa using e)
          rw [this]
    · cases p with
      | zero => exact ⟨0, by simp, rfl⟩
      | succ p =>
        obtain ⟨i, hi, e⟩ := h3 p (Nat.lt_of_succ_lt_succ hp)
        exact ⟨i + 1, Nat.succ_lt_succ hi, by simp [e]⟩
  | swap x y l =>
    refine ⟨fun i => match i with | 0 => 1 | 1 => 0 | i + 2 => i + 2, fun i hi => ?_, fun i j hi hj e => ?_, fun p hp => ?_⟩
    · rcases i with _ | _ | i
      · simp
      · simp
      · simp only [List.length_cons] at hi ⊢
        exact ⟨hi, by simp⟩
    · rcases i with _ | _ | i <;> rcases j with _ | _ | j <;> simp at e ⊢ <;> exact e
    · rcases p with _ | _ | p
      · exact ⟨1, by simp, rfl⟩
      · exact ⟨0, by simp, rfl⟩
      · exact ⟨p + 2, by simpa using hp, rfl⟩
  | trans _ _ ih1 ih2 =>
    obtain ⟨f, a1, a2, a3⟩ := ih1
    obtain ⟨g, b1, b2, b3⟩ := ih2
    refine ⟨fun i => g (f i), fun i hi => ?_, fun i j hi hj e => ?_, fun p hp => ?_⟩
    · obtain ⟨c1, c2⟩ := a1 i hi
      obtain ⟨d1, d2⟩ := b1 (f i) c1
      exact ⟨d1, d2.trans c2⟩
    · exact a2 i j hi hj (b2 _ _ (a1 i hi).1 (a1 j hj).1 e)
    · obtain ⟨q, hq, e⟩ := b3 p hp
      obtain ⟨i, hi, e2⟩ := a3 q hq
      exact ⟨i, hi, by rw [e2, e]⟩
end Ax
end Go.Proofs.YtdfgnoflohfnmaaGreatDoor
