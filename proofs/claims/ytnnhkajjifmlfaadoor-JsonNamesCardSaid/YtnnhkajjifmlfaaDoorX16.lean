/- What an effect is; cells stored; copies. -/
import Derived.Test.YtnnhkajjifmlfaaDoorX15
import Derived.Laws.IdiomCopy
namespace Go.Proofs.YtnnhkajjifmlfaaDoor
namespace Ax
/-- an effect that comes to a value at once -/
def VeS (P : Program) (o : Oper) (f : Tr AV → Tr AO → Pn → (AV → Tr AO → Pn → R) → R) : Prop :=
  ∀ tm h n k, Ok (f tm h n k) → ∃ v h' n', f tm h n k = k v h' n' ∧ n.nat ≤ n'.nat ∧ ∀ (ρ : Ren) (a : Act) (w : World), VRo ρ tm a o → Rel ρ (hv h) w → Fresh ρ (hv h) n n' →
    ∃ ρ' w' v' nx, (execOp a.eval o).run P w = .ok nx w' ∧ (nx = .value v' ∨ (nx = .skip ∧ v' = undef)) ∧ Step ρ (hv h) w n ρ' (hv h') w' n' ∧ VR ρ' v v'
theorem VR.undef (ρ : Ren) : VR ρ (.tu []) Go.undef := .tu rfl (fun i x v h => by simp at h)
section
variable {E : Env} {o : Oper} {t u : TypeId} {x y : Operand} {ρ : Ren} {H : Hp} {w : World}
theorem rel_lt (h : Rel ρ H w) : ∀ b u, H b ≠ .x → ρ b = some u → u.c < w.heap.size := by
  intro b u hb hu
  obtain ⟨t, h1, h2⟩ := h.ob b hb
  obtain rfl := Option.some.inj (hu.symm.trans h1)
  apply Nat.lt_of_not_le
  intro hle
  rw [Array.getElem?_eq_none hle] at h2
  cases hH : H b <;> rw [hH] at h2 hb
  · exact hb rfl
  · obtain ⟨_, _, _, h, _⟩ := h2; cases h
  · obtain ⟨_, _, _, h, _⟩ := h2; cases h
  · obtain ⟨_, _, h, _⟩ := h2; cases h
  · exact h2
  · obtain ⟨_, h, _⟩ := h2; cases h
  · obtain ⟨_, _, _, _, h, _⟩ := h2; cases h
  · cases h2
theorem laid_cons {l : List Value} {o : Nat} {v : Value} {r : List Value} (h : o + 1 + r.length ≤ l.length) : laid (l.set o v) (o + 1) r = laid l o (v :: r) := by
  apply List.ext_getElem?
  intro i
  rw [laid_get (by simpa using h), laid_get (by simp; omega)]
  simp only [List.length_cons]
  by_cases h1 : o + 1 ≤ i ∧ i < o + 1 + r.length
  · rw [if_pos h1, if_pos (by omega), show i - o = (i - (o + 1)) + 1 from by omega, List.getElem?_cons_succ]
  · rw [if_neg h1]
    by_cases h2 : i = o
    · subst h2
      rw [if_pos (by omega), Nat.sub_self, List.getElem?_set_self (by omega)]; rfl
    · rw [if_neg (by omega), List.getElem?_set_ne (fun e => h2 e.symm)]
theorem heap_setCells (c : Nat) (ty : TypeId) (fr : Nat × Nat) : ∀ (vs : List Value) (o : Nat) (w : World) (arr : Array Value), w.heap[c]? = some (.cells arr ty fr) → o + vs.length ≤ arr.size →
    ∀ k, (w.setCells c o vs).heap[k]? = if k = c then some (.cells (laid arr.toList o vs).toArray ty fr) else w.heap[k]?
  | [], o, w, arr, h, _, k => by
    rw [World.setCells]
    split
    · rename_i e
      subst e
      rw [h]
      simp [laid]
    · rfl
  | v :: r, o, w, arr, h, hle, k => by
    rw [World.setCells]
    simp only [List.length_cons] at hle
    have hc : (w.setCell ⟨c, o, none⟩ v).heap[c]? = some (.cells (arr.setIfInBounds o v) ty fr) := by
      simp [World.setCell, Array.getElem?_modify, h]
    rw [heap_setCells c ty fr r (o + 1) _ _ hc (by simp; omega)]
    split
    · congr 2
      rw [← laid_cons (by simp; omega)]
      simp
    · rename_i hk
      simp [World.setCell, Array.getElem?_modify, Ne.symm hk]
theorem size_setCells (c : Nat) : ∀ (vs : List Value) (o : Nat) (w : World), (w.setCells c o vs).heap.size = w.heap.size
  | [], _, _ => rfl
  | v :: r, o, w => by rw [World.setCells, size_setCells c r]; simp [World.setCell]
theorem rest_setCells (c : Nat) : ∀ (vs : List Value) (o : Nat) (w : World), (w.setCells c o vs).os = w.os ∧ (w.setCells c o vs).tape = w.tape ∧ (w.setCells c o vs).output = w.output
  | [], _, _ => ⟨rfl, rfl, rfl⟩
  | v :: r, o, w => by rw [World.setCells]; exact rest_setCells c r _ _
theorem laid_window {l vs : List Value} {d n p : Nat} (h : d + n ≤ l.length) (hp : p + vs.length ≤ n) : ((laid l (d + p) vs).drop d).take n = laid ((l.drop d).take n) p vs := by
  apply List.ext_getElem?
  intro i
  have h1 : p + vs.length ≤ ((l.drop d).take n).length := by simp; omega
  rw [List.getElem?_take, List.getElem?_drop, laid_get h1, laid_get (by omega)]
  by_cases hi : i < n
  · rw [if_pos hi]
    by_cases hc : p ≤ i ∧ i < p + vs.length
    · rw [if_pos hc, if_pos (by omega)]; congr 1; omega
    · rw [if_neg hc, if_neg (by omega), List.getElem?_take, if_pos hi, List.getElem?_drop]
  · rw [if_neg hi, if_neg (by omega), List.getElem?_take, if_neg hi]
/-- cells stored over an array's -/
theorem store_arr {P : Program} {c p : Nat} {arr : Array Value} {ty : TypeId} {lo hi : Nat} {vs : List Value} (h : w.heap[c]? = some (.cells arr ty (lo, hi))) (hf : hi = lo ∨ arr.size ≤ lo) (hle : p + vs.length ≤ arr.size) (h1 : ∀ v ∈ vs, v.oneCell' = true) :
    (storeCells ⟨c, p, none⟩ vs).run P w = .ok () (w.setCells c p vs) := by
  have := run_storeCells_cells (P := P) c p vs 0 w (fun j hj => by
      simp only [World.cell?, h, Option.isSome_none, Bool.false_eq_true, if_false]
      rw [Array.getElem?_eq_getElem (by omega)]; rfl)
    (fun j hj => by
      simp only [World.frozen?, h, Bool.and_eq_false_iff, decide_eq_false_iff_not]
      rcases hf with hf | hf <;> omega) h1
  simpa using this
theorem store_rel {P : Program} {n b : Pn} {l xs : List AV} {ty : TypeId} {fz : Bool} {tb : Bk} {p : Nat} {vs : List Value} (h : Rel ρ H w) (hb : H b = .c l ty fz) (ht : ρ b = some tb) (hx : VRs ρ xs vs) (hs : scals xs = true) (hp : p + xs.length ≤ l.length) :
    ∃ w', (storeCells ⟨tb.c, tb.d + p, none⟩ vs).run P w = .ok () w' ∧ Step ρ H w n ρ (upd H b (.c (laid l p xs) ty fz)) w' n := by
  obtain ⟨tb', arr, lo, hi, h1, h2, h3, h4, h5, h6⟩ := blk_rel h (.inl hb)
  obtain rfl := Option.some.inj (ht.symm.trans h1)
  have hlen := hx.1
  have hst := store_arr (P := P) (p := tb.d + p) (vs := vs) h2 (by rcases h4 with h | ⟨_, h⟩; exact .inl h; exact .inr h) (by omega) (scals_one hx hs)
  have hl6 : ((arr.toList.drop tb.d).take l.length).length = l.length := h6.1
  refine ⟨_, hst, Step.turn h (own_c hb) ht (ob := .cells (laid arr.toList (tb.d + p) vs).toArray ty (lo, hi)) ⟨_, lo, hi, rfl, ⟨?_, h3.2⟩, ?_, ?_, ?_⟩ (.inl ⟨by simp, by simp⟩) (heap_setCells _ _ _ vs _ w arr h2 (by omega)) (size_setCells _ _ _ _) (rest_setCells _ _ _ _).1 (rest_setCells _ _ _ _).2.1 (rest_setCells _ _ _ _).2.2⟩
  · rw [← h3.1]; simp [laid_length (l := arr.toList) (o := tb.d + p) (xs := vs) (by simp; omega)]
  · rcases h4 with h | ⟨h, h'⟩
    · exact .inl h
    · exact .inr ⟨h, by simp [laid_length (l := arr.toList) (o := tb.d + p) (xs := vs) (by simp; omega)]; exact h'⟩
  · rw [laid_length hp]; simp [laid_length (l := arr.toList) (o := tb.d + p) (xs := vs) (by simp; omega)]; exact h5
  · rw [laid_length hp]
    rw [laid_window (by simpa using h5) (by omega)]
    exact h6.laid hx p
theorem ve_store {i : TI} (hE : EOK E) (hi : E.ti t = some i) (ho : o.op = .store t x y) : VeS E.P o (fun tm h n k => opd x tm fun a => opd y tm fun x => st i h a x fun h => k (.tu []) h n) := fun tm h n k hk => by
  obtain ⟨v, h1, h2⟩ := opd_inv hk
  simp only [h2] at hk ⊢
  obtain ⟨v2, h3, h4⟩ := opd_inv hk
  simp only [h4] at hk ⊢
  unfold st at hk ⊢
  obtain ⟨b, p, rfl, h5⟩ := asP_inv hk
  rw [h5] at hk ⊢
  obtain ⟨hz, h6⟩ := cellsK_inv hk
  rw [h6] at hk ⊢
  obtain ⟨h7, h8⟩ := ifK_inv hk
  rw [h8] at hk ⊢
  obtain ⟨h9, l, ty, fz, h10, h11, h12⟩ := stc_inv hk
  refine ⟨_, _, _, h12, Nat.le_refl _, fun ρ A w hr hR _ => ?_⟩
  have eo : o.op.operands = #[x, y] := by rw [ho]; rfl
  obtain ⟨tb, g1, g2⟩ := (hr x (mem1 eo (by simp)) _ h1).p_inv
  have g3 := hr y (mem1 eo (by simp)) _ h3
  have g4 := cells_rel g3 hz
  obtain ⟨w', g5, g6⟩ := store_rel (P := E.P) (n := n) hR h10 g1 g4 h9 h11
  refine ⟨ρ, w', _, .skip, ?_, .inr ⟨rfl, rfl⟩, by rw [hv_put]; exact g6, VR.undef ρ⟩
  have hsz : (A.eval y).cells.size = i.size := by rw [← Array.length_toList, g4.1, beq_iff.1 h7]
  simp only [execOp, ho, g2]
  simp [Instr.storeAt, Instr.sureAddr, storeVar, (tok hE hi).run_size, hsz, g5]

/-! ### copies -/
theorem srcK_inv {P : Program} {sz : Nat} {h : Tr AO} {v : AV} {k : Nat → List AV → R} (hk : Ok (srcK sz h v k)) : ∃ m xs, srcK sz h v k = k m xs ∧ xs.length = m * sz ∧
    ∀ (ρ : Ren) (w : World) (v' : Value), VR ρ v v' → Rel ρ (hv h) w → ∃ vs, VRs ρ xs vs ∧ ∀ w' : World, w'.heap = w.heap → (Builtin.lenOf v').run P w' = .ok m w' ∧ ∀ q, q ≤ m → (Builtin.firstCells sz q v').run P w' = .ok (vs.take (q * sz)).toArray w' := by
  unfold srcK at hk ⊢
  cases hs : isS v with
  | true =>
    rw [hs] at hk
    simp only at hk ⊢
    obtain ⟨l, rfl, h1⟩ := asS_inv hk
    rw [h1] at hk ⊢
    obtain ⟨h2, h3⟩ := ifK_inv hk
    obtain rfl := beq_iff.1 h2
    refine ⟨_, _, h3, by rw [byteCells_length, Nat.mul_one], fun ρ w v' hv hR => ⟨_, byteCells_rel ρ l, fun w' _ => ?_⟩⟩
    rw [hv.s_inv]
    refine ⟨by simp [Builtin.lenOf, s_size], fun q hq => ?_⟩
    simp only [Builtin.firstCells, Nat.mul_one]
    rw [ext_list]
    simp [List.map_take]
  | false =>
    rw [hs] at hk
    simp only at hk ⊢
    rcases asSl_inv hk with ⟨rfl, h1⟩ | ⟨b, p, n, c, ex, rfl, h1⟩
    · refine ⟨_, _, h1, by simp, fun ρ w v' hv hR => ⟨[], VRs.nil ρ, fun w' _ => ?_⟩⟩
      rw [hv.ns_inv]
      exact ⟨by simp [Builtin.lenOf], fun q hq => by simp [Builtin.firstCells]⟩
    · rw [h1] at hk ⊢
      obtain ⟨l, ty, fz, h2, h3⟩ := blkK_inv hk
      rw [h3] at hk ⊢
      obtain ⟨h4, h5⟩ := cutK_inv hk
      refine ⟨_, _, h5, by simp; omega, fun ρ w v' hv hR => ?_⟩
      obtain ⟨tb, off, c', g1, rfl, g3, g4, _, _, g5⟩ := hv.sl_inv
      obtain ⟨tb', vs, e1, e2, e3, e4⟩ := cut_rel hR h2 h4
      obtain rfl := Option.some.inj (g1.symm.trans e1)
      refine ⟨vs, e2, fun w' hw => ⟨by simp [Builtin.lenOf], fun q hq => ?_⟩⟩
      have hcell : ∀ j u, (vs.take (q * sz))[j]? = some u → w'.cell? ((⟨tb.c, off, none⟩ : Addr).add j) = some u := by
        intro j u hj
        rw [List.getElem?_take] at hj
        split at hj
        · have hjv : j < vs.length := (List.getElem?_eq_some_iff.1 hj).1
          have hn0 : n ≠ 0 := fun e => by rw [e, Nat.zero_mul] at e3; omega
          have hoff : off = tb.d + p := by rcases g3 with g | g; exact g; omega
          subst hoff
          have := e4 j u hj
          simp only [World.cell?] at this ⊢
          rw [hw]; exact this
        · cases hj
      have hl := run_loadCells_list (P := P) w' ⟨tb.c, off, none⟩ _ hcell
      have hlen : (vs.take (q * sz)).length = q * sz := by
        rw [List.length_take, e3]
        exact Nat.min_eq_left (Nat.mul_le_mul_right _ hq)
      rw [hlen] at hl
      simp [Builtin.firstCells, hl]
theorem elem_inv {j : TI} (hg : (Nat.beq j.size 0 || !(Nat.beq j.zc.length j.size)) = false) : j.size ≠ 0 ∧ j.zc.length = j.size := by
  simp only [Bool.or_eq_false_iff, Bool.not_eq_false'] at hg
  exact ⟨fun h => by rw [h] at hg; exact absurd hg.1 (by simp), beq_iff.1 hg.2⟩
theorem ve_copy {c : Call} {ts : List TypeId} {i j : TI} {e : TypeId} (hE : EOK E) (hi : E.ti t = some i) (hd : i.d = .slice e) (hj : E.ti e = some j) (ho : o.op = .call c) (hb : c.callee = .builtin .copy) (ht : c.argTypes.toList = t :: ts) (hx : c.args.toList = [x, y]) :
    VeS E.P o (fun tm h n k => opd x tm fun d => opd y tm fun x => copyK j.size d x h fun v h => k v h n) := fun tm h n k hk => by
  obtain ⟨v, h1, h2⟩ := opd_inv hk
  simp only [h2] at hk ⊢
  obtain ⟨v2, h3, h4⟩ := opd_inv hk
  simp only [h4] at hk ⊢
  unfold copyK at hk ⊢
  obtain ⟨m, xs, h5, hxl, h6⟩ := srcK_inv (P := E.P) hk
  rw [h5] at hk ⊢
  have hu : E.P.underlying t = some (.slice e) := by rw [(tok hE hi).un, hd]
  rcases asSl_inv hk with ⟨rfl, h7⟩ | ⟨b, p, n1, c1, ex, rfl, h7⟩
  · refine ⟨_, _, _, h7, Nat.le_refl _, fun ρ A w hr hR _ => ?_⟩
    have g1 := (hr x (bi_mem ho (by rw [hx]; simp)) _ h1).ns_inv
    obtain ⟨vs, g2, g3⟩ := h6 ρ w _ (hr y (bi_mem ho (by rw [hx]; simp)) _ h3) hR
    obtain ⟨g4, g5⟩ := g3 w rfl
    refine ⟨ρ, w, _, _, ?_, .inl rfl, Step.refl hR, .i .i64 (.ofNat 0)⟩
    rw [run_builtin ho hb, args_of hx, types_of ht]
    refine run_v ?_
    simp only [List.map_toArray, List.map_cons, List.map_nil, g1]
    have := g5 0 (Nat.zero_le _)
    simp [Builtin.copy_, run_underlying hu, g4, (tok hE hj).run_size, this]
    rfl
  · rw [h7] at hk ⊢
    obtain ⟨h8, h9⟩ := takeK_inv _ hk
    rw [h9] at hk ⊢
    have hfin : ∀ (ρ : Ren) (A : Act) (w : World), VRo ρ tm A o → Rel ρ (hv h) w → ∃ tb off c' vs, ρ b = some tb ∧ (off = tb.d + p ∨ c' = 0) ∧ c1 ≤ c' ∧ n1 ≤ c1 ∧ VRs ρ (xs.take (Nat.min m n1 * j.size)) vs ∧
        ∀ w', (storeCells ⟨tb.c, off, none⟩ vs).run E.P w = .ok () w' → (execOp A.eval o).run E.P w = .ok (.value (goInt (Nat.min m n1))) w' := by
      intro ρ A w hr hR
      obtain ⟨tb, off, c', g1, g2, g3, g4, _, _, g5⟩ := (hr x (bi_mem ho (by rw [hx]; simp)) _ h1).sl_inv
      obtain ⟨vs, g6, g7⟩ := h6 ρ w _ (hr y (bi_mem ho (by rw [hx]; simp)) _ h3) hR
      obtain ⟨g8, g9⟩ := g7 w rfl
      refine ⟨tb, off, c', vs.take (Nat.min m n1 * j.size), g1, g3, g4, g5, g6.take _, fun w' hst => ?_⟩
      rw [run_builtin ho hb, args_of hx, types_of ht]
      refine run_v ?_
      simp only [List.map_toArray, List.map_cons, List.map_nil, g2]
      have := g9 (Nat.min m n1) (Nat.min_le_left _ _)
      simp [Builtin.copy_, run_underlying hu, g8, (tok hE hj).run_size, this, hst]
    cases hq : Nat.min m n1 with
    | zero =>
      rw [hq] at hk hfin
      refine ⟨_, _, _, rfl, Nat.le_refl _, fun ρ A w hr hR _ => ?_⟩
      obtain ⟨tb, off, c', vs, g1, g3, g4, g5, g6, g7⟩ := hfin ρ A w hr hR
      have : vs = [] := by have := g6.1; rw [Nat.zero_mul] at this; simpa using this
      subst this
      exact ⟨ρ, w, _, _, g7 w rfl, .inl rfl, Step.refl hR, .i .i64 (.ofNat 0)⟩
    | succ q =>
      rw [hq] at hk hfin h8
      simp only at hk ⊢
      obtain ⟨h10, l, ty, fz, h11, h12, h13⟩ := stc_inv hk
      refine ⟨_, _, _, h13, Nat.le_refl _, fun ρ A w hr hR _ => ?_⟩
      obtain ⟨tb, off, c', vs, g1, g3, g4, g5, g6, g7⟩ := hfin ρ A w hr hR
      have hn1 : q + 1 ≤ n1 := by rw [← hq]; exact Nat.min_le_right _ _
      have hoff : off = tb.d + p := by rcases g3 with g | g; exact g; omega
      subst hoff
      obtain ⟨w', e1, e2⟩ := store_rel (P := E.P) (n := n) hR h11 g1 g6 h10 h12
      exact ⟨ρ, w', _, _, g7 w' e1, .inl rfl, by rw [hv_put]; exact e2, .i .i64 (.ofNat (q + 1))⟩
end
end Ax
end Go.Proofs.YtnnhkajjifmlfaaDoor
