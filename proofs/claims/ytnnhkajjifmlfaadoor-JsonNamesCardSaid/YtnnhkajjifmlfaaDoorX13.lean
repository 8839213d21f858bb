/- What is read: cells, strings out of bytes, pointers seen as others. -/
import Derived.Test.YtnnhkajjifmlfaaDoorX12
import Derived.Laws.Cells
import Derived.Laws.IdiomStrings
import Derived.Laws.IdiomRangeMap
namespace Go.Proofs.YtnnhkajjifmlfaaDoor
namespace Ax
section
variable {E : Env} {o : Oper} {t u : TypeId} {x y : Operand}

/-- cells of a block that can be read, where they lie -/
theorem cut_rel {ρ : Ren} {H : Hp} {w : World} (h : Rel ρ H w) {b : Pn} {l : List AV} {ty : TypeId} {fz : Bool} (hb : isBlk (H b) l ty fz) {p n : Nat} (hn : p + n ≤ l.length) :
    ∃ (tb : Bk) (vs : List Value), ρ b = some tb ∧ VRs ρ ((l.drop p).take n) vs ∧ vs.length = n ∧ ∀ j v, vs[j]? = some v → w.cell? ((⟨tb.c, tb.d + p, none⟩ : Addr).add j) = some v := by
  obtain ⟨tb, arr, lo, hi, h1, h2, h3, h4, h5, h6⟩ := blk_rel h hb
  refine ⟨tb, (((arr.toList.drop tb.d).take l.length).drop p).take n, h1, (h6.drop p).take n, ?_, fun j v hj => ?_⟩
  · have := ((h6.drop p).take n).1
    rw [this]
    simp; omega
  · rw [addr_add]
    simp only [World.cell?, h2, Option.isSome_none, Bool.false_eq_true, if_false]
    rw [List.getElem?_take, List.getElem?_drop, List.getElem?_take, List.getElem?_drop] at hj
    split at hj
    · split at hj
      · rw [← hj, Array.getElem?_toList]
        congr 1
        omega
      · cases hj
    · cases hj
theorem one_rel {ρ : Ren} {H : Hp} {w : World} (h : Rel ρ H w) {b : Pn} {l : List AV} {ty : TypeId} {fz : Bool} (hb : isBlk (H b) l ty fz) {p : Nat} {a : AV} (ha : l[p]? = some a) :
    ∃ (tb : Bk) (v : Value), ρ b = some tb ∧ VR ρ a v ∧ w.cell? ⟨tb.c, tb.d + p, none⟩ = some v := by
  have hp : p < l.length := (List.getElem?_eq_some_iff.1 ha).1
  obtain ⟨tb, vs, h1, h2, h3, h4⟩ := cut_rel h hb (p := p) (n := 1) (by omega)
  have h0 : 0 < vs.length := by omega
  have e1 : vs[0]? = some vs[0] := List.getElem?_eq_getElem h0
  refine ⟨tb, vs[0], h1, h2.2 0 a _ ?_ e1, ?_⟩
  · rw [List.getElem?_take, if_pos (by omega), List.getElem?_drop]; exact ha
  · have := h4 0 _ e1
    rwa [addr_add, Nat.add_zero] at this
theorem ld_inv {P : Program} {i : TI} (hT : TOK P t i) {h : Tr AO} {v : AV} {k : AV → R} (hk : Ok (ld i h v k)) :
    ∃ r, ld i h v k = k r ∧ ∀ (ρ : Ren) (w : World) (v' : Value), VR ρ v v' → Rel ρ (hv h) w → ∃ r', VR ρ r r' ∧ (Instr.loadAt t v').run P w = .ok r' w := by
  unfold ld at hk ⊢
  cases ha : i.agg with
  | false =>
    rw [ha] at hk
    simp only at hk ⊢
    unfold ld1 at hk ⊢
    obtain ⟨b, p, rfl, h1⟩ := asP_inv hk
    rw [h1] at hk ⊢
    obtain ⟨l, ty, fz, h2, h3⟩ := blkK_inv hk
    rw [h3] at hk ⊢
    obtain ⟨a, h4, h5⟩ := nthK_inv l hk
    refine ⟨a, h5, fun ρ w v' hv hR => ?_⟩
    obtain ⟨tb, g1, rfl⟩ := hv.p_inv
    obtain ⟨tb', r', g2, g3, g4⟩ := one_rel hR h2 h4
    obtain rfl := Option.some.inj (g1.symm.trans g2)
    refine ⟨r', g3, ?_⟩
    simp [Instr.loadAt, Instr.sureAddr, loadVar, hT.run_agg, ha, g4]
  | true =>
    rw [ha] at hk
    simp only at hk ⊢
    unfold ldn at hk ⊢
    obtain ⟨b, p, rfl, h1⟩ := asP_inv hk
    rw [h1] at hk ⊢
    obtain ⟨l, ty, fz, h2, h3⟩ := blkK_inv hk
    rw [h3] at hk ⊢
    obtain ⟨h4, h5⟩ := cutK_inv hk
    refine ⟨_, h5, fun ρ w v' hv hR => ?_⟩
    obtain ⟨tb, g1, rfl⟩ := hv.p_inv
    obtain ⟨tb', vs, g2, g3, g4, g5⟩ := cut_rel hR h2 h4
    obtain rfl := Option.some.inj (g1.symm.trans g2)
    refine ⟨_, VR.ag' g3, ?_⟩
    have hl := run_loadCells_list (P := P) w ⟨tb.c, tb.d + p, none⟩ vs g5
    rw [g4] at hl
    simp [Instr.loadAt, Instr.sureAddr, loadVar, hT.run_agg, ha, hT.run_size, hl]
theorem rd_load {i : TI} (hE : EOK E) (hi : E.ti t = some i) (ho : o.op = .load t x) : RdS E.P o (fun tm h k => opd x tm fun v => ld i h v k) := fun tm h k hk => by
  obtain ⟨v, h1, h2⟩ := opd_inv hk
  simp only [h2] at hk ⊢
  obtain ⟨r, h3, h4⟩ := ld_inv (tok hE hi) hk
  refine ⟨r, h3, fun ρ A w hr hR => ?_⟩
  obtain ⟨r', g1, g2⟩ := h4 ρ w _ (hr x (mem1 (l := #[x]) (by rw [ho]; rfl) (by simp)) _ h1) hR
  exact ⟨r', g1, by simp only [execOp, ho]; exact run_v g2⟩

/-! ### bytes to a string -/
theorem toBytes_inv (l : List AV) : ∀ {k : List UInt8 → R}, Ok (toBytes l k) → ∃ r : List UInt8, toBytes l k = k r ∧ r.length = l.length ∧ ∀ (ρ : Ren) (vs : List Value), VRs ρ l vs → ∃ ns : List Int, vs = ns.map (Value.int .u8) ∧ r = ns.map fun n => UInt8.ofNat n.toNat := by
  induction l with
  | nil => exact fun _ => ⟨[], rfl, rfl, fun ρ vs h => ⟨[], by rw [h.nil_inv]; rfl, rfl⟩⟩
  | cons a l ih =>
    intro k h
    have e : toBytes (a :: l) k = asI a fun q z => ifK (Nat.beq (kidx q) 4) 115 fun _ => natK z 116 fun m => toBytes l fun r => k (UInt8.ofNat m :: r) := rfl
    rw [e] at h ⊢
    obtain ⟨q, z, rfl, h1⟩ := asI_inv h
    rw [h1] at h ⊢
    obtain ⟨h2, h3⟩ := ifK_inv h
    rw [h3] at h ⊢
    obtain ⟨m, rfl, h4⟩ := natK_inv h
    rw [h4] at h ⊢
    obtain ⟨r, h5, h6, h7⟩ := ih h
    have hq : q = .u8 := by cases q <;> first | rfl | (simp [kidx] at h2)
    subst hq
    refine ⟨_, h5, by simp [h6], fun ρ vs hv => ?_⟩
    obtain ⟨v, vs', rfl, g1, g2⟩ := hv.cons_inv
    obtain ⟨ns, rfl, rfl⟩ := h7 ρ vs' g2
    exact ⟨(m : Int) :: ns, by rw [g1.i_inv]; rfl, by simp⟩
theorem fold_bytes (ns : List Int) : ∀ r : ByteArray, ns.foldl (fun r n => r.push (UInt8.ofNat n.toNat)) r = ⟨r.data ++ (ns.map fun n => UInt8.ofNat n.toNat).toArray⟩ := by
  induction ns with
  | nil => intro r; simp
  | cons n ns ih => intro r; rw [List.foldl_cons, ih]; simp [ByteArray.push]
theorem strOf_inv {P : Program} {h : Tr AO} {v : AV} {k : AV → R} (hk : Ok (strOf h v k)) :
    ∃ r, strOf h v k = k r ∧ ∀ (ρ : Ren) (w : World) (v' : Value), VR ρ v v' → Rel ρ (hv h) w → ∃ r', VR ρ r r' ∧ (Conv.bytesToString v').run P w = .ok r' w := by
  unfold strOf at hk ⊢
  rcases asSl_inv hk with ⟨rfl, h1⟩ | ⟨b, p, n, c, ex, rfl, h1⟩
  · refine ⟨_, h1, fun ρ w v' hv hR => ⟨_, .s _, ?_⟩⟩
    rw [hv.ns_inv]
    rfl
  · rw [h1] at hk ⊢
    obtain ⟨l, ty, fz, h2, h3⟩ := blkK_inv hk
    rw [h3] at hk ⊢
    obtain ⟨h4, h5⟩ := cutK_inv hk
    rw [h5] at hk ⊢
    obtain ⟨r, h6, h7, h8⟩ := toBytes_inv _ hk
    refine ⟨_, h6, fun ρ w v' hv hR => ⟨_, .s _, ?_⟩⟩
    obtain ⟨tb, off, c', g1, rfl, g3, g4, _, _, g5⟩ := hv.sl_inv
    obtain ⟨tb', vs, e1, e2, e3, e4⟩ := cut_rel hR h2 h4
    obtain rfl := Option.some.inj (g1.symm.trans e1)
    obtain ⟨ns, rfl, rfl⟩ := h8 ρ vs e2
    have hcell : ∀ j v, (ns.map (Value.int .u8))[j]? = some v → w.cell? ((⟨tb.c, off, none⟩ : Addr).add j) = some v := by
      intro j v hj
      have hjn : j < n := by rw [← e3]; exact (List.getElem?_eq_some_iff.1 hj).1
      have hoff : off = tb.d + p := by rcases g3 with g | g; exact g; omega
      subst hoff
      exact e4 j v hj
    have hl := run_loadCells_list (P := P) w ⟨tb.c, off, none⟩ _ hcell
    rw [e3] at hl
    have hb := run_bytesToString (P := P) w ⟨tb.c, off, none⟩ n c' ns hl
    rw [hb, fold_bytes]
    simp
theorem rd_conv_bs {i j : TI} (hE : EOK E) (hi : E.ti t = some i) (hj : E.ti u = some j) (ho : o.op = .convert t u x) (h1 : kd i.d = 3) (h2 : kd j.d = 2) (hb : isByte E (elemT i.d) = true) :
    RdS E.P o (fun tm h k => opd x tm fun v => strOf h v k) := fun tm h k hk => by
  obtain ⟨e, e1⟩ := kd_inv.2.2.1 h1
  have e2 := kd_inv.2.1 h2
  obtain ⟨v, g1, g2⟩ := opd_inv hk
  simp only [g2] at hk ⊢
  obtain ⟨r, g3, g4⟩ := strOf_inv (P := E.P) hk
  refine ⟨r, g3, fun ρ A w hr hR => ?_⟩
  obtain ⟨r', g5, g6⟩ := g4 ρ w _ (hr x (mem1 (l := #[x]) (by rw [ho]; rfl) (by simp)) _ g1) hR
  refine ⟨r', g5, ?_⟩
  simp only [execOp, ho]
  refine run_v ?_
  rw [e1] at hb
  obtain ⟨_, _, _, _, hu⟩ := isByte_inv hE hb
  have hsl : ∃ a n c, A.eval x = .slice a n c := by
    have hx := hr x (mem1 (l := #[x]) (by rw [ho]; rfl) (by simp)) _ g1
    have hk' : Ok (strOf h v k) := hk
    unfold strOf at hk'
    rcases asSl_inv hk' with ⟨rfl, _⟩ | ⟨b, p, n, c, ex, rfl, _⟩
    · exact ⟨_, _, _, hx.ns_inv⟩
    · obtain ⟨tb, off, c', _, e, _⟩ := hx.sl_inv; exact ⟨_, _, _, e⟩
  obtain ⟨a, n, c, hsl⟩ := hsl
  rw [hsl] at g6 ⊢
  simp only [elemT] at hu
  simp [convert, (tok hE hi).run_un, (tok hE hj).run_un, e1, e2, run_underlying hu, g6]

/-! ### pointers seen as others -/
theorem rd_conv_pu {i j e : TI} (hE : EOK E) (hi : E.ti t = some i) (hj : E.ti u = some j) (ho : o.op = .convert t u x) (h1 : kd i.d = 4) (h2 : kd j.d = 5) (he : E.ti (elemT i.d) = some e) (hz : Nat.beq e.size 0 = false) :
    RdS E.P o (fun tm h k => opd x tm fun v => asP v fun b o => blkK h b fun l _ _ => ifK (Nat.ble (o + 1) l.length) 125 fun _ => k (.p b o)) := fun tm h k hk => by
  obtain ⟨et, e1⟩ := kd_inv.2.2.2.1 h1
  have e2 := kd_inv.2.2.2.2 h2
  obtain ⟨v, g1, g2⟩ := opd_inv hk
  simp only [g2] at hk ⊢
  obtain ⟨b, p, rfl, g3⟩ := asP_inv hk
  rw [g3] at hk ⊢
  obtain ⟨l, ty, fz, g4, g5⟩ := blkK_inv hk
  rw [g5] at hk ⊢
  obtain ⟨g6, g7⟩ := ifK_inv hk
  refine ⟨_, g7, fun ρ A w hr hR => ?_⟩
  obtain ⟨tb, q1, q2⟩ := (hr x (mem1 (l := #[x]) (by rw [ho]; rfl) (by simp)) _ g1).p_inv
  obtain ⟨tb', arr, lo, hi', m1, m2, m3, m4, m5, m6⟩ := blk_rel hR g4
  obtain rfl := Option.some.inj (q1.symm.trans m1)
  refine ⟨_, .p q1, ?_⟩
  simp only [execOp, ho]
  refine run_v ?_
  rw [q2]
  rw [e1] at he
  simp only [elemT] at he
  have hz' : e.size ≠ 0 := fun h => by rw [h] at hz; cases hz
  have hp := ble_iff.1 g6
  have hsh : w.shape? tb.c = some (ty, arr.size) := by simp [World.shape?, m2]
  have hin : ¬ (arr.size ≤ tb.d + p) := by omega
  simp [convert, (tok hE hi).run_un, (tok hE hj).run_un, e1, e2, Conv.unsafePointer, Conv.seenAt, viewAt, hsh, cellsIn, (tok hE he).run_size, hz', hin]
end
end Ax
end Go.Proofs.YtnnhkajjifmlfaaDoor
