/- HTTP: requests as values; the kit's SameRequest and Pick, walked. -/
import Derived.Test.YtdfgnoflohfnmaaGreatDoorHp
namespace Go.Proofs.YtdfgnoflohfnmaaGreatDoor.Hx
open Go.RowKit Go.Maps

/-- parameters as a slice, in one of some blocks -/
def QAt (w : World) (S : Nat → Prop) (qv : Value) (q : Pr) : Prop :=
  ∃ A c b o, qv = .slice A q.length c ∧ q.length ≤ maxLen ∧ (0 < q.length → A = some ⟨b, o, none⟩ ∧ S b ∧ b < w.heap.size) ∧
    ∀ i (h : i < q.length), w.cell? ⟨b, o + i * 2, none⟩ = some (.string ⟨q[i].1.toArray⟩) ∧ w.cell? ⟨b, o + i * 2 + 1, none⟩ = some (.string ⟨q[i].2.toArray⟩)
theorem prCells_at : ∀ (q : Pr) (i : Nat) (h : i < q.length), (prCells q)[i * 2]? = some (.string ⟨q[i].1.toArray⟩) ∧ (prCells q)[i * 2 + 1]? = some (.string ⟨q[i].2.toArray⟩)
  | a :: t, 0, _ => ⟨rfl, rfl⟩
  | a :: t, i + 1, h => by
    have := prCells_at t i (by simpa using h)
    have e : prCells (a :: t) = .string ⟨a.1.toArray⟩ :: .string ⟨a.2.toArray⟩ :: prCells t := rfl
    rw [e, show (i + 1) * 2 = i * 2 + 1 + 1 from by omega, show i * 2 + 1 + 1 + 1 = (i * 2 + 1) + 1 + 1 from rfl]
    simpa using this
theorem QAt.of_own {w : World} {base : Nat} {qv : Value} {q : Pr} {S : Nat → Prop} (h : w.ownsRow base 60 2 qv q.length (prCells q)) (hS : ∀ k, base ≤ k → k < w.heap.size → S k) : QAt w S qv q := by
  rcases h.2 with ⟨rfl, h0⟩ | ⟨g, cap, cur, rfl, hb, hh, hn1, hn2, _, ht⟩
  · exact ⟨none, 0, 0, 0, by rw [h0], by omega, fun h => by omega, fun i h => by omega⟩
  · have hl : g < w.heap.size := (Array.getElem?_eq_some_iff.1 hh).1
    refine ⟨_, cap, g, 0, rfl, Nat.le_trans hn1 hn2, fun _ => ⟨rfl, hS g hb hl, hl⟩, fun i hi => ?_⟩
    rw [Nat.zero_add]
    obtain ⟨h1, h2⟩ := prCells_at q i hi
    rw [cell_of_row w g _ cur _ (0, 0) hh, cell_of_row w g _ cur _ (0, 0) hh]
    rw [← ht, List.getElem?_take_of_lt (by omega)] at h1 h2
    exact ⟨by simpa using h1, by simpa using h2⟩
theorem QAt.gt {w w' : World} {S T : Nat → Prop} {qv : Value} {q : Pr} (h : QAt w S qv q) (hg : GT w w' T) (hT : ∀ b, S b → ¬ T b) : QAt w' S qv q := by
  obtain ⟨A, c, b, o, e, hm, ha, hc⟩ := h
  refine ⟨A, c, b, o, e, hm, fun h0 => ⟨(ha h0).1, (ha h0).2.1, Nat.lt_of_lt_of_le (ha h0).2.2 hg.size⟩, fun i hi => ?_⟩
  have := ha (by omega)
  exact ⟨hg.cell (hc i hi).1 (hT b this.2.1), hg.cell (hc i hi).2 (hT b this.2.1)⟩
theorem QAt.mono {w : World} {S S' : Nat → Prop} {qv : Value} {q : Pr} (h : QAt w S qv q) (hS : ∀ b, b < w.heap.size → S b → S' b) : QAt w S' qv q := by
  obtain ⟨A, c, b, o, e, hm, ha, hc⟩ := h
  exact ⟨A, c, b, o, e, hm, fun h0 => ⟨(ha h0).1, hS b (ha h0).2.2 (ha h0).2.1, (ha h0).2.2⟩, hc⟩
/-- the cells of a request -/
structure R5 where
  m : ByteArray
  p : ByteArray
  qv : Value
  cl : Bool
  bv : Value
def R5.cells (x : R5) : List Value := [.string x.m, .string x.p, x.qv, .bool x.cl, x.bv]
def R5.val (x : R5) : Value := .agg #[.string x.m, .string x.p, x.qv, .bool x.cl, x.bv]
/-- a request's cells tell it; its rows lie in some blocks -/
structure RA (w : World) (S : Nat → Prop) (r : Rq) (x : R5) : Prop where
  m : x.m = ⟨r.m.toArray⟩
  p : x.p = ⟨r.p.toArray⟩
  cl : x.cl = r.cl
  q : QAt w S x.qv r.q
  b : BS w S x.bv r.body
theorem RA.gt {w w' : World} {S T : Nat → Prop} {r : Rq} {x : R5} (h : RA w S r x) (hg : GT w w' T) (hT : ∀ b, S b → ¬ T b) : RA w' S r x := ⟨h.m, h.p, h.cl, h.q.gt hg hT, h.b.gt hg hT⟩
theorem RA.mono {w : World} {S S' : Nat → Prop} {r : Rq} {x : R5} (h : RA w S r x) (hS : ∀ b, b < w.heap.size → S b → S' b) : RA w S' r x := ⟨h.m, h.p, h.cl, h.q.mono hS, h.b.mono hS⟩
theorem RA.grown {w w' : World} {S : Nat → Prop} {r : Rq} {x : R5} (h : RA w S r x) (hg : w.grownBy w' none) : RA w' S r x := h.gt (T := fun _ => False) (.of_none hg) (fun _ _ h => h)
def rq0 : Rq := ⟨[], [], [], [], false⟩
def x0 : R5 := ⟨⟨#[]⟩, ⟨#[]⟩, .slice none 0 0, false, .slice none 0 0⟩
theorem RA.zero (w : World) (S : Nat → Prop) : RA w S rq0 x0 := ⟨rfl, rfl, rfl, ⟨none, 0, 0, 0, rfl, Nat.zero_le _, fun h => by simp [rq0] at h, fun i h => by simp [rq0] at h⟩, ⟨none, 0, rfl, Nat.le_refl _, fun h => absurd rfl h⟩⟩
theorem BF.bs {w : World} {v : Value} {b : Nat} {bs : Bs} {S : Nat → Prop} (h : BF w v b bs) (hS : b < w.heap.size → S b) : BS w S v bs := by
  by_cases h0 : bs = []
  · obtain ⟨A, c, rfl, hc⟩ := h.shape
    exact ⟨A, c, rfl, hc, fun h => absurd h0 h⟩
  · obtain ⟨off, cap, rfl, hc, _, ha⟩ := h.ba h0
    exact ⟨_, cap, rfl, hc, fun _ => ⟨b, off, rfl, hS (ha.lt h0), ha⟩⟩
theorem RQ0.ra {B : Nat} {w : World} {r : Rq} {rv : Value} (h : RQ0 B w r rv) {S : Nat → Prop} (hS : ∀ k, B ≤ k → k < w.heap.size → S k) : ∃ x : R5, rv = x.val ∧ RA w S r x := by
  obtain ⟨qv, bv, rfl, ho, b, hb, hB⟩ := h
  exact ⟨⟨_, _, qv, _, bv⟩, rfl, rfl, rfl, rfl, .of_own ho hS, hb.bs (hS b hB)⟩
/-- bytes made a text -/
theorem BV.str {w : World} {v : Value} {bs : Bs} (h : BV w v bs) : (convert 22 9 v).run Tryz.prog w = .ok (.string ⟨bs.toArray⟩) w := by
  obtain ⟨A, c, rfl, hc, h⟩ := h
  by_cases h0 : bs = []
  · subst h0
    cases A with
    | none => exact run_convert_bytes_nil w 22 5 Tryz.underlying22 Tryz.underlying5 0 c _ Tryz.underlying9
    | some a =>
      refine run_convert_bytes_back (P := Tryz.prog) w 22 9 5 a c [] Tryz.underlying22 Tryz.underlying5 Tryz.underlying9 ?_
      intro j hj; simp at hj
  · obtain ⟨b, o, rfl, hb⟩ := h h0
    exact hb.str c
set_option maxRecDepth 100000 in
set_option maxHeartbeats 6400000 in
theorem same_req (r : Rq) (x y : R5) (w : World) (hx : RA w (fun _ => True) r x) (hy : RA w (fun _ => True) r y) :
    Calls Tryz.prog 13 #[x.val, y.val] w fun e w' => e = .returned (.bool true) ∧ w.grownBy w' none := by
  obtain ⟨rm, rp, q, body, cl⟩ := r
  obtain ⟨m, p, qv, cl1, bv⟩ := x
  obtain ⟨m2, p2, qv2, cl2, bv2⟩ := y
  have hm1 := hx.m
  have hm2 := hy.m
  have hp1 := hx.p
  have hp2 := hy.p
  have hc1 := hx.cl
  have hc2 := hy.cl
  dsimp only at hm1 hm2 hp1 hp2 hc1 hc2
  rw [← hm1] at hm2
  rw [← hp1] at hp2
  rw [← hc1] at hc2
  replace hm2 := hm2.symm
  replace hp2 := hp2.symm
  replace hc2 := hc2.symm
  subst hm2 hp2 hc2
  obtain ⟨A, c, b, o, hA0, hl, hA, hcl⟩ := hx.q
  obtain ⟨X, d, g, o2, hX0, _, hX, hdl⟩ := hy.q
  unfold maxLen at hl
  dsimp only at hA0 hX0 hA hX hcl hdl hl
  subst hA0 hX0
  have sb1 := hx.b.bv
  have sb2 := hy.b.bv
  dsimp only at sb1 sb2
  obtain ⟨S, hS⟩ : ∃ S : ByteArray, S = ⟨body.toArray⟩ := ⟨_, rfl⟩
  obtain ⟨W1, hW1⟩ : ∃ W1, (w.alloc (.cells #[.string m, .string p, .slice A q.length c, .bool cl1, bv] 32)).alloc (.cells #[.string m, .string p, .slice X q.length d, .bool cl1, bv2] 32) = W1 := ⟨_, rfl⟩
  have hgw : w.grownBy W1 none := hW1 ▸ gb_alloc (gb_alloc (gb_refl w none) _) _
  have cv1 : (convert 22 9 bv).run Tryz.prog W1 = .ok (.string S) W1 := by
    rw [hS]
    obtain ⟨A', c', e, h1, h2⟩ := sb1
    exact BV.str ⟨A', c', e, h1, fun h0 => by obtain ⟨b, o, e, hb⟩ := h2 h0; exact ⟨b, o, e, hb.grown hgw (by simp)⟩⟩
  have cv2 : (convert 22 9 bv2).run Tryz.prog W1 = .ok (.string S) W1 := by
    rw [hS]
    obtain ⟨A', c', e, h1, h2⟩ := sb2
    exact BV.str ⟨A', c', e, h1, fun h0 => by obtain ⟨b, o, e, hb⟩ := h2 h0; exact ⟨b, o, e, hb.grown hgw (by simp)⟩⟩
  obtain ⟨B1, k1, rfl, _⟩ := sb1
  obtain ⟨B2, k2, rfl, _⟩ := sb2
  have e0 := heap_alloc_new w (.cells #[.string m, .string p, .slice A q.length c, .bool cl1, .slice B1 body.length k1] 32)
  have e1 := heap_alloc_new (w.alloc (.cells #[.string m, .string p, .slice A q.length c, .bool cl1, .slice B1 body.length k1] 32)) (.cells #[.string m, .string p, .slice X q.length d, .bool cl1, .slice B2 body.length k2] 32)
  have e0' := (Below.heap_alloc (w.alloc (.cells #[.string m, .string p, .slice A q.length c, .bool cl1, .slice B1 body.length k1] 32)) (.cells #[.string m, .string p, .slice X q.length d, .bool cl1, .slice B2 body.length k2] 32) w.heap.size (by simp)).trans e0
  rw [show (w.alloc (.cells #[.string m, .string p, .slice A q.length c, .bool cl1, .slice B1 body.length k1] 32)).heap.size = w.heap.size + 1 from by simp] at e1
  rw [hW1] at e1 e0'
  have FA : ∀ (W : World), W1.grownBy W none → W.cell? ⟨w.heap.size, 2, none⟩ = some (.slice A q.length c) := fun W hg => cell_grown (by rw [cell_of_row _ _ _ _ _ _ e0']; rfl) hg (by simp)
  have FB : ∀ (W : World), W1.grownBy W none → W.cell? ⟨w.heap.size + 1, 2, none⟩ = some (.slice X q.length d) := fun W hg => cell_grown (by rw [cell_of_row _ _ _ _ _ _ e1]; rfl) hg (by simp)
  have a0 : W1.cell? ⟨w.heap.size, 0, none⟩ = some (.string m) := by rw [cell_of_row _ _ _ _ _ _ e0']; rfl
  have a1 : W1.cell? ⟨w.heap.size, 1, none⟩ = some (.string p) := by rw [cell_of_row _ _ _ _ _ _ e0']; rfl
  have a2 := FA W1 (gb_refl _ _)
  have a3 : W1.cell? ⟨w.heap.size, 3, none⟩ = some (.bool cl1) := by rw [cell_of_row _ _ _ _ _ _ e0']; rfl
  have a4 : W1.cell? ⟨w.heap.size, 4, none⟩ = some (.slice B1 body.length k1) := by rw [cell_of_row _ _ _ _ _ _ e0']; rfl
  have b0 : W1.cell? ⟨w.heap.size + 1, 0, none⟩ = some (.string m) := by rw [cell_of_row _ _ _ _ _ _ e1]; rfl
  have b1 : W1.cell? ⟨w.heap.size + 1, 1, none⟩ = some (.string p) := by rw [cell_of_row _ _ _ _ _ _ e1]; rfl
  have b2 := FB W1 (gb_refl _ _)
  have b3 : W1.cell? ⟨w.heap.size + 1, 3, none⟩ = some (.bool cl1) := by rw [cell_of_row _ _ _ _ _ _ e1]; rfl
  have b4 : W1.cell? ⟨w.heap.size + 1, 4, none⟩ = some (.slice B2 body.length k2) := by rw [cell_of_row _ _ _ _ _ _ e1]; rfl
  replace hl := Lib.hid hl
  clear e0 e0' e1 hx hy hm1 hp1 hc1 hS
  show Calls Tryz.prog 13 #[.agg #[.string m, .string p, .slice A q.length c, .bool cl1, .slice B1 body.length k1], .agg #[.string m, .string p, .slice X q.length d, .bool cl1, .slice B2 body.length k2]] w _
  go_enter Tryz.func13, Tryz.ntmps13
  go_wp2_with fail
  try rw [hW1]
  clear hW1 a0 a1 a2 a3 a4 b0 b1 b2 b3 b4 cv1 cv2
  go_loopg [5] q.length (fun z uk wr => ∃ k : Nat, k ≤ q.length ∧ z = q.length - k ∧ uk = .int .i64 k ∧ W1.grownBy wr none)
  case atStart => exact ⟨0, Nat.zero_le _, rfl, rfl, gb_refl _ _⟩
  case round =>
    obtain ⟨k, hk, rfl, rfl, hg⟩ := hrel
    have fa := FA _ hg
    have fb := FB _ hg
    have hgr := gb_trans hgw hg
    by_cases hlt : k < q.length
    · obtain ⟨rfl, _⟩ := hA (by omega)
      obtain ⟨rfl, _⟩ := hX (by omega)
      have hqi : (k : Int) < (q.length : Int) := by omega
      have g0 := cell_grown (hcl k hlt).1 hgr (by simp)
      have g1 := cell_grown (hcl k hlt).2 hgr (by simp)
      have k0 := cell_grown (hdl k hlt).1 hgr (by simp)
      have k1 := cell_grown (hdl k hlt).2 hgr (by simp)
      have hq1 := Lib.hid (show wrap64 ((k : Int) + 1) = ((k + 1 : Nat) : Int) from (wrap64_id (by omega) (by have := hl.out; omega)).trans (by omega))
      clear hcl hdl hA hX FA FB
      generalize (⟨q[k].1.toArray⟩ : ByteArray) = ta at *
      generalize (⟨q[k].2.toArray⟩ : ByteArray) = tb at *
      go_wp2_with fail
      go_region
      all_goals go_wp2_with fail
      all_goals go_roundg (q.length - (k + 1))
      all_goals first
        | omega
        | exact ⟨k + 1, hlt, rfl, by first | rw [hq1.out] | go_num, gb_drew hg⟩
    · have hqi : ¬ (k : Int) < (q.length : Int) := by omega
      clear hcl hdl hA hX FA FB
      go_wp2_with fail
      go_ret
      exact ⟨rfl, hgr⟩
set_option maxHeartbeats 3200000 in
theorem pick_any (n m : Int) (w : World) (hm : 1 ≤ m) (hm2 : m ≤ 1000000) :
    Calls Tryz.prog 12 #[.int .i64 n, .int .i64 m] w fun e w' => (∃ k : Int, e = .returned (.int .i64 k) ∧ 0 ≤ k ∧ k < m) ∧ w' = w := by
  have hr1 : -m < n.tmod m := by have := Int.lt_tmod_of_pos n (show 0 < m by omega); omega
  have hr2 : n.tmod m < m := Int.tmod_lt_of_pos n (by omega)
  have hw : IntKind.i64.wrap (n.tmod m) = n.tmod m := wrap_id (by omega) (by omega)
  have hw2 : wrap64 (n.tmod m) = n.tmod m := wrap64_id (by omega) (by omega)
  have hw3 : wrap64 (n.tmod m + m) = n.tmod m + m := wrap64_id (by omega) (by omega)
  have hm0 : ¬ m = 0 := by omega
  go_enter Tryz.func12, Tryz.ntmps12
  by_cases hneg : n.tmod m < 0
  · go_wp2_with fail
    go_ret
    exact ⟨⟨_, rfl, by omega, by omega⟩, rfl⟩
  · go_wp2_with fail
    go_ret
    exact ⟨⟨_, rfl, by omega, by omega⟩, rfl⟩
end Go.Proofs.YtdfgnoflohfnmaaGreatDoor.Hx
