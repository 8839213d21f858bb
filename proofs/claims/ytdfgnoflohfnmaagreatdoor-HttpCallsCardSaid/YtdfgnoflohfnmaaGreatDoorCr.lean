/- HTTP: the calls answer the same: what each leaves, in one form. -/
import Derived.Test.YtdfgnoflohfnmaaGreatDoorCo
import Derived.Test.YtdfgnoflohfnmaaGreatDoorCf
import Derived.Test.YtdfgnoflohfnmaaGreatDoorCb
import Derived.Test.YtdfgnoflohfnmaaGreatDoorBl
import Derived.Test.YtdfgnoflohfnmaaGreatDoorBi
import Derived.Test.YtdfgnoflohfnmaaGreatDoorHw
import Derived.Test.YtdfgnoflohfnmaaGreatDoorRh
import Derived.Test.YtdfgnoflohfnmaaGreatDoorBo
namespace Go.Proofs.YtdfgnoflohfnmaaGreatDoor.Hx
open Go.RowKit Go.Maps

def apV (bs : Bs) (r : Rs) : Bs := if mayR r = 0 then bs ++ outP r else []
theorem bv_nil0 (w : World) : BV w (.slice none 0 0) [] := ⟨none, 0, rfl, Nat.le_refl _, fun h => absurd rfl h⟩
theorem ApK.out {bs : Bs} {r : Rs} {w : World} {e : Ending} {w' : World} (h : ApK bs r w e w') : ∃ v, e = .returned (.tuple #[v, .int .i64 (mayR r)]) ∧ BV w' v (apV bs r) ∧ w.grownBy w' none := by
  unfold ApK at h
  unfold apV
  by_cases h0 : mayR r = 0
  · rw [if_pos h0] at h ⊢
    obtain ⟨v, b', rfl, h1, _, h3⟩ := h
    exact ⟨v, by rw [h0], (h1.bs (S := fun _ => True) (fun _ => trivial)).bv, h3⟩
  · rw [if_neg h0] at h ⊢
    obtain ⟨rfl, h3⟩ := h
    exact ⟨_, rfl, bv_nil0 _, h3⟩
def sdV (r : Rq) : Bs := if mayS r = 0 then sendP r else []
theorem SdK.out {r : Rq} {w : World} {e : Ending} {w' : World} (h : SdK r w e w') : ∃ v, e = .returned (.tuple #[v, .int .i64 (mayS r)]) ∧ BV w' v (sdV r) ∧ w.grownBy w' none := by
  obtain ⟨h1, h2, h3⟩ := h
  unfold sdV
  by_cases h0 : mayS r = 0
  · rw [if_pos h0]
    obtain ⟨v, rfl, hv⟩ := h3 h0
    exact ⟨v, by rw [h0], hv.bv, h1⟩
  · rw [if_neg h0]
    exact ⟨_, h2 h0, bv_nil0 _, h1⟩
def rdV (bs : Bs) : Rs × Int × Int := match readP bs with
  | .inl er => (⟨0, [], false, []⟩, 0, er)
  | .inr (r, n) => (r, (n : Nat), 0)
theorem RdR.out {bs : Bs} {w : World} {e : Ending} {w' : World} (h : RdR bs w e w') : ∃ A c, e = .returned (.tuple #[.agg #[.int .i64 (rdV bs).1.st, .string ⟨(rdV bs).1.ty.toArray⟩, .bool (rdV bs).1.cl, .slice A (rdV bs).1.body.length c], .int .i64 (rdV bs).2.1, .int .i64 (rdV bs).2.2]) ∧ BV w' (.slice A (rdV bs).1.body.length c) (rdV bs).1.body ∧ w.grownBy w' none := by
  unfold RdR at h
  unfold rdV
  cases hr : readP bs with
  | inl er =>
    rw [hr] at h
    obtain ⟨rfl, h3⟩ := h
    exact ⟨none, 0, rfl, bv_nil0 _, h3⟩
  | inr p =>
    obtain ⟨r, n⟩ := p
    rw [hr] at h
    obtain ⟨T, bv, rfl, hT, hb, h3⟩ := h
    have hT2 : T = ⟨r.ty.toArray⟩ := ByteArray.ext (Array.toList_inj.1 (by rw [hT]))
    subst hT2
    have hb := hb.bv
    obtain ⟨A, c, rfl, hc⟩ := hb
    exact ⟨A, c, rfl, ⟨A, c, rfl, hc⟩, h3⟩
def tgV (s : Bs) : Bs × Pr × Int := match tgtP s with
  | none => ([], [], 2)
  | some (p, q) => (p, q, 0)
theorem TK.out {s : Bs} {w : World} {e : Ending} {w' : World} (h : TK s w e w') : ∃ v, e = .returned (.tuple #[.string ⟨(tgV s).1.toArray⟩, v, .int .i64 (tgV s).2.2]) ∧ RA w' (fun _ => True) ⟨[], (tgV s).1, (tgV s).2.1, [], false⟩ ⟨⟨#[]⟩, ⟨(tgV s).1.toArray⟩, v, false, .slice none 0 0⟩ ∧ w.grownBy w' none := by
  have hB : BS w' (fun _ => True) (.slice none 0 0) [] := ⟨none, 0, rfl, Nat.le_refl _, fun h => absurd rfl h⟩
  unfold TK at h
  unfold tgV
  cases hr : tgtP s with
  | none =>
    rw [hr] at h
    obtain ⟨rfl, h3⟩ := h
    exact ⟨_, rfl, ⟨rfl, rfl, rfl, .of_own (World.ownsRow_nil _ 0 _ _) (fun _ _ _ => trivial), hB⟩, h3⟩
  | some p =>
    obtain ⟨p, q⟩ := p
    rw [hr] at h
    obtain ⟨v, rfl, ho, h3⟩ := h
    exact ⟨v, rfl, ⟨rfl, rfl, rfl, .of_own ho (fun _ _ _ => trivial), hB⟩, h3⟩
theorem TK.out2 {s : Bs} {w : World} {e : Ending} {w' : World} (h : TK s w e w') : ∃ A n c, e = .returned (.tuple #[.string ⟨(tgV s).1.toArray⟩, .slice A n c, .int .i64 (tgV s).2.2]) ∧ RA w' (fun _ => True) ⟨[], (tgV s).1, (tgV s).2.1, [], false⟩ ⟨⟨#[]⟩, ⟨(tgV s).1.toArray⟩, .slice A n c, false, .slice none 0 0⟩ ∧ w.grownBy w' none := by
  obtain ⟨v, e, ra, g⟩ := h.out
  obtain ⟨A, c, b, o, hA0, _⟩ := ra.q
  dsimp only at hA0
  subst hA0
  exact ⟨A, _, c, e, ra, g⟩
end Go.Proofs.YtdfgnoflohfnmaaGreatDoor.Hx
/-! HTTP: the calls answer the same: the statement's own walk. -/
namespace Go.Proofs.YtdfgnoflohfnmaaGreatDoor.Hx
open Go.RowKit Go.Maps

set_option maxRecDepth 100000 in
set_option maxHeartbeats 6400000 in
theorem calls_go (s : ByteArray) (r : Rq) (x : R5) (st : Int) (T : ByteArray) (cl : Bool) (body : Bs) (bv hv : Value) (behind : Bs) (m : Int) (w : World) (hx : RA w (fun _ => True) r x) (b1 : r.m.length ≤ 1000000000000000) (b2 : r.p.length ≤ 1000000000000000) (b3 : r.body.length ≤ 1000000000000000)
    (hbv : BV w bv body) (hhv : BV w hv behind) (hm : MX w m) (hPT : PTw w) (i1 : s.size ≤ 20000) (i2 : T.size ≤ 20000) (i3 : body.length ≤ 20000) (i4 : behind.length ≤ 20000) :
    Calls Tryz.prog 5 #[.string s, x.val, .agg #[.int .i64 st, .string T, .bool cl, bv], hv] w fun e w' => e = .returned (.bool true) ∧ w.grownBy w' none := by
  have hxh := Lib.hid hx
  have hhvh := Lib.hid hhv
  obtain ⟨Ah, kh, rfl, _, _⟩ := hhv
  have hbvh := Lib.hid hbv
  obtain ⟨Ab, cb, rfl, _, _⟩ := hbv
  obtain ⟨M, P, qv, cl1, xb⟩ := x
  have hTs : T.size = T.data.toList.length := ba_size T
  obtain ⟨W1, hW1⟩ : ∃ W1, w.alloc (.cells #[.string M, .string P, qv, .bool cl1, xb] 32) = W1 := ⟨_, rfl⟩
  have g1 : w.grownBy W1 none := hW1 ▸ gb_alloc (gb_refl w none) _
  have s1 : W1.heap.size = w.heap.size + 1 := by rw [← hW1]; simp
  have z1 : ZF W1 w.heap.size (.string M) (.string P) qv (.bool cl1) xb := hW1 ▸ heap_alloc_new w _
  obtain ⟨W2, hW2⟩ : ∃ W2, W1.alloc (.cells #[.int .i64 st, .string T, .bool cl, .slice Ab body.length cb] 44) = W2 := ⟨_, rfl⟩
  have g12 : W1.grownBy W2 none := hW2 ▸ gb_alloc (gb_refl W1 none) _
  have g2 := gb_trans g1 g12
  have p2 : PF W2 (w.heap.size + 1) st T cl (.slice Ab body.length cb) := by rw [← s1, ← hW2]; exact heap_alloc_new W1 _
  have z2 : ZF W2 w.heap.size (.string M) (.string P) qv (.bool cl1) xb := (g12.block _ (Array.getElem?_eq_some_iff.1 z1).1 (by simp)).trans z1
  have kZ := fun W (hg : W2.grownBy W none) => Lib.hid (show ZF W w.heap.size (.string M) (.string P) qv (.bool cl1) xb from (hg.block _ (Array.getElem?_eq_some_iff.1 z2).1 (by simp)).trans z2)
  have kP := fun W (hg : W2.grownBy W none) => Lib.hid (p2.kept hg (by simp))
  have hL := fun W (hg : W2.grownBy W none) => Lib.hid (lives_walk m W (hm.grown (gb_trans g2 hg) (by simp)))
  have hsm := fun W (hg : W2.grownBy W none) => Lib.hid (small_any r ⟨M, P, qv, cl1, xb⟩ W (hx.grown (gb_trans g2 hg)) b1 b2 b3)
  obtain ⟨tp, htp⟩ : ∃ tp, (⟨(tgV s.data.toList).1.toArray⟩ : ByteArray) = tp := ⟨_, rfl⟩
  obtain ⟨te, hte⟩ : ∃ te, (tgV s.data.toList).2.2 = te := ⟨_, rfl⟩
  obtain ⟨rq, hrq⟩ : ∃ rq : Rq, (⟨[], (tgV s.data.toList).1, (tgV s.data.toList).2.1, [], false⟩ : Rq) = rq := ⟨_, rfl⟩
  have hT1 := fun W (hg : W2.grownBy W none) => Lib.hid ((target_any s m W (hm.grown (gb_trans g2 hg) (by simp))).mono fun e w' h => h.out2)
  have hT2 := fun W => Lib.hid ((rtarget_any s W).mono fun e w' h => h.out2)
  rw [htp, hte, hrq] at hT1
  rw [htp, hte, hrq] at hT2
  have hA1 := fun W (hg : W2.grownBy W none) => Lib.hid ((app_any (.slice Ah behind.length kh) behind ⟨st, T.data.toList, cl, body⟩ T (.slice Ab body.length cb) W (hhvh.out.kp (gb_trans g2 hg)) rfl (hbvh.out.kp (gb_trans g2 hg)) (by omega) (by show T.data.toList.length ≤ _; omega) (by show body.length ≤ _; omega) (hPT.grown (gb_trans g2 hg))).mono fun e w' h => h.out)
  have hA2 := fun W (hg : W2.grownBy W none) => Lib.hid ((rapp_any (.slice Ah behind.length kh) behind ⟨st, T.data.toList, cl, body⟩ T (.slice Ab body.length cb) W (hhvh.out.kp (gb_trans g2 hg)) rfl (hbvh.out.kp (gb_trans g2 hg)) (by omega) (by show T.data.toList.length ≤ _; omega) (by show body.length ≤ _; omega)).mono fun e w' h => h.out)
  obtain ⟨ab, hab⟩ : ∃ ab, apV behind ⟨st, T.data.toList, cl, body⟩ = ab := ⟨_, rfl⟩
  obtain ⟨ae, hae⟩ : ∃ ae, mayR ⟨st, T.data.toList, cl, body⟩ = ae := ⟨_, rfl⟩
  rw [hab, hae] at hA1
  rw [hab, hae] at hA2
  have hR1 := fun W (hg : W2.grownBy W none) => Lib.hid ((read_any (.slice Ah behind.length kh) behind W (hhvh.out.kp (gb_trans g2 hg)) (by omega)).mono fun e w' h => h.out)
  have hR2 := fun W (hg : W2.grownBy W none) => Lib.hid ((rread_any (.slice Ah behind.length kh) behind W (hhvh.out.kp (gb_trans g2 hg)) (by omega)).mono fun e w' h => h.out)
  obtain ⟨rv, hrv⟩ : ∃ rv, rdV behind = rv := ⟨_, rfl⟩
  rw [hrv] at hR1
  rw [hrv] at hR2
  obtain ⟨⟨rs, rt0, rc, rb⟩, rn, re⟩ := rv
  dsimp only at hR1 hR2
  obtain ⟨rt, hrt⟩ : ∃ rt, (⟨rt0.toArray⟩ : ByteArray) = rt := ⟨_, rfl⟩
  rw [hrt] at hR1
  rw [hrt] at hR2
  have hS1 := fun W (hg : W2.grownBy W none) (hsr : SmR r) => Lib.hid ((send_any r ⟨M, P, qv, cl1, xb⟩ W (hxh.out.grown (gb_trans g2 hg)) hsr (hPT.grown (gb_trans g2 hg))).mono fun e w' h => h.out)
  have hS2 := fun W (hg : W2.grownBy W none) (hsr : SmR r) => Lib.hid ((rsend_any r ⟨M, P, qv, cl1, xb⟩ W (hxh.out.grown (gb_trans g2 hg)) hsr).mono fun e w' h => h.out)
  obtain ⟨sb, hsb⟩ : ∃ sb, sdV r = sb := ⟨_, rfl⟩
  obtain ⟨se, hse⟩ : ∃ se, mayS r = se := ⟨_, rfl⟩
  rw [hsb, hse] at hS1
  rw [hsb, hse] at hS2
  have hQ1 := fun W => Lib.hid (reason_any st W)
  have hQ2 := fun W => Lib.hid (rreason_any st W)
  obtain ⟨rsn, hrsn⟩ : ∃ t, (⟨(reasonP st).toArray⟩ : ByteArray) = t := ⟨_, rfl⟩
  rw [hrsn] at hQ1
  rw [hrsn] at hQ2
  have j1 : ¬ (20000 : Int) < (s.size : Int) := by omega
  have j2 : ¬ (20000 : Int) < (T.size : Int) := by omega
  have j3 : ¬ (20000 : Int) < (body.length : Int) := by omega
  have j4 : ¬ (20000 : Int) < (behind.length : Int) := by omega
  have hs1 := Lib.hid s1
  have hw12 := Lib.hid (And.intro hW1 hW2)
  have g2h := Lib.hid g2
  have hL1 := hL W2 (gb_refl _ _)
  clear htp hte hrq hab hae hrv hrt hsb hse hrsn i1 i2 i3 i4 hTs hx b1 b2 b3 hL p2 z1 z2 g1 g12
  show Calls Tryz.prog 5 #[.string s, .agg #[.string M, .string P, qv, .bool cl1, xb], .agg #[.int .i64 st, .string T, .bool cl, .slice Ab body.length cb], .slice Ah behind.length kh] w _
  go_enter Tryz.func5, Tryz.ntmps5
  go_upto_region 1 with fail
  try rw [hW1]
  try rw [hW2]
  try rw [s1]
  clear hW1 hW2 s1 g2
  go_upto_region 3 with (first
    | (go_at_call 7; refine (hL1.out).mono ?_; rintro e w0 ⟨rfl, gA⟩; have z := (kZ w0 gA).out; have x0 := z.c0; have x1 := z.c1; have x2 := z.c2; have x3 := z.c3; have x4 := z.c4; clear z))
  go_upto_region 5 with (first
    | (go_at_call 20; refine ((hsm _ gA).out).mono ?_; rintro e w1 ⟨B, rfl, hB, g⟩; have gB := gb_trans gA g; have y := (kP w1 gB).out; have y1 := y.c1; have y3 := y.c3; clear y g; replace hB := Lib.hid hB; cases B; (go_wp2_with fail; go_ret; exact ⟨rfl, gb_trans g2h.out gB⟩)))
  have hsr : SmR r := by first | exact hB.out rfl | exact hB.out trivial
  replace hsr := Lib.hid hsr
  clear x0 x1 x2 x3 x4 y1 y3 hL1 hsm hB
  go_upto_region 13 with (first
    | (go_at_call 21; refine ((hT1 _ gB).out).mono ?_; rintro e w3 ⟨A9, n9, k9, rfl, ra9, g⟩; have gC := gb_trans gB g; replace ra9 := Lib.hid ra9; clear g)
    | (go_at_call 22; refine ((hT2 _).out).mono ?_; rintro e w4 ⟨A12, n12, k12, rfl, ra12, g⟩; have gD := gb_trans gC g; replace ra12 := Lib.hid ra12; replace ra9 := Lib.hid (ra9.out.grown g); clear g; have y := (kP w4 gD).out; have y0 := y.c0; have y1 := y.c1; have y2 := y.c2; have y3 := y.c3; clear y)
    | (go_at_call 23; refine ((hA1 _ gD).out).mono ?_; rintro e w5 ⟨v15, rfl, bv15, g⟩; have gE := gb_trans gD g; replace ra9 := Lib.hid (ra9.out.grown g); replace ra12 := Lib.hid (ra12.out.grown g); replace bv15 := Lib.hid bv15; clear g y0 y1 y2 y3; have y := (kP w5 gE).out; have y0 := y.c0; have y1 := y.c1; have y2 := y.c2; have y3 := y.c3; clear y)
    | (go_at_call 24; refine ((hA2 _ gE).out).mono ?_; rintro e w6 ⟨v17, rfl, bv17, g⟩; have gF := gb_trans gE g; replace ra9 := Lib.hid (ra9.out.grown g); replace ra12 := Lib.hid (ra12.out.grown g); replace bv15 := Lib.hid (bv15.out.kp g); replace bv17 := Lib.hid bv17; clear g y0 y1 y2 y3)
    | (go_at_call 25; refine ((hR1 _ gF).out).mono ?_; rintro e w7 ⟨A19, c19, rfl, bv19, g0⟩; have g := gb_trans g0 (gb_alloc (gb_refl w7 none) (.cells #[.int .i64 rs, .string rt, .bool rc, .slice A19 rb.length c19] 44)); have gG := gb_trans gF g; replace ra9 := Lib.hid (ra9.out.grown g); replace ra12 := Lib.hid (ra12.out.grown g); replace bv15 := Lib.hid (bv15.out.kp g); replace bv17 := Lib.hid (bv17.out.kp g); replace bv19 := Lib.hid (bv19.kp (gb_alloc (gb_refl w7 none) (.cells #[.int .i64 rs, .string rt, .bool rc, .slice A19 rb.length c19] 44))); clear g g0)
    | (go_at_call 26; refine ((hR2 _ gG).out).mono ?_; rintro e w8 ⟨A22, c22, rfl, bv22, g0⟩; have g := gb_trans g0 (gb_alloc (gb_refl w8 none) (.cells #[.int .i64 rs, .string rt, .bool rc, .slice A22 rb.length c22] 44)); have gH := gb_trans gG g; replace ra9 := Lib.hid (ra9.out.grown g); replace ra12 := Lib.hid (ra12.out.grown g); replace bv15 := Lib.hid (bv15.out.kp g); replace bv17 := Lib.hid (bv17.out.kp g); replace bv19 := Lib.hid (bv19.out.kp g); replace bv22 := Lib.hid (bv22.kp (gb_alloc (gb_refl w8 none) (.cells #[.int .i64 rs, .string rt, .bool rc, .slice A22 rb.length c22] 44))); have p19 : Hid (PF _ w7.heap.size rs rt rc (.slice A19 rb.length c19)) := Lib.hid ((show PF (w7.alloc (.cells #[.int .i64 rs, .string rt, .bool rc, .slice A19 rb.length c19] 44)) w7.heap.size rs rt rc (.slice A19 rb.length c19) from heap_alloc_new _ _).kept g (by simp)); have p22 : Hid (PF _ w8.heap.size rs rt rc (.slice A22 rb.length c22)) := Lib.hid (show PF (w8.alloc (.cells #[.int .i64 rs, .string rt, .bool rc, .slice A22 rb.length c22] 44)) w8.heap.size rs rt rc (.slice A22 rb.length c22) from heap_alloc_new _ _); clear g g0; have z := (kZ _ gH).out; have x0 := z.c0; have x1 := z.c1; have x2 := z.c2; have x3 := z.c3; have x4 := z.c4; clear z)
    | (go_at_call 27; refine ((hS1 _ gH hsr.out).out).mono ?_; rintro e w9 ⟨v25, rfl, bv25, g⟩; have gI := gb_trans gH g; replace ra9 := Lib.hid (ra9.out.grown g); replace ra12 := Lib.hid (ra12.out.grown g); replace bv15 := Lib.hid (bv15.out.kp g); replace bv17 := Lib.hid (bv17.out.kp g); replace bv19 := Lib.hid (bv19.out.kp g); replace bv22 := Lib.hid (bv22.out.kp g); replace bv25 := Lib.hid bv25; replace p19 := Lib.hid (p19.out.kept g (by simp)); replace p22 := Lib.hid (p22.out.kept g (by simp)); clear g x0 x1 x2 x3 x4; have z := (kZ _ gI).out; have x0 := z.c0; have x1 := z.c1; have x2 := z.c2; have x3 := z.c3; have x4 := z.c4; clear z)
    | (go_at_call 28; refine ((hS2 _ gI hsr.out).out).mono ?_; rintro e w10 ⟨v27, rfl, bv27, g⟩; have gJ := gb_trans gI g; replace ra9 := Lib.hid (ra9.out.grown g); replace ra12 := Lib.hid (ra12.out.grown g); replace bv15 := Lib.hid (bv15.out.kp g); replace bv17 := Lib.hid (bv17.out.kp g); replace bv19 := Lib.hid (bv19.out.kp g); replace bv22 := Lib.hid (bv22.out.kp g); replace bv25 := Lib.hid (bv25.out.kp g); replace bv27 := Lib.hid bv27; replace p19 := Lib.hid (p19.out.kept g (by simp)); replace p22 := Lib.hid (p22.out.kept g (by simp)); clear g x0 x1 x2 x3 x4))
  have a19 := fun G : Grown w10 => Lib.hid (p19.out.kept G.h (by simp))
  have a22 := fun G : Grown w10 => Lib.hid (p22.out.kept G.h (by simp))
  have L0 : ∀ G : Grown w10, G.W.cell? ⟨w7.heap.size, 0, none⟩ = some (.int .i64 rs) := fun G => (a19 G).out.c0
  have L1 : ∀ G : Grown w10, G.W.cell? ⟨w7.heap.size, 1, none⟩ = some (.string rt) := fun G => (a19 G).out.c1
  have L2 : ∀ G : Grown w10, G.W.cell? ⟨w7.heap.size, 2, none⟩ = some (.bool rc) := fun G => (a19 G).out.c2
  have L3 : ∀ G : Grown w10, G.W.cell? ⟨w7.heap.size, 3, none⟩ = some (.slice A19 rb.length c19) := fun G => (a19 G).out.c3
  have M0 : ∀ G : Grown w10, G.W.cell? ⟨w8.heap.size, 0, none⟩ = some (.int .i64 rs) := fun G => (a22 G).out.c0
  have M1 : ∀ G : Grown w10, G.W.cell? ⟨w8.heap.size, 1, none⟩ = some (.string rt) := fun G => (a22 G).out.c1
  have M2 : ∀ G : Grown w10, G.W.cell? ⟨w8.heap.size, 2, none⟩ = some (.bool rc) := fun G => (a22 G).out.c2
  have M3 : ∀ G : Grown w10, G.W.cell? ⟨w8.heap.size, 3, none⟩ = some (.slice A22 rb.length c22) := fun G => (a22 G).out.c3
  have N0 : ∀ G : Grown w10, G.W.cell? ⟨w.heap.size + 1, 0, none⟩ = some (.int .i64 st) := fun G => (kP _ (gb_trans gJ G.h)).out.c0
  obtain ⟨AB, hAB⟩ : ∃ t, (⟨ab.toArray⟩ : ByteArray) = t := ⟨_, rfl⟩
  obtain ⟨SB, hSB⟩ : ∃ t, (⟨sb.toArray⟩ : ByteArray) = t := ⟨_, rfl⟩
  have cA : ∀ G : Grown w10, (convert 22 9 v15).run Tryz.prog G.W = .ok (.string AB) G.W := fun G => by rw [← hAB]; exact (bv15.out.kp G.h).str
  have cB : ∀ G : Grown w10, (convert 22 9 v17).run Tryz.prog G.W = .ok (.string AB) G.W := fun G => by rw [← hAB]; exact (bv17.out.kp G.h).str
  have cC : ∀ G : Grown w10, (convert 22 9 v25).run Tryz.prog G.W = .ok (.string SB) G.W := fun G => by rw [← hSB]; exact (bv25.out.kp G.h).str
  have cD : ∀ G : Grown w10, (convert 22 9 v27).run Tryz.prog G.W = .ok (.string SB) G.W := fun G => by rw [← hSB]; exact (bv27.out.kp G.h).str
  have q1 : Hid (QC Tryz.prog w10 13 #[.agg #[.string ⟨#[]⟩, .string tp, .slice A9 n9 k9, .bool false, .slice none 0 0], .agg #[.string ⟨#[]⟩, .string tp, .slice A12 n12 k12, .bool false, .slice none 0 0]] (.bool true)) := fun G =>
    (same_req rq _ _ G.W (ra9.out.grown G.h) (ra12.out.grown G.h)).mono fun e w' h => ⟨h.1, gb_trans G.h h.2⟩
  have q2 : Hid (QC Tryz.prog w10 29 #[.agg #[.int .i64 rs, .string rt, .bool rc, .slice A19 rb.length c19], .agg #[.int .i64 rs, .string rt, .bool rc, .slice A22 rb.length c22]] (.bool true)) := fun G =>
    (same_resp rs rt rc A19 A22 c19 c22 rb G.W (bv19.out.kp G.h) (bv22.out.kp G.h)).mono fun e w' h => ⟨h.1, gb_trans G.h h.2⟩
  have q3 : Hid (QC Tryz.prog w10 30 #[.int .i64 st] (.string rsn)) := fun G => (hQ1 G.W).out.mono fun e w' h => ⟨h.1, gb_trans G.h h.2⟩
  have q4 : Hid (QC Tryz.prog w10 31 #[.int .i64 st] (.string rsn)) := fun G => (hQ2 G.W).out.mono fun e w' h => ⟨h.1, by rw [h.2]; exact G.h⟩
  replace gJ := Lib.hid gJ
  clear a19 a22 hAB hSB kZ kP hT1 hT2 hA1 hA2 hR1 hR2 hS1 hS2 hQ1 hQ2 ra9 ra12 bv15 bv17 bv19 bv22 bv25 bv27 p19 p22 gA gB gC gD gE gF gG gH gI
  refine wp_region_grown 61 0 (by simp only [List.take_succ_cons, List.take_zero]; rfl) (by kernel_rfl) (gb_drew (gb_refl _ _)) (by kernel_rfl) (by kernel_rfl) (by kernel_rfl) (by kernel_rfl) ?_
  repeat go_big_quiet_step (first
    | (rename_i G; with_reducible exact q1.out.at G)
    | (rename_i G; with_reducible exact q2.out.at G)
    | (rename_i G; with_reducible exact q3.out.at G)
    | (rename_i G; with_reducible exact q4.out.at G))
  refine wpQuiet_nil ?_
  intro G
  refine wpAny_done (by kernel_rfl) ?_ _
  go_wp2_with fail
  go_ret
  exact ⟨rfl, gb_trans g2h.out (gb_trans gJ.out G.h)⟩
end Go.Proofs.YtdfgnoflohfnmaaGreatDoor.Hx

/-! HTTP: the calls answer the same: large arguments, and all of them. -/
namespace Go.Proofs.YtdfgnoflohfnmaaGreatDoor.Hx
open Go.RowKit Go.Maps

set_option maxRecDepth 100000 in
set_option maxHeartbeats 6400000 in
theorem calls_large (s : ByteArray) (r : Rq) (x : R5) (st : Int) (T : ByteArray) (cl : Bool) (body : Bs) (Ab : Option Addr) (cb : Nat) (Ah : Option Addr) (hn kh : Nat) (m : Int) (w : World) (hx : RA w (fun _ => True) r x) (b1 : r.m.length ≤ 1000000000000000) (b2 : r.p.length ≤ 1000000000000000) (b3 : r.body.length ≤ 1000000000000000)
    (hm : MX w m) (h : 20000 < s.size ∨ 20000 < T.size ∨ 20000 < body.length ∨ 20000 < hn) :
    Calls Tryz.prog 5 #[.string s, x.val, .agg #[.int .i64 st, .string T, .bool cl, .slice Ab body.length cb], .slice Ah hn kh] w fun e w' => e = .returned (.bool true) ∧ w.grownBy w' none := by
  have hxh := Lib.hid hx
  obtain ⟨M, P, qv, cl1, xb⟩ := x
  obtain ⟨W1, hW1⟩ : ∃ W1, w.alloc (.cells #[.string M, .string P, qv, .bool cl1, xb] 32) = W1 := ⟨_, rfl⟩
  have g1 : w.grownBy W1 none := hW1 ▸ gb_alloc (gb_refl w none) _
  have s1 : W1.heap.size = w.heap.size + 1 := by rw [← hW1]; simp
  have z1 : ZF W1 w.heap.size (.string M) (.string P) qv (.bool cl1) xb := hW1 ▸ heap_alloc_new w _
  obtain ⟨W2, hW2⟩ : ∃ W2, W1.alloc (.cells #[.int .i64 st, .string T, .bool cl, .slice Ab body.length cb] 44) = W2 := ⟨_, rfl⟩
  have g12 : W1.grownBy W2 none := hW2 ▸ gb_alloc (gb_refl W1 none) _
  have g2 := gb_trans g1 g12
  have p2 : PF W2 (w.heap.size + 1) st T cl (.slice Ab body.length cb) := by rw [← s1, ← hW2]; exact heap_alloc_new W1 _
  have z2 : ZF W2 w.heap.size (.string M) (.string P) qv (.bool cl1) xb := (g12.block _ (Array.getElem?_eq_some_iff.1 z1).1 (by simp)).trans z1
  have kZ := fun W (hg : W2.grownBy W none) => Lib.hid (show ZF W w.heap.size (.string M) (.string P) qv (.bool cl1) xb from (hg.block _ (Array.getElem?_eq_some_iff.1 z2).1 (by simp)).trans z2)
  have kP := fun W (hg : W2.grownBy W none) => Lib.hid (p2.kept hg (by simp))
  have hL1 := Lib.hid (lives_walk m W2 (hm.grown g2 (by simp)))
  have hsm := fun W (hg : W2.grownBy W none) => Lib.hid (small_any r ⟨M, P, qv, cl1, xb⟩ W (hx.grown (gb_trans g2 hg)) b1 b2 b3)
  have g2h := Lib.hid g2
  clear hx b1 b2 b3 p2 z1 z2 g1 g12
  show Calls Tryz.prog 5 #[.string s, .agg #[.string M, .string P, qv, .bool cl1, xb], .agg #[.int .i64 st, .string T, .bool cl, .slice Ab body.length cb], .slice Ah hn kh] w _
  go_enter Tryz.func5, Tryz.ntmps5
  go_upto_region 1 with fail
  try rw [hW1]
  try rw [hW2]
  try rw [s1]
  clear hW1 hW2 s1 g2
  go_upto_region 3 with (first
    | (go_at_call 7; refine (hL1.out).mono ?_; rintro e w0 ⟨rfl, gA⟩; have z := (kZ w0 gA).out; have x0 := z.c0; have x1 := z.c1; have x2 := z.c2; have x3 := z.c3; have x4 := z.c4; clear z))
  by_cases h1 : 20000 < s.size
  · have j1 : (20000 : Int) < (s.size : Int) := by omega
    clear h
    go_wp2_with fail
    go_ret
    exact ⟨rfl, gb_trans g2h.out gA⟩
  · have j1 : ¬ (20000 : Int) < (s.size : Int) := by omega
    by_cases h2 : 20000 < T.size
    · have j2 : (20000 : Int) < (T.size : Int) := by omega
      clear h
      go_wp2_with (first
        | (go_at_call 20; refine ((hsm _ gA).out).mono ?_; rintro e w1 ⟨B, rfl, hB, g⟩; have gB := gb_trans gA g; have y := (kP w1 gB).out; have y1 := y.c1; have y3 := y.c3; clear y g; replace hB := Lib.hid hB; cases B; (go_wp2_with fail; go_ret; exact ⟨rfl, gb_trans g2h.out gB⟩)))
      go_ret
      exact ⟨rfl, gb_trans g2h.out gB⟩
    · have j2 : ¬ (20000 : Int) < (T.size : Int) := by omega
      by_cases h3 : 20000 < body.length
      · have j3 : (20000 : Int) < (body.length : Int) := by omega
        clear h
        go_wp2_with (first
          | (go_at_call 20; refine ((hsm _ gA).out).mono ?_; rintro e w1 ⟨B, rfl, hB, g⟩; have gB := gb_trans gA g; have y := (kP w1 gB).out; have y1 := y.c1; have y3 := y.c3; clear y g; replace hB := Lib.hid hB; cases B; (go_wp2_with fail; go_ret; exact ⟨rfl, gb_trans g2h.out gB⟩)))
        go_ret
        exact ⟨rfl, gb_trans g2h.out gB⟩
      · have j3 : ¬ (20000 : Int) < (body.length : Int) := by omega
        have j4 : (20000 : Int) < (hn : Int) := by omega
        clear h
        go_wp2_with (first
          | (go_at_call 20; refine ((hsm _ gA).out).mono ?_; rintro e w1 ⟨B, rfl, hB, g⟩; have gB := gb_trans gA g; have y := (kP w1 gB).out; have y1 := y.c1; have y3 := y.c3; clear y g; replace hB := Lib.hid hB; cases B; (go_wp2_with fail; go_ret; exact ⟨rfl, gb_trans g2h.out gB⟩)))
        go_ret
        exact ⟨rfl, gb_trans g2h.out gB⟩
theorem calls_any (s : ByteArray) (r : Rq) (x : R5) (st : Int) (T : ByteArray) (cl : Bool) (body : Bs) (bv hv : Value) (behind : Bs) (m : Int) (w : World) (hx : RA w (fun _ => True) r x) (b1 : r.m.length ≤ 1000000000000000) (b2 : r.p.length ≤ 1000000000000000) (b3 : r.body.length ≤ 1000000000000000)
    (hbv : BV w bv body) (hhv : BV w hv behind) (hm : MX w m) (hPT : PTw w) :
    Calls Tryz.prog 5 #[.string s, x.val, .agg #[.int .i64 st, .string T, .bool cl, bv], hv] w fun e w' => e = .returned (.bool true) ∧ w.grownBy w' none := by
  by_cases h : 20000 < s.size ∨ 20000 < T.size ∨ 20000 < body.length ∨ 20000 < behind.length
  · obtain ⟨Ah, kh, rfl, _, _⟩ := hhv
    obtain ⟨Ab, cb, rfl, _, _⟩ := hbv
    exact calls_large s r x st T cl body Ab cb Ah _ kh m w hx b1 b2 b3 hm h
  · exact calls_go s r x st T cl body bv hv behind m w hx b1 b2 b3 hbv hhv hm hPT (by omega) (by omega) (by omega) (by omega)
end Go.Proofs.YtdfgnoflohfnmaaGreatDoor.Hx
