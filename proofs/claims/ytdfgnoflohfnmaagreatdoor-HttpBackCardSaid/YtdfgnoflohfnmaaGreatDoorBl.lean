/- HTTP: is a request not large: the law's smallRequest. -/
import Derived.Test.YtdfgnoflohfnmaaGreatDoorBj
import Derived.BigRegion
namespace Go.Proofs.YtdfgnoflohfnmaaGreatDoor.Hx
open Go.RowKit Go.Maps

/-- what smallRequest leaves -/
def SmK (r : Rq) (w : World) (e : Ending) (w' : World) : Prop := ∃ B : Bool, e = .returned (.bool B) ∧ (B = true → SmR r) ∧ w.grownBy w' none
set_option maxRecDepth 100000 in
set_option maxHeartbeats 800000 in
theorem small_any (r : Rq) (x : R5) (w : World) (hx : RA w (fun _ => True) r x) (b1 : r.m.length ≤ 1000000000000000) (b2 : r.p.length ≤ 1000000000000000) (b3 : r.body.length ≤ 1000000000000000) :
    Calls Tryz.prog 20 #[x.val] w (SmK r w) := by
  obtain ⟨rm, rp, q, body, cl⟩ := r
  obtain ⟨M, P, qv, cl1, bv⟩ := x
  have hm1 := hx.m
  have hp1 := hx.p
  dsimp only at hm1 hp1 b1 b2 b3
  obtain ⟨A, c, b, o, hA0, hl, hA, hcl⟩ := hx.q
  unfold maxLen at hl
  dsimp only at hA0 hA hcl hl
  subst hA0
  obtain ⟨A2, c2, hb0, _, _⟩ := hx.b.bv
  dsimp only at hb0
  subst hb0
  have hMs : M.size = rm.length := by rw [hm1]; show rm.toArray.size = _; simp
  have hPs : P.size = rp.length := by rw [hp1]; show rp.toArray.size = _; simp
  clear hm1 hp1 hx
  obtain ⟨W1, hW1⟩ : ∃ W1, w.alloc (.cells #[.string M, .string P, .slice A q.length c, .bool cl1, .slice A2 body.length c2] 32) = W1 := ⟨_, rfl⟩
  have hgw : w.grownBy W1 none := hW1 ▸ gb_alloc (gb_refl w none) _
  have e0 : W1.heap[w.heap.size]? = some (.cells #[.string M, .string P, .slice A q.length c, .bool cl1, .slice A2 body.length c2] 32 (0, 0)) := hW1 ▸ heap_alloc_new w _
  have kF : ∀ W, W1.grownBy W none → ZF W w.heap.size (.string M) (.string P) (.slice A q.length c) (.bool cl1) (.slice A2 body.length c2) := fun W hW => (hW.block _ (Array.getElem?_eq_some_iff.1 e0).1 (by simp)).trans e0
  have z1 := kF W1 (gb_refl _ _)
  have z0 := z1.c0
  have zp := z1.c1
  have zb := z1.c4
  clear e0 z1
  have kFh := Lib.hid kF
  clear kF
  have wA : IntKind.i64.wrap ((M.size : Int) + (P.size : Int)) = (M.size : Int) + (P.size : Int) := wrap_id (by omega) (by omega)
  have wA' : wrap64 ((M.size : Int) + (P.size : Int)) = (M.size : Int) + (P.size : Int) := wrap64_id (by omega) (by omega)
  have wB' : wrap64 ((M.size : Int) + (P.size : Int) + (body.length : Int)) = (M.size : Int) + (P.size : Int) + (body.length : Int) := wrap64_id (by omega) (by omega)
  show Calls Tryz.prog 20 #[.agg #[.string M, .string P, .slice A q.length c, .bool cl1, .slice A2 body.length c2]] w _
  go_enter Tryz.func20, Tryz.ntmps20
  go_upto_region 1 with fail
  try rw [hW1]
  replace hW1 := Lib.hid hW1
  replace hgw := Lib.hid hgw
  replace hcl := Lib.hid hcl
  replace hA := Lib.hid hA
  replace hMs := Lib.hid hMs
  replace hPs := Lib.hid hPs
  go_upto_region 2 with fail
  rw [wB']
  clear wA wA' wB' z0 zp zb
  go_wp2_with fail
  go_loopg [3, 4] q.length (fun z u3 u4 wr => ∃ (k : Nat) (n : Int), k ≤ q.length ∧ k ≤ 41 ∧ z = q.length - k ∧ u4 = .int .i64 k ∧ u3 = .int .i64 n ∧ (M.size : Int) + (P.size : Int) + (body.length : Int) ≤ n ∧ n ≤ 3000000000000000 + k * 40002 ∧ Hid (n ≤ 20000 → ∀ i (h : i < q.length), i < k → q[i].1.length ≤ 20000 ∧ q[i].2.length ≤ 20000) ∧ Hid (W1.grownBy wr none))
  case atStart => exact ⟨0, _, Nat.zero_le _, by omega, rfl, rfl, rfl, by omega, by have := hMs.out; have := hPs.out; omega, fun _ i _ h => by omega, gb_refl _ _⟩
  case round =>
    obtain ⟨k, n, hk, hk2, rfl, rfl, rfl, hn1, hn2, hsm, hg⟩ := hrel
    have zq := (kFh.out wr hg.out).c2
    have hgr := gb_trans hgw.out hg.out
    by_cases hlt : k < q.length
    · have hki : (k : Int) < (q.length : Int) := by omega
      by_cases h40 : k ≤ 40
      · have hki2 : (k : Int) ≤ 40 := by omega
        obtain ⟨rfl, _⟩ := hA.out (by omega)
        have k0 := cell_grown (hcl.out k hlt).1 hgr (by simp)
        have k1 := cell_grown (hcl.out k hlt).2 hgr (by simp)
        obtain ⟨N, hN⟩ : ∃ N : ByteArray, (⟨q[k].1.toArray⟩ : ByteArray) = N := ⟨_, rfl⟩
        obtain ⟨V, hV⟩ : ∃ N : ByteArray, (⟨q[k].2.toArray⟩ : ByteArray) = N := ⟨_, rfl⟩
        rw [hN] at k0
        rw [hV] at k1
        have hNs : N.size = q[k].1.length := by rw [← hN]; show q[k].1.toArray.size = _; simp
        have hVs : V.size = q[k].2.length := by rw [← hV]; show q[k].2.toArray.size = _; simp
        obtain ⟨x1, hx1⟩ : ∃ x : Int, min (20001 : Int) (N.size : Int) = x := ⟨_, rfl⟩
        obtain ⟨x2, hx2⟩ : ∃ x : Int, min (20001 : Int) (V.size : Int) = x := ⟨_, rfl⟩
        have w1 : wrap64 (n + x1) = n + x1 := wrap64_id (by omega) (by omega)
        have w2 : wrap64 (n + x1 + x2) = n + x1 + x2 := wrap64_id (by omega) (by omega)
        have w1' : IntKind.i64.wrap (n + x1) = n + x1 := wrap_id (by omega) (by omega)
        have w2' : IntKind.i64.wrap (n + x1 + x2) = n + x1 + x2 := wrap_id (by omega) (by omega)
        have hq1 := Lib.hid (show wrap64 ((k : Int) + 1) = ((k + 1 : Nat) : Int) from (wrap64_id (by omega) (by omega)).trans (by omega))
        have hs2 : Hid (n + x1 + x2 ≤ 20000 → ∀ i (h : i < q.length), i < k + 1 → q[i].1.length ≤ 20000 ∧ q[i].2.length ≤ 20000) := by
          intro h i hi hik
          by_cases he : i = k
          · subst he; exact ⟨by omega, by omega⟩
          · exact hsm.out (by omega) i hi (by omega)
        have hb1 : (M.size : Int) + (P.size : Int) + (body.length : Int) ≤ n + x1 + x2 := by omega
        have hb2 : n + x1 + x2 ≤ 3000000000000000 + ((k + 1 : Nat) : Int) * 40002 := by omega
        replace hb1 := Lib.hid hb1
        replace hb2 := Lib.hid hb2
        clear hcl hA hN hV hNs hVs hsm hn1 hn2
        go_upto_region 5 with fail
        go_region
        all_goals
          go_wp2_with fail
          go_roundg (q.length - (k + 1))
        all_goals first
          | omega
          | exact ⟨k + 1, n + x1 + x2, hlt, by omega, rfl, by first | rw [hq1.out] | go_num, by first | rfl | go_num, hb1.out, hb2.out, hs2, Lib.hid (gb_drew hg.out)⟩
      · have hki2 : ¬ (k : Int) ≤ 40 := by omega
        have hl4 : ¬ (q.length : Int) ≤ 40 := by omega
        clear hcl hA
        go_wp2_with fail
        go_ret
        exact ⟨false, rfl, (fun h => Bool.noConfusion h), hgr⟩
    · have hki : ¬ (k : Int) < (q.length : Int) := by omega
      have hke : k = q.length := by omega
      clear hcl hA
      by_cases hl4 : (q.length : Int) ≤ 40
      · by_cases hn : n ≤ 20000
        · have hS : SmR ⟨rm, rp, q, body, cl⟩ := ⟨by show rm.length ≤ _; have := hMs.out; omega, by show rp.length ≤ _; have := hPs.out; omega, by show body.length ≤ _; omega, by show q.length ≤ _; omega, fun i h => hsm.out hn i h (by rw [hke]; exact h)⟩
          replace hS := Lib.hid hS
          clear hke
          go_wp2_with fail
          go_ret
          exact ⟨true, rfl, fun _ => hS.out, hgr⟩
        · clear hke
          go_wp2_with fail
          go_ret
          exact ⟨false, rfl, (fun h => Bool.noConfusion h), hgr⟩
      · clear hke
        go_wp2_with fail
        go_ret
        exact ⟨false, rfl, (fun h => Bool.noConfusion h), hgr⟩
end Go.Proofs.YtdfgnoflohfnmaaGreatDoor.Hx
