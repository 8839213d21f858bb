/- The document's Get (24). -/
import Derived.Test.YtnnhkajjifmlfaaDoorTv
namespace Go.Proofs.YtnnhkajjifmlfaaDoor
open Go.RowKit Go.Maps
theorem idx_hit {names : List ByteArray} {s : ByteArray} {q : Nat} (hq : q < names.length) (he : names[q] = s) (hm : ∀ j (hj : j < names.length), j < q → names[j] ≠ s) : Lib.idxOfS names s = q := by
  have := Lib.idxOfS_hit names names.length q s hq (Nat.le_refl _) (by rw [getD_strs hq]; exact he) (fun j hj => by rw [getD_strs (by omega : j < names.length)]; exact hm j (by omega) hj)
  rwa [List.take_of_length_le (Nat.le_refl _)] at this
theorem idx_miss {names : List ByteArray} {s : ByteArray} (hm : ∀ j (hj : j < names.length), names[j] ≠ s) : Lib.idxOfS names s = -1 := by
  have := Lib.idxOfS_miss names names.length s (fun j hj => by rw [getD_strs hj]; exact hm j hj)
  rwa [List.take_of_length_le (Nat.le_refl _)] at this
set_option maxRecDepth 100000 in
set_option maxHeartbeats 3200000 in
theorem rget_any {j : J} (hj : JBd j) (s : ByteArray) (S : Nat → Prop) (v : Value) (w : World) (hS : ∀ b, S b → b < w.heap.size) (hv : JAt w S j v) :
    Calls Tryd.prog 24 #[v, .string s] w (GetE w S (getP j s)) := by
  have HC := fun (W : World) (hgW : w.grownBy W none) => Lib.hid (rcheck_any hj S v W (fun b hb => Nat.lt_of_lt_of_le (hS b hb) hgW.size) (hv.keep (fun b hb => hgW.block b (hS b hb) (by simp)) (fun _ => id)))
  have hcf := check_fine (j := j)
  obtain @⟨k, n, t, names, list, h0, h1, ht, hnl, hll, hs, hr⟩ := hj
  have hP : Hid (getP (.mk k n t names list) s = if k = 6 ∧ checkP (.mk k n t names list) = 0 then
      (if 0 ≤ Lib.idxOfS names s then (list.getD (Lib.idxOfS names s).toNat zeroJ, true) else (zeroJ, false)) else (zeroJ, false)) := rfl
  obtain ⟨nv, lv, rfl, hN, hL⟩ := hv.parts
  have J0 := JB.new w (.int .i64 k) (.int .i64 n) (.string t) nv lv
  have JA := J0.alloc (.cells #[.int .i64 0, .int .i64 0, .string ⟨#[]⟩, .slice none 0 0, .slice none 0 0] 26)
  have JZ := JB.new (w.alloc (.cells #[.int .i64 k, .int .i64 n, .string t, nv, lv] 26)) (.int .i64 0) (.int .i64 0) (.string ⟨#[]⟩) (.slice none 0 0) (.slice none 0 0)
  have hgw : w.grownBy ((w.alloc (.cells #[.int .i64 k, .int .i64 n, .string t, nv, lv] 26)).alloc (.cells #[.int .i64 0, .int .i64 0, .string ⟨#[]⟩, .slice none 0 0, .slice none 0 0] 26)) none := gb_alloc (gb_alloc (gb_refl w none) _) _
  rw [show (w.alloc (.cells #[.int .i64 k, .int .i64 n, .string t, nv, lv] 26)).heap.size = w.heap.size + 1 from by simp] at JZ
  obtain ⟨d0, d1, d2, d3, d4, df⟩ := JA.all
  obtain ⟨z0, z1, z2, z3, z4, zf⟩ := JZ.all
  by_cases hk : k = 6
  · subst hk
    by_cases hc : checkP (.mk 6 n t names list) = 0
    · have hlen := Lib.hid (fine_len (hcf hc).1)
      rw [hc] at HC
      have hP1 : Hid (getP (.mk 6 n t names list) s = if 0 ≤ Lib.idxOfS names s then (list.getD (Lib.idxOfS names s).toNat zeroJ, true) else (zeroJ, false)) := by
        unfold Hid; rw [hP.out, if_pos ⟨rfl, hc⟩]
      obtain ⟨A, c, rfl, hcA, hA⟩ := hN
      obtain ⟨A', c', b', o', V', rfl, hc', hA', hcl', hrc'⟩ := hL
      have hnl' := Lib.hid hnl
      clear hP hcf hc hnl hv
      go_enter Tryd.func24, Tryd.ntmps24
      go_wp2_with (first
        | (go_at_call 26; refine ((HC _ (by exact hgw)).out).mono ?_; rintro e w2 ⟨rfl, hg2⟩
           have JA2 := JA.kept hg2 (by simp)
           have JZ2 := JZ.kept hg2 (by simp)
           obtain ⟨p0, p1, p2, p3, p4, pf⟩ := JA2.all
           obtain ⟨r0, r1, r2, r3, r4, rf⟩ := JZ2.all))
      go_loopg [6] names.length (fun z u6 wr => ∃ q : Nat, q ≤ names.length ∧ z = names.length - q ∧ u6 = .int .i64 q ∧ Hid (∀ j (hj : j < names.length), j < q → names[j] ≠ s) ∧ w2.grownBy wr none)
      case atStart => exact ⟨0, Nat.zero_le _, rfl, rfl, fun j hj h => absurd h (Nat.not_lt_zero j), gb_refl _ _⟩
      case round =>
        obtain ⟨q, hq, rfl, rfl, hno, hgr⟩ := hrel
        have JA3 := JA2.kept hgr (by simp)
        have JZ3 := JZ2.kept hgr (by simp)
        clear d0 d1 d2 d3 d4 df z0 z1 z2 z3 z4 zf p0 p1 p2 p3 p4 pf r0 r1 r2 r3 r4 rf
        obtain ⟨p0, p1, p2, p3, p4, pf⟩ := JA3.all
        obtain ⟨r0, r1, r2, r3, r4, rf⟩ := JZ3.all
        have hg := gb_trans (gb_trans hgw hg2) hgr
        by_cases hlt : q < names.length
        · have hqi : (q : Int) < (names.length : Int) := by omega
          obtain ⟨bn, on, rfl, hSn, hcn⟩ := hA (by omega)
          have n1 := cell_grown (hcn q hlt) hg (by simp)
          have hq1 := Lib.hid (show wrap64 ((q : Int) + 1) = ((q + 1 : Nat) : Int) from (wrap64_id (by omega) (by have := hnl'.out; omega)).trans (by omega))
          clear hcn hA
          by_cases he : names[q] = s
          · have hP2 : Hid (getP (.mk 6 n t names list) s = (list[q]'(by have := hlen.out; omega), true)) := by
              unfold Hid; rw [hP1.out, idx_hit hlt he hno.out, if_pos (by omega)]; simp [show q < list.length by have := hlen.out; omega]
            have hql : q < list.length := by have := hlen.out; omega
            have hqj : (q : Int) < (list.length : Int) := by omega
            obtain ⟨rfl, hSb⟩ := hA' (by omega)
            obtain ⟨a0, a1, a2, a3, a4, hV, c0, c1, c2, c3, c4⟩ := hcl' q hql
            have hrq := hrc' q hql
            rw [hV] at hrq
            obtain ⟨xk, xn, xt, X1, x1, y1, X2, x2, y2, rfl, rfl, rfl, rfl, rfl⟩ := hrq.shape
            have g0 := cell_grown c0 hg (by simp)
            have g1 := cell_grown c1 hg (by simp)
            have g2 := cell_grown c2 hg (by simp)
            have g3 := cell_grown c3 hg (by simp)
            have g4 := cell_grown c4 hg (by simp)
            rw [he] at n1
            clear hcl' hrc' hA' hV hP1 hno c0 c1 c2 c3 c4 he
            generalize list[q] = X at *
            go_wp2_with fail
            have JZ4 := JZ3.put5 (.int .i64 xk) (.int .i64 xn) (.string xt) (.slice X1 x1 y1) (.slice X2 x2 y2)
            obtain ⟨q0, q1, q2, q3, q4, qf⟩ := JZ4.all
            unfold put5 at q0 q1 q2 q3 q4
            refine bodyPost_ret (v := .tuple #[.agg #[.int .i64 xk, .int .i64 xn, .string xt, .slice X1 x1 y1, .slice X2 x2 y2], .bool true]) (by simp [results, Tryd.results24, go_sem, q0, q1, q2, q3, q4]) rfl ?_
            rw [hP2.out]
            exact ⟨_, rfl, hrq.keep (fun b hb => (put5_heap (by have := hS b hb; omega) _ _ _ _ _).trans (hg.block b (hS b hb) (by simp))) (fun _ => id), gb_put5 hg (by omega) _ _ _ _ _⟩
          · have hne : Hid (∀ j (hj : j < names.length), j < q + 1 → names[j] ≠ s) := fun j hj h => by
              rcases Nat.lt_succ_iff_lt_or_eq.1 h with h | h
              · exact hno.out j hj h
              · subst h; exact he
            have hts := str_ne he
            clear hcl' hrc' hA' hP1 hno
            generalize names[q] = Y at *
            go_wp2_with fail
            go_roundg (names.length - (q + 1))
            case measure => omega
            case rel => exact ⟨q + 1, hlt, rfl, by first | rw [hq1.out] | go_num, hne, hgr⟩
        · obtain rfl : q = names.length := by omega
          have hP2 : Hid (getP (.mk 6 n t names list) s = (zeroJ, false)) := by
            unfold Hid; rw [hP1.out, idx_miss (fun j hj => hno.out j hj hj), if_neg (by omega)]
          clear hcl' hrc' hA' hP1 hno hA
          go_wp2_with fail
          have JZ4 := JZ3.put5 (.int .i64 0) (.int .i64 0) (.string ⟨#[]⟩) (.slice none 0 0) (.slice none 0 0)
          obtain ⟨q0, q1, q2, q3, q4, qf⟩ := JZ4.all
          unfold put5 at q0 q1 q2 q3 q4
          refine bodyPost_ret (v := .tuple #[zeroV, .bool false]) (by simp [results, Tryd.results24, go_sem, q0, q1, q2, q3, q4]) rfl ?_
          rw [hP2.out]
          exact ⟨_, rfl, .bare _ _ _, gb_put5 hg (by omega) _ _ _ _ _⟩
    · have hP2 : Hid (getP (.mk 6 n t names list) s = (zeroJ, false)) := by
        unfold Hid; rw [hP.out, if_neg (fun h => hc h.2)]
      clear hP hN hL hv hcf
      generalize checkP (.mk 6 n t names list) = x at *
      have hx : (x != 0) = true := by simpa using hc
      go_enter Tryd.func24, Tryd.ntmps24
      go_wp2_with (first
        | (go_at_call 26; refine ((HC _ (by exact hgw)).out).mono ?_; rintro e w2 ⟨rfl, hg2⟩
           have JA2 := JA.kept hg2 (by simp)
           have JZ2 := JZ.kept hg2 (by simp)
           obtain ⟨p0, p1, p2, p3, p4, pf⟩ := JA2.all
           obtain ⟨r0, r1, r2, r3, r4, rf⟩ := JZ2.all))
      have JZ3 := JZ2.put5 (.int .i64 0) (.int .i64 0) (.string ⟨#[]⟩) (.slice none 0 0) (.slice none 0 0)
      obtain ⟨q0, q1, q2, q3, q4, qf⟩ := JZ3.all
      unfold put5 at q0 q1 q2 q3 q4
      refine bodyPost_ret (v := .tuple #[zeroV, .bool false]) (by simp [results, Tryd.results24, go_sem, q0, q1, q2, q3, q4]) rfl ?_
      rw [hP2.out]
      exact ⟨_, rfl, .bare _ _ _, gb_put5 (gb_trans hgw hg2) (by omega) _ _ _ _ _⟩
  · have hP2 : Hid (getP (.mk k n t names list) s = (zeroJ, false)) := by
      unfold Hid; rw [hP.out, if_neg (fun h => hk h.1)]
    clear hP hN hL hv hcf HC
    go_enter Tryd.func24, Tryd.ntmps24
    go_wp2_with fail
    refine bodyPost_ret (v := .tuple #[zeroV, .bool false]) (by simp [results, Tryd.results24, go_sem]) rfl ?_
    rw [hP2.out]
    exact ⟨_, rfl, .bare _ _ _, by first | exact hgw | exact gb_put5 hgw (by omega) _ _ _ _ _⟩
end Go.Proofs.YtnnhkajjifmlfaaDoor
