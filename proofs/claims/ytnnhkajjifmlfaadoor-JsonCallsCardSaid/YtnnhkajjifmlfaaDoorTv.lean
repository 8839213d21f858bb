/- json.Get (20). -/
import Derived.Test.YtnnhkajjifmlfaaDoorTu
namespace Go.Proofs.YtnnhkajjifmlfaaDoor
open Go.RowKit Go.Maps
abbrev zeroJ : J := .mk 0 0 ⟨#[]⟩ [] []
abbrev zeroV : Value := .agg #[.int .i64 0, .int .i64 0, .string ⟨#[]⟩, .slice none 0 0, .slice none 0 0]
/-- what Get answers -/
def getP : J → ByteArray → J × Bool
  | .mk k n t names list, s => if k = 6 ∧ checkP (.mk k n t names list) = 0 then
      (if 0 ≤ Lib.idxOfS names s then (list.getD (Lib.idxOfS names s).toNat zeroJ, true) else (zeroJ, false)) else (zeroJ, false)
/-- how a call of Get ends -/
def GetE (w : World) (S : Nat → Prop) (x : J × Bool) (e : Ending) (w' : World) : Prop :=
  ∃ y, e = .returned (.tuple #[y, .bool x.2]) ∧ JAt w' S x.1 y ∧ w.grownBy w' none
theorem least {p : Nat → Prop} : ∀ n, p n → ∃ n, p n ∧ ∀ j, j < n → ¬ p j := by
  intro n
  induction n using Nat.strongRecOn with
  | _ n ih =>
    intro h
    by_cases hh : ∃ m, m < n ∧ p m
    · obtain ⟨m, hm, hp⟩ := hh
      exact ih m hm hp
    · exact ⟨n, h, fun j hj hp => hh ⟨j, hj, hp⟩⟩
theorem idx_cases (names : List ByteArray) (s : ByteArray) : (∃ (q : Nat) (h : q < names.length), names[q] = s ∧ (∀ j (hj : j < names.length), j < q → names[j] ≠ s) ∧ Lib.idxOfS names s = q) ∨ ((∀ j (hj : j < names.length), names[j] ≠ s) ∧ Lib.idxOfS names s = -1) := by
  by_cases h : ∃ q, ∃ h : q < names.length, names[q] = s
  · obtain ⟨q0, h0⟩ := h
    obtain ⟨q, ⟨hq, he⟩, hmin⟩ := least (p := fun q => ∃ h : q < names.length, names[q] = s) q0 h0
    refine .inl ⟨q, hq, he, fun j hj hjq e => hmin j hjq ⟨hj, e⟩, ?_⟩
    have := Lib.idxOfS_hit names names.length q s hq (Nat.le_refl _) (by rw [getD_strs hq]; exact he) (fun j hj => by rw [getD_strs (by omega : j < names.length)]; exact fun e => hmin j hj ⟨by omega, e⟩)
    rwa [List.take_of_length_le (Nat.le_refl _)] at this
  · refine .inr ⟨fun j hj e => h ⟨j, hj, e⟩, ?_⟩
    have := Lib.idxOfS_miss names names.length s (fun j hj => by rw [getD_strs hj]; exact fun e => h ⟨j, hj, e⟩)
    rwa [List.take_of_length_le (Nat.le_refl _)] at this
/-- slices.Index over names -/
theorem index_any (names : List ByteArray) (s : ByteArray) (S : Nat → Prop) (u : Value) (w : World) (hl : names.length ≤ 140737488355328) (hu : StrsAt w S u names) :
    Calls Tryd.prog 52 #[u, .string s] w fun e w' => e = .returned (.int .i64 (Lib.idxOfS names s)) ∧ w' = w := by
  obtain ⟨A, c, rfl, hc, hA⟩ := hu
  by_cases h0 : names.length = 0
  · have e1 : names = [] := List.length_eq_zero_iff.1 h0
    subst e1
    exact Tryd.slices_Index_string_empty A c s w
  · obtain ⟨b, o, rfl, _, hcA⟩ := hA (by omega)
    refine (Tryd.slices_Index_string b o names.length c names s w (Nat.le_refl _) (by omega) (fun j hj => by rw [getD_strs hj]; exact hcA j hj)).mono ?_
    rintro e w' ⟨rfl, rfl⟩
    exact ⟨by rw [List.take_of_length_le (Nat.le_refl _)], rfl⟩
theorem check_range (j : J) : checkP j = 0 ∨ checkP j = 2 ∨ checkP j = 3 := by
  unfold checkP; split
  · exact .inr (.inr rfl)
  · split
    · exact .inl rfl
    · exact .inr (.inl rfl)
theorem fine_len {n : Int} {t : ByteArray} {names : List ByteArray} {list : List J} (h : fineP (.mk 6 n t names list) = true) : names.length = list.length := by
  rw [fineP] at h
  simp at h
  exact h.1.2
set_option maxRecDepth 100000 in
set_option maxHeartbeats 3200000 in
theorem get_any {j : J} (hj : JBd j) (s : ByteArray) (S : Nat → Prop) (v : Value) (w : World) (hS : ∀ b, S b → b < w.heap.size) (hv : JAt w S j v) :
    Calls Tryd.prog 20 #[v, .string s] w (GetE w S (getP j s)) := by
  have HC := fun (W : World) (hgW : w.grownBy W none) => Lib.hid (check_any hj S v W (fun b hb => Nat.lt_of_lt_of_le (hS b hb) hgW.size) (hv.keep (fun b hb => hgW.block b (hS b hb) (by simp)) (fun _ => id)))
  have hcf := check_fine (j := j)
  have hcr := check_range j
  obtain @⟨k, n, t, names, list, h0, h1, ht, hnl, hll, hs, hr⟩ := hj
  have hP : Hid (getP (.mk k n t names list) s = if k = 6 ∧ checkP (.mk k n t names list) = 0 then
      (if 0 ≤ Lib.idxOfS names s then (list.getD (Lib.idxOfS names s).toNat zeroJ, true) else (zeroJ, false)) else (zeroJ, false)) := rfl
  obtain ⟨nv, lv, rfl, hN, hL⟩ := hv.parts
  have HI := fun (W : World) (hgW : w.grownBy W none) => Lib.hid (index_any names s S nv W hnl (hN.keep (fun b hb => hgW.block b (hS b hb) (by simp)) (fun _ => id)))
  have J0 := JB.new w (.int .i64 k) (.int .i64 n) (.string t) nv lv
  have JA := J0.alloc (.cells #[.int .i64 0, .int .i64 0, .string ⟨#[]⟩, .slice none 0 0, .slice none 0 0] 26)
  have JZ := JB.new (w.alloc (.cells #[.int .i64 k, .int .i64 n, .string t, nv, lv] 26)) (.int .i64 0) (.int .i64 0) (.string ⟨#[]⟩) (.slice none 0 0) (.slice none 0 0)
  have hgw : w.grownBy ((w.alloc (.cells #[.int .i64 k, .int .i64 n, .string t, nv, lv] 26)).alloc (.cells #[.int .i64 0, .int .i64 0, .string ⟨#[]⟩, .slice none 0 0, .slice none 0 0] 26)) none := gb_alloc (gb_alloc (gb_refl w none) _) _
  rw [show (w.alloc (.cells #[.int .i64 k, .int .i64 n, .string t, nv, lv] 26)).heap.size = w.heap.size + 1 from by simp] at JZ
  obtain ⟨d0, d1, d2, d3, d4, df⟩ := JA.all
  obtain ⟨z0, z1, z2, z3, z4, zf⟩ := JZ.all
  by_cases hk : k = 6
  · subst hk
    by_cases hc : checkP (.mk 6 n t names list) = 0
    · have hlen := fine_len (hcf hc).1
      rw [hc] at HC
      have hP1 : Hid (getP (.mk 6 n t names list) s = if 0 ≤ Lib.idxOfS names s then (list.getD (Lib.idxOfS names s).toNat zeroJ, true) else (zeroJ, false)) := by
        unfold Hid; rw [hP.out, if_pos ⟨rfl, hc⟩]
      clear hP hcf hc hcr
      rcases idx_cases names s with ⟨q, hq, hqe, hqm, hix⟩ | ⟨hqm, hix⟩
      · rw [hix] at HI hP1
        have hql : q < list.length := by omega
        have hP2 : Hid (getP (.mk 6 n t names list) s = (list[q], true)) := by
          unfold Hid; rw [hP1.out, if_pos (by omega)]; simp [hql]
        clear hP1 hix hqm hqe hN
        obtain ⟨A', c', b', o', V', rfl, hc', hA', hcl', hrc'⟩ := hL
        obtain ⟨rfl, hSb⟩ := hA' (by omega)
        have hqi : (q : Int) < (list.length : Int) := by omega
        have hq0 : ¬ (q : Int) < 0 := by omega
        obtain ⟨a0, a1, a2, a3, a4, hV, c0, c1, c2, c3, c4⟩ := hcl' q hql
        have hrq := hrc' q hql
        rw [hV] at hrq
        obtain ⟨xk, xn, xt, X1, x1, y1, X2, x2, y2, rfl, rfl, rfl, rfl, rfl⟩ := hrq.shape
        clear hcl' hrc' hA' hV hv
        generalize list[q] = X at *
        go_enter Tryd.func20, Tryd.ntmps20
        go_wp2_with (first
          | (go_at_call 52; refine ((HI _ (by exact gb_trans hgw hg2)).out).mono ?_; rintro e w3 ⟨rfl, rfl⟩
             have hg := gb_trans hgw hg2
             have g0 := cell_grown c0 hg (by simp)
             have g1 := cell_grown c1 hg (by simp)
             have g2 := cell_grown c2 hg (by simp)
             have g3 := cell_grown c3 hg (by simp)
             have g4 := cell_grown c4 hg (by simp))
          | (go_at_call 25; refine ((HC _ (by exact hgw)).out).mono ?_; rintro e w2 ⟨rfl, hg2⟩
             have JA2 := JA.kept hg2 (by simp)
             have JZ2 := JZ.kept hg2 (by simp)
             obtain ⟨p0, p1, p2, p3, p4, pf⟩ := JA2.all
             obtain ⟨r0, r1, r2, r3, r4, rf⟩ := JZ2.all))
        have JZ3 := JZ2.put5 (.int .i64 xk) (.int .i64 xn) (.string xt) (.slice X1 x1 y1) (.slice X2 x2 y2)
        obtain ⟨q0, q1, q2, q3, q4, qf⟩ := JZ3.all
        unfold put5 at q0 q1 q2 q3 q4
        refine bodyPost_ret (v := .tuple #[.agg #[.int .i64 xk, .int .i64 xn, .string xt, .slice X1 x1 y1, .slice X2 x2 y2], .bool true]) (by simp [results, Tryd.results20, go_sem, q0, q1, q2, q3, q4]) rfl ?_
        rw [hP2.out]
        exact ⟨_, rfl, hrq.keep (fun b hb => (put5_heap (by have := hS b hb; omega) _ _ _ _ _).trans ((gb_trans hgw hg2).block b (hS b hb) (by simp))) (fun _ => id), gb_put5 (gb_trans hgw hg2) (by omega) _ _ _ _ _⟩
      · rw [hix] at HI hP1
        have hP2 : Hid (getP (.mk 6 n t names list) s = (zeroJ, false)) := by
          unfold Hid; rw [hP1.out, if_neg (by omega)]
        clear hP1 hix hqm hN hL hv
        go_enter Tryd.func20, Tryd.ntmps20
        go_wp2_with (first
          | (go_at_call 52; refine ((HI _ (by exact gb_trans hgw hg2)).out).mono ?_; rintro e w3 ⟨rfl, rfl⟩)
          | (go_at_call 25; refine ((HC _ (by exact hgw)).out).mono ?_; rintro e w2 ⟨rfl, hg2⟩
             have JA2 := JA.kept hg2 (by simp)
             have JZ2 := JZ.kept hg2 (by simp)
             obtain ⟨p0, p1, p2, p3, p4, pf⟩ := JA2.all
             obtain ⟨r0, r1, r2, r3, r4, rf⟩ := JZ2.all))
        have JZ3 := JZ2.put5 (.int .i64 0) (.int .i64 0) (.string ⟨#[]⟩) (.slice none 0 0) (.slice none 0 0)
        obtain ⟨q0, q1, q2, q3, q4, qf⟩ := JZ3.all
        unfold put5 at q0 q1 q2 q3 q4
        refine bodyPost_ret (v := .tuple #[zeroV, .bool false]) (by simp [results, Tryd.results20, go_sem, q0, q1, q2, q3, q4]) rfl ?_
        rw [hP2.out]
        exact ⟨_, rfl, .bare _ _ _, gb_put5 (gb_trans hgw hg2) (by omega) _ _ _ _ _⟩
    · have hP2 : Hid (getP (.mk 6 n t names list) s = (zeroJ, false)) := by
        unfold Hid; rw [hP.out, if_neg (fun h => hc h.2)]
      clear hP hN hL hv hcf
      generalize checkP (.mk 6 n t names list) = x at *
      have hx : (x != 0) = true := by simpa using hc
      go_enter Tryd.func20, Tryd.ntmps20
      go_wp2_with (first
        | (go_at_call 25; refine ((HC _ (by exact hgw)).out).mono ?_; rintro e w2 ⟨rfl, hg2⟩
           have JA2 := JA.kept hg2 (by simp)
           have JZ2 := JZ.kept hg2 (by simp)
           obtain ⟨p0, p1, p2, p3, p4, pf⟩ := JA2.all
           obtain ⟨r0, r1, r2, r3, r4, rf⟩ := JZ2.all))
      have JZ3 := JZ2.put5 (.int .i64 0) (.int .i64 0) (.string ⟨#[]⟩) (.slice none 0 0) (.slice none 0 0)
      obtain ⟨q0, q1, q2, q3, q4, qf⟩ := JZ3.all
      unfold put5 at q0 q1 q2 q3 q4
      refine bodyPost_ret (v := .tuple #[zeroV, .bool false]) (by simp [results, Tryd.results20, go_sem, q0, q1, q2, q3, q4]) rfl ?_
      rw [hP2.out]
      exact ⟨_, rfl, .bare _ _ _, gb_put5 (gb_trans hgw hg2) (by omega) _ _ _ _ _⟩
  · have hP2 : Hid (getP (.mk k n t names list) s = (zeroJ, false)) := by
      unfold Hid; rw [hP.out, if_neg (fun h => hk h.1)]
    clear hP hN hL hv hcf hcr HC HI
    go_enter Tryd.func20, Tryd.ntmps20
    go_wp2_with fail
    refine bodyPost_ret (v := .tuple #[zeroV, .bool false]) (by simp [results, Tryd.results20, go_sem]) rfl ?_
    rw [hP2.out]
    exact ⟨_, rfl, .bare _ _ _, by first | exact hgw | exact gb_put5 hgw (by omega) _ _ _ _ _⟩
end Go.Proofs.YtnnhkajjifmlfaaDoor
