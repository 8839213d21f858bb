/- json.same (58), both Sames (27, 28). -/
import Derived.Test.YtnnhkajjifmlfaaDoorTs
namespace Go.Proofs.YtnnhkajjifmlfaaDoor
open Go.RowKit Go.Maps
set_option maxRecDepth 100000 in
set_option maxHeartbeats 3200000 in
theorem psame_mk (k n k' n' : Int) (t t' : ByteArray) (names : List ByteArray) (list : List J) (names' : List ByteArray) (list' : List J) (S : Nat → Prop) (u v : Value) (w : World)
    (hnl : names.length ≤ 140737488355328) (hll : list.length ≤ 140737488355328) (hnl' : names'.length ≤ 140737488355328) (hb : ∀ j ∈ list', JBd j) (ih : ∀ j ∈ list, PSameC j)
    (hS : ∀ x, S x → x < w.heap.size) (hu : JAt w S (.mk k n t names list) u) (hv : JAt w S (.mk k' n' t' names' list') v) :
    Calls Tryd.prog 58 #[u, v] w fun e w' => e = .returned (.bool (eqJ (.mk k n t names list) (.mk k' n' t' names' list'))) ∧ w.grownBy w' none := by
  obtain ⟨nv, lv, rfl, hN, hL⟩ := hu.parts
  obtain ⟨nv2, lv2, rfl, hN2, hL2⟩ := hv.parts
  have HN := fun (W : World) (hgW : w.grownBy W none) => Lib.hid (names_equal names names' S nv nv2 W hnl hnl' (hN.keep (fun x hx => hgW.block x (hS x hx) (by simp)) (fun _ => id)) (hN2.keep (fun x hx => hgW.block x (hS x hx) (by simp)) (fun _ => id)))
  have HL := fun (W : World) (hgW : w.grownBy W none) => Lib.hid (eqf_any list list' S lv lv2 W hll (fun x hx => Nat.lt_of_lt_of_le (hS x hx) hgW.size) hb ih (hL.keep (fun x hx => hgW.block x (hS x hx) (by simp)) (fun _ => id)) (hL2.keep (fun x hx => hgW.block x (hS x hx) (by simp)) (fun _ => id)))
  have J0 := JB.new w (.int .i64 k) (.int .i64 n) (.string t) nv lv
  have JA := J0.alloc (.cells #[.int .i64 k', .int .i64 n', .string t', nv2, lv2] 26)
  have JZ := JB.new (w.alloc (.cells #[.int .i64 k, .int .i64 n, .string t, nv, lv] 26)) (.int .i64 k') (.int .i64 n') (.string t') nv2 lv2
  have hgw : w.grownBy ((w.alloc (.cells #[.int .i64 k, .int .i64 n, .string t, nv, lv] 26)).alloc (.cells #[.int .i64 k', .int .i64 n', .string t', nv2, lv2] 26)) none := gb_alloc (gb_alloc (gb_refl w none) _) _
  rw [show (w.alloc (.cells #[.int .i64 k, .int .i64 n, .string t, nv, lv] 26)).heap.size = w.heap.size + 1 from by simp] at JZ
  have hE : Hid (eqJ (.mk k n t names list) (.mk k' n' t' names' list') = (decide (k = k') && decide (n = n') && decide (t = t') && decide (names = names') && eqJs list list')) := by unfold Hid; rw [eqJ]
  obtain ⟨d0, d1, d2, d3, d4, df⟩ := JA.all
  obtain ⟨z0, z1, z2, z3, z4, zf⟩ := JZ.all
  clear hN hL hN2 hL2 hu hv ih hb J0
  go_enter Tryd.func58, Tryd.ntmps58
  by_cases hk : k = k'
  · by_cases hn : n = n'
    · by_cases ht : t = t'
      · have hE1 : Hid (eqJ (.mk k n t names list) (.mk k' n' t' names' list') = (decide (names = names') && eqJs list list')) := by
          unfold Hid; rw [hE.out, decide_eq_true hk, decide_eq_true hn, decide_eq_true ht]; rfl
        clear hE
        subst hk; subst hn; subst ht
        generalize decide (names = names') = y at *
        cases y with
        | true =>
          go_wp2_with (first
            | (go_at_call 103; refine ((HL _ (by exact gb_trans hgw hg2)).out).mono ?_; rintro e w3 ⟨rfl, hg3⟩)
            | (go_at_call 102; refine ((HN _ (by exact hgw)).out).mono ?_; rintro e w2 ⟨rfl, hg2⟩; have JA2 := JA.kept hg2 (by simp); have JZ2 := JZ.kept hg2 (by simp); obtain ⟨p0, p1, p2, p3, p4, pf⟩ := JA2.all; obtain ⟨r0, r1, r2, r3, r4, rf⟩ := JZ2.all))
          go_ret
          exact ⟨by rw [hE1.out]; rfl, gb_trans (gb_trans hgw hg2) hg3⟩
        | false =>
          go_wp2_with (first
            | (go_at_call 102; refine ((HN _ (by exact hgw)).out).mono ?_; rintro e w2 ⟨rfl, hg2⟩))
          go_ret
          exact ⟨by rw [hE1.out]; rfl, gb_trans hgw hg2⟩
      · have hE1 : Hid (eqJ (.mk k n t names list) (.mk k' n' t' names' list') = false) := by
          unfold Hid; rw [hE.out, decide_eq_false ht]; simp
        have hts := str_ne ht
        clear hE
        subst hk; subst hn
        go_wp2_with fail
        go_ret
        exact ⟨by rw [hE1.out]; rfl, hgw⟩
    · have hE1 : Hid (eqJ (.mk k n t names list) (.mk k' n' t' names' list') = false) := by
        unfold Hid; rw [hE.out, decide_eq_false hn]; simp
      clear hE
      subst hk
      go_wp2_with fail
      go_ret
      exact ⟨by rw [hE1.out]; rfl, hgw⟩
  · have hE1 : Hid (eqJ (.mk k n t names list) (.mk k' n' t' names' list') = false) := by
      unfold Hid; rw [hE.out, decide_eq_false hk]; simp
    clear hE
    go_wp2_with fail
    go_ret
    exact ⟨by rw [hE1.out]; rfl, hgw⟩
theorem psame_any {j : J} (hj : JBd j) : PSameC j := by
  induction hj with
  | @mk k n t names list h0 h1 ht hnl hll hs hr ih =>
    intro b S u v w hb hS hu hv
    obtain @⟨k', n', t', names', list', h0', h1', ht', hnl', hll', hs', hr'⟩ := hb
    exact psame_mk k n k' n' t t' names list names' list' S u v w hnl hll hnl' hr' ih hS hu hv
/-- are two values the same, and none too deep? -/
def sameP (a b : J) : Bool := !deepP a 64 && !deepP b 64 && eqJ a b
set_option maxRecDepth 100000 in
set_option maxHeartbeats 3200000 in
theorem Same_any {a b : J} (ha : JBd a) (hb : JBd b) (S : Nat → Prop) (u v : Value) (w : World) (hS : ∀ x, S x → x < w.heap.size) (hu : JAt w S a u) (hv : JAt w S b v) :
    Calls Tryd.prog 27 #[u, v] w fun e w' => e = .returned (.bool (sameP a b)) ∧ w.grownBy w' none := by
  have HA := fun (W : World) (hgW : w.grownBy W none) => Lib.hid (deep_any ha 64 S u W (by omega) (by omega) (fun x hx => Nat.lt_of_lt_of_le (hS x hx) hgW.size) (hu.keep (fun x hx => hgW.block x (hS x hx) (by simp)) (fun _ => id)))
  have HB := fun (W : World) (hgW : w.grownBy W none) => Lib.hid (deep_any hb 64 S v W (by omega) (by omega) (fun x hx => Nat.lt_of_lt_of_le (hS x hx) hgW.size) (hv.keep (fun x hx => hgW.block x (hS x hx) (by simp)) (fun _ => id)))
  have HS := fun (W : World) (hgW : w.grownBy W none) => Lib.hid (psame_any ha b S u v W hb (fun x hx => Nat.lt_of_lt_of_le (hS x hx) hgW.size) (hu.keep (fun x hx => hgW.block x (hS x hx) (by simp)) (fun _ => id)) (hv.keep (fun x hx => hgW.block x (hS x hx) (by simp)) (fun _ => id)))
  have e1 : deepI a 64 = deepP a 64 := rfl
  have e2 : deepI b 64 = deepP b 64 := rfl
  have hR : Hid (sameP a b = (!deepP a 64 && !deepP b 64 && eqJ a b)) := rfl
  rw [e1] at HA
  rw [e2] at HB
  clear e1 e2
  generalize sameP a b = r at *
  generalize deepP a 64 = x at *
  generalize deepP b 64 = y at *
  generalize eqJ a b = z at *
  obtain ⟨k, n, t, names, list⟩ := a
  obtain ⟨k', n', t', names', list'⟩ := b
  obtain ⟨nv, lv, rfl, hN, hL⟩ := hu.parts
  obtain ⟨nv2, lv2, rfl, hN2, hL2⟩ := hv.parts
  have J0 := JB.new w (.int .i64 k) (.int .i64 n) (.string t) nv lv
  have JA := J0.alloc (.cells #[.int .i64 k', .int .i64 n', .string t', nv2, lv2] 26)
  have JZ := JB.new (w.alloc (.cells #[.int .i64 k, .int .i64 n, .string t, nv, lv] 26)) (.int .i64 k') (.int .i64 n') (.string t') nv2 lv2
  have hgw : w.grownBy ((w.alloc (.cells #[.int .i64 k, .int .i64 n, .string t, nv, lv] 26)).alloc (.cells #[.int .i64 k', .int .i64 n', .string t', nv2, lv2] 26)) none := gb_alloc (gb_alloc (gb_refl w none) _) _
  rw [show (w.alloc (.cells #[.int .i64 k, .int .i64 n, .string t, nv, lv] 26)).heap.size = w.heap.size + 1 from by simp] at JZ
  obtain ⟨d0, d1, d2, d3, d4, df⟩ := JA.all
  obtain ⟨z0, z1, z2, z3, z4, zf⟩ := JZ.all
  clear hN hL hN2 hL2 hu hv ha hb J0
  go_enter Tryd.func27, Tryd.ntmps27
  cases x with
  | true =>
    go_wp2_with (first
      | (go_at_call 54; refine ((HA _ (by exact hgw)).out).mono ?_; rintro e w2 ⟨rfl, hg2⟩))
    go_ret
    exact ⟨by rw [hR.out]; rfl, gb_trans hgw hg2⟩
  | false =>
    cases y with
    | true =>
      go_wp2_with (first
        | (go_at_call 54; have hg2' := hg2; clear hg2'; refine ((HB _ (by exact gb_trans hgw hg2)).out).mono ?_; rintro e w3 ⟨rfl, hg3⟩)
        | (go_at_call 54; refine ((HA _ (by exact hgw)).out).mono ?_; rintro e w2 ⟨rfl, hg2⟩; have JZ2 := JZ.kept hg2 (by simp); have JA2 := JA.kept hg2 (by simp); obtain ⟨p0, p1, p2, p3, p4, pf⟩ := JA2.all; obtain ⟨r0, r1, r2, r3, r4, rf⟩ := JZ2.all))
      go_ret
      exact ⟨by rw [hR.out]; rfl, gb_trans (gb_trans hgw hg2) hg3⟩
    | false =>
      go_wp2_with (first
        | (go_at_call 58; refine ((HS _ (by exact gb_trans (gb_trans hgw hg2) hg3)).out).mono ?_; rintro e w4 ⟨rfl, hg4⟩)
        | (go_at_call 54; have hg2' := hg2; clear hg2'; refine ((HB _ (by exact gb_trans hgw hg2)).out).mono ?_; rintro e w3 ⟨rfl, hg3⟩; have JZ3 := JZ2.kept hg3 (by simp); have JA3 := JA2.kept hg3 (by simp); obtain ⟨s0, s1, s2, s3, s4, sf⟩ := JA3.all; obtain ⟨t0, t1, t2, t3, t4, tf⟩ := JZ3.all)
        | (go_at_call 54; refine ((HA _ (by exact hgw)).out).mono ?_; rintro e w2 ⟨rfl, hg2⟩; have JZ2 := JZ.kept hg2 (by simp); have JA2 := JA.kept hg2 (by simp); obtain ⟨p0, p1, p2, p3, p4, pf⟩ := JA2.all; obtain ⟨r0, r1, r2, r3, r4, rf⟩ := JZ2.all))
      go_ret
      exact ⟨by rw [hR.out]; rfl, gb_trans (gb_trans (gb_trans hgw hg2) hg3) hg4⟩
set_option maxRecDepth 100000 in
set_option maxHeartbeats 3200000 in
theorem rSame_any {a b : J} (ha : JBd a) (hb : JBd b) (S : Nat → Prop) (u v : Value) (w : World) (hS : ∀ x, S x → x < w.heap.size) (hu : JAt w S a u) (hv : JAt w S b v) :
    Calls Tryd.prog 28 #[u, v] w fun e w' => e = .returned (.bool (sameP a b)) ∧ w.grownBy w' none := by
  have HA := fun (W : World) (hgW : w.grownBy W none) => Lib.hid (rdeep_any ha 64 S u W (by omega) (fun x hx => Nat.lt_of_lt_of_le (hS x hx) hgW.size) (hu.keep (fun x hx => hgW.block x (hS x hx) (by simp)) (fun _ => id)))
  have HB := fun (W : World) (hgW : w.grownBy W none) => Lib.hid (rdeep_any hb 64 S v W (by omega) (fun x hx => Nat.lt_of_lt_of_le (hS x hx) hgW.size) (hv.keep (fun x hx => hgW.block x (hS x hx) (by simp)) (fun _ => id)))
  have HS := fun (W : World) (hgW : w.grownBy W none) => Lib.hid (rsame_any ha b S u v W hb (fun x hx => Nat.lt_of_lt_of_le (hS x hx) hgW.size) (hu.keep (fun x hx => hgW.block x (hS x hx) (by simp)) (fun _ => id)) (hv.keep (fun x hx => hgW.block x (hS x hx) (by simp)) (fun _ => id)))
  have hR : Hid (sameP a b = (!deepP a 64 && !deepP b 64 && eqJ a b)) := rfl
  generalize sameP a b = r at *
  generalize deepP a 64 = x at *
  generalize deepP b 64 = y at *
  generalize eqJ a b = z at *
  obtain ⟨k, n, t, names, list⟩ := a
  obtain ⟨k', n', t', names', list'⟩ := b
  obtain ⟨nv, lv, rfl, hN, hL⟩ := hu.parts
  obtain ⟨nv2, lv2, rfl, hN2, hL2⟩ := hv.parts
  have J0 := JB.new w (.int .i64 k) (.int .i64 n) (.string t) nv lv
  have JA := J0.alloc (.cells #[.int .i64 k', .int .i64 n', .string t', nv2, lv2] 26)
  have JZ := JB.new (w.alloc (.cells #[.int .i64 k, .int .i64 n, .string t, nv, lv] 26)) (.int .i64 k') (.int .i64 n') (.string t') nv2 lv2
  have hgw : w.grownBy ((w.alloc (.cells #[.int .i64 k, .int .i64 n, .string t, nv, lv] 26)).alloc (.cells #[.int .i64 k', .int .i64 n', .string t', nv2, lv2] 26)) none := gb_alloc (gb_alloc (gb_refl w none) _) _
  rw [show (w.alloc (.cells #[.int .i64 k, .int .i64 n, .string t, nv, lv] 26)).heap.size = w.heap.size + 1 from by simp] at JZ
  obtain ⟨d0, d1, d2, d3, d4, df⟩ := JA.all
  obtain ⟨z0, z1, z2, z3, z4, zf⟩ := JZ.all
  clear hN hL hN2 hL2 hu hv ha hb J0
  go_enter Tryd.func28, Tryd.ntmps28
  cases x with
  | true =>
    go_wp2_with (first
      | (go_at_call 56; refine ((HA _ (by exact hgw)).out).mono ?_; rintro e w2 ⟨rfl, hg2⟩))
    go_ret
    exact ⟨by rw [hR.out]; rfl, gb_trans hgw hg2⟩
  | false =>
    cases y with
    | true =>
      go_wp2_with (first
        | (go_at_call 56; have hg2' := hg2; clear hg2'; refine ((HB _ (by exact gb_trans hgw hg2)).out).mono ?_; rintro e w3 ⟨rfl, hg3⟩)
        | (go_at_call 56; refine ((HA _ (by exact hgw)).out).mono ?_; rintro e w2 ⟨rfl, hg2⟩; have JZ2 := JZ.kept hg2 (by simp); have JA2 := JA.kept hg2 (by simp); obtain ⟨p0, p1, p2, p3, p4, pf⟩ := JA2.all; obtain ⟨r0, r1, r2, r3, r4, rf⟩ := JZ2.all))
      go_ret
      exact ⟨by rw [hR.out]; rfl, gb_trans (gb_trans hgw hg2) hg3⟩
    | false =>
      go_wp2_with (first
        | (go_at_call 59; refine ((HS _ (by exact gb_trans (gb_trans hgw hg2) hg3)).out).mono ?_; rintro e w4 ⟨rfl, hg4⟩)
        | (go_at_call 56; have hg2' := hg2; clear hg2'; refine ((HB _ (by exact gb_trans hgw hg2)).out).mono ?_; rintro e w3 ⟨rfl, hg3⟩; have JZ3 := JZ2.kept hg3 (by simp); have JA3 := JA2.kept hg3 (by simp); obtain ⟨s0, s1, s2, s3, s4, sf⟩ := JA3.all; obtain ⟨t0, t1, t2, t3, t4, tf⟩ := JZ3.all)
        | (go_at_call 56; refine ((HA _ (by exact hgw)).out).mono ?_; rintro e w2 ⟨rfl, hg2⟩; have JZ2 := JZ.kept hg2 (by simp); have JA2 := JA.kept hg2 (by simp); obtain ⟨p0, p1, p2, p3, p4, pf⟩ := JA2.all; obtain ⟨r0, r1, r2, r3, r4, rf⟩ := JZ2.all))
      go_ret
      exact ⟨by rw [hR.out]; rfl, gb_trans (gb_trans (gb_trans hgw hg2) hg3) hg4⟩
end Go.Proofs.YtnnhkajjifmlfaaDoor
