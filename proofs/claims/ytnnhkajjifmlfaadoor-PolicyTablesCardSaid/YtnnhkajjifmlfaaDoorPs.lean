/- Policies: do nodes stand in order; may a policy be: the walks. -/
import Derived.Test.YtnnhkajjifmlfaaDoorPq
namespace Go.Proofs.YtnnhkajjifmlfaaDoor.Pl
open Go.RowKit Go.Maps

theorem fstF_s (l : List PN) (f m : Nat) (h : m < l.length) : fstF l (f + 1) (m + 1) =
    if l[m].k = 7 then (if l[m].l = (m : Int) - 1 then fstF l f m else -1)
    else if l[m].k = 8 ∨ l[m].k = 9 then (if l[m].r = (m : Int) - 1 then (if fstF l f m < 1 ∨ l[m].l ≠ fstF l f m - 1 then -1 else fstF l f (fstF l f m).toNat) else -1)
    else m := by
  conv => lhs; unfold fstF
  rw [List.getElem?_eq_getElem h]
theorem node_c4 (w : World) (x : PN) : (w.alloc (.cells #[.int .i64 x.k, .int .i64 x.n, .string x.a, .string x.b, .int .i64 x.l, .int .i64 x.r] 64)).cell? ⟨w.heap.size, 4, none⟩ = some (.int .i64 x.l) := by
  rw [cell_of_row _ _ 4 _ _ _ (heap_alloc_new w _)]; rfl
set_option maxRecDepth 100000 in
set_option maxHeartbeats 6400000 in
theorem first_any (l : List PN) (S : Nat → Prop) (v : Value) (hl : l.length ≤ 1000000) : ∀ (f m : Nat) (i : Int) (w : World), m ≤ f → m ≤ l.length → i = (m : Int) - 1 → NodesAt w S v l → (∀ b, S b → b < w.heap.size) →
    Calls Tryd.prog 76 #[v, .int .i64 i] w fun e w' => e = .returned (.int .i64 (fstF l f m)) ∧ w.grownBy w' none := by
  intro f
  induction f with
  | zero =>
    intro m i w hm hml hi h hS
    obtain rfl : m = 0 := by omega
    obtain ⟨A, c, rfl, hA⟩ := h
    have hE : Hid (fstF l 0 0 = -1) := rfl
    have hneg : i < 0 := by omega
    rw [hE.out]
    clear hi
    go_enter Tryd.func76, Tryd.ntmps76
    go_wp2_with fail
    go_ret
    exact ⟨rfl, gb_refl _ _⟩
  | succ f ih =>
    intro m i w hm hml hi h hS
    cases m with
    | zero =>
      obtain ⟨A, c, rfl, hA⟩ := h
      have hE : Hid (fstF l (f + 1) 0 = -1) := rfl
      have hneg : i < 0 := by omega
      rw [hE.out]
      clear hi ih
      go_enter Tryd.func76, Tryd.ntmps76
      go_wp2_with fail
      go_ret
      exact ⟨rfl, gb_refl _ _⟩
    | succ m =>
      obtain rfl : i = (m : Int) := by omega
      have hK : ∀ (W : World), w.grownBy W none → NodesAt W S v l ∧ ∀ b, S b → b < W.heap.size := fun W hg => ⟨h.grown hg (fun b hb => ⟨hS b hb, by simp⟩), fun b hb => Nat.lt_of_lt_of_le (hS b hb) hg.size⟩
      have hI := fun (W : World) (hg : w.grownBy W none) => Lib.hid (ih m ((m : Int) - 1) W (by omega) (by omega) rfl (hK W hg).1 (hK W hg).2)
      have hI2 := fun (W : World) (hg : w.grownBy W none) (h1 : 1 ≤ fstF l f m) => Lib.hid (ih (fstF l f m).toNat (fstF l f m - 1) W (by have := fstF_lt l f m; omega) (by have := fstF_lt l f m; omega) (by omega) (hK W hg).1 (hK W hg).2)
      have hE := Lib.hid (fstF_s l f m hml)
      have hb1 := fstF_lt l f m
      obtain ⟨A, c, rfl, hA⟩ := h
      obtain ⟨b, o, rfl, hSb, hcell⟩ := hA (by omega)
      obtain ⟨c0, c1, c2, c3, c4, c5⟩ := hcell m hml
      have hmI : (m : Int) < (l.length : Int) := by omega
      have hm0 : ¬ (m : Int) < 0 := by omega
      have hmb : (m : Int) ≤ 1000000 := by omega
      clear ih hK hA hcell hS hi hm
      obtain ⟨res, hres, hE1⟩ : ∃ res, fstF l (f + 1) (m + 1) = res ∧ Hid (fstF l (f + 1) (m + 1) = res) := ⟨_, rfl, rfl⟩
      rw [hres]
      clear hres
      have hE2 := hE.out.symm.trans hE1.out
      clear hE hE1
      generalize hx : l[m] = x at *
      clear hx
      have bI : ∀ (z k : Int), z ≠ k → (z == k) = false := fun z k h => beq_eq_false_iff_ne.2 h
      by_cases h7 : x.k = 7
      · have e7 : (x.k == 7) = true := by simp [h7]
        rw [if_pos h7] at hE2
        by_cases hx : x.l = (m : Int) - 1
        · rw [if_pos hx] at hE2
          have ex : (x.l != (m : Int) - 1) = false := by simp [hx]
          rw [hx] at c4
          rw [hE2] at hI
          clear h7 hE2 bI hI2 hb1 hx ex
          go_enter Tryd.func76, Tryd.ntmps76
          go_wp2_with (first
            | (go_at_call 76; refine ((hI _ (gb_alloc (gb_refl _ _) _)).out).mono ?_; rintro e w4 ⟨rfl, hg4⟩))
          go_ret
          exact ⟨rfl, gb_trans (gb_alloc (gb_refl _ _) _) hg4⟩
        · rw [if_neg hx] at hE2
          have ex : (x.l != (m : Int) - 1) = true := by simpa using hx
          subst hE2
          clear h7 bI hI2 hb1 hx hI
          go_enter Tryd.func76, Tryd.ntmps76
          go_wp2_with fail
          go_ret
          exact ⟨rfl, gb_alloc (gb_refl _ _) _⟩
      · have e7 := bI _ _ h7
        rw [if_neg h7] at hE2
        by_cases h89 : x.k = 8 ∨ x.k = 9
        · rw [if_pos h89] at hE2
          by_cases h8 : x.k = 8
          · have e8 : (x.k == 8) = true := by simp [h8]
            clear h89 h7
            by_cases hr : x.r = (m : Int) - 1
            · rw [if_pos hr] at hE2
              rw [hr] at c5
              by_cases hc : fstF l f m < 1 ∨ x.l ≠ fstF l f m - 1
              · rw [if_pos hc] at hE2
                subst hE2
                have hn4 := node_c4 w x
                rw [hr] at hn4
                clear hI2
                generalize fstF l f m = F1 at *
                by_cases h1 : F1 < 1
                · clear hc bI hr hb1 h8
                  go_enter Tryd.func76, Tryd.ntmps76
                  go_wp2_with (first
                    | (go_at_call 76; refine ((hI _ (gb_alloc (gb_refl _ _) _)).out).mono ?_; rintro e w4 ⟨rfl, hg4⟩; have d4 := cell_grown (w' := w4) hn4 hg4 (by simp)))
                  go_ret
                  exact ⟨rfl, gb_trans (gb_alloc (gb_refl _ _) _) hg4⟩
                · have hx : x.l ≠ F1 - 1 := by rcases hc with hc | hc; exact absurd hc h1; exact hc
                  have ex : (x.l != F1 - 1) = true := by simpa using hx
                  clear hc bI hr hx h8
                  go_enter Tryd.func76, Tryd.ntmps76
                  go_wp2_with (first
                    | (go_at_call 76; refine ((hI _ (gb_alloc (gb_refl _ _) _)).out).mono ?_; rintro e w4 ⟨rfl, hg4⟩; have d4 := cell_grown (w' := w4) hn4 hg4 (by simp)))
                  go_ret
                  exact ⟨rfl, gb_trans (gb_alloc (gb_refl _ _) _) hg4⟩
              · rw [if_neg hc] at hE2
                have h1 : ¬ fstF l f m < 1 := fun h => hc (.inl h)
                have hx : x.l = fstF l f m - 1 := by
                  rcases Decidable.em (x.l = fstF l f m - 1) with h | h
                  · exact h
                  · exact absurd (.inr h) hc
                have hI2 := fun (W : World) (hg : w.grownBy W none) => hI2 W hg (by omega)
                rw [hE2] at hI2
                clear hE2
                generalize fstF l f m = F1 at *
                have ex : (x.l != F1 - 1) = false := by simp [hx]
                rw [hx] at c4
                have hn4 : (w.alloc (.cells #[.int .i64 x.k, .int .i64 x.n, .string x.a, .string x.b, .int .i64 (F1 - 1), .int .i64 x.r] 64)).cell? ⟨w.heap.size, 4, none⟩ = some (.int .i64 (F1 - 1)) := node_c4 w ⟨x.k, x.n, x.a, x.b, F1 - 1, x.r⟩
                rw [hr] at hn4
                clear hc bI hx h8
                go_enter Tryd.func76, Tryd.ntmps76
                go_wp2_with (first
                  | (go_at_call 76; have hmk := hg4; refine ((hI2 _ (gb_trans (gb_alloc (gb_refl _ _) _) hg4)).out).mono ?_; rintro e w5 ⟨rfl, hg5⟩)
                  | (go_at_call 76; refine ((hI _ (gb_alloc (gb_refl _ _) _)).out).mono ?_; rintro e w4 ⟨rfl, hg4⟩; have d4 := cell_grown (w' := w4) hn4 hg4 (by simp)))
                go_ret
                exact ⟨rfl, gb_trans (gb_trans (gb_alloc (gb_refl _ _) _) hg4) hg5⟩
            · rw [if_neg hr] at hE2
              have er : (x.r != (m : Int) - 1) = true := by simpa using hr
              subst hE2
              clear hI2 bI hr hb1 hI h8
              go_enter Tryd.func76, Tryd.ntmps76
              go_wp2_with fail
              go_ret
              exact ⟨rfl, gb_alloc (gb_refl _ _) _⟩
          · have e8 := bI _ _ h8
            have h9 : x.k = 9 := by rcases h89 with h | h; exact absurd h h8; exact h
            have e9 : (x.k == 9) = true := by simp [h9]
            clear h89 h7 h8
            by_cases hr : x.r = (m : Int) - 1
            · rw [if_pos hr] at hE2
              rw [hr] at c5
              by_cases hc : fstF l f m < 1 ∨ x.l ≠ fstF l f m - 1
              · rw [if_pos hc] at hE2
                subst hE2
                have hn4 := node_c4 w x
                rw [hr] at hn4
                clear hI2
                generalize fstF l f m = F1 at *
                by_cases h1 : F1 < 1
                · clear hc bI hr hb1 h9
                  go_enter Tryd.func76, Tryd.ntmps76
                  go_wp2_with (first
                    | (go_at_call 76; refine ((hI _ (gb_alloc (gb_refl _ _) _)).out).mono ?_; rintro e w4 ⟨rfl, hg4⟩; have d4 := cell_grown (w' := w4) hn4 hg4 (by simp)))
                  go_ret
                  exact ⟨rfl, gb_trans (gb_alloc (gb_refl _ _) _) hg4⟩
                · have hx : x.l ≠ F1 - 1 := by rcases hc with hc | hc; exact absurd hc h1; exact hc
                  have ex : (x.l != F1 - 1) = true := by simpa using hx
                  clear hc bI hr hx h9
                  go_enter Tryd.func76, Tryd.ntmps76
                  go_wp2_with (first
                    | (go_at_call 76; refine ((hI _ (gb_alloc (gb_refl _ _) _)).out).mono ?_; rintro e w4 ⟨rfl, hg4⟩; have d4 := cell_grown (w' := w4) hn4 hg4 (by simp)))
                  go_ret
                  exact ⟨rfl, gb_trans (gb_alloc (gb_refl _ _) _) hg4⟩
              · rw [if_neg hc] at hE2
                have h1 : ¬ fstF l f m < 1 := fun h => hc (.inl h)
                have hx : x.l = fstF l f m - 1 := by
                  rcases Decidable.em (x.l = fstF l f m - 1) with h | h
                  · exact h
                  · exact absurd (.inr h) hc
                have hI2 := fun (W : World) (hg : w.grownBy W none) => hI2 W hg (by omega)
                rw [hE2] at hI2
                clear hE2
                generalize fstF l f m = F1 at *
                have ex : (x.l != F1 - 1) = false := by simp [hx]
                rw [hx] at c4
                have hn4 : (w.alloc (.cells #[.int .i64 x.k, .int .i64 x.n, .string x.a, .string x.b, .int .i64 (F1 - 1), .int .i64 x.r] 64)).cell? ⟨w.heap.size, 4, none⟩ = some (.int .i64 (F1 - 1)) := node_c4 w ⟨x.k, x.n, x.a, x.b, F1 - 1, x.r⟩
                rw [hr] at hn4
                clear hc bI hx h9
                go_enter Tryd.func76, Tryd.ntmps76
                go_wp2_with (first
                  | (go_at_call 76; have hmk := hg4; refine ((hI2 _ (gb_trans (gb_alloc (gb_refl _ _) _) hg4)).out).mono ?_; rintro e w5 ⟨rfl, hg5⟩)
                  | (go_at_call 76; refine ((hI _ (gb_alloc (gb_refl _ _) _)).out).mono ?_; rintro e w4 ⟨rfl, hg4⟩; have d4 := cell_grown (w' := w4) hn4 hg4 (by simp)))
                go_ret
                exact ⟨rfl, gb_trans (gb_trans (gb_alloc (gb_refl _ _) _) hg4) hg5⟩
            · rw [if_neg hr] at hE2
              have er : (x.r != (m : Int) - 1) = true := by simpa using hr
              subst hE2
              clear hI2 bI hr hb1 hI h9
              go_enter Tryd.func76, Tryd.ntmps76
              go_wp2_with fail
              go_ret
              exact ⟨rfl, gb_alloc (gb_refl _ _) _⟩
        · have e8 := bI x.k 8 (fun e => h89 (.inl e))
          have e9 := bI x.k 9 (fun e => h89 (.inr e))
          rw [if_neg h89] at hE2
          subst hE2
          clear h7 bI hI2 hb1 hI h89
          go_enter Tryd.func76, Tryd.ntmps76
          go_wp2_with fail
          go_ret
          exact ⟨rfl, gb_alloc (gb_refl _ _) _⟩
end Go.Proofs.YtnnhkajjifmlfaaDoor.Pl
/-! Policies: may a policy be: the walk. -/
namespace Go.Proofs.YtnnhkajjifmlfaaDoor.Pl
open Go.RowKit Go.Maps

theorem box_c0 (w : World) (v : Value) : (w.alloc (.cells #[v] 48)).cell? ⟨w.heap.size, 0, none⟩ = some v := by
  rw [cell_of_row _ _ 0 _ _ _ (heap_alloc_new w _)]; rfl
set_option maxRecDepth 100000 in
set_option maxHeartbeats 6400000 in
theorem check_any (l : List PN) (S : Nat → Prop) (v : Value) (w : World) (hl : l.length ≤ 1000000) (h : NodesAt w S v l) (hS : ∀ b, S b → b < w.heap.size) :
    Calls Tryd.prog 39 #[.agg #[v]] w fun e w' => e = .returned (.int .i64 (checkN l)) ∧ w.grownBy w' none := by
  obtain ⟨A, c, rfl, hA⟩ := id h
  have hK : ∀ (W : World), w.grownBy W none → NodesAt W S (.slice A l.length c) l ∧ ∀ b, S b → b < W.heap.size := fun W hg => ⟨h.grown hg (fun b hb => ⟨hS b hb, by simp⟩), fun b hb => Nat.lt_of_lt_of_le (hS b hb) hg.size⟩
  have hLg := fun (W : World) (hg : w.grownBy W none) => Lib.hid (contains_73 longN long_any l S _ W (by omega) (hK W hg).1 (hK W hg).2)
  have hFn := fun (W : World) (hg : w.grownBy W none) => Lib.hid (contains_74 (fun x => !fineN x) unfine_any l S _ W (by omega) (hK W hg).1 (hK W hg).2)
  have hFi := fun (W : World) (hg : w.grownBy W none) => Lib.hid (first_any l S _ hl l.length l.length ((l.length : Int) - 1) W (Nat.le_refl _) (Nat.le_refl _) rfl (hK W hg).1 (hK W hg).2)
  have hE : Hid (checkN l = if decide (64 < l.length) || l.any longN then 3 else if decide (l.length = 0) || l.any (fun x => !fineN x) || decide (fstF l l.length l.length ≠ 0) then 2 else 0) := rfl
  obtain ⟨res, hres, hE1⟩ : ∃ res, checkN l = res ∧ Hid (checkN l = res) := ⟨_, rfl, rfl⟩
  rw [hres]
  clear hres
  have hE2 := hE.out.symm.trans hE1.out
  clear hE hE1 hK hA h hS
  generalize l.any longN = a1 at *
  generalize l.any (fun x => !fineN x) = a2 at *
  generalize fstF l l.length l.length = F at *
  generalize l.length = n at *
  have hnI : (n : Int) ≤ 1000000 := by omega
  have hn0 : (0 : Int) ≤ (n : Int) := by omega
  go_enter Tryd.func39, Tryd.ntmps39
  by_cases h64 : 64 < n
  · have hI : (64 : Int) < (n : Int) := by omega
    rw [decide_eq_true h64] at hE2
    obtain rfl : res = 3 := by rw [← hE2]; rfl
    clear hE2 h64
    go_wp2_with fail
    go_ret
    exact ⟨rfl, gb_alloc (gb_refl _ _) _⟩
  · have hI : ¬ (64 : Int) < (n : Int) := by omega
    rw [decide_eq_false h64, Bool.false_or] at hE2
    cases a1 with
    | true =>
      obtain rfl : res = 3 := by rw [← hE2]; rfl
      clear hE2 h64
      go_wp2_with (first
        | (go_at_call 72; refine ((hLg _ (gb_alloc (gb_refl _ _) _)).out).mono ?_; rintro e w1 ⟨rfl, hg1⟩))
      go_ret
      exact ⟨rfl, gb_trans (gb_alloc (gb_refl _ _) _) hg1⟩
    | false =>
      simp only [Bool.false_eq_true, if_false] at hE2
      by_cases h0 : n = 0
      · have h0b : ((n : Int) == 0) = true := by simp [h0]
        rw [decide_eq_true h0] at hE2
        obtain rfl : res = 2 := by rw [← hE2]; rfl
        clear hE2 h64 h0
        go_wp2_with (first
          | (go_at_call 72; refine ((hLg _ (gb_alloc (gb_refl _ _) _)).out).mono ?_; rintro e w1 ⟨rfl, hg1⟩; have d0 := cell_grown (w' := w1) (box_c0 w (.slice A n c)) hg1 (by simp)))
        go_ret
        exact ⟨rfl, gb_trans (gb_alloc (gb_refl _ _) _) hg1⟩
      · have h0b : ((n : Int) == 0) = false := by simp; omega
        rw [decide_eq_false h0, Bool.false_or] at hE2
        cases a2 with
        | true =>
          obtain rfl : res = 2 := by rw [← hE2]; rfl
          clear hE2 h64 h0
          go_wp2_with (first
            | (go_at_call 72; have hmk := d0; refine ((hFn _ (gb_trans (gb_alloc (gb_refl _ _) _) hg1)).out).mono ?_; rintro e w2 ⟨rfl, hg2⟩)
            | (go_at_call 72; refine ((hLg _ (gb_alloc (gb_refl _ _) _)).out).mono ?_; rintro e w1 ⟨rfl, hg1⟩; have d0 := cell_grown (w' := w1) (box_c0 w (.slice A n c)) hg1 (by simp)))
          go_ret
          exact ⟨rfl, gb_trans (gb_trans (gb_alloc (gb_refl _ _) _) hg1) hg2⟩
        | false =>
          rw [Bool.false_or] at hE2
          by_cases hF : F = 0
          · have hFb : (F != 0) = false := by simp [hF]
            rw [decide_eq_false (fun h => h hF)] at hE2
            obtain rfl : res = 0 := by rw [← hE2]; rfl
            clear hE2 h64 h0 hF
            go_wp2_with (first
              | (go_at_call 76; refine ((hFi _ (gb_trans (gb_trans (gb_alloc (gb_refl _ _) _) hg1) hg2)).out).mono ?_; rintro e w3 ⟨rfl, hg3⟩)
              | (go_at_call 72; have hmk := d0; refine ((hFn _ (gb_trans (gb_alloc (gb_refl _ _) _) hg1)).out).mono ?_; rintro e w2 ⟨rfl, hg2⟩; have d2 := cell_grown (w' := w2) d0 hg2 (by simp))
              | (go_at_call 72; refine ((hLg _ (gb_alloc (gb_refl _ _) _)).out).mono ?_; rintro e w1 ⟨rfl, hg1⟩; have d0 := cell_grown (w' := w1) (box_c0 w (.slice A n c)) hg1 (by simp)))
            go_ret
            exact ⟨rfl, gb_trans (gb_trans (gb_trans (gb_alloc (gb_refl _ _) _) hg1) hg2) hg3⟩
          · have hFb : (F != 0) = true := by simpa using hF
            rw [decide_eq_true (show F ≠ 0 from hF)] at hE2
            obtain rfl : res = 2 := by rw [← hE2]; rfl
            clear hE2 h64 h0 hF
            go_wp2_with (first
              | (go_at_call 76; refine ((hFi _ (gb_trans (gb_trans (gb_alloc (gb_refl _ _) _) hg1) hg2)).out).mono ?_; rintro e w3 ⟨rfl, hg3⟩)
              | (go_at_call 72; have hmk := d0; refine ((hFn _ (gb_trans (gb_alloc (gb_refl _ _) _) hg1)).out).mono ?_; rintro e w2 ⟨rfl, hg2⟩; have d2 := cell_grown (w' := w2) d0 hg2 (by simp))
              | (go_at_call 72; refine ((hLg _ (gb_alloc (gb_refl _ _) _)).out).mono ?_; rintro e w1 ⟨rfl, hg1⟩; have d0 := cell_grown (w' := w1) (box_c0 w (.slice A n c)) hg1 (by simp)))
            go_ret
            exact ⟨rfl, gb_trans (gb_trans (gb_trans (gb_alloc (gb_refl _ _) _) hg1) hg2) hg3⟩
end Go.Proofs.YtnnhkajjifmlfaaDoor.Pl
