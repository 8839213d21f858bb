/- Policies, the document's: do nodes stand in order: the walk. -/
import Derived.Test.YtnnhkajjifmlfaaDoorDr
import Derived.Test.YtnnhkajjifmlfaaDoorPs
namespace Go.Proofs.YtnnhkajjifmlfaaDoor.Pl
open Go.RowKit Go.Maps

/-- a policy in its box, a node of it in its own -/
structure UB (w : World) (Q : Nat) (v : Value) (x : PN) : Prop where
  q : w.cell? ⟨Q, 0, none⟩ = some v
  n : NB w (Q + 1) x
  qf : Q < w.heap.size
theorem UB.new (w : World) (v : Value) (x : PN) : UB ((w.alloc (.cells #[v] 48)).alloc (.cells #[.int .i64 x.k, .int .i64 x.n, .string x.a, .string x.b, .int .i64 x.l, .int .i64 x.r] 64)) w.heap.size v x := by
  have e : (w.alloc (.cells #[v] 48)).heap.size = w.heap.size + 1 := by simp
  refine ⟨?_, ?_, by simp; omega⟩
  · rw [cell_of_row _ _ 0 _ _ _ ((Below.heap_alloc _ _ w.heap.size (by simp)).trans (heap_alloc_new w _))]; rfl
  · have := heap_alloc_new (w.alloc (.cells #[v] 48)) (.cells #[.int .i64 x.k, .int .i64 x.n, .string x.a, .string x.b, .int .i64 x.l, .int .i64 x.r] 64)
    rw [e] at this
    exact this
theorem UB.grown {w w' : World} {Q : Nat} {v : Value} {x : PN} (h : UB w Q v x) (hg : w.grownBy w' none) : UB w' Q v x :=
  ⟨cell_grown h.q hg (by simp), h.n.kept hg (by simp), Nat.lt_of_lt_of_le h.qf hg.size⟩
theorem fstF_z (l : List PN) : ∀ f, fstF l f 0 = -1
  | 0 => rfl
  | _ + 1 => rfl
theorem gb_two (w : World) (o o' : Obj) : w.grownBy ((w.alloc o).alloc o') none := gb_alloc (gb_alloc (gb_refl _ _) _) _
set_option maxRecDepth 100000 in
set_option maxHeartbeats 6400000 in
theorem under_any (l : List PN) (S : Nat → Prop) (v : Value) (hl : l.length ≤ 1000000) (hk : ∀ (i : Nat) (h : i < l.length), 1 ≤ l[i].k ∧ l[i].k ≤ 9) : ∀ (f m : Nat) (i : Int) (w : World), m ≤ f → m < l.length → i = (m : Int) → NodesAt w S v l → (∀ b, S b → b < w.heap.size) →
    Calls Tryd.prog 118 #[.agg #[v], .int .i64 i] w fun e w' => e = .returned (.int .i64 (fstF l (f + 1) (m + 1))) ∧ w.grownBy w' none := by
  intro f
  induction f with
  | zero =>
    intro m i w hm hml hi h hS
    obtain rfl : m = 0 := by omega
    subst hi
    obtain ⟨A, c, rfl, hA⟩ := h
    obtain ⟨b, o, rfl, hSb, hcell⟩ := hA (by omega)
    have hc0 := (hcell 0 hml).keep (w' := w.alloc (.cells #[.slice (some ⟨b, o, none⟩) l.length c] 48)) (Below.heap_alloc _ _ b (hS b hSb))
    rw [show o + 0 * 6 = o from by omega] at hc0
    obtain ⟨c0, c1, c2, c3, c4, c5⟩ := hc0
    have hE := Lib.hid (fstF_s l 0 0 hml)
    obtain ⟨k1, k9⟩ := hk 0 hml
    have hmI : (0 : Int) < (l.length : Int) := by omega
    have hllb : (l.length : Int) ≤ 1000000 := by omega
    clear hA hcell hS hk
    obtain ⟨res, hres, hE1⟩ : ∃ res, fstF l (0 + 1) (0 + 1) = res ∧ Hid (fstF l (0 + 1) (0 + 1) = res) := ⟨_, rfl, rfl⟩
    rw [hres]
    clear hres
    have hE2 := hE.out.symm.trans hE1.out
    clear hE hE1
    rw [fstF_z] at hE2
    generalize hx : l[0] = x at *
    clear hx
    have bI : ∀ (z k : Int), z ≠ k → (z == k) = false := fun z k h => beq_eq_false_iff_ne.2 h
    by_cases h7 : x.k < 7
    · obtain rfl : res = 0 := by rw [← hE2, if_neg (by omega), if_neg (by omega)]; rfl
      clear hE2 bI
      go_enter Tryd.func118, Tryd.ntmps118
      go_wp2_with fail
      go_ret
      exact ⟨rfl, gb_two _ _ _⟩
    · obtain rfl : res = -1 := by
        rw [← hE2]
        by_cases e7 : x.k = 7
        · rw [if_pos e7]; split <;> rfl
        · rw [if_neg e7, if_pos (by omega)]
          split
          · rw [if_pos (.inl (by omega))]
          · rfl
      clear hE2
      by_cases e7 : x.k = 7
      · have e7b : (x.k == 7) = true := by simp [e7]
        clear e7 bI
        go_enter Tryd.func118, Tryd.ntmps118
        go_wp2_with fail
        go_ret
        exact ⟨rfl, gb_two _ _ _⟩
      · have e7b := bI _ _ e7
        clear e7 bI
        go_enter Tryd.func118, Tryd.ntmps118
        go_wp2_with fail
        go_ret
        exact ⟨rfl, gb_two _ _ _⟩
  | succ f ih =>
    intro m i w hm hml hi h hS
    obtain rfl : i = (m : Int) := by omega
    have hK : ∀ (W : World), w.grownBy W none → NodesAt W S v l ∧ ∀ b, S b → b < W.heap.size := fun W hg => ⟨h.grown hg (fun b hb => ⟨hS b hb, by simp⟩), fun b hb => Nat.lt_of_lt_of_le (hS b hb) hg.size⟩
    have hE := Lib.hid (fstF_s l (f + 1) m hml)
    have hb1 := fstF_lt l (f + 1) m
    have hI := fun (W : World) (hg : w.grownBy W none) (h1 : 1 ≤ m) => Lib.hid (show Calls Tryd.prog 118 #[.agg #[v], .int .i64 ((m : Int) - 1)] W fun e w' => e = .returned (.int .i64 (fstF l (f + 1) m)) ∧ W.grownBy w' none from by
      have := ih (m - 1) ((m : Int) - 1) W (by omega) (by omega) (by omega) (hK W hg).1 (hK W hg).2
      rw [show m - 1 + 1 = m from by omega] at this
      exact this)
    have hI2 := fun (W : World) (hg : w.grownBy W none) (h1 : 1 ≤ fstF l (f + 1) m) => Lib.hid (show Calls Tryd.prog 118 #[.agg #[v], .int .i64 (fstF l (f + 1) m - 1)] W fun e w' => e = .returned (.int .i64 (fstF l (f + 1) (fstF l (f + 1) m).toNat)) ∧ W.grownBy w' none from by
      have := ih ((fstF l (f + 1) m).toNat - 1) (fstF l (f + 1) m - 1) W (by omega) (by omega) (by omega) (hK W hg).1 (hK W hg).2
      rw [show (fstF l (f + 1) m).toNat - 1 + 1 = (fstF l (f + 1) m).toNat from by omega] at this
      exact this)
    obtain ⟨A, c, rfl, hA⟩ := h
    obtain ⟨b, o, rfl, hSb, hcell⟩ := hA (by omega)
    obtain ⟨c0, c1, c2, c3, c4, c5⟩ := (hcell m hml).keep (w' := w.alloc (.cells #[.slice (some ⟨b, o, none⟩) l.length c] 48)) (Below.heap_alloc _ _ b (hS b hSb))
    obtain ⟨k1, k9⟩ := hk m hml
    have hmI : (m : Int) < (l.length : Int) := by omega
    have hmb : (m : Int) ≤ 1000000 := by omega
    have hm00 : (0 : Int) ≤ (m : Int) := by omega
    have hU := UB.new w (.slice (some ⟨b, o, none⟩) l.length c) l[m]
    have hFz : m = 0 → fstF l (f + 1) m = -1 := fun e => by rw [e]; exact fstF_z l _
    clear ih hK hA hcell hS hm hk
    obtain ⟨res, hres, hE1⟩ : ∃ res, fstF l (f + 1 + 1) (m + 1) = res ∧ Hid (fstF l (f + 1 + 1) (m + 1) = res) := ⟨_, rfl, rfl⟩
    rw [hres]
    clear hres
    have hE2 := hE.out.symm.trans hE1.out
    clear hE hE1
    generalize hx : l[m] = x at *
    clear hx
    have bI : ∀ (z k : Int), z ≠ k → (z == k) = false := fun z k h => beq_eq_false_iff_ne.2 h
    generalize fstF l (f + 1) m = F1 at *
    by_cases h7 : x.k < 7
    · obtain rfl : res = (m : Int) := by rw [← hE2, if_neg (by omega), if_neg (by omega)]
      clear hE2 bI hI hI2 hb1 hFz hU
      go_enter Tryd.func118, Tryd.ntmps118
      go_wp2_with fail
      go_ret
      exact ⟨rfl, gb_two _ _ _⟩
    by_cases e7 : x.k = 7
    · have e7b : (x.k == 7) = true := by simp [e7]
      rw [if_pos e7] at hE2
      clear e7 hI2
      by_cases hm0 : m = 0
      · have hF := hFz hm0
        obtain rfl : res = -1 := by rw [← hE2]; split; exact hF; rfl
        have hm0b : ((m : Int) == 0) = true := by simp [hm0]
        clear hE2 bI hI hb1 hFz hU hm0 hF
        go_enter Tryd.func118, Tryd.ntmps118
        go_wp2_with fail
        go_ret
        exact ⟨rfl, gb_two _ _ _⟩
      · have hm0b : ((m : Int) == 0) = false := by simp; omega
        have hI := fun W hg => hI W hg (by omega)
        by_cases hx : x.l = (m : Int) - 1
        · rw [if_pos hx] at hE2
          have ex : (x.l != (m : Int) - 1) = false := by simp [hx]
          subst hE2
          clear hb1 hFz bI hm0 hx
          go_enter Tryd.func118, Tryd.ntmps118
          go_wp2_with (first
            | (go_at_call 118; refine ((hI _ (gb_two _ _ _)).out).mono ?_; rintro e w4 ⟨rfl, hg4⟩))
          go_ret
          exact ⟨rfl, gb_trans (gb_two _ _ _) hg4⟩
        · rw [if_neg hx] at hE2
          have ex : (x.l != (m : Int) - 1) = true := by simpa using hx
          subst hE2
          clear hI hb1 hFz bI hm0 hx hU
          go_enter Tryd.func118, Tryd.ntmps118
          go_wp2_with fail
          go_ret
          exact ⟨rfl, gb_two _ _ _⟩
    · have e7b := bI _ _ e7
      rw [if_neg e7, if_pos (by omega)] at hE2
      clear e7
      by_cases hm0 : m = 0
      · have hF := hFz hm0
        obtain rfl : res = -1 := by
          rw [← hE2]
          split
          · rw [if_pos (.inl (by omega))]
          · rfl
        have hm0b : ((m : Int) == 0) = true := by simp [hm0]
        clear hE2 bI hI hb1 hFz hU hm0 hF hI2
        go_enter Tryd.func118, Tryd.ntmps118
        go_wp2_with fail
        go_ret
        exact ⟨rfl, gb_two _ _ _⟩
      · have hm0b : ((m : Int) == 0) = false := by simp; omega
        have hI := fun W hg => hI W hg (by omega)
        clear hFz hm0
        by_cases hr : x.r = (m : Int) - 1
        · rw [if_pos hr] at hE2
          have er : (x.r != (m : Int) - 1) = false := by simp [hr]
          clear hr
          by_cases h1 : F1 < 1
          · rw [if_pos (.inl h1)] at hE2
            subst hE2
            clear bI hI2 hb1
            go_enter Tryd.func118, Tryd.ntmps118
            go_wp2_with (first
              | (go_at_call 118; refine ((hI _ (gb_two _ _ _)).out).mono ?_; rintro e w4 ⟨rfl, hg4⟩; have hU4 := hU.grown hg4; have uq := hU4.q; obtain ⟨n0, n1, n2, n3, n4, n5, nf⟩ := hU4.n.all))
            go_ret
            exact ⟨rfl, gb_trans (gb_two _ _ _) hg4⟩
          · have hI2 := fun W hg => hI2 W hg (by omega)
            by_cases hx : x.l = F1 - 1
            · rw [if_neg (by rintro (h | h); exact h1 h; exact h hx)] at hE2
              have ex : (x.l != F1 - 1) = false := by simp [hx]
              rw [hE2] at hI2
              clear bI hE2 hx
              go_enter Tryd.func118, Tryd.ntmps118
              go_wp2_with (first
                | (go_at_call 118; have hmk := hg4; refine ((hI2 _ (gb_trans (gb_two _ _ _) hg4)).out).mono ?_; rintro e w5 ⟨rfl, hg5⟩)
                | (go_at_call 118; refine ((hI _ (gb_two _ _ _)).out).mono ?_; rintro e w4 ⟨rfl, hg4⟩; have hU4 := hU.grown hg4; have uq := hU4.q; obtain ⟨n0, n1, n2, n3, n4, n5, nf⟩ := hU4.n.all))
              go_ret
              exact ⟨rfl, gb_trans (gb_trans (gb_two _ _ _) hg4) hg5⟩
            · rw [if_pos (.inr hx)] at hE2
              have ex : (x.l != F1 - 1) = true := by simpa using hx
              subst hE2
              clear bI hI2 hx
              go_enter Tryd.func118, Tryd.ntmps118
              go_wp2_with (first
                | (go_at_call 118; refine ((hI _ (gb_two _ _ _)).out).mono ?_; rintro e w4 ⟨rfl, hg4⟩; have hU4 := hU.grown hg4; have uq := hU4.q; obtain ⟨n0, n1, n2, n3, n4, n5, nf⟩ := hU4.n.all))
              go_ret
              exact ⟨rfl, gb_trans (gb_two _ _ _) hg4⟩
        · rw [if_neg hr] at hE2
          have er : (x.r != (m : Int) - 1) = true := by simpa using hr
          subst hE2
          clear hI2 bI hr hb1 hI hU
          go_enter Tryd.func118, Tryd.ntmps118
          go_wp2_with fail
          go_ret
          exact ⟨rfl, gb_two _ _ _⟩
end Go.Proofs.YtnnhkajjifmlfaaDoor.Pl
