/- Policies, the document's: may a policy be: the walk. -/
import Derived.Test.YtnnhkajjifmlfaaDoorDs
import Derived.Test.YtnnhkajjifmlfaaDoorDl
namespace Go.Proofs.YtnnhkajjifmlfaaDoor.Pl
open Go.RowKit Go.Maps

theorem take_any_succ (p : PN → Bool) {l : List PN} {q : Nat} (h : q < l.length) : (l.take (q + 1)).any p = ((l.take q).any p || p l[q]) := by
  rw [List.take_add_one, List.getElem?_eq_getElem h, List.any_append]
  simp
theorem any_at (p : PN → Bool) {l : List PN} {q : Nat} (h : q < l.length) (hx : p l[q] = true) : l.any p = true := by
  rw [List.any_eq_true]
  exact ⟨_, List.getElem_mem h, hx⟩
theorem fine_k {x : PN} (h : fineN x = true) : 1 ≤ x.k ∧ x.k ≤ 9 := by
  unfold fineN at h
  simp only [Bool.and_eq_true, decide_eq_true_eq] at h
  exact ⟨h.1.1.1.1.1.1.1.1.1.1, h.1.1.1.1.1.1.1.1.1.2⟩
set_option maxRecDepth 100000 in
set_option maxHeartbeats 6400000 in
theorem rcheck_any (l : List PN) (S : Nat → Prop) (v : Value) (w : World) (hl : l.length ≤ 1000000) (h : NodesAt w S v l) (hS : ∀ b, S b → b < w.heap.size) :
    Calls Tryd.prog 70 #[.agg #[v]] w fun e w' => e = .returned (.int .i64 (checkN l)) ∧ w.grownBy w' none := by
  have hK : ∀ (W : World), w.grownBy W none → NodesAt W S v l ∧ ∀ b, S b → b < W.heap.size := fun W hg => ⟨h.grown hg (fun b hb => ⟨hS b hb, by simp⟩), fun b hb => Nat.lt_of_lt_of_le (hS b hb) hg.size⟩
  have hUn := fun (W : World) (hg : w.grownBy W none) (h0 : 0 < l.length) (hk : ∀ (i : Nat) (h : i < l.length), 1 ≤ l[i].k ∧ l[i].k ≤ 9) => Lib.hid (show Calls Tryd.prog 118 #[.agg #[v], .int .i64 ((l.length : Int) - 1)] W fun e w' => e = .returned (.int .i64 (fstF l l.length l.length)) ∧ W.grownBy w' none from by
    have := under_any l S v hl hk (l.length - 1) (l.length - 1) ((l.length : Int) - 1) W (Nat.le_refl _) (by omega) (by omega) (hK W hg).1 (hK W hg).2
    rw [show l.length - 1 + 1 = l.length from by omega] at this
    exact this)
  obtain ⟨A, c, rfl, hA⟩ := h
  have hE : Hid (checkN l = if decide (64 < l.length) || l.any longN then 3 else if decide (l.length = 0) || l.any (fun x => !fineN x) || decide (fstF l l.length l.length ≠ 0) then 2 else 0) := rfl
  obtain ⟨res, hres, hE1⟩ : ∃ res, checkN l = res ∧ Hid (checkN l = res) := ⟨_, rfl, rfl⟩
  rw [hres]
  clear hres
  have hE2 := hE.out.symm.trans hE1.out
  clear hE hE1 hK
  have hll := Lib.hid hl
  have g0 := gb_alloc (gb_refl w none) (.cells #[.slice A l.length c] 48)
  have z0 := box_c0 w (.slice A l.length c)
  clear hl
  go_enter Tryd.func70, Tryd.ntmps70
  by_cases h64 : 64 < l.length
  · have hI : (64 : Int) < (l.length : Int) := by omega
    rw [decide_eq_true h64] at hE2
    obtain rfl : res = 3 := by rw [← hE2]; rfl
    clear hE2 h64 hUn hA g0 z0
    go_wp2_with fail
    go_ret
    exact ⟨rfl, gb_alloc (gb_refl _ _) _⟩
  have hI64 : ¬ (64 : Int) < (l.length : Int) := by omega
  rw [decide_eq_false h64, Bool.false_or] at hE2
  have hE2 := Lib.hid hE2
  go_wp2_with fail
  generalize w.alloc (.cells #[.slice A l.length c] 48) = W at *
  go_loopg [3] l.length (fun z u3 wr => ∃ q : Nat, q ≤ l.length ∧ z = l.length - q ∧ u3 = .int .i64 q ∧ Hid ((l.take q).any longN = false) ∧ w.grownBy wr none ∧ wr.cell? ⟨w.heap.size, 0, none⟩ = some (.slice A l.length c))
  case atStart => exact ⟨0, Nat.zero_le _, rfl, rfl, rfl, g0, z0⟩
  case round =>
    clear g0 z0
    obtain ⟨q, hq, rfl, rfl, hno, hg, z0⟩ := hrel

    by_cases hlt : q < l.length
    · obtain ⟨b1, o1, rfl, hSb, hcell⟩ := hA (by omega)
      have hqi : (q : Int) < (l.length : Int) := by omega
      obtain ⟨c0, c1, c2, c3, c4, c5⟩ := (hcell q hlt).keep (hg.block b1 (hS b1 hSb) (by simp))
      have hq1 := Lib.hid (show wrap64 ((q : Int) + 1) = ((q + 1 : Nat) : Int) from (wrap64_id (by omega) (by have := hll.out; omega)).trans (by omega))
      have hst := Lib.hid (take_any_succ longN hlt)
      have hat := fun hx => Lib.hid (any_at longN (l := l) hlt hx)
      have hLg := fun W => Lib.hid (rlong_any l[q] W)
      clear hA hcell hUn
      generalize longN l[q] = y at *
      generalize l[q] = x at *
      cases y with
      | true =>
        obtain rfl : res = 3 := by rw [← hE2.out, (hat rfl).out]; rfl
        clear hE2 hst hat
        go_wp2_with (first
          | (go_at_call 116; refine ((hLg _).out).mono ?_; rintro e w4 ⟨rfl, hg4⟩))
        go_ret
        exact ⟨rfl, gb_trans hg hg4⟩
      | false =>
        have hst2 : Hid ((l.take (q + 1)).any longN = false) := by unfold Hid; rw [hst.out, hno.out]; rfl
        clear hst hat hno
        go_wp2_with (first
          | (go_at_call 116; refine ((hLg _).out).mono ?_; rintro e w4 ⟨rfl, hg4⟩; have z4 := cell_grown (w' := w4) z0 hg4 (by simp)))
        go_roundg (l.length - (q + 1))
        case measure => omega
        case rel => exact ⟨q + 1, hlt, rfl, by first | rw [hq1.out] | go_num, hst2, gb_trans hg hg4, z4⟩
    · obtain rfl : q = l.length := by omega
      have hL : l.any longN = false := by have := hno.out; rwa [List.take_of_length_le (Nat.le_refl _)] at this
      have hE3 : Hid ((if decide (l.length = 0) || l.any (fun x => !fineN x) || decide (fstF l l.length l.length ≠ 0) then (2 : Int) else 0) = res) := by
        unfold Hid; rw [← hE2.out, hL]; rfl
      have hsz : ∀ (i : Nat) (h : i < l.length), l[i].a.size ≤ 1000000 ∧ l[i].b.size ≤ 1000000 := fun i hi => by
        have := List.any_eq_false.1 hL l[i] (List.getElem_mem hi)
        unfold longN at this
        simp only [Bool.or_eq_true, decide_eq_true_eq, not_or] at this
        omega
      clear hE2 hno hL
      go_wp2_with fail
      go_loopg [4] l.length (fun z u4 wr2 => ∃ q : Nat, q ≤ l.length ∧ z = l.length - q ∧ u4 = .int .i64 q ∧ Hid ((l.take q).any (fun x => !fineN x) = false) ∧ w.grownBy wr2 none ∧ wr2.cell? ⟨w.heap.size, 0, none⟩ = some (.slice A l.length c))
      case atStart => exact ⟨0, Nat.zero_le _, rfl, rfl, rfl, hg, z0⟩
      case round =>
        clear hg z0
        obtain ⟨q, hq, rfl, rfl, hno, hg, z0⟩ := hrel

        by_cases hlt : q < l.length
        · obtain ⟨b1, o1, rfl, hSb, hcell⟩ := hA (by omega)
          have hqi : (q : Int) < (l.length : Int) := by omega
          obtain ⟨c0, c1, c2, c3, c4, c5⟩ := (hcell q hlt).keep (hg.block b1 (hS b1 hSb) (by simp))
          have hq1 := Lib.hid (show wrap64 ((q : Int) + 1) = ((q + 1 : Nat) : Int) from (wrap64_id (by omega) (by have := hll.out; omega)).trans (by omega))
          have hst := Lib.hid (take_any_succ (fun x => !fineN x) hlt)
          have hat := fun hx => Lib.hid (any_at (fun x => !fineN x) (l := l) hlt hx)
          have hNd := fun W => Lib.hid (show Calls Tryd.prog 117 #[nodeV l[q]] W fun e w' => e = .returned (.bool (fineN l[q])) ∧ W.grownBy w' none from node_any l[q] W (hsz q hlt).1 (hsz q hlt).2)
          clear hA hcell hUn hsz
          generalize fineN l[q] = y at *
          generalize l[q] = x at *
          cases y with
          | false =>
            obtain rfl : res = 2 := by rw [← hE3.out, (hat rfl).out, Bool.or_true]; rfl
            clear hE3 hst hat
            go_wp2_with (first
              | (go_at_call 117; refine ((hNd _).out).mono ?_; rintro e w4 ⟨rfl, hg4⟩))
            go_ret
            exact ⟨rfl, gb_trans hg hg4⟩
          | true =>
            have hst2 : Hid ((l.take (q + 1)).any (fun x => !fineN x) = false) := by unfold Hid; rw [hst.out, hno.out]; rfl
            clear hst hat hno
            go_wp2_with (first
              | (go_at_call 117; refine ((hNd _).out).mono ?_; rintro e w4 ⟨rfl, hg4⟩; have z4 := cell_grown (w' := w4) z0 hg4 (by simp)))
            go_roundg (l.length - (q + 1))
            case measure => omega
            case rel => exact ⟨q + 1, hlt, rfl, by first | rw [hq1.out] | go_num, hst2, gb_trans hg hg4, z4⟩
        · obtain rfl : q = l.length := by omega
          have hL : l.any (fun x => !fineN x) = false := by have := hno.out; rwa [List.take_of_length_le (Nat.le_refl _)] at this
          have hE4 : Hid ((if decide (l.length = 0) || decide (fstF l l.length l.length ≠ 0) then (2 : Int) else 0) = res) := by
            unfold Hid; rw [← hE3.out, hL, Bool.or_false]
          have hk : ∀ (i : Nat) (h : i < l.length), 1 ≤ l[i].k ∧ l[i].k ≤ 9 := fun i hi => by
            have := List.any_eq_false.1 hL l[i] (List.getElem_mem hi)
            exact fine_k (by simpa using this)
          have hUn := fun W hg h0 => hUn W hg h0 hk
          clear hE3 hno hL hk hA hsz
          have hllI : (l.length : Int) ≤ 1000000 := by have := hll.out; omega
          by_cases h0 : l.length = 0
          · have h0b : ((l.length : Int) == 0) = true := by simp [h0]
            obtain rfl : res = 2 := by rw [← hE4.out, decide_eq_true h0]; rfl
            clear hE4 hUn h0
            go_wp2_with fail
            go_ret
            exact ⟨rfl, hg⟩
          · have h0b : ((l.length : Int) == 0) = false := beq_eq_false_iff_ne.2 (by omega)
            have h0' : 0 < l.length := by omega
            have hUn := fun (W : World) (hg : w.grownBy W none) => hUn W hg h0'
            clear h0'
            rw [decide_eq_false h0, Bool.false_or] at hE4
            clear h0
            generalize fstF l l.length l.length = F at *
            by_cases hF : F = 0
            · have hFb : (F != 0) = false := by simp [hF]
              obtain rfl : res = 0 := by rw [← hE4.out, decide_eq_false (fun h => h hF)]; rfl
              clear hE4 hF
              go_wp2_with (first
                | (go_at_call 118; refine ((hUn _ hg).out).mono ?_; rintro e w3 ⟨rfl, hg3⟩))
              go_ret
              exact ⟨rfl, gb_trans hg hg3⟩
            · have hFb : (F != 0) = true := by simpa using hF
              obtain rfl : res = 2 := by rw [← hE4.out, decide_eq_true (show F ≠ 0 from hF)]; rfl
              clear hE4 hF
              go_wp2_with (first
                | (go_at_call 118; refine ((hUn _ hg).out).mono ?_; rintro e w3 ⟨rfl, hg3⟩))
              go_ret
              exact ⟨rfl, gb_trans hg hg3⟩
end Go.Proofs.YtnnhkajjifmlfaaDoor.Pl
