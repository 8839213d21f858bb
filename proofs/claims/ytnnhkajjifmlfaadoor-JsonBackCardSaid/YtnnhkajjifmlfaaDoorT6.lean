/- Values, checked: fine. -/
import Derived.Test.YtnnhkajjifmlfaaDoorT5
namespace Go.Proofs.YtnnhkajjifmlfaaDoor
open Go.RowKit Go.Maps

set_option maxRecDepth 100000 in
set_option maxHeartbeats 1600000 in
theorem idx_fine (list : List J) (p : J → Bool) (S : Nat → Prop) (v : Value) (w : World) (hS : ∀ b, S b → b < w.heap.size) (hl : list.length ≤ 140737488355328) (hv : LAt w S list v)
    (H : ∀ (i : Nat) (h : i < list.length) (W : World) (x : Value), w.grownBy W none → JAt W S list[i] x → Calls Tryd.prog 101 #[x] W fun e W' => e = .returned (.bool (p list[i])) ∧ W.grownBy W' none) :
    Calls Tryd.prog 137 #[v, .func (.func 101) #[] #[]] w fun e w' => (∃ r : Int, e = .returned (.int .i64 r) ∧ Hid (decide (0 ≤ r) = list.any p)) ∧ w.grownBy w' none := by
  obtain ⟨A, c, b, o, V, rfl, hc, ha, hcell, hrec⟩ := hv
  have hlI : (list.length : Int) ≤ 140737488355328 := by omega
  go_enter Tryd.func137, Tryd.ntmps137
  go_wp2_with fail
  go_loopg [8] list.length (fun n i wr => ∃ k : Nat, k ≤ list.length ∧ n = list.length - k ∧ i = .int .i64 k ∧ Hid ((list.take k).any p = false) ∧ w.grownBy wr none)
  case atStart => exact ⟨0, Nat.zero_le _, rfl, rfl, rfl, gb_refl _ _⟩
  case round =>
    obtain ⟨k, hk, rfl, rfl, hno, hg⟩ := hrel
    by_cases hlt : k < list.length
    · obtain ⟨rfl, hSb⟩ := ha (by omega)
      have hki : (k : Int) < (list.length : Int) := by omega
      obtain ⟨a0, a1, a2, a3, a4, hV, c0', c1, c2, c3, c4⟩ := hcell k hlt
      have g0 := cell_grown c0' hg (by simp)
      have g1 := cell_grown c1 hg (by simp)
      have g2 := cell_grown c2 hg (by simp)
      have g3 := cell_grown c3 hg (by simp)
      have g4 := cell_grown c4 hg (by simp)
      have hrk := (hrec k hlt).keep (w' := wr) (S' := S) (fun b hb => hg.block b (hS b hb) (by simp)) (fun _ => id)
      rw [hV] at hrk
      have Hk := Lib.hid (H k hlt wr _ hg hrk)
      have hstep := any_take_succ p list k hlt
      have hHs : Hid (((list.take (k + 1)).any p = ((list.take k).any p || p list[k]))) := hstep
      have hAny : Hid (p list[k] = true → list.any p = true) := fun e => List.any_eq_true.2 ⟨_, List.getElem_mem hlt, e⟩
      clear H hcell hrec hstep c0' c1 c2 c3 c4
      generalize p list[k] = y at *
      cases y with
      | true =>
        go_wp2_with (first
          | (go_at_call 101; refine (Hk.out).mono ?_; rintro e w4 ⟨rfl, hg4⟩))
        go_ret
        exact ⟨⟨k, rfl, by unfold Hid; rw [hAny.out (by first | rfl | trivial)]; exact decide_eq_true (by omega)⟩, gb_trans hg hg4⟩
      | false =>
        go_wp2_with (first
          | (go_at_call 101; refine (Hk.out).mono ?_; rintro e w4 ⟨rfl, hg4⟩))
        go_roundg (list.length - (k + 1))
        case measure => omega
        case rel => exact ⟨k + 1, hlt, rfl, by go_num, by unfold Hid; rw [hHs.out, hno.out]; rfl, gb_trans hg hg4⟩
    · obtain rfl : k = list.length := by omega
      go_wp2_with fail
      go_ret
      refine ⟨⟨-1, rfl, ?_⟩, hg⟩
      have := hno.out
      rw [List.take_of_length_le (Nat.le_refl _)] at this
      unfold Hid
      rw [this]; rfl
set_option maxRecDepth 100000 in
set_option maxHeartbeats 800000 in
theorem has_fine (list : List J) (p : J → Bool) (S : Nat → Prop) (v : Value) (w : World) (hS : ∀ b, S b → b < w.heap.size) (hl : list.length ≤ 140737488355328) (hv : LAt w S list v)
    (H : ∀ (i : Nat) (h : i < list.length) (W : World) (x : Value), w.grownBy W none → JAt W S list[i] x → Calls Tryd.prog 101 #[x] W fun e W' => e = .returned (.bool (p list[i])) ∧ W.grownBy W' none) :
    Calls Tryd.prog 99 #[v, .func (.func 101) #[] #[]] w fun e w' => e = .returned (.bool (list.any p)) ∧ w.grownBy w' none := by
  have HI := Lib.hid (idx_fine list p S v w hS hl hv H)
  clear H
  generalize list.any p = y at *
  go_enter Tryd.func99, Tryd.ntmps99
  go_wp2_with (first
    | (go_at_call 137; refine (HI.out).mono ?_; rintro e w4 ⟨⟨r, rfl, hr⟩, hg4⟩))
  go_ret
  refine ⟨?_, hg4⟩
  rw [← hr.out]
  rfl

/-- what fine does at a value -/
def FineC (j : J) : Prop := ∀ (S : Nat → Prop) (v : Value) (w : World), (∀ b, S b → b < w.heap.size) → JAt w S j v →
    Calls Tryd.prog 55 #[v] w fun e w' => e = .returned (.bool (fineP j)) ∧ w.grownBy w' none
set_option maxRecDepth 100000 in
set_option maxHeartbeats 800000 in
theorem fine1_any {j : J} (hd : FineC j) (S : Nat → Prop) (x : Value) (w : World) (hS : ∀ b, S b → b < w.heap.size) (hx : JAt w S j x) :
    Calls Tryd.prog 101 #[x] w fun e w' => e = .returned (.bool (!fineP j)) ∧ w.grownBy w' none := by
  obtain ⟨k, n, t, names, list⟩ := j
  obtain ⟨nv, lv, rfl, hN, hL⟩ := hx.parts
  have hg1 : w.grownBy (w.alloc (.cells #[.int .i64 k, .int .i64 n, .string t, nv, lv] 26)) none := gb_alloc (gb_refl w none) _
  have J0 := JB.new w (.int .i64 k) (.int .i64 n) (.string t) nv lv
  obtain ⟨d0, d1, d2, d3, d4, df⟩ := J0.all
  have HD := fun (W : World) (hg : w.grownBy W none) => Lib.hid (hd S _ W (fun b hb => Nat.lt_of_lt_of_le (hS b hb) hg.size) (hx.keep (fun b hb => hg.block b (hS b hb) (by simp)) (fun _ => id)))
  clear hd
  generalize fineP (.mk k n t names list) = y at *
  go_enter Tryd.func101, Tryd.ntmps101
  go_wp2_with (first
    | (go_at_call 55; refine ((HD _ (by exact hg1)).out).mono ?_; rintro e w4 ⟨rfl, hg4⟩))
  go_ret
  exact ⟨rfl, gb_trans hg1 hg4⟩
end Go.Proofs.YtnnhkajjifmlfaaDoor
