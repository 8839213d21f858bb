/- Values, checked: slices.IndexFunc and ContainsFunc at closures, deep. -/
import Derived.Test.YtnnhkajjifmlfaaDoorT0
import Derived.RegionTactic
namespace Go.Proofs.YtnnhkajjifmlfaaDoor
open Go.RowKit Go.Maps

/-- a slice of values -/
def LAt (w : World) (S : Nat → Prop) (list : List J) (v : Value) : Prop :=
  ∃ (A : Option Addr) (c b o : Nat) (V : Nat → Value), v = .slice A list.length c ∧ list.length ≤ c ∧ (0 < list.length → A = some ⟨b, o, none⟩ ∧ S b) ∧
    (∀ i, i < list.length → ∃ a0 a1 a2 a3 a4, V i = .agg #[a0, a1, a2, a3, a4] ∧ w.cell? ⟨b, o + i * 5, none⟩ = some a0 ∧ w.cell? ⟨b, o + i * 5 + 1, none⟩ = some a1 ∧ w.cell? ⟨b, o + i * 5 + 2, none⟩ = some a2 ∧ w.cell? ⟨b, o + i * 5 + 3, none⟩ = some a3 ∧ w.cell? ⟨b, o + i * 5 + 4, none⟩ = some a4) ∧
    (∀ i (h : i < list.length), JAt w S list[i] (V i))
theorem LAt.keep {w w' : World} {S S' : Nat → Prop} {list : List J} {v : Value} (h : LAt w S list v) (hk : ∀ b, S b → w'.heap[b]? = w.heap[b]?) (hs : ∀ b, S b → S' b) : LAt w' S' list v := by
  obtain ⟨A, c, b, o, V, e, hc, ha, hcell, hrec⟩ := h
  refine ⟨A, c, b, o, V, e, hc, fun h0 => ⟨(ha h0).1, hs _ (ha h0).2⟩, fun i hi => ?_, fun i hi => (hrec i hi).keep hk hs⟩
  obtain ⟨a0, a1, a2, a3, a4, e, h0, h1, h2, h3, h4⟩ := hcell i hi
  have hb := hk b (ha (by omega)).2
  have t : ∀ q, w'.cell? ⟨b, q, none⟩ = w.cell? ⟨b, q, none⟩ := fun q => World.cell?_of_block (w := w) (a := ⟨b, q, none⟩) hb
  exact ⟨a0, a1, a2, a3, a4, e, by rw [t]; exact h0, by rw [t]; exact h1, by rw [t]; exact h2, by rw [t]; exact h3, by rw [t]; exact h4⟩
/-- a value's parts -/
theorem JAt.parts {w : World} {S : Nat → Prop} {k n : Int} {t : ByteArray} {names : List ByteArray} {list : List J} {v : Value} (h : JAt w S (.mk k n t names list) v) :
    ∃ nv lv, v = .agg #[.int .i64 k, .int .i64 n, .string t, nv, lv] ∧ StrsAt w S nv names ∧ LAt w S list lv := by
  obtain @⟨_, _, _, _, _, nv, A, c, b, o, V, hn, hc, ha, hcell, hrec⟩ := h
  exact ⟨nv, _, rfl, hn, A, c, b, o, V, rfl, hc, ha, hcell, hrec⟩
theorem any_take_succ {α : Type} (p : α → Bool) (l : List α) (k : Nat) (h : k < l.length) : (l.take (k + 1)).any p = ((l.take k).any p || p l[k]) := by
  rw [List.take_add_one, List.getElem?_eq_getElem h, List.any_append]
  simp

set_option maxRecDepth 100000 in
set_option maxHeartbeats 1600000 in
theorem idx_deep (list : List J) (p : J → Bool) (S : Nat → Prop) (v : Value) (c0 : Nat) (w : World) (hS : ∀ b, S b → b < w.heap.size) (hl : list.length ≤ 140737488355328) (hv : LAt w S list v)
    (H : ∀ (i : Nat) (h : i < list.length) (W : World) (x : Value), w.grownBy W none → JAt W S list[i] x → Calls Tryd.prog 100 #[x, .pointer (some ⟨c0, 0, none⟩)] W fun e W' => e = .returned (.bool (p list[i])) ∧ W.grownBy W' none) :
    Calls Tryd.prog 137 #[v, .func (.func 100) #[] #[.pointer (some ⟨c0, 0, none⟩)]] w fun e w' => (∃ r : Int, e = .returned (.int .i64 r) ∧ Hid (decide (0 ≤ r) = list.any p)) ∧ w.grownBy w' none := by
  obtain ⟨A, c, b, o, V, rfl, hc, ha, hcell, hrec⟩ := hv
  have hlI : (list.length : Int) ≤ 140737488355328 := by omega
  go_enter Tryd.func137, Tryd.ntmps137
  go_wp2_with fail
  go_loopg [8] list.length (fun n i wr => ∃ k : Nat, k ≤ list.length ∧ n = list.length - k ∧ i = .int .i64 k ∧ Hid ((list.take k).any p = false) ∧ w.grownBy wr none)
  case atStart => exact ⟨0, Nat.zero_le _, rfl, rfl, rfl, gb_refl _ _⟩
  case round =>
    obtain ⟨k, hk, rfl, rfl, hno, hg⟩ := hrel
    by_cases hlt : k < list.length
    · obtain ⟨rfl, hSb⟩ := ha (by omega)
      have hki : (k : Int) < (list.length : Int) := by omega
      obtain ⟨a0, a1, a2, a3, a4, hV, c0', c1, c2, c3, c4⟩ := hcell k hlt
      have g0 := cell_grown c0' hg (by simp)
      have g1 := cell_grown c1 hg (by simp)
      have g2 := cell_grown c2 hg (by simp)
      have g3 := cell_grown c3 hg (by simp)
      have g4 := cell_grown c4 hg (by simp)
      have hrk := (hrec k hlt).keep (w' := wr) (S' := S) (fun b hb => hg.block b (hS b hb) (by simp)) (fun _ => id)
      rw [hV] at hrk
      have Hk := Lib.hid (H k hlt wr _ hg hrk)
      have hstep := any_take_succ p list k hlt
      have hHs : Hid (((list.take (k + 1)).any p = ((list.take k).any p || p list[k]))) := hstep
      have hAny : Hid (p list[k] = true → list.any p = true) := fun e => List.any_eq_true.2 ⟨_, List.getElem_mem hlt, e⟩
      clear H hcell hrec hstep c0' c1 c2 c3 c4
      generalize p list[k] = y at *
      cases y with
      | true =>
        go_wp2_with (first
          | (go_at_call 100; refine (Hk.out).mono ?_; rintro e w4 ⟨rfl, hg4⟩))
        go_ret
        exact ⟨⟨k, rfl, by unfold Hid; rw [hAny.out (by first | rfl | trivial)]; exact decide_eq_true (by omega)⟩, gb_trans hg hg4⟩
      | false =>
        go_wp2_with (first
          | (go_at_call 100; refine (Hk.out).mono ?_; rintro e w4 ⟨rfl, hg4⟩))
        go_roundg (list.length - (k + 1))
        case measure => omega
        case rel => exact ⟨k + 1, hlt, rfl, by go_num, by unfold Hid; rw [hHs.out, hno.out]; rfl, gb_trans hg hg4⟩
    · obtain rfl : k = list.length := by omega
      go_wp2_with fail
      go_ret
      refine ⟨⟨-1, rfl, ?_⟩, hg⟩
      have := hno.out
      rw [List.take_of_length_le (Nat.le_refl _)] at this
      unfold Hid
      rw [this]; rfl
end Go.Proofs.YtnnhkajjifmlfaaDoor
