/- SameJson of equal values of any size. -/
import Derived.Test.YtnnhkajjifmlfaaDoorM2
namespace Go.Proofs.YtnnhkajjifmlfaaDoor
open Go.RowKit Go.Maps
set_option maxHeartbeats 1600000 in
theorem sameStrs2 (l : List ByteArray) (hl : l.length ≤ 140737488355328) (S S' : Nat → Prop) (v v' : Value) (w : World) (h : StrsAt w S v l) (h' : StrsAt w S' v' l) :
    Calls Tryd.prog 46 #[v, v'] w fun e w' => e = .returned (.bool true) ∧ w.grownBy w' none := by
  obtain ⟨A, c, rfl, hc, hA⟩ := h
  obtain ⟨A', c', rfl, hc', hA'⟩ := h'
  have hl' := Lib.hid hl
  clear hl
  go_enter Tryd.func46, Tryd.ntmps46
  go_wp2_with fail
  go_loopg [5] l.length (fun n i wr => ∃ k : Nat, k ≤ l.length ∧ n = l.length - k ∧ i = .int .i64 k ∧ w.grownBy wr none)
  case atStart => exact ⟨0, Nat.zero_le _, rfl, rfl, gb_refl _ _⟩
  case round =>
    obtain ⟨k, hk, rfl, rfl, hg⟩ := hrel
    by_cases hlt : k < l.length
    · obtain ⟨b, o, rfl, hb, hcell⟩ := hA (by omega)
      obtain ⟨b', o', rfl, hb', hcell'⟩ := hA' (by omega)
      have hki : (k : Int) < (l.length : Int) := by omega
      have hq1 := Lib.hid (show wrap64 ((k : Int) + 1) = ((k + 1 : Nat) : Int) from (wrap64_id (by omega) (by have := hl'.out; omega)).trans (by omega))
      have c1 := cell_grown (hcell k hlt) hg (by simp)
      have c2 := cell_grown (hcell' k hlt) hg (by simp)
      go_wp2_with fail
      go_region
      go_wp2_with fail
      go_roundg (l.length - (k + 1))
      case measure => omega
      case rel => exact ⟨k + 1, hlt, rfl, by first | rw [hq1.out] | go_num, gb_drew hg⟩
    · obtain rfl : k = l.length := by omega
      go_wp2_with fail
      go_ret
      exact ⟨rfl, hg⟩
set_option maxRecDepth 100000 in
set_option maxHeartbeats 1600000 in
theorem sameJson2 {j : J} (hj : JBd j) : ∀ (S S' : Nat → Prop) (v v' : Value) (w : World), (∀ b, S b → b < w.heap.size) → (∀ b, S' b → b < w.heap.size) → JAt w S j v → JAt w S' j v' →
    Calls Tryd.prog 15 #[v, v'] w fun e w' => e = .returned (.bool true) ∧ w.grownBy w' none := by
  induction hj with
  | @mk k m t names list h0 h1 ht hnl hll hs hr ih =>
    intro S S' v v' w hS hS' hv hv'
    obtain @⟨_, _, _, _, _, nv, A, c, b, o, V, hn, hc, ha, hcell, hrec⟩ := hv
    obtain @⟨_, _, _, _, _, nv', A', c', b', o', V', hn', hc', ha', hcell', hrec'⟩ := hv'
    have J0 := (JB.new w (.int .i64 k) (.int .i64 m) (.string t) nv (.slice A list.length c)).alloc (.cells #[.int .i64 k, .int .i64 m, .string t, nv', .slice A' list.length c'] 26)
    have J1 := JB.new (w.alloc (.cells #[.int .i64 k, .int .i64 m, .string t, nv, .slice A list.length c] 26)) (.int .i64 k) (.int .i64 m) (.string t) nv' (.slice A' list.length c')
    have hg1 : w.grownBy ((w.alloc (.cells #[.int .i64 k, .int .i64 m, .string t, nv, .slice A list.length c] 26)).alloc (.cells #[.int .i64 k, .int .i64 m, .string t, nv', .slice A' list.length c'] 26)) none := gb_alloc (gb_alloc (gb_refl w none) _) _
    have hll' := Lib.hid hll
    have hst := fun (W : World) (hg : w.grownBy W none) => Lib.hid (sameStrs2 names hnl S S' nv nv' W (hn.keep (fun b hb => hg.block b (hS b hb) (by simp)) (fun _ => id)) (hn'.keep (fun b hb => hg.block b (hS' b hb) (by simp)) (fun _ => id)))
    clear hll hnl h0 h1 ht
    obtain ⟨d0, d1, d2, d3, d4, df⟩ := J0.all
    obtain ⟨e0, e1, e2, e3, e4, ef⟩ := J1.all
    have hsz1 : (w.alloc (.cells #[.int .i64 k, .int .i64 m, .string t, nv, .slice A list.length c] 26)).heap.size = w.heap.size + 1 := by simp
    rw [hsz1] at J1 e0 e1 e2 e3 e4
    go_enter Tryd.func15, Tryd.ntmps15
    go_wp2_with (first
      | (go_at_call 46; refine ((hst _ (by exact hg1)).out).mono ?_; rintro e w2 ⟨rfl, hg2⟩; have K0 := J0.kept hg2 (by simp); have K1 := J1.kept hg2 (by simp); have hg3 := gb_trans hg1 hg2; have k4 := K0.c4; have k4' := K1.c4))
    go_loopg [5] list.length (fun n i wr => ∃ q : Nat, q ≤ list.length ∧ n = list.length - q ∧ i = .int .i64 q ∧ w2.grownBy wr none)
    case atStart => exact ⟨0, Nat.zero_le _, rfl, rfl, gb_refl _ _⟩
    case round =>
      obtain ⟨q, hq, rfl, rfl, hg⟩ := hrel
      have l4 := (K0.kept hg (by simp)).c4
      have l4' := (K1.kept hg (by simp)).c4
      have hgw := gb_trans hg3 hg
      by_cases hlt : q < list.length
      · obtain ⟨rfl, hSb⟩ := ha (by omega)
        obtain ⟨rfl, hSb'⟩ := ha' (by omega)
        have hqi : (q : Int) < (list.length : Int) := by omega
        have hq1 := Lib.hid (show wrap64 ((q : Int) + 1) = ((q + 1 : Nat) : Int) from (wrap64_id (by omega) (by have := hll'.out; omega)).trans (by omega))
        obtain ⟨a0, a1, a2, a3, a4, hV, c0, c1, c2, c3, c4⟩ := hcell q hlt
        obtain ⟨a0', a1', a2', a3', a4', hV', c0', c1', c2', c3', c4'⟩ := hcell' q hlt
        have g0 := cell_grown c0 hgw (by simp)
        have g1 := cell_grown c1 hgw (by simp)
        have g2 := cell_grown c2 hgw (by simp)
        have g3 := cell_grown c3 hgw (by simp)
        have g4 := cell_grown c4 hgw (by simp)
        have g0' := cell_grown c0' hgw (by simp)
        have g1' := cell_grown c1' hgw (by simp)
        have g2' := cell_grown c2' hgw (by simp)
        have g3' := cell_grown c3' hgw (by simp)
        have g4' := cell_grown c4' hgw (by simp)
        have hrq := hrec q hlt
        have hrq' := hrec' q hlt
        rw [hV] at hrq
        rw [hV'] at hrq'
        have hJ := fun (W : World) (hgW : w.grownBy W none) => Lib.hid (ih list[q] (List.getElem_mem hlt) S S' _ _ W (fun b hb => Nat.lt_of_lt_of_le (hS b hb) hgW.size) (fun b hb => Nat.lt_of_lt_of_le (hS' b hb) hgW.size)
          (hrq.keep (fun b hb => hgW.block b (hS b hb) (by simp)) (fun _ => id)) (hrq'.keep (fun b hb => hgW.block b (hS' b hb) (by simp)) (fun _ => id)))
        clear ih hcell hcell' hrec hrec' hst c0 c1 c2 c3 c4 c0' c1' c2' c3' c4'
        go_wp2_with fail
        go_region_law (first
          | (go_simp; go_at_call 15; refine ((hJ _ (by exact gb_drew hgw)).out).mono ?_; rintro e w4 ⟨rfl, hg4⟩))
        all_goals go_wp2_with fail
        all_goals go_roundg (list.length - (q + 1))
        all_goals first
          | omega
          | exact ⟨q + 1, hlt, rfl, by first | rw [hq1.out] | go_num, gb_trans (gb_drew hg) (by exact hg4)⟩
      · obtain rfl : q = list.length := by omega
        go_wp2_with fail
        go_ret
        exact ⟨rfl, hgw⟩
end Go.Proofs.YtnnhkajjifmlfaaDoor
