/- cmp.Or; traces and tags compared. -/
import Derived.Test.YtcmepallgchcjaaGreatC0
namespace Go.Proofs.YtcmepallgchcjaaGreat
open Go.RowKit

set_option maxHeartbeats 1600000 in
theorem or_any (xs : List Int) (b o c : Nat) (w : World) (hn : xs.length ≤ 10) (hc : ∀ i (h : i < xs.length), w.cell? ⟨b, o + i, none⟩ = some (.int .i64 xs[i])) :
    Calls Tryz.prog 81 #[.slice (some ⟨b, o, none⟩) xs.length c] w fun e w' => e = .returned (.int .i64 (orL xs)) ∧ w' = w := by
  go_enter Tryz.func81, Tryz.ntmps81
  go_wp2_with fail
  go_loopg [8] xs.length (fun z u8 wr => ∃ k : Nat, k ≤ xs.length ∧ z = xs.length - k ∧ u8 = .int .i64 k ∧ Hid (orL (xs.drop k) = orL xs) ∧ wr = w)
  case atStart => exact ⟨0, Nat.zero_le _, rfl, rfl, rfl, rfl⟩
  case round =>
    obtain ⟨k, hk, rfl, rfl, ho, rfl⟩ := hrel
    by_cases hlt : k < xs.length
    · have hki : (k : Int) < (xs.length : Int) := by omega
      have hq1 := Lib.hid (show wrap64 ((k : Int) + 1) = ((k + 1 : Nat) : Int) from (wrap64_id (by omega) (by omega)).trans (by omega))
      have c0 := hc k hlt
      have hst : Hid (orL xs = if xs[k] = 0 then orL (xs.drop (k + 1)) else xs[k]) := by
        unfold Hid; rw [← ho.out, List.drop_eq_getElem_cons hlt]; rfl
      generalize xs[k] = x at *
      clear hc
      by_cases hx : x = 0
      · subst hx
        have hst2 : Hid (orL (xs.drop (k + 1)) = orL xs) := by unfold Hid; rw [hst.out, if_pos rfl]
        go_wp2_with fail
        go_roundg (xs.length - (k + 1))
        case measure => omega
        case rel => exact ⟨k + 1, hlt, rfl, by first | rw [hq1.out] | go_num, hst2, rfl⟩
      · have hst2 : Hid (orL xs = x) := by unfold Hid; rw [hst.out, if_neg hx]
        have hxb : (x != 0) = true := by simpa using hx
        clear hst
        go_wp2_with fail
        go_ret
        exact ⟨by rw [hst2.out]; rfl, rfl⟩
    · obtain rfl : k = xs.length := by omega
      have hfin : Hid (orL xs = 0) := by
        unfold Hid; rw [← ho.out, List.drop_of_length_le (Nat.le_refl _)]; rfl
      clear hc
      go_wp2_with fail
      go_ret
      exact ⟨by rw [hfin.out]; rfl, rfl⟩
theorem two_cells (w : World) (x y : Int) : ∀ i (h : i < [x, y].length), (w.alloc (.cells #[.int .i64 x, .int .i64 y] 3)).cell? ⟨w.heap.size, 0 + i, none⟩ = some (.int .i64 [x, y][i]) := by
  intro i h
  rw [cell_of_row _ _ _ _ _ _ (heap_alloc_new w _)]
  match i, h with
  | 0, _ => rfl
  | 1, _ => rfl
set_option maxRecDepth 100000 in
set_option maxHeartbeats 1600000 in
theorem traces_any (h l h2 l2 : Int) (w : World) : Calls Tryz.prog 146 #[.agg #[.int .u64 h, .int .u64 l], .agg #[.int .u64 h2, .int .u64 l2]] w fun e w' => e = .returned (.int .i64 (orL [cmpI h h2, cmpI l l2])) ∧ w.grownBy w' none := by
  have e0 := heap_alloc_new w (.cells #[.int .u64 h, .int .u64 l] 27)
  have e1 := heap_alloc_new (w.alloc (.cells #[.int .u64 h, .int .u64 l] 27)) (.cells #[.int .u64 h2, .int .u64 l2] 27)
  have hgw : w.grownBy ((w.alloc (.cells #[.int .u64 h, .int .u64 l] 27)).alloc (.cells #[.int .u64 h2, .int .u64 l2] 27)) none := gb_alloc (gb_alloc (gb_refl w none) _) _
  have e0' := (Below.heap_alloc (w.alloc (.cells #[.int .u64 h, .int .u64 l] 27)) (.cells #[.int .u64 h2, .int .u64 l2] 27) w.heap.size (by simp)).trans e0
  rw [show (w.alloc (.cells #[.int .u64 h, .int .u64 l] 27)).heap.size = w.heap.size + 1 from by simp] at e1
  have Q1 := fun (wK : World) => Lib.hid (show QC Tryz.prog wK 82 #[.int .u64 h, .int .u64 h2] (.int .i64 (cmpI h h2)) from fun G => (cmp82_any _ _ G.W).mono fun e w' hh => ⟨hh.1, by rw [hh.2]; exact G.h⟩)
  have Q2 := fun (wK : World) => Lib.hid (show QC Tryz.prog wK 82 #[.int .u64 l, .int .u64 l2] (.int .i64 (cmpI l l2)) from fun G => (cmp82_any _ _ G.W).mono fun e w' hh => ⟨hh.1, by rw [hh.2]; exact G.h⟩)
  generalize cmpI h h2 = r1 at *
  generalize cmpI l l2 = r2 at *
  go_enter Tryz.func146, Tryz.ntmps146
  go_wp2_with fail
  generalize hwK : World.alloc (w.alloc _) _ = wK at *
  have P0 : ∀ G : Grown wK, G.W.cell? ⟨w.heap.size, 0, none⟩ = some (.int .u64 h) := fun G => cell_grown (by rw [cell_of_row _ _ _ _ _ _ e0']; rfl) G.h (by simp)
  have P1 : ∀ G : Grown wK, G.W.cell? ⟨w.heap.size, 1, none⟩ = some (.int .u64 l) := fun G => cell_grown (by rw [cell_of_row _ _ _ _ _ _ e0']; rfl) G.h (by simp)
  have P2 : ∀ G : Grown wK, G.W.cell? ⟨w.heap.size + 1, 0, none⟩ = some (.int .u64 h2) := fun G => cell_grown (by rw [cell_of_row _ _ _ _ _ _ e1]; rfl) G.h (by simp)
  have P3 : ∀ G : Grown wK, G.W.cell? ⟨w.heap.size + 1, 1, none⟩ = some (.int .u64 l2) := fun G => cell_grown (by rw [cell_of_row _ _ _ _ _ _ e1]; rfl) G.h (by simp)
  have q1 := Q1 wK
  have q2 := Q2 wK
  clear Q1 Q2 e0 e0' e1
  refine wp_region_grown 10 3 (by simp only [List.take_succ_cons, List.take_zero]; rfl) (by kernel_rfl) (gb_drew (gb_refl _ _)) (by kernel_rfl) (by kernel_rfl) (by kernel_rfl) (by kernel_rfl) ?_
  repeat go_big_quiet_step (first
    | (rename_i G; with_reducible exact q1.out.at G)
    | (rename_i G; with_reducible exact q2.out.at G))
  refine wpQuiet_nil ?_
  intro G
  refine wpAny_ready (rs := [10]) (by kernel_rfl) (by simp) ?_
  refine AllReady.cons rfl (fun K hK => ?_) AllReady.nil
  go_simp
  refine hK _ _ ?_
  clear hK K
  refine wpAny_ready (rs := [11]) (by kernel_rfl) (by simp) ?_
  refine AllReady.cons rfl (fun K hK => ?_) AllReady.nil
  go_simp
  go_at_call 81
  refine (or_any [r1, r2] _ 0 _ _ (by simp) (two_cells G.W r1 r2)).mono ?_
  rintro e w2 ⟨rfl, rfl⟩
  refine hK _ _ ?_
  clear hK K
  refine wpAny_take (i := 12) (v := ?_) rfl (by kernel_rfl) (by kernel_rfl) (by kernel_rfl) (fun _ _ _ h => h) (Or.inl ⟨by rfl, ?_⟩) ?_
  rotate_left
  · intro W; go_simp; try with_reducible rfl
  refine wpAny_done (by kernel_rfl) ?_ _
  go_wp2_with fail
  go_ret
  exact ⟨rfl, gb_alloc (gb_trans hgw G.h) _⟩
set_option maxRecDepth 100000 in
set_option maxHeartbeats 1600000 in
theorem tags_any (h l h2 l2 : ByteArray) (w : World) : Calls Tryz.prog 150 #[.agg #[.string h, .string l], .agg #[.string h2, .string l2]] w fun e w' => e = .returned (.int .i64 (orL [cmpS h h2, cmpS l l2])) ∧ w.grownBy w' none := by
  have e0 := heap_alloc_new w (.cells #[.string h, .string l] 66)
  have e1 := heap_alloc_new (w.alloc (.cells #[.string h, .string l] 66)) (.cells #[.string h2, .string l2] 66)
  have hgw : w.grownBy ((w.alloc (.cells #[.string h, .string l] 66)).alloc (.cells #[.string h2, .string l2] 66)) none := gb_alloc (gb_alloc (gb_refl w none) _) _
  have e0' := (Below.heap_alloc (w.alloc (.cells #[.string h, .string l] 66)) (.cells #[.string h2, .string l2] 66) w.heap.size (by simp)).trans e0
  rw [show (w.alloc (.cells #[.string h, .string l] 66)).heap.size = w.heap.size + 1 from by simp] at e1
  have Q1 := fun (wK : World) => Lib.hid (show QC Tryz.prog wK 147 #[.string h, .string h2] (.int .i64 (cmpS h h2)) from fun G => (cmp147_any _ _ G.W).mono fun e w' hh => ⟨hh.1, by rw [hh.2]; exact G.h⟩)
  have Q2 := fun (wK : World) => Lib.hid (show QC Tryz.prog wK 147 #[.string l, .string l2] (.int .i64 (cmpS l l2)) from fun G => (cmp147_any _ _ G.W).mono fun e w' hh => ⟨hh.1, by rw [hh.2]; exact G.h⟩)
  generalize cmpS h h2 = r1 at *
  generalize cmpS l l2 = r2 at *
  go_enter Tryz.func150, Tryz.ntmps150
  go_wp2_with fail
  generalize hwK : World.alloc (w.alloc _) _ = wK at *
  have P0 : ∀ G : Grown wK, G.W.cell? ⟨w.heap.size, 0, none⟩ = some (.string h) := fun G => cell_grown (by rw [cell_of_row _ _ _ _ _ _ e0']; rfl) G.h (by simp)
  have P1 : ∀ G : Grown wK, G.W.cell? ⟨w.heap.size, 1, none⟩ = some (.string l) := fun G => cell_grown (by rw [cell_of_row _ _ _ _ _ _ e0']; rfl) G.h (by simp)
  have P2 : ∀ G : Grown wK, G.W.cell? ⟨w.heap.size + 1, 0, none⟩ = some (.string h2) := fun G => cell_grown (by rw [cell_of_row _ _ _ _ _ _ e1]; rfl) G.h (by simp)
  have P3 : ∀ G : Grown wK, G.W.cell? ⟨w.heap.size + 1, 1, none⟩ = some (.string l2) := fun G => cell_grown (by rw [cell_of_row _ _ _ _ _ _ e1]; rfl) G.h (by simp)
  have q1 := Q1 wK
  have q2 := Q2 wK
  clear Q1 Q2 e0 e0' e1
  refine wp_region_grown 10 3 (by simp only [List.take_succ_cons, List.take_zero]; rfl) (by kernel_rfl) (gb_drew (gb_refl _ _)) (by kernel_rfl) (by kernel_rfl) (by kernel_rfl) (by kernel_rfl) ?_
  repeat go_big_quiet_step (first
    | (rename_i G; with_reducible exact q1.out.at G)
    | (rename_i G; with_reducible exact q2.out.at G))
  refine wpQuiet_nil ?_
  intro G
  refine wpAny_ready (rs := [10]) (by kernel_rfl) (by simp) ?_
  refine AllReady.cons rfl (fun K hK => ?_) AllReady.nil
  go_simp
  refine hK _ _ ?_
  clear hK K
  refine wpAny_ready (rs := [11]) (by kernel_rfl) (by simp) ?_
  refine AllReady.cons rfl (fun K hK => ?_) AllReady.nil
  go_simp
  go_at_call 81
  refine (or_any [r1, r2] _ 0 _ _ (by simp) (two_cells G.W r1 r2)).mono ?_
  rintro e w2 ⟨rfl, rfl⟩
  refine hK _ _ ?_
  clear hK K
  refine wpAny_take (i := 12) (v := ?_) rfl (by kernel_rfl) (by kernel_rfl) (by kernel_rfl) (fun _ _ _ h => h) (Or.inl ⟨by rfl, ?_⟩) ?_
  rotate_left
  · intro W; go_simp; try with_reducible rfl
  refine wpAny_done (by kernel_rfl) ?_ _
  go_wp2_with fail
  go_ret
  exact ⟨rfl, gb_alloc (gb_trans hgw G.h) _⟩
end Go.Proofs.YtcmepallgchcjaaGreat
