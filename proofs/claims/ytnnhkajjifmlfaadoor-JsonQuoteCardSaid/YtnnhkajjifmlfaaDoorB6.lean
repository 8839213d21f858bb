/- JsonQuote: the walk. -/
import Derived.Test.YtnnhkajjifmlfaaDoorB5
namespace Go.Proofs.YtnnhkajjifmlfaaDoor
open Go.RowKit Go.Maps

set_option maxRecDepth 100000 in
set_option maxHeartbeats 12000000 in
theorem jsonQuote_walk (s : ByteArray) (w : World) (hsz : s.size ≤ 9223372036854775807) (hG : Gv w) (hw6 : 6 ≤ w.heap.size) (hl : Calls Tryd.prog 12 #[] w fun e w' => e = .returned (.bool true) ∧ w.grownBy w' none) :
    Calls Tryd.prog 5 #[.string s] w fun e w' => e = .returned (.bool true) ∧ w.grownBy w' none := by
  by_cases hs : s.size ≤ 5000
  · have hsI : ¬ (5000 : Int) < (s.size : Int) := by omega
    have hqz : 2 ≤ (quoteB s).size ∧ (quoteB s).size ≤ 1000000 := by
      have hq := quoteB_size s
      have hql := qlist_len s.data.toList
      have hsl : s.data.toList.length = s.size := by rw [Array.length_toList]; rfl
      omega
    obtain ⟨hq2, hqs⟩ := hqz
    have h0 : 0 < (quoteB s).size := by omega
    have h1 : (quoteB s).size - 1 < (quoteB s).size := by omega
    have h2 : (quoteB s).size - 1 + 1 = (quoteB s).size := by omega
    have hok := quoteB_ok s
    have hf := quoteB_first s h0
    have hla := quoteB_last s ((quoteB s).size - 1) h1 h2
    have HQ := fun (W : World) => Lib.hid (Quote_any s W (by omega))
    have hpq := parse_quote s (by omega)
    have HP0 := fun (W : World) (hg : w.grownBy W none) => parse_short (quoteB s) W (by omega) (hG.kept hg (by simp)) (Nat.le_trans hw6 hg.size)
    rw [hpq] at HP0
    have HP := fun (W : World) (hg : w.grownBy W none) => Lib.hid (HP0 W hg)
    have HT := fun (W : World) => Lib.hid (textJ_any s W)
    have hJL : JLen 10 (.mk 4 0 s [] []) := JLen.bare _ _ _ _
    clear hpq HP0 hG hw6
    generalize quoteB s = q at *
    go_enter Tryd.func5, Tryd.ntmps5
    go_wp2_with (first
      | (go_at_call 12; refine hl.mono ?_; rintro e w1 ⟨rfl, hg1⟩)
      | (go_at_call 18; refine ((HQ _).out).mono ?_; rintro e w2 ⟨rfl, hg2⟩))
    have hg3 := gb_trans hg1 hg2
    go_loopg [4] q.size (fun n i wr => ∃ k : Nat, k ≤ q.size ∧ n = q.size - k ∧ i = .int .i64 k ∧ w.grownBy wr none)
    case atStart => exact ⟨0, Nat.zero_le _, rfl, rfl, hg3⟩
    case round =>
      obtain ⟨k, hk, rfl, rfl, hg⟩ := hrel
      by_cases hlt : k < q.size
      · have hki : (k : Int) < (q.size : Int) := by omega
        obtain ⟨o1, o2⟩ := hok k hlt
        have o1' : ¬ ((q[k].toNat : Int) < 32) := by omega
        have o2' : ¬ ((126 : Int) < (q[k].toNat : Int)) := by omega
        go_wp2_with fail
        go_roundg (q.size - (k + 1))
        case measure => omega
        case rel => exact ⟨k + 1, hlt, rfl, by go_num, hg⟩
      · obtain rfl : k = q.size := by omega
        have hq0 : (0 : Int) < (q.size : Int) := by omega
        have hqa : (2 : Int) ≤ (q.size : Int) := by omega
        have hqb : ((q.size - 1 : Nat) : Int) < (q.size : Int) := by omega
        have hwr : IntKind.i64.wrap ((q.size : Int) - 1) = ((q.size - 1 : Nat) : Int) := by
          have e : ((q.size : Int) - 1) % 18446744073709551616 = (q.size : Int) - 1 := by omega
          simp only [IntKind.wrap, IntKind.bits, IntKind.signed]
          simp [e]; omega
        go_wp2_with (first
          | (go_at_call 13; refine ((HP _ (by exact hg)).out).mono ?_; rintro e w4 ⟨A1, n1, c1, A2, n2, c2, S, rfl, hj, hS, hg4⟩; simp only [J.k, J.n, J.t] at hj ⊢))
        have K0 := JB.new w4 (.int .i64 4) (.int .i64 0) (.string s) (.slice A1 n1 c1) (.slice A2 n2 c2)
        obtain ⟨d0, d1, d2, d3, d4, df⟩ := K0.all
        have hb4 : w4.grownBy (w4.alloc (.cells #[.int .i64 4, .int .i64 0, .string s, .slice A1 n1 c1, .slice A2 n2 c2] 26)) none := gb_alloc (gb_refl w4 none) _
        have HS := fun (W : World) (hgW : w4.grownBy W none) => Lib.hid (sameJson 10 (by omega) hJL S (fun _ => False) _ _ W (fun b hb => Nat.lt_of_lt_of_le (hS b hb).2 hgW.size) (fun b hb => hb.elim)
          (hj.keep (fun b hb => hgW.block b (hS b hb).2 (by simp)) (fun _ => id)) (JAt.bare 4 0 s))
        go_region_law (first
          | (go_simp; go_at_call 19; refine ((HT _).out).mono ?_; rintro e w5 ⟨rfl, hg5⟩; have hg5' := gb_trans (gb_drew hb4) hg5; have K5 := K0.kept (gb_trans (gb_drew (gb_refl _ none)) hg5) (by simp); obtain ⟨f0, f1, f2, f3, f4, ff⟩ := K5.all)
          | (go_simp; go_at_call 15; refine ((HS _ (by exact hg5')).out).mono ?_; rintro e w6 ⟨rfl, hg6⟩))
        all_goals go_wp2_with fail
        all_goals go_ret
        all_goals exact ⟨rfl, gb_trans (gb_trans hg hg4) (gb_trans hg5' (by exact hg6))⟩
  · have hsI : (5000 : Int) < (s.size : Int) := by omega
    go_enter Tryd.func5, Tryd.ntmps5
    go_wp2_with (first
      | (go_at_call 12; refine hl.mono ?_; rintro e w1 ⟨rfl, hg1⟩))
    go_ret
    exact ⟨rfl, hg1⟩
end Go.Proofs.YtnnhkajjifmlfaaDoor
