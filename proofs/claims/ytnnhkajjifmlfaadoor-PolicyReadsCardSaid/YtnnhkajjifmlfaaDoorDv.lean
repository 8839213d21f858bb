/- PolicyReads: the law's walk. -/
import Derived.Test.YtnnhkajjifmlfaaDoorDu
import Derived.Test.YtnnhkajjifmlfaaDoorPu
namespace Go.Proofs.YtnnhkajjifmlfaaDoor.Pl
open Go.RowKit Go.Maps

theorem check_len {l : List PN} (h : checkN l = 0) : l.length ≤ 64 := by
  unfold checkN at h
  split at h
  · exact absurd h (by decide)
  · rename_i h1
    simp only [Bool.or_eq_true, decide_eq_true_eq, not_or] at h1
    omega
theorem parseP_le (s : ByteArray) : (parseP s).1.length ≤ 64 := by
  unfold parseP
  split
  · exact Nat.zero_le _
  · split
    · exact Nat.zero_le _
    · split
      · exact Nat.zero_le _
      · split
        · exact Nat.zero_le _
        · rename_i h
          exact check_len (Decidable.not_not.1 h)
theorem cell_stays {w w' : World} {b : Nat} {v : Value} (h : w.cell? ⟨b, 0, none⟩ = some v) (hg : w.grownBy w' none) : w'.cell? ⟨b, 0, none⟩ = some v := cell_grown h hg (by simp)
theorem NodesAt.behind {w w' : World} {S : Nat → Prop} {v : Value} {l : List PN} (h : NodesAt w S v l) (hS : ∀ b, S b → b < w.heap.size) (hg : w.grownBy w' none) : NodesAt w' S v l ∧ ∀ b, S b → b < w'.heap.size :=
  ⟨h.grown hg (fun b hb => ⟨hS b hb, by simp⟩), fun b hb => Nat.lt_of_lt_of_le (hS b hb) hg.size⟩

set_option maxRecDepth 100000 in
set_option maxHeartbeats 6400000 in
/-- **PolicyReads answers true, whatever is handed in** -/
theorem reads_any (s : ByteArray) (w : World) (hG : Gv w) (h6 : 6 ≤ w.heap.size) (hs2 : s.size ≤ 9223372036854775807)
    (lives : ∀ W, w.grownBy W none → Calls Tryd.prog 32 #[] W fun e w' => e = .returned (.bool true) ∧ W.grownBy w' none) :
    Calls Tryd.prog 9 #[.string s] w fun e w' => e = .returned (.bool true) ∧ w.grownBy w' none := by
  have hL := Lib.hid (lives w (gb_refl w none))
  clear lives
  go_enter Tryd.func9, Tryd.ntmps9
  by_cases hs : 9000 < s.size
  · have hsI : (9000 : Int) < (s.size : Int) := by omega
    go_wp2_with (first
      | (go_at_call 32; refine (hL.out).mono ?_; rintro e w1 ⟨rfl, hg1⟩))
    go_ret
    exact ⟨rfl, hg1⟩
  · have hsI : ¬ (9000 : Int) < (s.size : Int) := by omega
    have hP := fun W (hg : w.grownBy W none) => Lib.hid (parse_any s W hs2 (hG.kept hg (by simp)) (Nat.le_trans h6 hg.size))
    have hR := fun W => Lib.hid (rparse_any s W hs2)
    rw [← parse_same s] at hR
    have hq64 := parseP_le s
    obtain ⟨q, at2, e2, hq⟩ : ∃ q at2 e2, parseP s = (q, at2, e2) := ⟨_, _, _, rfl⟩
    rw [hq] at hP hR hq64
    simp only at hq64
    clear hq
    go_wp2_with (first
      | (go_at_call 36; refine (Lib.hid (same_any q q _ _ _ _ _ (by omega) (by omega) hm3.1 hn3.1 hm3.2 hn3.2)).out.mono ?_; rintro e w4 ⟨he, hg4⟩; rw [decide_eq_true (rfl : q = q)] at he; subst he; have ha4 := gb_trans ha3 hg4)
      | (go_at_call 35; refine ((hR _).out).mono ?_; rintro e w3 ⟨v3, S3, rfl, hN3, hS3, hg3⟩; obtain ⟨A3, c3, rfl, hA3⟩ := id hN3; have hS3' := fun b hb => (hS3 b hb).2; clear hA3; have hgb3 := gb_alloc (gb_refl w3 none) (.cells #[.slice A3 q.length c3] 48); have ha3 := gb_trans (gb_trans ha2 hg3) hgb3; have k3 := cell_stays (cell_stays k2 hg3) hgb3; have m3 := box_c0 w3 (.slice A3 q.length c3); have hn3 := hN3.behind hS3' hgb3; have hm3 := hn2.1.behind hn2.2 (gb_trans hg3 hgb3))
      | (go_at_call 33; refine ((hP _ hg1).out).mono ?_; rintro e w2 ⟨v2, S2, rfl, hN2, hS2, hg2⟩; obtain ⟨A2, c2, rfl, hA2⟩ := id hN2; have hS2' := fun b hb => (hS2 b hb).2; clear hA2; have hgb2 := gb_alloc (gb_refl w2 none) (.cells #[.slice A2 q.length c2] 48); have ha2 := gb_trans (gb_trans hg1 hg2) hgb2; have k2 := box_c0 w2 (.slice A2 q.length c2); have hn2 := hN2.behind hS2' hgb2)
      | (go_at_call 32; refine (hL.out).mono ?_; rintro e w1 ⟨rfl, hg1⟩))
    go_ret
    exact ⟨rfl, ha4⟩
end Go.Proofs.YtnnhkajjifmlfaaDoor.Pl
