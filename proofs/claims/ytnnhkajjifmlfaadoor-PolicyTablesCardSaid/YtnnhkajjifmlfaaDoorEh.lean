/- Policies: are spans gone through (bootprintkit.SmallSpan, SmallAdjusted): some answer: the walks. -/
import Derived.Test.YtnnhkajjifmlfaaDoorEg
namespace Go.Proofs.YtnnhkajjifmlfaaDoor.Pl
open Go.RowKit Go.Maps

/-- some truth, and nothing old is turned -/
abbrev SomeB (w : World) (e : Ending) (w' : World) : Prop := ∃ y, e = .returned (.bool y) ∧ w.grownBy w' none
set_option maxRecDepth 100000 in
set_option maxHeartbeats 6400000 in
theorem smallSpan_any (a : Sp) (n : Nat) (v : Value) (w : World) (hl : a.tags.length ≤ 140737488355328) (h : TAt w (fun _ => True) a.tags v) :
    Calls Tryd.prog 71 #[spV a v, .int .i64 n] w (SomeB w) := by
  obtain ⟨A, c, b, o, rfl, hA, hcl⟩ := h
  have hl' := Lib.hid hl
  have g0 := gb_alloc (gb_refl w none) (.cells #[.int .u64 a.hi, .int .u64 a.lo, .int .u64 a.id, .int .u64 a.parent, .string a.service, .string a.name, .int .i64 a.kind, .int .i64 a.start, .int .i64 a.length, .bool a.fails, .slice A a.tags.length c] 106)
  have z9 : (w.alloc (.cells #[.int .u64 a.hi, .int .u64 a.lo, .int .u64 a.id, .int .u64 a.parent, .string a.service, .string a.name, .int .i64 a.kind, .int .i64 a.start, .int .i64 a.length, .bool a.fails, .slice A a.tags.length c] 106)).cell? ⟨w.heap.size, 10, none⟩ = some (.slice A a.tags.length c) := by rw [cell_of_row _ _ 10 _ _ _ (heap_alloc_new w _)]; rfl
  clear hl
  by_cases h1 : (n : Int) < (a.service.size : Int)
  · go_enter Tryd.func71, Tryd.ntmps71
    go_wp2_with fail
    go_ret
    exact ⟨_, rfl, g0⟩
  by_cases h2 : (n : Int) < (a.name.size : Int)
  · go_enter Tryd.func71, Tryd.ntmps71
    go_wp2_with fail
    go_ret
    exact ⟨_, rfl, g0⟩
  by_cases h3 : (n : Int) < (a.tags.length : Int)
  · go_enter Tryd.func71, Tryd.ntmps71
    go_wp2_with fail
    go_ret
    exact ⟨_, rfl, g0⟩
  go_enter Tryd.func71, Tryd.ntmps71
  go_wp2_with fail
  generalize w.alloc (.cells #[.int .u64 a.hi, .int .u64 a.lo, .int .u64 a.id, .int .u64 a.parent, .string a.service, .string a.name, .int .i64 a.kind, .int .i64 a.start, .int .i64 a.length, .bool a.fails, .slice A a.tags.length c] 106) = W at *
  go_loopg [5] a.tags.length (fun z u5 wr => ∃ q : Nat, q ≤ a.tags.length ∧ z = a.tags.length - q ∧ u5 = .int .i64 q ∧ wr = W)
  case atStart => exact ⟨0, Nat.zero_le _, rfl, rfl, rfl⟩
  case round =>
    obtain ⟨q, hq, rfl, rfl, rfl⟩ := hrel
    by_cases hlt : q < a.tags.length
    · obtain ⟨rfl, _⟩ := hA (by omega)
      have hqi : (q : Int) < (a.tags.length : Int) := by omega
      obtain ⟨c0, c1⟩ := hcl q hlt
      have c0 := cell_grown c0 g0 (by simp)
      have c1 := cell_grown c1 g0 (by simp)
      have hq1 := Lib.hid (show wrap64 ((q : Int) + 1) = ((q + 1 : Nat) : Int) from (wrap64_id (by omega) (by have := hl'.out; omega)).trans (by omega))
      clear hA hcl
      generalize a.tags[q] = x at *
      by_cases h4 : (n : Int) < (x.1.size : Int)
      · go_wp2_with fail
        go_ret
        exact ⟨_, rfl, g0⟩
      by_cases h5 : (n : Int) < (x.2.size : Int)
      · go_wp2_with fail
        go_ret
        exact ⟨_, rfl, g0⟩
      go_wp2_with fail
      go_roundg (a.tags.length - (q + 1))
      case measure => omega
      case rel => exact ⟨q + 1, hlt, rfl, by first | rw [hq1.out] | go_num, rfl⟩
    · obtain rfl : q = a.tags.length := by omega
      clear hA hcl
      go_wp2_with fail
      go_ret
      exact ⟨_, rfl, g0⟩
set_option maxRecDepth 100000 in
set_option maxHeartbeats 6400000 in
theorem smallAdj_any (l : List Ad) (v : Value) (n m : Nat) (w : World) (hn : n ≤ 1000) (hll : l.length ≤ 140737488355328) (hb : ABd l) (h : AAt w l v) :
    Calls Tryd.prog 38 #[v, .int .i64 n, .int .i64 m] w (SomeB w) := by
  obtain ⟨A, c, b, o, T, rfl, hA, hcl⟩ := h
  have hl' := Lib.hid hll
  go_enter Tryd.func38, Tryd.ntmps38
  clear hll
  go_wp2_with fail
  go_loopg [7] l.length (fun z u7 wr => ∃ q : Nat, q ≤ l.length ∧ z = l.length - q ∧ u7 = .int .i64 q ∧ w.grownBy wr none)
  case atStart => exact ⟨0, Nat.zero_le _, rfl, rfl, gb_refl _ _⟩
  case round =>
    obtain ⟨q, hq, rfl, rfl, hg⟩ := hrel
    by_cases hlt : q < l.length
    · have hqi : (q : Int) < (l.length : Int) := by omega
      by_cases hqn : (q : Int) ≤ (n : Int)
      · have hA' := hA (by omega)
        subst hA'
        obtain ⟨⟨A1, n1, k1, hTe⟩, hTT, q0, q1, q2, q3, q4, q5, q6, q7, q8, q9, q10, q11, q12, q13⟩ := hcl q hlt
        have hS := Lib.hid (smallSpan_any l[q].sp m (T q) wr (hb _ (List.getElem_mem hlt)) (hTT.grown hg))
        rw [hTe] at q10 hS
        have q0 := cell_grown q0 hg (by simp)
        have q1 := cell_grown q1 hg (by simp)
        have q2 := cell_grown q2 hg (by simp)
        have q3 := cell_grown q3 hg (by simp)
        have q4 := cell_grown q4 hg (by simp)
        have q5 := cell_grown q5 hg (by simp)
        have q6 := cell_grown q6 hg (by simp)
        have q7 := cell_grown q7 hg (by simp)
        have q8 := cell_grown q8 hg (by simp)
        have q9 := cell_grown q9 hg (by simp)
        have q10 := cell_grown q10 hg (by simp)
        have hq1' := Lib.hid (show wrap64 ((q : Int) + 1) = ((q + 1 : Nat) : Int) from (wrap64_id (by omega) (by have := hl'.out; omega)).trans (by omega))
        clear hcl hTT hTe hA q11 q12 q13
        generalize l[q].sp = x at *
        go_wp2_with (first
          | (go_at_call 71; refine (hS.out).mono ?_; rintro e w4 ⟨y, rfl, hg4⟩; cases y))
        · go_ret
          exact ⟨_, rfl, gb_trans hg hg4⟩
        · go_roundg (l.length - (q + 1))
          case measure => omega
          case rel => exact ⟨q + 1, hlt, rfl, by first | rw [hq1'.out] | go_num, gb_trans hg hg4⟩
      · clear hA hcl
        go_wp2_with fail
        go_ret
        exact ⟨_, rfl, hg⟩
    · obtain rfl : q = l.length := by omega
      clear hA hcl
      go_wp2_with fail
      go_ret
      exact ⟨_, rfl, hg⟩
end Go.Proofs.YtnnhkajjifmlfaaDoor.Pl
