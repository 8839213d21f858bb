/- Policies: are two the same; are they gone through: the walks. -/
import Derived.Test.YtnnhkajjifmlfaaDoorPt
namespace Go.Proofs.YtnnhkajjifmlfaaDoor.Pl
open Go.RowKit Go.Maps

def smallN (x : PN) : Bool := decide (x.a.size ≤ 9000) && decide (x.b.size ≤ 9000)
def smallP (l : List PN) : Bool := decide (l.length ≤ 200) && l.all smallN
theorem take_all_succ {l : List PN} {q : Nat} (h : q < l.length) : (l.take (q + 1)).all smallN = ((l.take q).all smallN && smallN l[q]) := by
  rw [List.take_add_one, List.getElem?_eq_getElem h, List.all_append]
  simp
theorem smallP_no {l : List PN} {q : Nat} (h : q < l.length) (hx : smallN l[q] = false) : smallP l = false := by
  unfold smallP
  have : l.all smallN = false := by
    rw [List.all_eq_false]
    exact ⟨_, List.getElem_mem h, by rw [hx]; decide⟩
  rw [this, Bool.and_false]
set_option maxRecDepth 100000 in
set_option maxHeartbeats 3200000 in
theorem small_any (l : List PN) (S : Nat → Prop) (v : Value) (w : World) (hl : l.length ≤ 140737488355328) (h : NodesAt w S v l) (hS : ∀ x, S x → x < w.heap.size) :
    Calls Tryd.prog 37 #[.agg #[v]] w fun e w' => e = .returned (.bool (smallP l)) ∧ w.grownBy w' none := by
  obtain ⟨A, c, rfl, hA⟩ := h
  have hll := Lib.hid hl
  have g0 := gb_alloc (gb_refl w none) (.cells #[.slice A l.length c] 48)
  have z0 := box_c0 w (.slice A l.length c)
  clear hl
  go_enter Tryd.func37, Tryd.ntmps37
  go_wp2_with fail
  generalize w.alloc (.cells #[.slice A l.length c] 48) = W at *
  go_loopg [3] 300 (fun z u3 wr => ∃ q : Nat, q ≤ l.length ∧ q ≤ 201 ∧ z = 300 - q ∧ u3 = .int .i64 q ∧ Hid ((l.take q).all smallN = true) ∧ w.grownBy wr none ∧ wr.cell? ⟨w.heap.size, 0, none⟩ = some (.slice A l.length c))
  case atStart => exact ⟨0, Nat.zero_le _, by omega, rfl, rfl, rfl, g0, z0⟩
  case round =>
    clear g0 z0
    obtain ⟨q, hq, hq2, rfl, rfl, hno, hg, z0⟩ := hrel
    by_cases hlt : q < l.length
    · have hqi : (q : Int) < (l.length : Int) := by omega
      by_cases h200 : q ≤ 200
      · have h2I : (q : Int) ≤ 200 := by omega
        obtain ⟨b1, o1, rfl, hSb, hcell⟩ := hA (by omega)
        obtain ⟨c0, c1, c2, c3, c4, c5⟩ := (hcell q hlt).keep (hg.block b1 (hS b1 hSb) (by simp))
        have hq1 := Lib.hid (show wrap64 ((q : Int) + 1) = ((q + 1 : Nat) : Int) from (wrap64_id (by omega) (by omega)).trans (by omega))
        have hst := Lib.hid (take_all_succ hlt)
        have hnope : smallN l[q] = false → Hid (smallP l = false) := fun h => smallP_no hlt h
        have hsm : smallN l[q] = (decide (l[q].a.size ≤ 9000) && decide (l[q].b.size ≤ 9000)) := rfl
        rw [hsm] at hst hnope
        clear hA hcell hsm
        generalize l[q] = x at *
        by_cases h1 : x.a.size ≤ 9000
        · have h1I : ¬ (9000 : Int) < (x.a.size : Int) := by omega
          by_cases h2 : x.b.size ≤ 9000
          · have h2J : ¬ (9000 : Int) < (x.b.size : Int) := by omega
            have hst2 : Hid ((l.take (q + 1)).all smallN = true) := by unfold Hid; rw [hst.out, hno.out, decide_eq_true h1, decide_eq_true h2]; rfl
            clear hst hnope hno
            go_wp2_with fail
            go_roundg (300 - (q + 1))
            case measure => omega
            case rel => exact ⟨q + 1, hlt, by omega, rfl, by first | rw [hq1.out] | go_num, hst2, hg, z0⟩
          · have h2J : (9000 : Int) < (x.b.size : Int) := by omega
            have ht := hnope (by rw [decide_eq_false h2, Bool.and_false])
            clear hst hnope hno
            go_wp2_with fail
            go_ret
            exact ⟨by rw [ht.out]; rfl, hg⟩
        · have h1I : (9000 : Int) < (x.a.size : Int) := by omega
          have ht := hnope (by rw [decide_eq_false h1]; rfl)
          clear hst hnope hno
          go_wp2_with fail
          go_ret
          exact ⟨by rw [ht.out]; rfl, hg⟩
      · have h2I : ¬ (q : Int) ≤ 200 := by omega
        have hI : ¬ (l.length : Int) ≤ 200 := by omega
        have ht : Hid (smallP l = false) := by unfold Hid smallP; rw [decide_eq_false (by omega)]; rfl
        clear hA hno
        go_wp2_with fail
        go_ret
        exact ⟨by rw [ht.out]; rfl, hg⟩
    · obtain rfl : q = l.length := by omega
      have hqi : ¬ (l.length : Int) < (l.length : Int) := by omega
      have hall : Hid (l.all smallN = true) := by
        have := hno.out
        rw [List.take_of_length_le (Nat.le_refl _)] at this
        exact this
      by_cases h200 : l.length ≤ 200
      · have h2I : (l.length : Int) ≤ 200 := by omega
        have ht : Hid (smallP l = true) := by unfold Hid smallP; rw [decide_eq_true h200, hall.out]; rfl
        clear hA hno hall
        go_wp2_with fail
        go_ret
        exact ⟨by rw [ht.out]; rfl, hg⟩
      · have h2I : ¬ (l.length : Int) ≤ 200 := by omega
        have ht : Hid (smallP l = false) := by unfold Hid smallP; rw [decide_eq_false h200]; rfl
        clear hA hno hall
        go_wp2_with fail
        go_ret
        exact ⟨by rw [ht.out]; rfl, hg⟩
end Go.Proofs.YtnnhkajjifmlfaaDoor.Pl
