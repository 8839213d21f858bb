/- json.hex and (*reader).escape. -/
import Derived.Test.YtnnhkajjifmlfaaDoorJ3
import Derived.Outline
namespace Go.Proofs.YtnnhkajjifmlfaaDoor
open Go.RowKit Go.Maps

def hexS (c : Int) : Int := if 48 ≤ c ∧ c ≤ 57 then c - 48 else if 97 ≤ c ∧ c ≤ 102 then c - 87 else if 65 ≤ c ∧ c ≤ 70 then c - 55 else -1
theorem hexS_bd (c : Int) : -1 ≤ hexS c ∧ hexS c ≤ 15 := by
  unfold hexS; split
  · omega
  · split
    · omega
    · split <;> omega
set_option maxHeartbeats 800000 in
/-- json.hex -/
theorem hex_any (c : Nat) (hc : c < 256) (w : World) :
    Calls Tryd.prog 149 #[.int .u8 c] w fun e w' => e = .returned (.int .i64 (hexS c)) ∧ w = w' := by
  by_cases h1 : 48 ≤ c ∧ c ≤ 57
  · have e : hexS c = (c : Int) - 48 := by unfold hexS; rw [if_pos (by omega)]
    rw [e]; clear e
    obtain ⟨h1, h2⟩ := h1
    go_enter Tryd.func149, Tryd.ntmps149
    go_wp2
    go_ret
    exact ⟨rfl, rfl⟩
  · by_cases h2 : 97 ≤ c ∧ c ≤ 102
    · have e : hexS c = (c : Int) - 97 + 10 := by unfold hexS; rw [if_neg (by omega), if_pos (by omega)]; omega
      rw [e]; clear e
      obtain ⟨h3, h4⟩ := h2
      go_enter Tryd.func149, Tryd.ntmps149
      go_wp2
      go_ret
      exact ⟨rfl, rfl⟩
    · by_cases h3 : 65 ≤ c ∧ c ≤ 70
      · have e : hexS c = (c : Int) - 65 + 10 := by unfold hexS; rw [if_neg (by omega), if_neg (by omega), if_pos (by omega)]; omega
        rw [e]; clear e
        obtain ⟨h3, h4⟩ := h3
        go_enter Tryd.func149, Tryd.ntmps149
        go_wp2
        go_ret
        exact ⟨rfl, rfl⟩
      · have e : hexS c = -1 := by unfold hexS; rw [if_neg (by omega), if_neg (by omega), if_neg (by omega)]
        rw [e]; clear e
        go_enter Tryd.func149, Tryd.ntmps149
        go_wp2
        all_goals
          first
          | (exfalso; omega)
          | (go_ret; exact ⟨rfl, rfl⟩)
end Go.Proofs.YtnnhkajjifmlfaaDoor
