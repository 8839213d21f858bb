/- Policies: texts that may stand in one. -/
import Derived.Test.YtnnhkajjifmlfaaDoorLa
import Derived.Shelf.Small.Strs
import Derived.Shelf.LaysM
import Derived.Shelf.LaysC
import Derived.Shelf.Strings.Search1
import Derived.Shelf.Strings.Search2
import Derived.Shelf.Strings.Search3
import Derived.Shelf.Strings.Shaped
import Derived.Test.YtnnhkajjifmlfaaDoorProg
import Derived.Deep.LoopGhost
import Derived.BigQuiet
import Derived.Lib.Hide
import Derived.RegionTactic
namespace Go.Proofs.YtnnhkajjifmlfaaDoor
open Go.RowKit

/-- are the first k bytes all from 32 to 126? -/
def plainTo (s : ByteArray) : Nat → Bool
  | 0 => true
  | k + 1 => plainTo s k && (decide (32 ≤ chr s k) && decide (chr s k ≤ 126))
def plainB (s : ByteArray) : Bool := plainTo s s.size
/-- may a text be? -/
def textB (s : ByteArray) : Bool := decide (s.size ≤ 128) && plainB s
theorem plainTo_false {s : ByteArray} : ∀ {k n : Nat}, k < n → (decide (32 ≤ chr s k) && decide (chr s k ≤ 126)) = false → plainTo s n = false
  | k, n + 1, h, he => by
    rw [plainTo]
    rcases Nat.lt_succ_iff_lt_or_eq.1 h with h | h
    · rw [plainTo_false h he]; rfl
    · subst h; rw [he, Bool.and_false]
set_option maxHeartbeats 1600000 in
theorem spanText_any (s : ByteArray) (w : World) : Calls Tryd.prog 145 #[.string s] w fun e w' => e = .returned (.bool (textB s)) ∧ w' = w := by
  go_enter Tryd.func145, Tryd.ntmps145
  by_cases hs : s.size ≤ 128
  · have hsI : ¬ (128 : Int) < (s.size : Int) := by omega
    have hT : Hid (textB s = plainTo s s.size) := by unfold Hid textB plainB; rw [decide_eq_true hs]; rfl
    go_wp2_with fail
    go_loopg [9] s.size (fun z u9 wr => ∃ k : Nat, k ≤ s.size ∧ z = s.size - k ∧ u9 = .int .i64 k ∧ Hid (plainTo s k = true) ∧ wr = w)
    case atStart => exact ⟨0, Nat.zero_le _, rfl, rfl, rfl, rfl⟩
    case round =>
      obtain ⟨k, hk, rfl, rfl, hp, rfl⟩ := hrel
      by_cases hlt : k < s.size
      · have hki : (k : Int) < (s.size : Int) := by omega
        have hst : Hid (plainTo s (k + 1) = (decide (32 ≤ chr s k) && decide (chr s k ≤ 126))) := by unfold Hid; rw [plainTo, hp.out]; rfl
        have hno : Hid ((decide (32 ≤ chr s k) && decide (chr s k ≤ 126)) = false → textB s = false) := fun h => by rw [hT.out]; exact plainTo_false hlt h
        have hc := chr_in hlt
        by_cases h1 : 32 ≤ chr s k
        · by_cases h2 : chr s k ≤ 126
          · have hst2 : Hid (plainTo s (k + 1) = true) := by unfold Hid; rw [hst.out, decide_eq_true h1, decide_eq_true h2]; rfl
            have hq1 := Lib.hid (show wrap64 ((k : Int) + 1) = ((k + 1 : Nat) : Int) from (wrap64_id (by omega) (by omega)).trans (by omega))
            rw [hc] at h1 h2
            have h1I : ¬ (s[k].toNat : Int) < 32 := by omega
            have h2I : ¬ (126 : Int) < (s[k].toNat : Int) := by omega
            clear hst hno hc
            go_wp2_with fail
            go_roundg (s.size - (k + 1))
            case measure => omega
            case rel => exact ⟨k + 1, hlt, rfl, by first | rw [hq1.out] | go_num, hst2, rfl⟩
          · have hno2 : Hid (textB s = false) := hno.out (by rw [decide_eq_false h2, Bool.and_false])
            rw [hc] at h1 h2
            have h1I : ¬ (s[k].toNat : Int) < 32 := by omega
            have h2I : (126 : Int) < (s[k].toNat : Int) := by omega
            clear hst hno hc
            go_wp2_with fail
            go_ret
            exact ⟨by rw [hno2.out]; rfl, rfl⟩
        · have hno2 : Hid (textB s = false) := hno.out (by rw [decide_eq_false h1]; rfl)
          rw [hc] at h1
          have h1I : (s[k].toNat : Int) < 32 := by omega
          clear hst hno hc
          go_wp2_with fail
          go_ret
          exact ⟨by rw [hno2.out]; rfl, rfl⟩
      · obtain rfl : k = s.size := by omega
        go_wp2_with fail
        go_ret
        exact ⟨by rw [hT.out, hp.out]; rfl, rfl⟩
  · have hsI : (128 : Int) < (s.size : Int) := by omega
    have hT : Hid (textB s = false) := by unfold Hid textB; rw [decide_eq_false hs]; rfl
    go_wp2_with fail
    go_ret
    exact ⟨by rw [hT.out]; rfl, rfl⟩
/-- is a byte in a text? -/
def hasB (s : ByteArray) (c : UInt8) : Bool := s.data.toList.contains c
theorem indexByte_has : ∀ (l : List UInt8) (c : UInt8), -1 ≤ Lib.indexByte l c ∧ decide (0 ≤ Lib.indexByte l c) = l.contains c
  | [], c => by simp [Lib.indexByte]
  | b :: l, c => by
    obtain ⟨h1, h2⟩ := indexByte_has l c
    unfold Lib.indexByte
    by_cases hb : b = c
    · subst hb; simp
    · have hb' : (b == c) = false := by simpa using hb
      rw [hb']
      have hcb : (c == b) = false := by simpa using fun e => hb e.symm
      rw [List.contains_cons, hcb, Bool.false_or, ← h2]
      by_cases hm : Lib.indexByte l c = -1
      · simp [hm]
      · have : (Lib.indexByte l c == -1) = false := by simpa using hm
        rw [this]
        simp only [Bool.false_eq_true, if_false]
        refine ⟨by omega, ?_⟩
        congr 1
        exact propext ⟨fun _ => by omega, fun _ => by omega⟩
end Go.Proofs.YtnnhkajjifmlfaaDoor
