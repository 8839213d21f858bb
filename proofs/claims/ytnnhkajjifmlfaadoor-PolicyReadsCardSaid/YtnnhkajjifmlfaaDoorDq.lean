/- Policies, the document's: may a text, may a node be: the walks. -/
import Derived.Test.YtnnhkajjifmlfaaDoorPn
namespace Go.Proofs.YtnnhkajjifmlfaaDoor.Pl
open Go.RowKit Go.Maps

def namedB (s : ByteArray) (n : Nat) : Bool := decide (n ≤ s.size) && quotB s
theorem has_at {s : ByteArray} {k : Nat} {c : UInt8} (h : k < s.size) (hc : s[k] = c) : hasB s c = true := by
  unfold hasB
  have h' : k < s.data.toList.length := by simpa using h
  have e : s.data.toList[k] = c := by rw [Array.getElem_toList]; exact hc
  rw [List.contains_iff_mem]
  rw [← e]
  exact List.getElem_mem h'
theorem has_no {s : ByteArray} {c : UInt8} (h : ∀ k (hk : k < s.size), s[k] ≠ c) : hasB s c = false := by
  unfold hasB
  cases hb : s.data.toList.contains c with
  | false => rfl
  | true =>
    rw [List.contains_iff_mem] at hb
    obtain ⟨k, hk, e⟩ := List.getElem_of_mem hb
    have hk' : k < s.size := by simpa using hk
    rw [Array.getElem_toList] at e
    exact absurd e (h k hk')
set_option maxRecDepth 100000 in
set_option maxHeartbeats 1600000 in
theorem named_any (s : ByteArray) (n : Nat) (w : World) (_hn : n ≤ 10) (hs : s.size ≤ 1000000) : Calls Tryd.prog 144 #[.string s, .int .i64 n] w fun e w' => e = .returned (.bool (namedB s n)) ∧ w.grownBy w' none := by
  have hT := fun W => Lib.hid (refText_any s W)
  have hE : Hid (namedB s n = (decide (n ≤ s.size) && (textB s && !hasB s 34))) := rfl
  obtain ⟨res, hres, hE1⟩ : ∃ res, namedB s n = res ∧ Hid (namedB s n = res) := ⟨_, rfl, rfl⟩
  rw [hres]
  clear hres
  have hE2 := Lib.hid (hE.out.symm.trans hE1.out)
  clear hE hE1
  go_enter Tryd.func144, Tryd.ntmps144
  go_wp2_with fail
  go_loopg [5] s.size (fun z u3 wr => ∃ k : Nat, k ≤ s.size ∧ z = s.size - k ∧ u3 = .int .i64 k ∧ Hid (∀ j (hj : j < s.size), j < k → s[j] ≠ 34) ∧ wr = w)
  case atStart => exact ⟨0, Nat.zero_le _, rfl, rfl, fun _ _ h => absurd h (by omega), rfl⟩
  case round =>
    obtain ⟨k, hk, rfl, rfl, hp, rfl⟩ := hrel
    by_cases hlt : k < s.size
    · have hki : (k : Int) < (s.size : Int) := by omega
      have hq1 : Hid (wrap64 ((k : Int) + 1) = ((k + 1 : Nat) : Int)) := (wrap64_id (by omega) (by omega)).trans (by omega)
      by_cases hc : s[k] = 34
      · have hH := has_at hlt hc
        have hrf : res = false := by rw [← hE2.out, hH, Bool.not_true, Bool.and_false, Bool.and_false]
        subst hrf
        have hcI : ((s[k].toNat : Int) == 34) = true := by rw [hc]; rfl
        clear hE2 hc hH
        go_wp2_with fail
        go_ret
        exact ⟨rfl, gb_refl _ _⟩
      · have hp2 : Hid (∀ j (hj : j < s.size), j < k + 1 → s[j] ≠ 34) := fun j hj hj2 => by
          rcases Nat.lt_succ_iff_lt_or_eq.1 hj2 with h | h
          · exact hp.out j hj h
          · subst h; exact hc
        have hcI : ((s[k].toNat : Int) == 34) = false := by
          rw [beq_eq_false_iff_ne]; intro e; exact hc (UInt8.toNat_inj.1 (by have : (34 : UInt8).toNat = 34 := rfl; omega))
        clear hE2 hc hp
        go_wp2_with fail
        go_roundg (s.size - (k + 1))
        case measure => omega
        case rel => exact ⟨k + 1, hlt, rfl, by first | rw [hq1.out] | go_num, hp2, rfl⟩
    · obtain rfl : k = s.size := by omega
      have hH : hasB s 34 = false := has_no fun j hj => hp.out j hj hj
      have hE3 : Hid ((decide (n ≤ s.size) && textB s) = res) := by unfold Hid; rw [← hE2.out, hH, Bool.not_false, Bool.and_true]
      clear hE2 hH hp
      generalize textB s = t at *
      by_cases hle : n ≤ s.size
      · have hleI : (n : Int) ≤ (s.size : Int) := by omega
        rw [decide_eq_true hle, Bool.true_and] at hE3
        obtain rfl : t = res := hE3.out
        clear hE3 hle
        go_wp2_with (first
          | (go_at_call 163; refine ((hT _).out).mono ?_; rintro e w1 ⟨rfl, hg1⟩))
        go_ret
        exact ⟨rfl, hg1⟩
      · have hleI : ¬ (n : Int) ≤ (s.size : Int) := by omega
        rw [decide_eq_false hle, Bool.false_and] at hE3
        obtain rfl : false = res := hE3.out
        clear hE3 hle
        go_wp2_with fail
        go_ret
        exact ⟨rfl, gb_refl _ _⟩
end Go.Proofs.YtnnhkajjifmlfaaDoor.Pl
