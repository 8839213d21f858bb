/- HTTP, the document's side: small letters. -/
import Derived.Test.YtdfgnoflohfnmaaGreatDoorRd
import Derived.Lib.ConvBytes
namespace Go.Proofs.YtdfgnoflohfnmaaGreatDoor.Hx
open Go.RowKit Go.Maps

theorem lowerB_nat (c : UInt8) : ((Lib.lowerB c).toNat : Int) = if 65 ≤ (c.toNat : Int) ∧ (c.toNat : Int) ≤ 90 then (c.toNat : Int) + 32 else (c.toNat : Int) := by
  have h : ∀ n : Fin 256, ((Lib.lowerB (UInt8.ofNat n.val)).toNat : Int) = if 65 ≤ (n.val : Int) ∧ (n.val : Int) ≤ 90 then (n.val : Int) + 32 else (n.val : Int) := by decide +kernel
  have := h ⟨c.toNat, UInt8.toNat_lt c⟩
  simpa using this
theorem frozen_bytes (w : World) (s : ByteArray) (i : Nat) (hi : i < s.size) : (Lib.bytesWorld w 5 s).frozen? ⟨w.heap.size, i, none⟩ = false := by
  have h := Lib.bytesWorld_at_new w 5 s
  have hz : s.size ≤ (Lib.bytesCells w 5 s).size := by
    unfold Lib.bytesCells
    rw [Array.size_append, Array.size_map]
    exact Nat.le_add_right _ _
  unfold World.frozen?
  rw [h]
  simp
  omega
theorem gb_bytes (w : World) (s : ByteArray) : w.grownBy (Lib.bytesWorld w 5 s) none :=
  ⟨rfl, rfl, rfl, by rw [Lib.bytesWorld_size]; omega, fun i hi _ => Lib.bytesWorld_at_old w 5 s i hi⟩
structure LW (s : ByteArray) (g : Nat) (w : World) (k : Nat) (W : World) : Prop where
  gb : w.grownBy W none
  cell : ∀ i (h : i < s.size), W.cell? ⟨g, i, none⟩ = some (.int .u8 (if i < k then ((Lib.lowerB s[i]).toNat : Int) else (s[i].toNat : Int)))
  fr : ∀ i, i < s.size → W.frozen? ⟨g, i, none⟩ = false
theorem LW.set {s : ByteArray} {g : Nat} {w W : World} {k : Nat} (h : LW s g w k W) (hg : w.heap.size ≤ g) (hk : k < s.size) (x : Int) (hx : x = ((Lib.lowerB s[k]).toNat : Int)) : LW s g w (k + 1) (W.setCell ⟨g, k, none⟩ (.int .u8 x)) := by
  refine ⟨gb_setN h.gb hg _ _, fun i hi => ?_, fun i hi => by rw [World.frozen?_setCell]; exact h.fr i hi⟩
  by_cases e : i = k
  · subst e
    rw [World.cell?_setCell_same' _ _ _ (by rw [h.cell i hi]; rfl), if_pos (Nat.lt_succ_self _), hx]
  · rw [World.cell?_setCell_other _ _ _ _ (by simp <;> omega), h.cell i hi]
    by_cases h2 : i < k
    · rw [if_pos h2, if_pos (by omega)]
    · rw [if_neg h2, if_neg (by omega)]
theorem LW.skip {s : ByteArray} {g : Nat} {w W : World} {k : Nat} (h : LW s g w k W) (hk : k < s.size) (hx : ((Lib.lowerB s[k]).toNat : Int) = (s[k].toNat : Int)) : LW s g w (k + 1) W := by
  refine ⟨h.gb, fun i hi => ?_, h.fr⟩
  rw [h.cell i hi]
  by_cases e : i = k
  · subst e
    rw [if_neg (Nat.lt_irrefl _), if_pos (Nat.lt_succ_self _), hx]
  · by_cases h2 : i < k
    · rw [if_pos h2, if_pos (by omega)]
    · rw [if_neg h2, if_neg (by omega)]
theorem LW.ba {s : ByteArray} {g : Nat} {w W : World} (h : LW s g w s.size W) : BA W g 0 (Lib.toLowerA s.data.toList) := by
  intro i hi
  have hi' : i < s.size := by have : (Lib.toLowerA s.data.toList).length = s.size := by unfold Lib.toLowerA; rw [List.length_map]; exact Array.length_toList
                              omega
  rw [Nat.zero_add, h.cell i hi', if_pos hi']
  have e : (Lib.toLowerA s.data.toList)[i] = Lib.lowerB s[i] := by
    have := List.getElem_map Lib.lowerB (l := s.data.toList) (i := i) (h := hi)
    exact this
  rw [e]
set_option maxRecDepth 100000 in
set_option maxHeartbeats 3200000 in
theorem rlower_any (s : ByteArray) (w : World) (hs : s.size ≤ 1000000000) : Calls Tryz.prog 72 #[.string s] w fun e w' => e = .returned (.string ⟨(Lib.toLowerA s.data.toList).toArray⟩) ∧ w.grownBy w' none := by
  obtain ⟨R, hR⟩ : ∃ R : ByteArray, R = ⟨(Lib.toLowerA s.data.toList).toArray⟩ := ⟨_, rfl⟩
  rw [← hR]
  replace hR := Lib.hid hR
  have hcv := Lib.run_convert_string_bytes (P := Tryz.prog) w 9 22 5 s Tryz.underlying9 Tryz.underlying22 Tryz.underlying5
  have h0 : LW s w.heap.size w 0 (Lib.bytesWorld w 5 s) := ⟨gb_bytes w s, fun i hi => by
    rw [Lib.bytesWorld_cell w 5 s i hi, if_neg (Nat.not_lt_zero _)]
    have : s.data.toList.getD i 0 = s[i] := by
      have h' : i < s.data.toList.length := hi
      simp [List.getD, List.getElem?_eq_getElem h']
      rfl
    rw [this], frozen_bytes w s⟩
  generalize Lib.bytesWorld w 5 s = W1 at *
  generalize grownCap w s.size 0 5 = cap at *
  obtain ⟨g, hg⟩ : ∃ g, g = w.heap.size := ⟨_, rfl⟩
  rw [← hg] at hcv h0
  have hgl : w.heap.size ≤ g := by omega
  clear hg
  go_enter Tryz.func72, Tryz.ntmps72
  go_wp2_with fail
  go_loopg [4] s.size (fun z u4 wr => ∃ k : Nat, k ≤ s.size ∧ z = s.size - k ∧ u4 = .int .i64 (k : Nat) ∧ Hid (LW s g w k wr))
  case atStart => exact ⟨0, Nat.zero_le _, rfl, rfl, h0⟩
  case round =>
    clear hcv h0
    obtain ⟨k, hk, rfl, rfl, hL⟩ := hrel
    by_cases hlt : k < s.size
    · have hki : (k : Int) < (s.size : Int) := by omega
      have hq1 := Lib.hid (show wrap64 ((k : Int) + 1) = ((k + 1 : Nat) : Int) from (wrap64_id (by omega) (by omega)).trans (by omega))
      have hc := hL.out.cell k hlt
      rw [if_neg (Nat.lt_irrefl _)] at hc
      have hf := hL.out.fr k hlt
      have hln := lowerB_nat s[k]
      by_cases a1 : (65 : Int) ≤ (s[k].toNat : Int)
      · by_cases a2 : (s[k].toNat : Int) ≤ 90
        · have hw : IntKind.u8.wrap ((s[k].toNat : Int) + 32) = (s[k].toNat : Int) + 32 := wrap_u8 (by omega) (by omega)
          have hnx := Lib.hid (hL.out.set hgl hlt ((s[k].toNat : Int) + 32) (by rw [hln, if_pos ⟨a1, a2⟩]))
          clear hL hln
          go_wp2_with fail
          go_roundg (s.size - (k + 1))
          case measure => omega
          case rel => exact ⟨k + 1, hlt, rfl, by first | rw [hq1.out] | go_num, hnx.out⟩
        · have hnx := Lib.hid (hL.out.skip hlt (by rw [hln, if_neg (fun e => a2 e.2)]))
          clear hL hln
          go_wp2_with fail
          go_roundg (s.size - (k + 1))
          case measure => omega
          case rel => exact ⟨k + 1, hlt, rfl, by first | rw [hq1.out] | go_num, hnx.out⟩
      · have hnx := Lib.hid (hL.out.skip hlt (by rw [hln, if_neg (fun e => a1 e.1)]))
        clear hL hln
        go_wp2_with fail
        go_roundg (s.size - (k + 1))
        case measure => omega
        case rel => exact ⟨k + 1, hlt, rfl, by first | rw [hq1.out] | go_num, hnx.out⟩
    · have hke : k = s.size := by omega
      subst hke
      have hni : ¬ ((s.size : Int) < (s.size : Int)) := by omega
      have hst : (convert 22 9 (.slice (some ⟨g, 0, none⟩) s.size cap)).run Tryz.prog wr = .ok (.string R) wr := by
        have := BA.str hL.out.ba cap
        rw [show (Lib.toLowerA s.data.toList).length = s.size from by unfold Lib.toLowerA; rw [List.length_map]; exact Array.length_toList, ← hR.out] at this
        exact this
      have hgb := hL.out.gb
      clear hL
      go_wp2_with fail
      go_ret
      exact ⟨rfl, hgb⟩
end Go.Proofs.YtdfgnoflohfnmaaGreatDoor.Hx
