/- A segment's name as the reference tells it: the walks. -/
import Derived.Test.YtnnficmkdahpjaaGreatDoorQ2
namespace Go.Proofs.YtnnficmkdahpjaaGreatDoor
open Go.RowKit Go.Sort Go.Lib

def zeros12 : Array Value := Array.replicate 12 (.int .u8 0)
theorem mk12 (w : World) : (Instr.makeSlice 71 (.int .i64 12) (.int .i64 12)).run Tryz.prog w = .ok (.slice (some ⟨w.heap.size, 0, none⟩) 12 12) (w.alloc (.cells zeros12 5)) := by kernel_rfl
theorem holds12 (w : World) : Holds (fun (b : UInt8) => Value.int .u8 (b.toNat : Int)) (w.alloc (.cells zeros12 5)) w.heap.size 0 (Array.replicate 12 (0 : UInt8)) := fun j hj => by
  have hj' : j < 12 := by simpa using hj
  refine ⟨?_, World.frozen?_alloc_new _ _ _ _⟩
  rw [World.cell?_alloc_new, zeros12, Array.getElem?_replicate, if_pos (by omega), getElem!_pos _ j hj]
  simp
/-- the last k places are told -/
def Told (n k : Nat) (d : Array UInt8) : Prop := d.size = 12 ∧ ∀ j, j < 12 → 12 ≤ j + k → d[j]! = dg n (11 - j)

set_option maxRecDepth 100000 in
set_option maxHeartbeats 1600000 in
theorem digits_any (n : Nat) (hn : n < 18446744073709551616) (w : World) :
    Calls Tryz.prog 65 #[.int .u64 n] w fun e w' => e = .returned (.string ⟨((List.range 12).map fun t => dg n (11 - t)).toArray⟩) ∧ w.grownBy w' none := by
  obtain ⟨S, hS0⟩ : ∃ S : ByteArray, (⟨((List.range 12).map fun t => dg n (11 - t)).toArray⟩ : ByteArray) = S := ⟨_, rfl⟩
  rw [hS0]
  have HS := Lib.hid hS0
  clear hS0
  go_enter Tryz.func65, Tryz.ntmps65
  have hmk := mk12
  go_wp2
  go_loopw [0, 4] (fun vn vi wr => ∃ (m v q : Nat) (dk : Array UInt8), m ≤ 12 ∧ vn = .int .u64 v ∧ vi = .int .i64 ((m : Int) - 1) ∧ wr = (putRow (fun (b : UInt8) => Value.int .u8 (b.toNat : Int)) (w.alloc (.cells zeros12 5)) w.heap.size 0 dk).drewN q ∧ Hid (v = n / 10 ^ (12 - m) ∧ Told n (12 - m) dk)) (fun _ vi _ => (RowKit.intOf vi + 1).toNat)
  case atStart => exact ⟨12, n, 0, Array.replicate 12 0, by omega, rfl, rfl, (putRow_self _ _ _ _ _ (holds12 w)).symm, by simp, by simp, fun j h1 h2 => by omega⟩
  case round =>
    obtain ⟨m, v, q, dk, hm, rfl, rfl, hw0, HI⟩ := hrel
    rename World => W0
    have hs0 := HI.out.2.1
    have hH0 : Holds (fun (b : UInt8) => Value.int .u8 (b.toNat : Int)) W0 w.heap.size 0 dk := by rw [hw0]; exact holds_putRow _ _ _ _ (Array.replicate 12 0) dk (holds12 w) (by rw [hs0]; simp)
    rcases m with _ | p
    · have hcv : (convert 71 9 (.slice (some ⟨w.heap.size, 0, none⟩) 12 12)).run Tryz.prog W0 = .ok (.string S) W0 := by
        have h := run_convert_bytes_back (P := Tryz.prog) W0 71 9 5 ⟨w.heap.size, 0, none⟩ 12 ((List.range 12).map fun t => dg n (11 - t)) Tryz.underlying71 Tryz.underlying5 Tryz.underlying9 (fun j hj => by
          have hj' : j < 12 := by simpa using hj
          rw [Lib.add_plain]
          have h1 := (hH0 j (by omega)).1
          rw [HI.out.2.2 j hj' (by omega)] at h1
          simpa using h1)
        rw [HS.out] at h
        simpa using h
      have hg : w.grownBy W0 none := by
        obtain ⟨os, eo⟩ := fin0 w (.cells zeros12 5) dk q
        rw [hw0, eo]; exact gb_grow w q os
      clear hw0 hH0 hs0
      go_wp2
      go_ret
      exact ⟨rfl, hg⟩
    · have e1 : (((p + 1 : Nat)) : Int) - 1 = (p : Int) := by omega
      rw [e1]
      have hv64 : v < 18446744073709551616 := by rw [HI.out.1]; exact Nat.lt_of_le_of_lt (Nat.div_le_self _ _) hn
      have hp12 : (p : Int) < 12 := by omega
      obtain ⟨G0, hG0⟩ : ∃ G : Int, G = (dk[p]!.toNat : Int) := ⟨_, rfl⟩
      have hc0 : W0.cell? ⟨w.heap.size, p, none⟩ = some (.int .u8 G0) := by rw [hG0]; have := (hH0 p (by omega)).1; simpa using this
      have hf0 : W0.frozen? ⟨w.heap.size, p, none⟩ = false := by have := (hH0 p (by omega)).2; simpa using this
      have AW0 := Lib.hid hw0
      clear hw0 hG0 hH0 hs0
      go_wp2
      have hdg : (48 + (v : Int) % 10) = ((dg n (11 - p)).toNat : Int) := by
        have h1 : 12 - (p + 1) = 11 - p := by omega
        unfold dg
        rw [HI.out.1, h1]
        have h2 : n / 10 ^ (11 - p) % 10 < 10 := Nat.mod_lt _ (by decide)
        rw [UInt8.toNat_ofNat']
        omega
      refine ⟨⟨p, v / 10, q, dk.setIfInBounds p (dg n (11 - p)), by omega, by congr 1, rfl, ?_, ?_⟩, by simp [RowKit.intOf]⟩
      · rw [hdg, AW0.out]
        have := store1_world (w.alloc (.cells zeros12 5)) w.heap.size 0 dk q p (dg n (11 - p)) (by have := HI.out.2.1; omega)
        simpa using this
      · have h1 : 12 - (p + 1) = 11 - p := by omega
        have h2 : 12 - p = (11 - p) + 1 := by omega
        refine ⟨?_, by simpa using HI.out.2.1, fun j hj1 hj2 => ?_⟩
        · rw [HI.out.1, h1, h2, Nat.pow_succ, Nat.div_div_eq_div_mul]
        · by_cases hjp : j = p
          · subst hjp
            exact get_set_same dk j _ (by have := HI.out.2.1; omega)
          · rw [get_set_other dk p j _ hjp]
            exact HI.out.2.2 j hj1 (by omega)

theorem dig12_eq {n : Nat} (hs : n < 1000000000000) : dig12 n = (List.range 12).map fun t => dg n (11 - t) := by
  have h12 := nd12 hs
  have hp := lt_pow_nDigits n
  unfold dig12
  rw [decDigits_eq]
  apply List.ext_getElem
  · simp; omega
  · intro i h1 h2
    have hi : i < 12 := by simpa using h2
    rw [List.getElem_append]
    split
    · rename_i hlt
      have hlt' : i < 12 - nDigits n := by simpa using hlt
      simp only [List.getElem_replicate, List.getElem_map, List.getElem_range]
      unfold dg
      have : n < 10 ^ (11 - i) := Nat.lt_of_lt_of_le hp (Nat.pow_le_pow_right (by decide) (by omega))
      rw [Nat.div_eq_of_lt this]
      rfl
    · rename_i hge
      have hge' : 12 - nDigits n ≤ i := by simpa using hge
      simp only [List.length_replicate, List.getElem_map, List.getElem_range]
      congr 1
      omega

theorem name2_bytes {n : Nat} (hs : n < 1000000000000) {D : ByteArray} (hD : (⟨((List.range 12).map fun t => dg n (11 - t)).toArray⟩ : ByteArray) = D) :
    (⟨(nameL n).toArray⟩ : ByteArray) = (⟨#[109, 97, 110, 105, 102, 101, 115, 116, 45]⟩ : ByteArray) ++ D := by
  subst hD
  unfold nameL
  rw [if_pos hs, dig12_eq hs]
  apply ByteArray.ext
  apply Array.ext'
  simp [ByteArray.data_append]

set_option maxRecDepth 100000 in
set_option maxHeartbeats 1600000 in
theorem named_any (n : Nat) (hn : n < 18446744073709551616) (w : World) :
    Calls Tryz.prog 28 #[.string ⟨#[109, 97, 110, 105, 102, 101, 115, 116, 45]⟩, .int .u64 n] w fun e w' => e = .returned (.string ⟨(nameL n).toArray⟩) ∧ w.grownBy w' none := by
  obtain ⟨S, hS0⟩ : ∃ S : ByteArray, (⟨(nameL n).toArray⟩ : ByteArray) = S := ⟨_, rfl⟩
  rw [hS0]
  have HS := Lib.hid hS0
  clear hS0
  by_cases hs : n < 1000000000000
  · have hsI : ¬ (1000000000000 : Int) ≤ (n : Int) := by omega
    have hF := Lib.hid (digits_any n hn w)
    obtain ⟨D, hD⟩ : ∃ D : ByteArray, (⟨((List.range 12).map fun t => dg n (11 - t)).toArray⟩ : ByteArray) = D := ⟨_, rfl⟩
    rw [hD] at hF
    have hDs : D.size = 12 := by rw [← hD]; rfl
    have hN := Lib.hid (name2_bytes hs hD)
    have hA2 : ∀ w, (Op.stringOp .add ⟨#[109, 97, 110, 105, 102, 101, 115, 116, 45]⟩ D).run Tryz.prog w = .ok (.string S) w := fun w => by
      rw [← HS.out, hN.out]
      exact run_add_text (by decide) (by omega)
    clear hD
    go_enter Tryz.func28, Tryz.ntmps28
    go_wp2_with (go_at_call 65; refine hF.out.mono ?_; rintro e w1 ⟨rfl, hg1⟩)
    go_ret
    exact ⟨rfl, hg1⟩
  · have hsI : (1000000000000 : Int) ≤ (n : Int) := by omega
    have hN : nameL n = [] := by unfold nameL; rw [if_neg hs]
    go_enter Tryz.func28, Tryz.ntmps28
    go_wp2
    go_ret
    refine ⟨?_, gb_refl _ _⟩
    rw [← HS.out, hN]
    rfl

set_option maxRecDepth 100000 in
theorem refName_any (n : Nat) (hn : n < 18446744073709551616) (w : World) :
    Calls Tryz.prog 10 #[.int .u64 n] w fun e w' => e = .returned (.string ⟨(nameL n).toArray⟩) ∧ w.grownBy w' none := by
  have hF := Lib.hid (named_any n hn w)
  obtain ⟨S, hS0⟩ : ∃ S : ByteArray, (⟨(nameL n).toArray⟩ : ByteArray) = S := ⟨_, rfl⟩
  rw [hS0] at hF ⊢
  clear hS0
  go_enter Tryz.func10, Tryz.ntmps10
  go_wp2_with (go_at_call 28; refine hF.out.mono ?_; rintro e w1 ⟨rfl, hg1⟩)
  go_ret
  exact ⟨rfl, hg1⟩
end Go.Proofs.YtnnficmkdahpjaaGreatDoor
