/- json.quote: the walk. -/
import Derived.Test.YtnnhkajjifmlfaaDoorB1
namespace Go.Proofs.YtnnhkajjifmlfaaDoor
open Go.RowKit Go.Maps

/-- a builder's text -/
def BT (B b : Nat) (acc : List UInt8) (w : World) : Prop := Lib.IsBuilderF 80 5 B b (Lib.byteCells acc) w
theorem bt_byte (B b : Nat) (acc : List UInt8) (c : UInt8) (w : World) (h : BT B b acc w) (hl : acc.length + 1 ≤ 1000000000) (hB : B ≤ w.heap.size) :
    Calls Tryd.prog 96 #[.pointer (some ⟨b, 0, none⟩), .int .u8 c.toNat] w fun e w' => e = .returned .nilIface ∧ BT B b (acc ++ [c]) w' ∧ Below B w w' ∧ Lib.OthersKept 5 (some b) w w' := by
  refine (bld_WriteByte_k B b _ c.toNat w h (by rw [Lib.byteCells_length]; omega) hB).mono ?_
  rintro e w' ⟨rfl, h1, h2, h3⟩
  refine ⟨rfl, .inr ?_, h2, h3⟩
  have : Lib.byteCells (acc ++ [c]) = Lib.byteCells acc ++ [.int .u8 c.toNat] := by simp [Lib.byteCells]
  rw [this]
  exact h1
theorem bt_text (B b : Nat) (acc : List UInt8) (s : ByteArray) (w : World) (h : BT B b acc w) (hl : acc.length + s.size ≤ 1000000000) (hB : B ≤ w.heap.size) :
    Calls Tryd.prog 93 #[.pointer (some ⟨b, 0, none⟩), .string s] w fun e w' => e = .returned (.tuple #[.int .i64 s.size, .nilIface]) ∧ BT B b (acc ++ s.data.toList) w' ∧ Below B w w' ∧ Lib.OthersKept 5 (some b) w w' := by
  refine (bld_WriteString_k B b _ s w h (by rw [Lib.byteCells_length]; omega) hB).mono ?_
  rintro e w' ⟨rfl, h1, h2, h3⟩
  refine ⟨rfl, .inr ?_, h2, h3⟩
  have : Lib.byteCells (acc ++ s.data.toList) = Lib.byteCells acc ++ Lib.strCells s := by simp [Lib.byteCells, Lib.strCells]
  rw [this]
  exact h1
theorem below_gb' {B : Nat} {w w' : World} (hg : w.grownBy w' none) (hB : B ≤ w.heap.size) : Below B w w' := below_gb hg hB (by simp)
theorem kept_gb {b : Option Nat} {w w' : World} (hg : w.grownBy w' none) : Lib.OthersKept 5 b w w' := fun k o hk _ _ => by
  have : k < w.heap.size := (Array.getElem?_eq_some_iff.1 hk).1
  rw [hg.block k this (by simp)]; exact hk

/-! the two hex digits -/
theorem hexs_0 (w : World) : (Instr.index 9 (.string ⟨#[48, 49, 50, 51, 52, 53, 54, 55, 56, 57, 97, 98, 99, 100, 101, 102]⟩) (.int .u8 0)).run Tryd.prog w = .ok (.int .u8 48) w := by kernel_rfl
theorem hexc_0 (w : World) : (convert 5 9 (.int .u8 48)).run Tryd.prog w = .ok (.string ⟨#[48]⟩) w := by kernel_rfl
theorem hexs_1 (w : World) : (Instr.index 9 (.string ⟨#[48, 49, 50, 51, 52, 53, 54, 55, 56, 57, 97, 98, 99, 100, 101, 102]⟩) (.int .u8 1)).run Tryd.prog w = .ok (.int .u8 49) w := by kernel_rfl
theorem hexc_1 (w : World) : (convert 5 9 (.int .u8 49)).run Tryd.prog w = .ok (.string ⟨#[49]⟩) w := by kernel_rfl
theorem hexs_2 (w : World) : (Instr.index 9 (.string ⟨#[48, 49, 50, 51, 52, 53, 54, 55, 56, 57, 97, 98, 99, 100, 101, 102]⟩) (.int .u8 2)).run Tryd.prog w = .ok (.int .u8 50) w := by kernel_rfl
theorem hexc_2 (w : World) : (convert 5 9 (.int .u8 50)).run Tryd.prog w = .ok (.string ⟨#[50]⟩) w := by kernel_rfl
theorem hexs_3 (w : World) : (Instr.index 9 (.string ⟨#[48, 49, 50, 51, 52, 53, 54, 55, 56, 57, 97, 98, 99, 100, 101, 102]⟩) (.int .u8 3)).run Tryd.prog w = .ok (.int .u8 51) w := by kernel_rfl
theorem hexc_3 (w : World) : (convert 5 9 (.int .u8 51)).run Tryd.prog w = .ok (.string ⟨#[51]⟩) w := by kernel_rfl
theorem hexs_4 (w : World) : (Instr.index 9 (.string ⟨#[48, 49, 50, 51, 52, 53, 54, 55, 56, 57, 97, 98, 99, 100, 101, 102]⟩) (.int .u8 4)).run Tryd.prog w = .ok (.int .u8 52) w := by kernel_rfl
theorem hexc_4 (w : World) : (convert 5 9 (.int .u8 52)).run Tryd.prog w = .ok (.string ⟨#[52]⟩) w := by kernel_rfl
theorem hexs_5 (w : World) : (Instr.index 9 (.string ⟨#[48, 49, 50, 51, 52, 53, 54, 55, 56, 57, 97, 98, 99, 100, 101, 102]⟩) (.int .u8 5)).run Tryd.prog w = .ok (.int .u8 53) w := by kernel_rfl
theorem hexc_5 (w : World) : (convert 5 9 (.int .u8 53)).run Tryd.prog w = .ok (.string ⟨#[53]⟩) w := by kernel_rfl
theorem hexs_6 (w : World) : (Instr.index 9 (.string ⟨#[48, 49, 50, 51, 52, 53, 54, 55, 56, 57, 97, 98, 99, 100, 101, 102]⟩) (.int .u8 6)).run Tryd.prog w = .ok (.int .u8 54) w := by kernel_rfl
theorem hexc_6 (w : World) : (convert 5 9 (.int .u8 54)).run Tryd.prog w = .ok (.string ⟨#[54]⟩) w := by kernel_rfl
theorem hexs_7 (w : World) : (Instr.index 9 (.string ⟨#[48, 49, 50, 51, 52, 53, 54, 55, 56, 57, 97, 98, 99, 100, 101, 102]⟩) (.int .u8 7)).run Tryd.prog w = .ok (.int .u8 55) w := by kernel_rfl
theorem hexc_7 (w : World) : (convert 5 9 (.int .u8 55)).run Tryd.prog w = .ok (.string ⟨#[55]⟩) w := by kernel_rfl
theorem hexs_8 (w : World) : (Instr.index 9 (.string ⟨#[48, 49, 50, 51, 52, 53, 54, 55, 56, 57, 97, 98, 99, 100, 101, 102]⟩) (.int .u8 8)).run Tryd.prog w = .ok (.int .u8 56) w := by kernel_rfl
theorem hexc_8 (w : World) : (convert 5 9 (.int .u8 56)).run Tryd.prog w = .ok (.string ⟨#[56]⟩) w := by kernel_rfl
theorem hexs_9 (w : World) : (Instr.index 9 (.string ⟨#[48, 49, 50, 51, 52, 53, 54, 55, 56, 57, 97, 98, 99, 100, 101, 102]⟩) (.int .u8 9)).run Tryd.prog w = .ok (.int .u8 57) w := by kernel_rfl
theorem hexc_9 (w : World) : (convert 5 9 (.int .u8 57)).run Tryd.prog w = .ok (.string ⟨#[57]⟩) w := by kernel_rfl
theorem hexs_10 (w : World) : (Instr.index 9 (.string ⟨#[48, 49, 50, 51, 52, 53, 54, 55, 56, 57, 97, 98, 99, 100, 101, 102]⟩) (.int .u8 10)).run Tryd.prog w = .ok (.int .u8 97) w := by kernel_rfl
theorem hexc_10 (w : World) : (convert 5 9 (.int .u8 97)).run Tryd.prog w = .ok (.string ⟨#[97]⟩) w := by kernel_rfl
theorem hexs_11 (w : World) : (Instr.index 9 (.string ⟨#[48, 49, 50, 51, 52, 53, 54, 55, 56, 57, 97, 98, 99, 100, 101, 102]⟩) (.int .u8 11)).run Tryd.prog w = .ok (.int .u8 98) w := by kernel_rfl
theorem hexc_11 (w : World) : (convert 5 9 (.int .u8 98)).run Tryd.prog w = .ok (.string ⟨#[98]⟩) w := by kernel_rfl
theorem hexs_12 (w : World) : (Instr.index 9 (.string ⟨#[48, 49, 50, 51, 52, 53, 54, 55, 56, 57, 97, 98, 99, 100, 101, 102]⟩) (.int .u8 12)).run Tryd.prog w = .ok (.int .u8 99) w := by kernel_rfl
theorem hexc_12 (w : World) : (convert 5 9 (.int .u8 99)).run Tryd.prog w = .ok (.string ⟨#[99]⟩) w := by kernel_rfl
theorem hexs_13 (w : World) : (Instr.index 9 (.string ⟨#[48, 49, 50, 51, 52, 53, 54, 55, 56, 57, 97, 98, 99, 100, 101, 102]⟩) (.int .u8 13)).run Tryd.prog w = .ok (.int .u8 100) w := by kernel_rfl
theorem hexc_13 (w : World) : (convert 5 9 (.int .u8 100)).run Tryd.prog w = .ok (.string ⟨#[100]⟩) w := by kernel_rfl
theorem hexs_14 (w : World) : (Instr.index 9 (.string ⟨#[48, 49, 50, 51, 52, 53, 54, 55, 56, 57, 97, 98, 99, 100, 101, 102]⟩) (.int .u8 14)).run Tryd.prog w = .ok (.int .u8 101) w := by kernel_rfl
theorem hexc_14 (w : World) : (convert 5 9 (.int .u8 101)).run Tryd.prog w = .ok (.string ⟨#[101]⟩) w := by kernel_rfl
theorem hexs_15 (w : World) : (Instr.index 9 (.string ⟨#[48, 49, 50, 51, 52, 53, 54, 55, 56, 57, 97, 98, 99, 100, 101, 102]⟩) (.int .u8 15)).run Tryd.prog w = .ok (.int .u8 102) w := by kernel_rfl
theorem hexc_15 (w : World) : (convert 5 9 (.int .u8 102)).run Tryd.prog w = .ok (.string ⟨#[102]⟩) w := by kernel_rfl
theorem lt16 {i : Nat} (h : i < 16) : i = 0 ∨ i = 1 ∨ i = 2 ∨ i = 3 ∨ i = 4 ∨ i = 5 ∨ i = 6 ∨ i = 7 ∨ i = 8 ∨ i = 9 ∨ i = 10 ∨ i = 11 ∨ i = 12 ∨ i = 13 ∨ i = 14 ∨ i = 15 := by omega
theorem hexs_run (i : Nat) (hi : i < 16) (w : World) : (Instr.index 9 (.string ⟨#[48, 49, 50, 51, 52, 53, 54, 55, 56, 57, 97, 98, 99, 100, 101, 102]⟩) (.int .u8 i)).run Tryd.prog w = .ok (.int .u8 (hxd i)) w := by
  rcases lt16 hi with rfl | rfl | rfl | rfl | rfl | rfl | rfl | rfl | rfl | rfl | rfl | rfl | rfl | rfl | rfl | rfl
  · exact hexs_0 w
  · exact hexs_1 w
  · exact hexs_2 w
  · exact hexs_3 w
  · exact hexs_4 w
  · exact hexs_5 w
  · exact hexs_6 w
  · exact hexs_7 w
  · exact hexs_8 w
  · exact hexs_9 w
  · exact hexs_10 w
  · exact hexs_11 w
  · exact hexs_12 w
  · exact hexs_13 w
  · exact hexs_14 w
  · exact hexs_15 w
theorem hexc_run (i : Nat) (hi : i < 16) (w : World) : (convert 5 9 (.int .u8 (hxd i))).run Tryd.prog w = .ok (.string ⟨#[(hxd i).toUInt8]⟩) w := by
  rcases lt16 hi with rfl | rfl | rfl | rfl | rfl | rfl | rfl | rfl | rfl | rfl | rfl | rfl | rfl | rfl | rfl | rfl
  · exact hexc_0 w
  · exact hexc_1 w
  · exact hexc_2 w
  · exact hexc_3 w
  · exact hexc_4 w
  · exact hexc_5 w
  · exact hexc_6 w
  · exact hexc_7 w
  · exact hexc_8 w
  · exact hexc_9 w
  · exact hexc_10 w
  · exact hexc_11 w
  · exact hexc_12 w
  · exact hexc_13 w
  · exact hexc_14 w
  · exact hexc_15 w
theorem hexs_div (c : Nat) (h : c < 256) (w : World) : (Instr.index 9 (.string ⟨#[48, 49, 50, 51, 52, 53, 54, 55, 56, 57, 97, 98, 99, 100, 101, 102]⟩) (.int .u8 ((c : Int) / 16))).run Tryd.prog w = .ok (.int .u8 (hxd (c / 16))) w := by
  have : (c : Int) / 16 = ((c / 16 : Nat) : Int) := by omega
  rw [this]; exact hexs_run _ (by omega) w
theorem hexs_mod (c : Nat) (w : World) : (Instr.index 9 (.string ⟨#[48, 49, 50, 51, 52, 53, 54, 55, 56, 57, 97, 98, 99, 100, 101, 102]⟩) (.int .u8 ((c : Int) % 16))).run Tryd.prog w = .ok (.int .u8 (hxd (c % 16))) w := by
  have : (c : Int) % 16 = ((c % 16 : Nat) : Int) := by omega
  rw [this]; exact hexs_run _ (by omega) w
theorem bits15 (c : Nat) (h : c < 256) : Go.bits .and .u8 (c : Int) 15 = ((c % 16 : Nat) : Int) := by
  have : ∀ c : Fin 256, Go.bits .and .u8 ((c.val : Nat) : Int) 15 = ((c.val % 16 : Nat) : Int) := by decide +kernel
  exact this ⟨c, h⟩
theorem hexs_bits (c : Nat) (h : c < 256) (w : World) : (Instr.index 9 (.string ⟨#[48, 49, 50, 51, 52, 53, 54, 55, 56, 57, 97, 98, 99, 100, 101, 102]⟩) (.int .u8 (Go.bits .and .u8 (c : Int) 15))).run Tryd.prog w = .ok (.int .u8 (hxd (c % 16))) w := by
  rw [bits15 c h]; exact hexs_run _ (by omega) w
set_option maxRecDepth 100000 in
set_option maxHeartbeats 1600000 in
theorem quote_any (B b : Nat) (acc : List UInt8) (s : ByteArray) (w : World) (h : BT B b acc w) (hl : acc.length + 6 * s.size + 2 ≤ 1000000000) (hB : B ≤ w.heap.size) (hb : b < w.heap.size) :
    Calls Tryd.prog 51 #[.pointer (some ⟨b, 0, none⟩), .string s] w fun e w' => e = .returned (.tuple #[]) ∧ BT B b (acc ++ 34 :: (qlist s.data.toList ++ [34])) w' ∧ Below B w w' ∧ Lib.OthersKept 5 (some b) w w' := by
  have hsI : (s.size : Int) ≤ 200000000 := by omega
  go_enter Tryd.func51, Tryd.ntmps51
  go_wp2_with (first
    | (go_at_call 97; refine (short_any _).mono ?_; rintro e w1 ⟨rfl, hown1, hg1⟩)
    | (go_at_call 96; refine (bt_byte B b acc 34 _ (isb_kept h hg1) (by omega) (Nat.le_trans hB hg1.size)).mono ?_; rintro e w2 ⟨rfl, hb2, hl2, ho2⟩))
  have hown2 := map_kept hown1 ho2 (by omega)
  have hz2 : w.heap.size ≤ w2.heap.size := Nat.le_trans hg1.size hl2.size
  go_loopg [14] s.size (fun n i wr => ∃ k : Nat, k ≤ s.size ∧ n = s.size - k ∧ i = .int .i64 k ∧ BT B b (acc ++ 34 :: qlist (s.data.toList.take k)) wr ∧ wr.ownsMap Tryd.prog 5 (plainElem (H := Unit) Tryd.prog 5) w.heap.size 7 shortD ∧ Below B w wr ∧ Lib.OthersKept 5 (some b) w wr)
  case atStart => exact ⟨0, Nat.zero_le _, rfl, rfl, by simpa [qlist] using hb2, hown2, (below_gb' hg1 hB).trans hl2, (kept_gb hg1).trans ho2⟩
  case round =>
    obtain ⟨k, hk, rfl, rfl, hbt, hown, hbl, hok⟩ := hrel
    by_cases hlt : k < s.size
    · have hki : (k : Int) < (s.size : Int) := by omega
      have hc256 : s[k].toNat < 256 := UInt8.toNat_lt _
      obtain ⟨hat, hhas⟩ := chk_at s[k].toNat hc256
      have hal : (acc ++ 34 :: qlist (s.data.toList.take k)).length + 6 + 1 ≤ 1000000000 := by
        have h1 := qlist_len (s.data.toList.take k)
        have h2 : (s.data.toList.take k).length ≤ k := by rw [List.length_take]; exact Nat.min_le_left _ _
        simp only [List.length_append, List.length_cons]
        omega
      have hBr : B ≤ wr.heap.size := Nat.le_trans hB hbl.size
      have hsnoc : Hid (qlist (s.data.toList.take (k + 1)) = qlist (s.data.toList.take k) ++ qch s[k]) := by
        show qlist (s.data.toList.take (k + 1)) = _
        rw [← qlist_snoc, List.take_add_one]
        congr 2
        rw [Array.getElem?_toList, Array.getElem?_eq_getElem (show k < s.data.size from hlt)]
        rfl
      generalize hacc : acc ++ 34 :: qlist (s.data.toList.take k) = acc1 at *
      by_cases hsp : 0 ≤ shc s[k].toNat
      · rw [if_pos hsp] at hat
        rw [decide_eq_true hsp] at hhas
        have hq : Hid (qch s[k] = [92, (shc s[k].toNat).toNat.toUInt8]) := by unfold Hid qch; rw [if_pos hsp]
        have he : ((shc s[k].toNat).toNat.toUInt8.toNat : Int) = shc s[k].toNat := by
          unfold shc at hsp ⊢
          repeat' split
          all_goals first | rfl | (simp_all)
        generalize shc s[k].toNat = e at *
        have h92 := bt_byte B b acc1 92 wr hbt (by omega) hBr
        have e92 : (((92 : UInt8).toNat : Nat) : Int) = 92 := rfl
        rw [e92] at h92
        have H92 := Lib.hid h92
        clear h92 e92
        have hw := fun (W : World) (hb : BT B b (acc1 ++ [92]) W) (hB : B ≤ W.heap.size) => Lib.hid (bt_byte B b (acc1 ++ [92]) e.toNat.toUInt8 W hb (by simp; omega) hB)
        simp only [he] at hw
        clear he
        go_wp2_with (first
          | (at_lookup; refine wpList_lookup_own_ok _ rfl _ _ 133 rfl 5 5 lawU8 Tryd.underlying133 _ (Tryd.zeroValue5 _) (.lit (.int .u8 0)) [] hz5 w.heap.size 7 _ rfl hown _ (.int .u8 (s[k].toNat : Int)) rfl (key5 _ hc256) ?_; intro v ps hv; rw [hat] at hv; obtain rfl := plain_u8 hv; rw [hhas])
          | (go_at_call 96; first
              | (refine ((hw _ hb3 (Nat.le_trans hBr hl3.size)).out).mono ?_; rintro e2 w4 ⟨rfl, hb4, hl4, ho4⟩)
              | (refine (H92.out).mono ?_; rintro e1 w3 ⟨rfl, hb3, hl3, ho3⟩)))
        go_roundg (s.size - (k + 1))
        case measure => omega
        case rel => exact ⟨k + 1, hlt, rfl, by go_num, by rw [hsnoc.out, hq.out]; simpa [← hacc] using hb4, map_kept (map_kept hown ho3 (by omega)) ho4 (by omega), (hbl.trans hl3).trans hl4, (hok.trans ho3).trans ho4⟩
      · rw [if_neg hsp] at hat
        rw [decide_eq_false hsp] at hhas
        by_cases hpr : 32 ≤ s[k].toNat ∧ s[k].toNat ≤ 126
        · have hq : Hid (qch s[k] = [s[k]]) := by unfold Hid qch; rw [if_neg hsp, if_pos hpr]
          have hp1 : (32 : Int) ≤ (s[k].toNat : Int) := by omega
          have hp2 : (s[k].toNat : Int) ≤ 126 := by omega
          go_wp2_with (first
            | (at_lookup; refine wpList_lookup_own_ok _ rfl _ _ 133 rfl 5 5 lawU8 Tryd.underlying133 _ (Tryd.zeroValue5 _) (.lit (.int .u8 0)) [] hz5 w.heap.size 7 _ rfl hown _ (.int .u8 (s[k].toNat : Int)) rfl (key5 _ hc256) ?_; intro v ps hv; rw [hat] at hv; obtain rfl := plain_u8 hv; rw [hhas])
            | (go_at_call 96; refine (bt_byte B b acc1 s[k] _ hbt (by omega) hBr).mono ?_; rintro e1 w3 ⟨rfl, hb3, hl3, ho3⟩))
          go_roundg (s.size - (k + 1))
          case measure => omega
          case rel => exact ⟨k + 1, hlt, rfl, by go_num, by rw [hsnoc.out, hq.out]; simpa [← hacc] using hb3, map_kept hown ho3 (by omega), hbl.trans hl3, hok.trans ho3⟩
        · have hq : Hid (qch s[k] = [92, 117, 48, 48, (hxd (s[k].toNat / 16)).toUInt8, (hxd (s[k].toNat % 16)).toUInt8]) := by unfold Hid qch; rw [if_neg hsp, if_neg hpr]
          have i1 := hexs_div s[k].toNat hc256
          have i2 := hexs_bits s[k].toNat hc256
          have j1 := hexc_run (s[k].toNat / 16) (by omega)
          have j2 := hexc_run (s[k].toNat % 16) (by omega)
          have hT : Hid ((((⟨#[92, 117, 48, 48]⟩ : ByteArray) ++ ⟨#[UInt8.ofNat (hxd (s[k].toNat / 16))]⟩) ++ ⟨#[UInt8.ofNat (hxd (s[k].toNat % 16))]⟩).data.toList = qch s[k]) := by
            show _ = _
            rw [hq.out]
            simp [ByteArray.data_append]
          have hTs : (((⟨#[92, 117, 48, 48]⟩ : ByteArray) ++ ⟨#[UInt8.ofNat (hxd (s[k].toNat / 16))]⟩) ++ ⟨#[UInt8.ofNat (hxd (s[k].toNat % 16))]⟩).size = 6 := by simp [ByteArray.size_append]; rfl
          generalize hTg : ((⟨#[92, 117, 48, 48]⟩ : ByteArray) ++ ⟨#[UInt8.ofNat (hxd (s[k].toNat / 16))]⟩) ++ ⟨#[UInt8.ofNat (hxd (s[k].toNat % 16))]⟩ = T at hT hTs
          have hcall := fun (W : World) (h : BT B b acc1 W) (hB : B ≤ W.heap.size) => Lib.hid (bt_text B b acc1 T W h (by omega) hB)
          have hp : (decide ((32 : Int) ≤ (s[k].toNat : Int)) && decide ((s[k].toNat : Int) ≤ 126)) = false := by simp; omega
          go_wp2_with (first
            | (at_lookup; refine wpList_lookup_own_ok _ rfl _ _ 133 rfl 5 5 lawU8 Tryd.underlying133 _ (Tryd.zeroValue5 _) (.lit (.int .u8 0)) [] hz5 w.heap.size 7 _ rfl hown _ (.int .u8 (s[k].toNat : Int)) rfl (key5 _ hc256) ?_; intro v ps hv; rw [hat] at hv; obtain rfl := plain_u8 hv; rw [hhas]))
          all_goals
            go_region_law (first
              | (go_simp; go_at_call 93; (try rw [hTg]); refine ((hcall _ (by exact hbt) (by exact hBr)).out).mono ?_; rintro e1 w3 ⟨rfl, hb3, hl3, ho3⟩))
          all_goals go_wp2_with fail
          all_goals go_roundg (s.size - (k + 1))
          all_goals first
            | omega
            | exact ⟨k + 1, hlt, rfl, by go_num, by rw [hsnoc.out, ← hT.out]; simpa [← hacc] using hb3, map_kept (by exact hown) (by exact ho3) (by omega), hbl.trans (by exact (Below.refl _ _).drew.trans hl3), hok.trans (by exact ho3)⟩
    · obtain rfl : k = s.size := by omega
      have hal : (acc ++ 34 :: qlist (s.data.toList.take s.size)).length + 1 ≤ 1000000000 := by
        have h1 := qlist_len (s.data.toList.take s.size)
        have h2 : (s.data.toList.take s.size).length ≤ s.size := by rw [List.length_take, Array.length_toList]; exact Nat.min_le_right _ _
        simp only [List.length_append, List.length_cons]
        omega
      have htk : s.data.toList.take s.size = s.data.toList := List.take_of_length_le (by rw [Array.length_toList]; exact Nat.le_refl _)
      rw [htk] at hbt hal
      go_wp2_with (first
        | (go_at_call 96; refine (bt_byte B b _ 34 _ hbt hal (Nat.le_trans hB hbl.size)).mono ?_; rintro e w3 ⟨rfl, hb3, hl3, ho3⟩))
      go_end0
      exact ⟨rfl, by simpa using hb3, hbl.trans hl3, hok.trans ho3⟩
end Go.Proofs.YtnnhkajjifmlfaaDoor
