/- HTTP: the document's numerals. -/
import Derived.Test.YtdfgnoflohfnmaaGreatDoorBb
import Derived.RegionTactic
namespace Go.Proofs.YtdfgnoflohfnmaaGreatDoor.Hx
open Go.RowKit Go.Maps

def toB (x : Int) : UInt8 := UInt8.ofNat x.toNat
theorem toB_nat' (x : Int) (h0 : 0 ≤ x) (h1 : x < 256) : ((toB x).toNat : Int) = x := by
  unfold toB
  show ((x.toNat % 256 : Nat) : Int) = x
  omega
theorem cell_new1 (w : World) (x : Value) : (w.alloc (.cells #[x] 5)).cell? ⟨w.heap.size, 0, none⟩ = some x := by
  rw [cell_of_row _ _ _ _ _ _ (heap_alloc_new w _)]; rfl
/-- one byte, as a text -/
theorem conv_at (x : Int) (h0 : 0 ≤ x) (h1 : x < 256) (W : World) (b : Nat) (hc : W.cell? ⟨b, 0, none⟩ = some (.int .u8 x)) : (convert 22 9 (.slice (some ⟨b, 0, none⟩) 1 1)).run Tryz.prog W = .ok (.string ⟨#[toB x]⟩) W := by
  refine run_convert_bytes_back (P := Tryz.prog) W 22 9 5 ⟨b, 0, none⟩ 1 [toB x] Tryz.underlying22 Tryz.underlying5 Tryz.underlying9 ?_
  intro j hj
  obtain rfl : j = 0 := by simpa using hj
  simp only [List.getElem_cons_zero]
  rw [toB_nat' x h0 h1]
  exact hc
theorem conv_one (x : Int) (h0 : 0 ≤ x) (h1 : x < 256) (W : World) : (convert 22 9 (.slice (some ⟨W.heap.size, 0, none⟩) 1 1)).run Tryz.prog (W.alloc (.cells #[.int .u8 x] 5)) = .ok (.string ⟨#[toB x]⟩) (W.alloc (.cells #[.int .u8 x] 5)) :=
  conv_at x h0 h1 _ _ (cell_new1 W _)
theorem w64_id {x : Int} (h1 : -9223372036854775808 ≤ x) (h2 : x ≤ 9223372036854775807) : IntKind.i64.wrap x = x := by rw [IntKind.wrap_i64]; omega
theorem w8_id {x : Int} (h1 : 0 ≤ x) (h2 : x < 256) : IntKind.u8.wrap x = x := by
  simp only [IntKind.wrap, IntKind.bits, IntKind.signed]
  have : x % 2 ^ 8 = x := by omega
  simp; omega
theorem dec_small {u : Nat} (h : u < 10) : Lib.decDigits u = [UInt8.ofNat (48 + u)] := by rw [Lib.decDigits, dif_pos h]
theorem dec_big {u : Nat} (h : ¬ u < 10) : Lib.decDigits u = Lib.decDigits (u / 10) ++ [UInt8.ofNat (48 + u % 10)] := by rw [Lib.decDigits, dif_neg h]
theorem toB_ofNat (k : Nat) : toB (k : Int) = UInt8.ofNat k := rfl
theorem size_dec : ∀ u : Nat, (btx (Lib.decDigits u)).size ≤ u + 1
  | u => by
    by_cases h : u < 10
    · rw [dec_small h, btx_size]; simp
    · rw [dec_big h, btx_size, List.length_append]
      have := size_dec (u / 10)
      rw [btx_size] at this
      simp
      omega
set_option maxRecDepth 100000 in
set_option maxHeartbeats 3200000 in
theorem digits_any : ∀ (N : Nat) (n : Int), n.natAbs < N → 0 ≤ n → n ≤ 100000000 → ∀ w : World, Calls Tryz.prog 49 #[.int .i64 n] w fun e w' => e = .returned (.string (btx (Lib.itoa n))) ∧ w.grownBy w' none
  | 0, _, h, _, _, _ => absurd h (Nat.not_lt_zero _)
  | N + 1, n, h, hlo, hhi, w => by
    by_cases hs : n < 10
    · have hc := conv_one (48 + n) (by omega) (by omega) w
      have hR : Hid ((⟨#[toB (48 + n)]⟩ : ByteArray) = btx (Lib.itoa n)) := by
        obtain ⟨u, rfl⟩ : ∃ u : Nat, n = (u : Int) := ⟨n.toNat, by omega⟩
        unfold Hid
        rw [Lib.itoa_nonneg, dec_small (by omega), show (48 : Int) + (u : Int) = ((48 + u : Nat) : Int) from by omega, toB_ofNat]
        rfl
      rw [hR.out] at hc
      clear hR h
      have q2 : wrap64 (48 + n) = 48 + n := wrap64_id (by omega) (by omega)
      have q3 : IntKind.u8.wrap (48 + n) = 48 + n := w8_id (by omega) (by omega)
      generalize btx (Lib.itoa n) = R at *
      go_enter Tryz.func49, Tryz.ntmps49
      go_wp2_with fail
      go_ret
      exact ⟨rfl, gb_alloc (gb_refl w none) _⟩
    · have hd : ∃ u : Nat, 10 ≤ u ∧ n = (u : Int) ∧ n.tdiv 10 = ((u / 10 : Nat) : Int) ∧ n.tmod 10 = ((u % 10 : Nat) : Int) := by
        refine ⟨n.natAbs, by omega, by omega, ?_, ?_⟩
        · obtain ⟨u, rfl⟩ : ∃ u : Nat, n = (u : Int) := ⟨n.natAbs, by omega⟩
          rfl
        · obtain ⟨u, rfl⟩ : ∃ u : Nat, n = (u : Int) := ⟨n.natAbs, by omega⟩
          rfl
      obtain ⟨u, hu, hnu, hq, hr⟩ := hd
      have HD := fun (W : World) => Lib.hid (digits_any N (n.tdiv 10) (by omega) (by omega) (by omega) W)
      have hc := fun (W : World) => conv_one (48 + n.tmod 10) (by omega) (by omega) W
      have hcA := fun (W : World) (b : Nat) (h : W.cell? ⟨b, 0, none⟩ = some (.int .u8 (48 + n.tmod 10))) => conv_at (48 + n.tmod 10) (by omega) (by omega) W b h
      have hsz : (btx (Lib.itoa (n.tdiv 10))).size ≤ 100000000 := by
        rw [hq, Lib.itoa_nonneg]
        have := size_dec (u / 10)
        omega
      have hR : Hid (btx (Lib.itoa (n.tdiv 10)) ++ ⟨#[toB (48 + n.tmod 10)]⟩ = btx (Lib.itoa n)) := by
        unfold Hid
        rw [hq, hr, hnu, Lib.itoa_nonneg, Lib.itoa_nonneg, dec_big (u := u) (by omega), show (48 : Int) + ((u % 10 : Nat) : Int) = ((48 + u % 10 : Nat) : Int) from by omega, toB_ofNat]
        apply ByteArray.ext
        simp [ByteArray.data_append, btx]
      have hadd : ∀ W, (Op.stringOp .add (btx (Lib.itoa (n.tdiv 10))) ⟨#[toB (48 + n.tmod 10)]⟩).run Tryz.prog W = .ok (.string (btx (Lib.itoa n))) W := fun W => by rw [← hR.out]; exact add_any _ _ hsz (by show 1 ≤ 100000000; decide) W
      have q1 : IntKind.i64.wrap (n.tdiv 10) = n.tdiv 10 := w64_id (by omega) (by omega)
      have q2 : IntKind.i64.wrap (48 + n.tmod 10) = 48 + n.tmod 10 := w64_id (by omega) (by omega)
      have q3 : IntKind.u8.wrap (48 + n.tmod 10) = 48 + n.tmod 10 := w8_id (by omega) (by omega)
      have hx1 : 0 ≤ 48 + n.tmod 10 ∧ 48 + n.tmod 10 ≤ 57 := by omega
      obtain ⟨hx0, hx1⟩ := hx1
      have hm1 : -9 ≤ n.tmod 10 ∧ n.tmod 10 ≤ 9 := by omega
      obtain ⟨hm0, hm1⟩ := hm1
      clear hR h hsz hq hr hnu hu hlo hhi
      generalize btx (Lib.itoa n) = R at *
      generalize btx (Lib.itoa (n.tdiv 10)) = D at *
      generalize hT : (⟨#[toB (48 + n.tmod 10)]⟩ : ByteArray) = T at *
      clear hT
      go_enter Tryz.func49, Tryz.ntmps49
      go_wp2_with fail
      go_region_law (first
        | (go_simp; go_at_call 49; refine ((HD _).out).mono ?_; rintro e w4 ⟨rfl, hg4⟩; (try have hcv4 := hcA w4 w.heap.size (cell_grown (by exact cell_new1 w _) hg4 (by simp)))))
      all_goals go_wp2_with fail
      all_goals go_ret
      all_goals first
        | exact ⟨rfl, gb_alloc (gb_trans (gb_drew (gb_refl w none)) hg4) _⟩
        | exact ⟨rfl, gb_trans (gb_drew (gb_alloc (gb_refl w none) _)) hg4⟩
theorem dec_any (n : Int) (h0 : 0 ≤ n) (h1 : n ≤ 100000000) (w : World) : Calls Tryz.prog 49 #[.int .i64 n] w fun e w' => e = .returned (.string (btx (Lib.itoa n))) ∧ w.grownBy w' none := digits_any (n.natAbs + 1) n (Nat.lt_succ_self _) h0 h1 w
end Go.Proofs.YtdfgnoflohfnmaaGreatDoor.Hx
