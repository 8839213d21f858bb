/- The document's numerals. -/
import Derived.Test.YtnnhkajjifmlfaaDoorTg
import Derived.Test.YtnnhkajjifmlfaaDoorTy
import Derived.RegionTactic
namespace Go.Proofs.YtnnhkajjifmlfaaDoor
open Go.RowKit Go.Maps

theorem toB_nat' (x : Int) (h0 : 0 ≤ x) (h1 : x < 256) : ((toB x).toNat : Int) = x := by
  unfold toB
  show ((x.toNat % 256 : Nat) : Int) = x
  omega
/-- one byte, as a text -/
theorem conv_one (x : Int) (h0 : 0 ≤ x) (h1 : x < 256) (W : World) : (convert 78 9 (.slice (some ⟨W.heap.size, 0, none⟩) 1 1)).run Tryd.prog (W.alloc (.cells #[.int .u8 x] 5)) = .ok (.string ⟨#[toB x]⟩) (W.alloc (.cells #[.int .u8 x] 5)) := by
  refine run_convert_bytes_back (P := Tryd.prog) (W.alloc (.cells #[.int .u8 x] 5)) 78 9 5 ⟨W.heap.size, 0, none⟩ 1 [toB x] Tryd.underlying78 Tryd.underlying5 Tryd.underlying9 ?_
  intro j hj
  obtain rfl : j = 0 := by simpa using hj
  have := one_new (w := W) (.int .u8 x) 5 rfl 0 (.int .u8 x) rfl
  rw [this]
  simp only [List.getElem_cons_zero]
  rw [toB_nat' x h0 h1]
theorem size_one (c : UInt8) : (⟨#[c]⟩ : ByteArray).size ≤ 10000 := by show 1 ≤ 10000; decide
theorem one_cell (w : World) (x : Value) : (w.alloc (.cells #[x] 5)).cell? ⟨w.heap.size, 0, none⟩ = some x := one_new (w := w) x 5 rfl 0 x rfl
theorem conv_at (x : Int) (h0 : 0 ≤ x) (h1 : x < 256) (W : World) (b : Nat) (hc : W.cell? ⟨b, 0, none⟩ = some (.int .u8 x)) : (convert 78 9 (.slice (some ⟨b, 0, none⟩) 1 1)).run Tryd.prog W = .ok (.string ⟨#[toB x]⟩) W := by
  refine run_convert_bytes_back (P := Tryd.prog) W 78 9 5 ⟨b, 0, none⟩ 1 [toB x] Tryd.underlying78 Tryd.underlying5 Tryd.underlying9 ?_
  intro j hj
  obtain rfl : j = 0 := by simpa using hj
  simp only [List.getElem_cons_zero]
  rw [toB_nat' x h0 h1]
  exact hc
theorem w64_id {x : Int} (h1 : -9223372036854775808 ≤ x) (h2 : x ≤ 9223372036854775807) : IntKind.i64.wrap x = x := by rw [IntKind.wrap_i64]; omega
theorem w8_id {x : Int} (h1 : 0 ≤ x) (h2 : x < 256) : IntKind.u8.wrap x = x := by
  simp only [IntKind.wrap, IntKind.bits, IntKind.signed]
  have : x % 2 ^ 8 = x := by omega
  simp; omega
theorem dec_small {u : Nat} (h : u < 10) : Lib.decDigits u = [UInt8.ofNat (48 + u)] := by rw [Lib.decDigits, dif_pos h]
theorem dec_big {u : Nat} (h : ¬ u < 10) : Lib.decDigits u = Lib.decDigits (u / 10) ++ [UInt8.ofNat (48 + u % 10)] := by rw [Lib.decDigits, dif_neg h]
theorem toB_ofNat (k : Nat) : toB (k : Int) = UInt8.ofNat k := rfl

set_option maxRecDepth 100000 in
set_option maxHeartbeats 3200000 in
theorem digits_any : ∀ (N : Nat) (n : Int), n.natAbs < N → -9223372036854775808 ≤ n → n ≤ 9223372036854775807 → ∀ w : World, Calls Tryd.prog 98 #[.int .i64 n] w fun e w' => e = .returned (.string ⟨(Lib.itoa n).toArray⟩) ∧ w.grownBy w' none
  | 0, _, h, _, _, _ => absurd h (Nat.not_lt_zero _)
  | N + 1, n, h, hlo, hhi, w => by
    by_cases hneg : n < 0
    · by_cases hs : -10 < n
      · have hc := conv_one (48 - n) (by omega) (by omega) w
        have hR : Hid ((⟨#[45]⟩ : ByteArray) ++ ⟨#[toB (48 - n)]⟩ = ⟨(Lib.itoa n).toArray⟩) := by
          obtain ⟨u, hu, rfl⟩ : ∃ u : Nat, 1 ≤ u ∧ n = -(u : Int) := ⟨n.natAbs, by omega, by omega⟩
          unfold Hid
          rw [Lib.itoa_neg u hu, dec_small (by omega), show (48 : Int) - -(u : Int) = ((48 + u : Nat) : Int) from by omega, toB_ofNat]
          rfl
        have hadd : ∀ W, (Op.stringOp .add ⟨#[45]⟩ ⟨#[toB (48 - n)]⟩).run Tryd.prog W = .ok (.string ⟨(Lib.itoa n).toArray⟩) W := fun W => by rw [← hR.out]; exact run_add_text (by decide) (size_one _)
        clear hR h
        generalize (⟨(Lib.itoa n).toArray⟩ : ByteArray) = R at *
        generalize (⟨#[toB (48 - n)]⟩ : ByteArray) = T at *
        go_enter Tryd.func98, Tryd.ntmps98
        go_wp2_with fail
        go_ret
        exact ⟨rfl, gb_alloc (gb_refl w none) _⟩
      · have hd : ∃ u : Nat, 10 ≤ u ∧ n = -(u : Int) ∧ n.tdiv 10 = -((u / 10 : Nat) : Int) ∧ n.tmod 10 = -((u % 10 : Nat) : Int) := by
          refine ⟨n.natAbs, by omega, by omega, ?_, ?_⟩
          · obtain ⟨u, rfl⟩ : ∃ u : Nat, n = -(u : Int) := ⟨n.natAbs, by omega⟩
            rw [Int.neg_tdiv]; first | (simp; done) | (simp; rfl)
          · obtain ⟨u, rfl⟩ : ∃ u : Nat, n = -(u : Int) := ⟨n.natAbs, by omega⟩
            rw [Int.neg_tmod]; first | (simp; done) | (simp; rfl)
        obtain ⟨u, hu, hnu, hq, hr⟩ := hd
        have hd := trivial
        have HD := fun (W : World) => Lib.hid (digits_any N (n.tdiv 10) (by omega) (by omega) (by omega) W)
        have hc := fun (W : World) => conv_one (48 - n.tmod 10) (by omega) (by omega) W
        have hcA := fun (W : World) (b : Nat) (h : W.cell? ⟨b, 0, none⟩ = some (.int .u8 (48 - n.tmod 10))) => conv_at (48 - n.tmod 10) (by omega) (by omega) W b h
        have hsz : (⟨(Lib.itoa (n.tdiv 10)).toArray⟩ : ByteArray).size ≤ 10000 := by
          have := Lib.itoa_length_le (n.tdiv 10) (by omega) (by omega)
          rw [sizeT]; omega
        have hR : Hid ((⟨(Lib.itoa (n.tdiv 10)).toArray⟩ : ByteArray) ++ ⟨#[toB (48 - n.tmod 10)]⟩ = ⟨(Lib.itoa n).toArray⟩) := by
          unfold Hid
          rw [hq, hr, hnu, Lib.itoa_neg u (by omega), Lib.itoa_neg (u / 10) (by omega), dec_big (u := u) (by omega), show (48 : Int) - -((u % 10 : Nat) : Int) = ((48 + u % 10 : Nat) : Int) from by omega, toB_ofNat]
          apply ByteArray.ext
          simp [ByteArray.data_append]
        have hadd : ∀ W, (Op.stringOp .add ⟨(Lib.itoa (n.tdiv 10)).toArray⟩ ⟨#[toB (48 - n.tmod 10)]⟩).run Tryd.prog W = .ok (.string ⟨(Lib.itoa n).toArray⟩) W := fun W => by rw [← hR.out]; exact run_add_text hsz (size_one _)
        have q1 : IntKind.i64.wrap (n.tdiv 10) = n.tdiv 10 := w64_id (by omega) (by omega)
        have q2 : IntKind.i64.wrap (48 - n.tmod 10) = 48 - n.tmod 10 := w64_id (by omega) (by omega)
        have q3 : IntKind.u8.wrap (48 - n.tmod 10) = 48 - n.tmod 10 := w8_id (by omega) (by omega)
        have hx1 : 0 ≤ 48 - n.tmod 10 ∧ 48 - n.tmod 10 ≤ 57 := by omega
        obtain ⟨hx0, hx1⟩ := hx1
        have hm1 : -9 ≤ n.tmod 10 ∧ n.tmod 10 ≤ 9 := by omega
        obtain ⟨hm0, hm1⟩ := hm1
        have hdd := Lib.hid hd
        clear hR h hd hsz hdd hq hr hnu hu hlo hhi
        generalize (⟨(Lib.itoa n).toArray⟩ : ByteArray) = R at *
        generalize (⟨(Lib.itoa (n.tdiv 10)).toArray⟩ : ByteArray) = D at *
        generalize hT : (⟨#[toB (48 - n.tmod 10)]⟩ : ByteArray) = T at *
        clear hT
        go_enter Tryd.func98, Tryd.ntmps98
        go_wp2_with fail
        go_region_law (first
          | (go_simp; go_at_call 98; refine ((HD _).out).mono ?_; rintro e w4 ⟨rfl, hg4⟩; (try have hcv4 := hcA w4 w.heap.size (cell_grown (by exact one_cell w _) hg4 (by simp)))))
        all_goals go_wp2_with fail
        all_goals go_ret
        all_goals first
          | exact ⟨rfl, gb_alloc (gb_trans (gb_drew (gb_refl w none)) hg4) _⟩
          | exact ⟨rfl, gb_trans (gb_drew (gb_alloc (gb_refl w none) _)) hg4⟩
    · by_cases hs : n < 10
      · have hc := conv_one (48 + n) (by omega) (by omega) w
        have hR : Hid ((⟨#[toB (48 + n)]⟩ : ByteArray) = ⟨(Lib.itoa n).toArray⟩) := by
          obtain ⟨u, rfl⟩ : ∃ u : Nat, n = (u : Int) := ⟨n.toNat, by omega⟩
          unfold Hid
          rw [Lib.itoa_nonneg, dec_small (by omega), show (48 : Int) + (u : Int) = ((48 + u : Nat) : Int) from by omega, toB_ofNat]
        rw [hR.out] at hc
        clear hR h
        generalize (⟨(Lib.itoa n).toArray⟩ : ByteArray) = R at *
        go_enter Tryd.func98, Tryd.ntmps98
        go_wp2_with fail
        go_ret
        exact ⟨rfl, gb_alloc (gb_refl w none) _⟩
      · have hd : ∃ u : Nat, 10 ≤ u ∧ n = (u : Int) ∧ n.tdiv 10 = ((u / 10 : Nat) : Int) ∧ n.tmod 10 = ((u % 10 : Nat) : Int) := by
          refine ⟨n.natAbs, by omega, by omega, ?_, ?_⟩
          · obtain ⟨u, rfl⟩ : ∃ u : Nat, n = (u : Int) := ⟨n.natAbs, by omega⟩
            rfl
          · obtain ⟨u, rfl⟩ : ∃ u : Nat, n = (u : Int) := ⟨n.natAbs, by omega⟩
            rfl
        obtain ⟨u, hu, hnu, hq, hr⟩ := hd
        have hd := trivial
        have HD := fun (W : World) => Lib.hid (digits_any N (n.tdiv 10) (by omega) (by omega) (by omega) W)
        have hc := fun (W : World) => conv_one (48 + n.tmod 10) (by omega) (by omega) W
        have hcA := fun (W : World) (b : Nat) (h : W.cell? ⟨b, 0, none⟩ = some (.int .u8 (48 + n.tmod 10))) => conv_at (48 + n.tmod 10) (by omega) (by omega) W b h
        have hsz : (⟨(Lib.itoa (n.tdiv 10)).toArray⟩ : ByteArray).size ≤ 10000 := by
          have := Lib.itoa_length_le (n.tdiv 10) (by omega) (by omega)
          rw [sizeT]; omega
        have hR : Hid ((⟨(Lib.itoa (n.tdiv 10)).toArray⟩ : ByteArray) ++ ⟨#[toB (48 + n.tmod 10)]⟩ = ⟨(Lib.itoa n).toArray⟩) := by
          unfold Hid
          rw [hq, hr, hnu, Lib.itoa_nonneg, Lib.itoa_nonneg, dec_big (u := u) (by omega), show (48 : Int) + ((u % 10 : Nat) : Int) = ((48 + u % 10 : Nat) : Int) from by omega, toB_ofNat]
          apply ByteArray.ext
          simp [ByteArray.data_append]
        have hadd : ∀ W, (Op.stringOp .add ⟨(Lib.itoa (n.tdiv 10)).toArray⟩ ⟨#[toB (48 + n.tmod 10)]⟩).run Tryd.prog W = .ok (.string ⟨(Lib.itoa n).toArray⟩) W := fun W => by rw [← hR.out]; exact run_add_text hsz (size_one _)
        have q1 : IntKind.i64.wrap (n.tdiv 10) = n.tdiv 10 := w64_id (by omega) (by omega)
        have q2 : IntKind.i64.wrap (48 + n.tmod 10) = 48 + n.tmod 10 := w64_id (by omega) (by omega)
        have q3 : IntKind.u8.wrap (48 + n.tmod 10) = 48 + n.tmod 10 := w8_id (by omega) (by omega)
        have hx1 : 0 ≤ 48 + n.tmod 10 ∧ 48 + n.tmod 10 ≤ 57 := by omega
        obtain ⟨hx0, hx1⟩ := hx1
        have hm1 : -9 ≤ n.tmod 10 ∧ n.tmod 10 ≤ 9 := by omega
        obtain ⟨hm0, hm1⟩ := hm1
        have hdd := Lib.hid hd
        clear hR h hd hsz hdd hq hr hnu hu hlo hhi
        generalize (⟨(Lib.itoa n).toArray⟩ : ByteArray) = R at *
        generalize (⟨(Lib.itoa (n.tdiv 10)).toArray⟩ : ByteArray) = D at *
        generalize hT : (⟨#[toB (48 + n.tmod 10)]⟩ : ByteArray) = T at *
        clear hT
        go_enter Tryd.func98, Tryd.ntmps98
        go_wp2_with fail
        go_region_law (first
          | (go_simp; go_at_call 98; refine ((HD _).out).mono ?_; rintro e w4 ⟨rfl, hg4⟩; (try have hcv4 := hcA w4 w.heap.size (cell_grown (by exact one_cell w _) hg4 (by simp)))))
        all_goals go_wp2_with fail
        all_goals go_ret
        all_goals first
          | exact ⟨rfl, gb_alloc (gb_trans (gb_drew (gb_refl w none)) hg4) _⟩
          | exact ⟨rfl, gb_trans (gb_drew (gb_alloc (gb_refl w none) _)) hg4⟩
end Go.Proofs.YtnnhkajjifmlfaaDoor
