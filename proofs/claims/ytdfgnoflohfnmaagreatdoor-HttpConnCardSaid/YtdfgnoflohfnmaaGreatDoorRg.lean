/- HTTP, the document's side: the line at the beginning. -/
import Derived.Test.YtdfgnoflohfnmaaGreatDoorRf
namespace Go.Proofs.YtdfgnoflohfnmaaGreatDoor.Hx
open Go.RowKit Go.Maps

theorem occ_two (s : Bs) (i : Nat) : Lib.occAt s crlf i = (s[i]? == some 13 && s[i + 1]? == some 10) := by
  unfold Lib.occAt crlf
  have h0 : s[i]? = (s.drop i)[0]? := by rw [List.getElem?_drop, Nat.add_zero]
  have h1 : s[i + 1]? = (s.drop i)[1]? := by rw [List.getElem?_drop]
  rw [h0, h1]
  rcases s.drop i with _ | ⟨a, _ | ⟨b, t⟩⟩
  · rfl
  · simp [List.isPrefixOf]
  · simp only [List.isPrefixOf, List.getElem?_cons_zero, List.getElem?_cons_succ, Bool.and_true]
    rw [Bool.eq_iff_iff]
    simp
    exact ⟨fun h => ⟨h.1.symm, h.2.symm⟩, fun h => ⟨h.1.symm, h.2.symm⟩⟩
theorem line_hit {s : Bs} {k : Nat} (hk : k + 1 < s.length) (hm : k ≤ 4096) (hn : ∀ j, j < k → Lib.occAt s crlf j = false) (h0 : s[k]? = some 13) (h1 : s[k + 1]? = some 10) : lineR s = (s.take k, (k : Int) + 2) := by
  have hi := Lib.index_first (s := s) (sub := crlf) (i := k) (by omega) (by rw [occ_two, h0, h1]; rfl) hn
  unfold lineR
  rw [hi, if_pos (by omega), Int.toNat_natCast]
theorem line_miss {s : Bs} {k : Nat} (hk : ¬ (k + 1 < s.length ∧ k ≤ 4096)) (hm : k ≤ 4097) (hn : ∀ j, j < k → Lib.occAt s crlf j = false) : lineR s = if 4098 ≤ s.length then ([], -1) else ([], 0) := by
  unfold lineR
  rw [if_neg]
  rintro ⟨h0, h1⟩
  rcases Lib.index_spec s crlf with ⟨h, _⟩ | ⟨i, h, _, ho, _⟩
  · omega
  · have h2 : i ≤ 4096 := by omega
    have hro := Lib.index_room s crlf (by omega)
    rw [h, show crlf.length = 2 from rfl] at hro
    rcases Nat.lt_or_ge i k with h3 | h3
    · rw [hn i h3] at ho; cases ho
    · apply hk; constructor <;> omega
def lineV (s : Bs) : Value := .tuple #[.string ⟨(lineR s).1.toArray⟩, .int .i64 (lineR s).2]
set_option maxRecDepth 100000 in
set_option maxHeartbeats 3200000 in
theorem rline_any (v : Value) (bs : Bs) (w : World) (hv : BV w v bs) (hl : bs.length ≤ 2000000) : Calls Tryz.prog 68 #[v] w fun e w' => e = .returned (lineV bs) ∧ w' = w := by
  obtain ⟨R, hR⟩ : ∃ R : Value, R = lineV bs := ⟨_, rfl⟩
  rw [← hR]
  unfold lineV at hR
  replace hR := Lib.hid hR
  obtain ⟨A, c, rfl, hc, hA⟩ := hv
  have hci : (bs.length : Int) ≤ (c : Int) := by omega
  go_enter Tryz.func68, Tryz.ntmps68
  go_wp2_with fail
  go_loopg [4] 5000 (fun z u4 wr => ∃ k : Nat, k ≤ 4097 ∧ z = 5000 - k ∧ u4 = .int .i64 (k : Nat) ∧ Hid (∀ j, j < k → Lib.occAt bs crlf j = false) ∧ wr = w)
  case atStart => exact ⟨0, Nat.zero_le _, rfl, rfl, fun j hj => absurd hj (Nat.not_lt_zero _), rfl⟩
  case round =>
    obtain ⟨k, hk, rfl, rfl, hn, rfl⟩ := hrel
    have hw1 : wrap64 ((k : Int) + 1) = ((k + 1 : Nat) : Int) := (wrap64_id (by omega) (by omega)).trans (by omega)
    have hw2 : wrap64 ((k : Int) + 2) = ((k + 2 : Nat) : Int) := (wrap64_id (by omega) (by omega)).trans (by omega)
    by_cases hgo : k + 1 < bs.length ∧ k ≤ 4096
    · obtain ⟨g1, g2⟩ := hgo
      obtain ⟨b, o, rfl, hb⟩ := hA (by rintro rfl; simp at g1)
      have i1 : ((k + 1 : Nat) : Int) < (bs.length : Int) := by omega
      have i2 : (k : Int) ≤ 4096 := by omega
      have i3 : (k : Int) < (bs.length : Int) := by omega
      have i4 : (k : Int) ≤ (c : Int) := by omega
      have i5 : (0 : Int) ≤ (k : Int) := by omega
      have c0 := hb k (by omega)
      have c1 := hb (k + 1) g1
      have e0 : bs[k]? = some bs[k] := List.getElem?_eq_getElem _
      have e1 : bs[k + 1]? = some bs[k + 1] := List.getElem?_eq_getElem _
      by_cases h13 : (bs[k].toNat : Int) = 13
      · have b13 : ((bs[k].toNat : Int) == 13) = true := by simp [h13]
        by_cases h10 : (bs[k + 1].toNat : Int) = 10
        · have b10 : ((bs[k + 1].toNat : Int) == 10) = true := by simp [h10]
          have hln := Lib.hid (line_hit g1 g2 hn.out (by rw [e0]; exact congrArg some (UInt8.toNat_inj.mp (by simp; omega))) (by rw [e1]; exact congrArg some (UInt8.toNat_inj.mp (by simp; omega))))
          obtain ⟨S, hS⟩ : ∃ S : ByteArray, S = ⟨(bs.take k).toArray⟩ := ⟨_, rfl⟩
          have hcv : (convert 22 9 (.slice (some ⟨b, o, none⟩) k c)).run Tryz.prog wr = .ok (.string S) wr := by
            have := (hb.take k).str c
            rw [List.length_take_of_le (by omega), ← hS] at this
            exact this
          replace hS := Lib.hid hS
          clear hn hA hb h13 h10 e0 e1
          go_wp2_with fail
          refine bodyPost_ret (v := .tuple #[.string S, .int .i64 ((k + 2 : Nat) : Int)]) (by simp [results, Tryz.results68, go_sem]) rfl ?_
          exact ⟨by rw [hR.out, hln.out, hS.out]; rfl, rfl⟩
        · have b10 : ((bs[k + 1].toNat : Int) == 10) = false := by simp [h10]
          have hst : Hid (∀ j, j < k + 1 → Lib.occAt bs crlf j = false) := fun j hj => by
            rcases Nat.lt_succ_iff_lt_or_eq.mp hj with h | rfl
            · exact hn.out j h
            · rw [occ_two, e1]
              have : (some bs[j + 1] == some (10 : UInt8)) = false := by
                rw [beq_eq_false_iff_ne]; intro e; exact h10 (by have := Option.some.inj e; rw [this]; rfl)
              rw [this, Bool.and_false]
          clear hn hA hb e0 e1
          go_wp2_with fail
          go_roundg (5000 - (k + 1))
          case measure => omega
          case rel => exact ⟨k + 1, by omega, rfl, by first | rw [hw1] | go_num, hst, rfl⟩
      · have b13 : ((bs[k].toNat : Int) == 13) = false := by simp [h13]
        have hst : Hid (∀ j, j < k + 1 → Lib.occAt bs crlf j = false) := fun j hj => by
          rcases Nat.lt_succ_iff_lt_or_eq.mp hj with h | rfl
          · exact hn.out j h
          · rw [occ_two, e0]
            have : (some bs[j] == some (13 : UInt8)) = false := by
              rw [beq_eq_false_iff_ne]; intro e; exact h13 (by have := Option.some.inj e; rw [this]; rfl)
            rw [this, Bool.false_and]
        clear hn hA hb e0 e1
        go_wp2_with fail
        go_roundg (5000 - (k + 1))
        case measure => omega
        case rel => exact ⟨k + 1, by omega, rfl, by first | rw [hw1] | go_num, hst, rfl⟩
    · have hms := Lib.hid (line_miss hgo hk hn.out)
      have hcase : ¬ ((k + 1 : Nat) : Int) < (bs.length : Int) ∨ (((k + 1 : Nat) : Int) < (bs.length : Int) ∧ ¬ (k : Int) ≤ 4096) := by omega
      clear hn hA hgo
      rcases hcase with j1 | ⟨j1, j2⟩
      · by_cases hbig : (4098 : Int) ≤ (bs.length : Int)
        · have hm2 := Lib.hid (hms.out.trans (if_pos (by omega)))
          clear hms
          go_wp2_with fail
          refine bodyPost_ret (v := .tuple #[.string ⟨#[]⟩, .int .i64 (-1)]) (by simp [results, Tryz.results68, go_sem]) rfl ?_
          exact ⟨by rw [hR.out, hm2.out], rfl⟩
        · have hm2 := Lib.hid (hms.out.trans (if_neg (by omega)))
          clear hms
          go_wp2_with fail
          refine bodyPost_ret (v := .tuple #[.string ⟨#[]⟩, .int .i64 0]) (by simp [results, Tryz.results68, go_sem]) rfl ?_
          exact ⟨by rw [hR.out, hm2.out], rfl⟩
      · have hbig : (4098 : Int) ≤ (bs.length : Int) := by omega
        have hm2 := Lib.hid (hms.out.trans (if_pos (by omega)))
        clear hms
        go_wp2_with fail
        refine bodyPost_ret (v := .tuple #[.string ⟨#[]⟩, .int .i64 (-1)]) (by simp [results, Tryz.results68, go_sem]) rfl ?_
        exact ⟨by rw [hR.out, hm2.out], rfl⟩
end Go.Proofs.YtdfgnoflohfnmaaGreatDoor.Hx
