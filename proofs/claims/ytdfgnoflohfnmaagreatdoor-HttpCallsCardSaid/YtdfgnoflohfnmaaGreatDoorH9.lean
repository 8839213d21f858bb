/- HTTP: a digit's number; escapes taken away. -/
import Derived.Test.YtdfgnoflohfnmaaGreatDoorH7
import Derived.Lib.BufferRead
import Derived.Test.YtdfgnoflohfnmaaGreatDoorQS
namespace Go.Proofs.YtdfgnoflohfnmaaGreatDoor.Hx
open Go.RowKit Go.Maps

theorem conv_nil (w : World) : (convert 22 9 (.slice none 0 0)).run Tryz.prog w = .ok (.string ⟨#[]⟩) w :=
  Lib.run_convert_nil_bytes w 22 9 5 0 Tryz.underlying22 Tryz.underlying5 Tryz.underlying9
theorem wrap_u8 {x : Int} (h0 : 0 ≤ x) (h1 : x ≤ 255) : IntKind.u8.wrap x = x := by
  simp [IntKind.wrap, IntKind.bits, IntKind.signed]; omega
theorem hex_any (c : UInt8) (w : World) : Calls Tryz.prog 74 #[.int .u8 (c.toNat : Int)] w fun e w' => e = .returned (.int .i64 (hexV c)) ∧ w' = w := by
  have hd := fun W => Lib.hid (digit_any c W)
  have hT : Hid (hexV c = if digB c then (c.toNat : Int) - 48 else if 97 ≤ c.toNat ∧ c.toNat ≤ 102 then (c.toNat : Int) - 87 else if 65 ≤ c.toNat ∧ c.toNat ≤ 70 then (c.toNat : Int) - 55 else -1) := rfl
  have hlt := UInt8.toNat_lt c
  have hD : Hid (digB c = (decide (48 ≤ c.toNat) && decide (c.toNat ≤ 57))) := rfl
  generalize hexV c = y at *
  generalize hz : digB c = z at *
  generalize c.toNat = n at *
  clear hz
  go_enter Tryz.func74, Tryz.ntmps74
  cases z with
  | true =>
    have hn : 48 ≤ n ∧ n ≤ 57 := by have := hD.out.symm; simpa using this
    have hw : IntKind.u8.wrap ((n : Int) - 48) = (n : Int) - 48 := wrap_u8 (by omega) (by omega)
    have hy : Hid (y = (n : Int) - 48) := by unfold Hid; rw [hT.out]; rfl
    clear hT hD hlt
    go_wp2_with (first
      | (go_at_call 78; refine ((hd _).out).mono ?_; rintro e w1 ⟨rfl, rfl⟩))
    go_ret
    exact ⟨by rw [hy.out]; rfl, rfl⟩
  | false =>
    rw [if_neg (by decide)] at hT
    by_cases h1 : (97 : Int) ≤ n
    · by_cases h2 : (n : Int) ≤ 102
      · have hw : IntKind.u8.wrap ((n : Int) - 97) = (n : Int) - 97 := wrap_u8 (by omega) (by omega)
        have hq : wrap64 ((n : Int) - 97 + 10) = (n : Int) - 87 := (wrap64_id (by omega) (by omega)).trans (by omega)
        have hy : Hid (y = (n : Int) - 87) := by unfold Hid; rw [hT.out, if_pos (by omega)]
        clear hT hD hlt
        go_wp2_with (first
          | (go_at_call 78; refine ((hd _).out).mono ?_; rintro e w1 ⟨rfl, rfl⟩))
        go_ret
        refine ⟨?_, rfl⟩
        rw [hy.out]
        first | rfl | (simp; omega)
      · have hy : Hid (y = -1) := by unfold Hid; rw [hT.out, if_neg (by omega), if_neg (by omega)]
        have h3 : (65 : Int) ≤ n := by omega
        have h4 : ¬ (n : Int) ≤ 70 := by omega
        clear hT hD hlt
        go_wp2_with (first
          | (go_at_call 78; refine ((hd _).out).mono ?_; rintro e w1 ⟨rfl, rfl⟩))
        go_ret
        exact ⟨by rw [hy.out]; rfl, rfl⟩
    · by_cases h3 : (65 : Int) ≤ n
      · by_cases h4 : (n : Int) ≤ 70
        · have hw : IntKind.u8.wrap ((n : Int) - 65) = (n : Int) - 65 := wrap_u8 (by omega) (by omega)
          have hq : wrap64 ((n : Int) - 65 + 10) = (n : Int) - 55 := (wrap64_id (by omega) (by omega)).trans (by omega)
          have hy : Hid (y = (n : Int) - 55) := by unfold Hid; rw [hT.out, if_neg (by omega), if_pos (by omega)]
          clear hT hD hlt
          go_wp2_with (first
            | (go_at_call 78; refine ((hd _).out).mono ?_; rintro e w1 ⟨rfl, rfl⟩))
          go_ret
          refine ⟨?_, rfl⟩
          rw [hy.out]
          first | rfl | (simp; omega)
        · have hy : Hid (y = -1) := by unfold Hid; rw [hT.out, if_neg (by omega), if_neg (by omega)]
          clear hT hD hlt
          go_wp2_with (first
            | (go_at_call 78; refine ((hd _).out).mono ?_; rintro e w1 ⟨rfl, rfl⟩))
          go_ret
          exact ⟨by rw [hy.out]; rfl, rfl⟩
      · have hy : Hid (y = -1) := by unfold Hid; rw [hT.out, if_neg (by omega), if_neg (by omega)]
        clear hT hD hlt
        go_wp2_with (first
          | (go_at_call 78; refine ((hd _).out).mono ?_; rintro e w1 ⟨rfl, rfl⟩))
        go_ret
        exact ⟨by rw [hy.out]; rfl, rfl⟩
/-! escapes: the plain function by the text's place -/
theorem hexV_rng (c : UInt8) : -1 ≤ hexV c ∧ hexV c ≤ 15 := by
  unfold hexV digB
  have := UInt8.toNat_lt c
  split
  · next h => simp at h; omega
  · split
    · omega
    · split <;> omega
theorem list_at (s : ByteArray) {k : Nat} (h : k < s.size) : s.data.toList.drop k = s[k] :: s.data.toList.drop (k + 1) := by
  have h' : k < s.data.toList.length := h
  rw [List.drop_eq_getElem_cons h']
  rfl
theorem list_end (s : ByteArray) {k : Nat} (h : s.size ≤ k) : s.data.toList.drop k = [] := List.drop_eq_nil_of_le h
theorem unesc_e {plus : Bool} {c a b : UInt8} {r : Bs} (hc : c.toNat = 37) (h2 : ¬ (hexV a < 0 ∨ hexV b < 0)) : unesc plus (c :: a :: b :: r) = if prB (UInt8.ofNat (16 * (hexV a).toNat + (hexV b).toNat)) then (unesc plus r).map (UInt8.ofNat (16 * (hexV a).toNat + (hexV b).toNat) :: ·) else none := by
  conv => lhs; unfold unesc
  rw [if_pos hc]
  dsimp only
  rw [if_neg h2]
theorem unesc_p {c : UInt8} {t : Bs} (hc : c.toNat = 43) : unesc true (c :: t) = (unesc true t).map (32 :: ·) := by
  conv => lhs; unfold unesc
  rw [if_neg (by omega), if_pos ⟨hc, rfl⟩]
theorem unesc_1 {plus : Bool} {c : UInt8} {t : Bs} (h1 : c.toNat ≠ 37) (h2 : ¬ (c.toNat = 43 ∧ plus = true)) : unesc plus (c :: t) = if prB c then (unesc plus t).map (c :: ·) else none := by
  conv => lhs; unfold unesc
  rw [if_neg h1, if_neg h2]
/-- what is told of a text, when a first part has been told -/
def UN (plus : Bool) (s : ByteArray) (k : Nat) (acc : Bs) : Prop := unesc plus s.data.toList = (unesc plus (s.data.toList.drop k)).map (acc ++ ·)
theorem UN.start (plus : Bool) (s : ByteArray) : UN plus s 0 [] := by unfold UN; simp
theorem UN.stop {plus : Bool} {s : ByteArray} {k : Nat} {acc : Bs} (h : UN plus s k acc) (hk : s.size ≤ k) : unesc plus s.data.toList = some acc := by
  rw [h, list_end s hk]; simp [unesc]
theorem UN.short {plus : Bool} {s : ByteArray} {k : Nat} {acc : Bs} (h : UN plus s k acc) (hk : k < s.size) (hc : s[k].toNat = 37) (h2 : s.size ≤ k + 2) : unesc plus s.data.toList = none := by
  rw [h, list_at s hk]
  rcases Nat.lt_or_ge (k + 1) s.size with h1 | h1
  · rw [list_at s h1, list_end s (by omega)]
    unfold unesc
    rw [if_pos hc]; rfl
  · rw [list_end s h1]
    unfold unesc
    rw [if_pos hc]; rfl
theorem UN.bad {plus : Bool} {s : ByteArray} {k : Nat} {acc : Bs} (h : UN plus s k acc) (hk : k + 2 < s.size) (hc : s[k].toNat = 37) (h2 : hexV s[k + 1] < 0 ∨ hexV s[k + 2] < 0) : unesc plus s.data.toList = none := by
  rw [h, list_at s (show k < s.size by omega), list_at s (show k + 1 < s.size by omega), list_at s hk]
  unfold unesc
  rw [if_pos hc]
  dsimp only
  rw [if_pos h2]; rfl
theorem UN.esc {plus : Bool} {s : ByteArray} {k : Nat} {acc : Bs} (h : UN plus s k acc) (hk : k + 2 < s.size) (hc : s[k].toNat = 37) (h2 : ¬ (hexV s[k + 1] < 0 ∨ hexV s[k + 2] < 0)) {x : UInt8} (hx : x = UInt8.ofNat (16 * (hexV s[k + 1]).toNat + (hexV s[k + 2]).toNat)) :
    (prB x = true → UN plus s (k + 3) (acc ++ [x])) ∧ (prB x = false → unesc plus s.data.toList = none) := by
  have e : unesc plus (s.data.toList.drop k) = if prB x then (unesc plus (s.data.toList.drop (k + 3))).map (x :: ·) else none := by
    rw [list_at s (show k < s.size by omega), list_at s (show k + 1 < s.size by omega), list_at s hk, unesc_e hc h2, ← hx]
  refine ⟨fun hp => ?_, fun hp => ?_⟩
  · unfold UN at h ⊢
    rw [h, e, if_pos hp]
    cases unesc plus (s.data.toList.drop (k + 3)) <;> simp
  · rw [h, e, if_neg (by rw [hp]; decide)]; rfl
theorem UN.plus {s : ByteArray} {k : Nat} {acc : Bs} (h : UN true s k acc) (hk : k < s.size) (hc : s[k].toNat = 43) : UN true s (k + 1) (acc ++ [32]) := by
  unfold UN at h ⊢
  rw [h, list_at s hk, unesc_p hc]
  cases unesc true (s.data.toList.drop (k + 1)) <;> simp
theorem UN.one {plus : Bool} {s : ByteArray} {k : Nat} {acc : Bs} (h : UN plus s k acc) (hk : k < s.size) (h1 : s[k].toNat ≠ 37) (h2 : ¬ (s[k].toNat = 43 ∧ plus = true)) :
    (prB s[k] = true → UN plus s (k + 1) (acc ++ [s[k]])) ∧ (prB s[k] = false → unesc plus s.data.toList = none) := by
  have e : unesc plus (s.data.toList.drop k) = if prB s[k] then (unesc plus (s.data.toList.drop (k + 1))).map (s[k] :: ·) else none := by
    rw [list_at s hk, unesc_1 h1 h2]
  refine ⟨fun hp => ?_, fun hp => ?_⟩
  · unfold UN at h ⊢
    rw [h, e, if_pos hp]
    cases unesc plus (s.data.toList.drop (k + 1)) <;> simp
  · rw [h, e, if_neg (by rw [hp]; decide)]; rfl

theorem or_fin : ∀ a b : Fin 16, bits .or .i64 ((a.val : Int) * 16) (b.val : Int) % 256 = ((16 * a.val + b.val : Nat) : Int) := by decide +kernel
theorem or_hex {a b : Int} (ha : 0 ≤ a) (ha2 : a ≤ 15) (hb : 0 ≤ b) (hb2 : b ≤ 15) : bits .or .i64 (a * 16) b % 256 = (((UInt8.ofNat (16 * a.toNat + b.toNat)).toNat : Nat) : Int) := by
  have h := or_fin ⟨a.toNat, by omega⟩ ⟨b.toNat, by omega⟩
  dsimp only at h
  rw [show ((a.toNat : Nat) : Int) = a from by omega, show ((b.toNat : Nat) : Int) = b from by omega] at h
  rw [h]
  congr 1
  simp
  omega
theorem AP.drewN {B : Nat} {w w1 : World} {v v1 : Value} {acc : Bs} (h : AP B w v acc v1 w1) (n : Nat) : AP B w v acc v1 (w1.drewN n) := ⟨h.own, gb_drewN h.gb n, h.at_⟩
set_option maxRecDepth 100000 in
set_option maxHeartbeats 6400000 in
theorem unescape_any (plus : Bool) (s : ByteArray) (w : World) (hs : s.size ≤ 1000000) :
    Calls Tryz.prog 41 #[.string s, .bool plus] w fun e w' => e = .returned (match unesc plus s.data.toList with | some d => .tuple #[.string ⟨d.toArray⟩, .bool true] | none => .tuple #[.string ⟨#[]⟩, .bool false]) ∧ w.grownBy w' none := by
  obtain ⟨i0, hi0, hz0, hz1, hz2⟩ := info_parts info_u8
  obtain ⟨R, hR⟩ : ∃ R : Value, R = (match unesc plus s.data.toList with | some d => .tuple #[.string ⟨d.toArray⟩, .bool true] | none => .tuple #[.string ⟨#[]⟩, .bool false]) := ⟨_, rfl⟩
  have hN : Hid (unesc plus s.data.toList = none → R = .tuple #[.string ⟨#[]⟩, .bool false]) := fun h => by rw [hR, h]
  have hS : Hid (∀ d, unesc plus s.data.toList = some d → R = .tuple #[.string ⟨d.toArray⟩, .bool true]) := fun d h => by rw [hR, h]
  rw [← hR]
  clear hR
  have hA0 := AP.refl (OB.nil w.heap.size w)
  go_enter Tryz.func41, Tryz.ntmps41
  go_wp2_with fail
  go_loopg [6, 7] s.size (fun n u6 u7 wr => ∃ (k : Nat) (acc : Bs), k ≤ s.size ∧ n = s.size - k ∧ u7 = .int .i64 k ∧ acc.length ≤ k ∧ AP w.heap.size w (.slice none 0 0) acc u6 wr ∧ (acc = [] → u6 = .slice none 0 0) ∧ Hid (UN plus s k acc))
  case atStart => exact ⟨0, [], Nat.zero_le _, rfl, rfl, Nat.le_refl _, hA0, fun _ => rfl, UN.start plus s⟩
  case round =>
    obtain ⟨k, acc, hk, rfl, rfl, hal, hA, hnil, hU⟩ := hrel
    clear hA0
    by_cases hlt : k < s.size
    · have hki : (k : Int) < (s.size : Int) := by omega
      have hq1 := Lib.hid (show wrap64 ((k : Int) + 1) = ((k + 1 : Nat) : Int) from (wrap64_id (by omega) (by omega)).trans (by omega))
      by_cases h37 : s[k].toNat = 37
      · have hb37 : ((s[k].toNat : Int) == 37) = true := by simp; omega
        by_cases hk2 : k + 2 < s.size
        · have hu := hU.out.esc hk2 h37
          have hbad := hU.out.bad hk2 h37
          have hx1 := fun W => Lib.hid (hex_any s[k + 1] W)
          have hx2 := fun W => Lib.hid (hex_any s[k + 2] W)
          have hr1 := hexV_rng s[k + 1]
          have hr2 := hexV_rng s[k + 2]
          have g1 : wrap64 ((k : Int) + 1) = ((k + 1 : Nat) : Int) := (wrap64_id (by omega) (by omega)).trans (by omega)
          have g2 : wrap64 ((k : Int) + 2) = ((k + 2 : Nat) : Int) := (wrap64_id (by omega) (by omega)).trans (by omega)
          have i1 : ((k + 1 : Nat) : Int) < (s.size : Int) := by omega
          have i2 : ((k + 2 : Nat) : Int) < (s.size : Int) := by omega
          have i3 : ¬ (s.size : Int) ≤ ((k + 2 : Nat) : Int) := by omega
          generalize hexV s[k + 1] = a at *
          generalize hexV s[k + 2] = b at *
          clear hU
          by_cases ha : a < 0
          · have hr := Lib.hid (hN.out (hbad (.inl ha)))
            clear hN hS hbad hu h37 hnil
            go_wp2_with (first
              | (go_at_call 74; refine ((hx1 _).out).mono ?_; rintro e w1 ⟨rfl, rfl⟩))
            refine bodyPost_ret (v := .tuple #[.string ⟨#[]⟩, .bool false]) (by simp [results, Tryz.results41, go_sem]) rfl ?_
            exact ⟨by rw [hr.out], hA.gb⟩
          · by_cases hb : b < 0
            · have hr := Lib.hid (hN.out (hbad (.inr hb)))
              clear hN hS hbad hu h37 hnil
              go_wp2_with (first
                | (go_at_call 74; have hmk := hc1; refine ((hx2 _).out).mono ?_; rintro e w1 ⟨rfl, rfl⟩)
                | (go_at_call 74; refine ((hx1 _).out).mono ?_; rintro e w1 ⟨rfl, rfl⟩; have hc1 := hx1))
              refine bodyPost_ret (v := .tuple #[.string ⟨#[]⟩, .bool false]) (by simp [results, Tryz.results41, go_sem]) rfl ?_
              exact ⟨by rw [hr.out], hA.gb⟩
            · have hu := hu (by omega) rfl
              go_wp2_with (first
                | (go_at_call 74; have hmk := hc1; refine ((hx2 _).out).mono ?_; rintro e w1 ⟨rfl, rfl⟩)
                | (go_at_call 74; refine ((hx1 _).out).mono ?_; rintro e w1 ⟨rfl, rfl⟩; have hc1 := hx1))
              have w1' : IntKind.i64.wrap ((k : Int) + 1) = (k : Int) + 1 := wrap_id (by omega) (by omega)
              have w2' : IntKind.i64.wrap ((k : Int) + 2) = (k : Int) + 2 := wrap_id (by omega) (by omega)
              go_quiet (first
                | (go_at_call 74; with_reducible exact Calls.quiet_of_same (hx1 _).out)
                | (go_at_call 74; with_reducible exact Calls.quiet_of_same (hx2 _).out))
              have hv := or_hex (a := a) (b := b) (by omega) (by omega) (by omega) (by omega)
              rw [hv]
              generalize UInt8.ofNat (16 * a.toNat + b.toNat) = x at *
              obtain ⟨hu1, hu2⟩ := hu
              have hpr := fun W => Lib.hid (print_any x W)
              have hA2 := hA.drewN nq
              generalize World.drewN _ nq = wq at *
              generalize prB x = y at *
              cases y with
              | true =>
                have hu := Lib.hid (hu1 rfl)
                clear hN hS hu1 hu2 hbad h37 hnil hx1 hx2 hv
                go_wp2_with (first
                  | (go_at_call 46; refine ((hpr _).out).mono ?_; rintro e w2 ⟨rfl, rfl⟩)
                  | (at_builtin; refine wpList_append_own_at _ rfl _ _ 22 rfl w.heap.size 5 i0 (.int .u8 0) 1 1 Tryz.underlying22 hi0 hz0 hz1 hz2 rfl (by decide) u6 _ _ rfl (hA2.own.alloc _) ⟨_, 0, none⟩ 1 1 [.int .u8 (x.toNat : Int)] rfl rfl (news_new _ _ rfl) (by simp [Value.oneCell']) (by unfold maxLen; omega) (by omega) (by have := hA2.gb.size; simp at *; omega) ?_; intro v3 w3 hown3 hg3 _ hat3))
                have hA3 := hA2.step (news := [x]) rfl hown3 hg3 hat3
                go_roundg (s.size - (k + 3))
                case measure => omega
                case rel => exact ⟨k + 3, acc ++ [x], by omega, rfl, by go_num, by simp; omega, hA3, fun h => by simp at h, hu.out⟩
              | false =>
                have hr := Lib.hid (hN.out (hu2 rfl))
                clear hN hS hu1 hu2 hbad h37 hnil hx1 hx2 hv
                go_wp2_with (first
                  | (go_at_call 46; refine ((hpr _).out).mono ?_; rintro e w2 ⟨rfl, rfl⟩))
                refine bodyPost_ret (v := .tuple #[.string ⟨#[]⟩, .bool false]) (by simp [results, Tryz.results41, go_sem]) rfl ?_
                exact ⟨by rw [hr.out], hA2.gb⟩
        · have hr := Lib.hid (hN.out (hU.out.short hlt h37 (by omega)))
          have i3 : (s.size : Int) ≤ (k : Int) + 2 := by omega
          clear hN hS hU h37 hnil
          go_wp2_with fail
          refine bodyPost_ret (v := .tuple #[.string ⟨#[]⟩, .bool false]) (by simp [results, Tryz.results41, go_sem]) rfl ?_
          exact ⟨by rw [hr.out], hA.gb⟩
      · have hb37 : ((s[k].toNat : Int) == 37) = false := by simp; omega
        have hpr := fun W => Lib.hid (print_any s[k] W)
        by_cases h43 : s[k].toNat = 43 ∧ plus = true
        · obtain ⟨h43, rfl⟩ := h43
          have hu := Lib.hid (hU.out.plus hlt h43)
          have hb43 : ((s[k].toNat : Int) == 43) = true := by simp; omega
          have hp32 := fun W => Lib.hid (show Calls Tryz.prog 46 #[.int .u8 32] W fun e w' => e = .returned (.bool true) ∧ w' = W from print_any 32 W)
          clear hN hS hU h37 hnil h43 hpr
          go_wp2_with (first
            | (go_at_call 46; refine ((hp32 _).out).mono ?_; rintro e w1 ⟨rfl, rfl⟩)
            | (at_builtin; refine wpList_append_own_at _ rfl _ _ 22 rfl w.heap.size 5 i0 (.int .u8 0) 1 1 Tryz.underlying22 hi0 hz0 hz1 hz2 rfl (by decide) u6 _ _ rfl (hA.own.alloc _) ⟨_, 0, none⟩ 1 1 [.int .u8 32] rfl rfl (news_new _ _ rfl) (by simp [Value.oneCell']) (by unfold maxLen; omega) (by omega) (by have := hA.gb.size; simp; omega) ?_; intro v3 w3 hown3 hg3 _ hat3))
          have hA3 := hA.step (news := [32]) rfl hown3 hg3 hat3
          go_roundg (s.size - (k + 1))
          case measure => omega
          case rel => exact ⟨k + 1, acc ++ [32], hlt, rfl, by first | rw [hq1.out] | go_num, by simp; omega, hA3, fun h => by simp at h, hu.out⟩
        · obtain ⟨hu1, hu2⟩ := hU.out.one hlt h37 h43
          have hpl : ((s[k].toNat : Int) == 43 && plus) = false := by
            rw [Bool.eq_false_iff]
            intro e
            simp at e
            exact h43 ⟨by omega, e.2⟩
          generalize prB s[k] = y at *
          have hc43 : (s[k].toNat : Int) = 43 ∨ ¬ (s[k].toNat : Int) = 43 := by omega
          rcases hc43 with hc | hc
          · have hpf : plus = false := by
              cases plus with
              | false => rfl
              | true => exact absurd ⟨by omega, rfl⟩ h43
            subst hpf
            have hb43 : ((s[k].toNat : Int) == 43) = true := by simp; omega
            clear hU h37 h43 hpl hc
            cases y with
            | true =>
              have hu := Lib.hid (hu1 rfl)
              clear hN hS hu1 hu2 hnil
              go_wp2_with (first
                | (go_at_call 46; refine ((hpr _).out).mono ?_; rintro e w2 ⟨rfl, rfl⟩)
                | (at_builtin; refine wpList_append_own_at _ rfl _ _ 22 rfl w.heap.size 5 i0 (.int .u8 0) 1 1 Tryz.underlying22 hi0 hz0 hz1 hz2 rfl (by decide) u6 _ _ rfl (hA.own.alloc _) ⟨_, 0, none⟩ 1 1 [.int .u8 (s[k].toNat : Int)] rfl rfl (news_new _ _ rfl) (by simp [Value.oneCell']) (by unfold maxLen; omega) (by omega) (by have := hA.gb.size; simp at *; omega) ?_; intro v3 w3 hown3 hg3 _ hat3))
              have hA3 := hA.step (news := [s[k]]) rfl hown3 hg3 hat3
              go_roundg (s.size - (k + 1))
              case measure => omega
              case rel => exact ⟨k + 1, acc ++ [s[k]], hlt, rfl, by first | rw [hq1.out] | go_num, by simp; omega, hA3, fun h => by simp at h, hu.out⟩
            | false =>
              have hr := Lib.hid (hN.out (hu2 rfl))
              clear hN hS hu1 hu2 hnil
              go_wp2_with (first
                | (go_at_call 46; refine ((hpr _).out).mono ?_; rintro e w2 ⟨rfl, rfl⟩))
              refine bodyPost_ret (v := .tuple #[.string ⟨#[]⟩, .bool false]) (by simp [results, Tryz.results41, go_sem]) rfl ?_
              exact ⟨by rw [hr.out], hA.gb⟩
          · have hb43 : ((s[k].toNat : Int) == 43) = false := by simp; omega
            clear hU h37 h43 hpl hc
            cases y with
            | true =>
              have hu := Lib.hid (hu1 rfl)
              clear hN hS hu1 hu2 hnil
              go_wp2_with (first
                | (go_at_call 46; refine ((hpr _).out).mono ?_; rintro e w2 ⟨rfl, rfl⟩)
                | (at_builtin; refine wpList_append_own_at _ rfl _ _ 22 rfl w.heap.size 5 i0 (.int .u8 0) 1 1 Tryz.underlying22 hi0 hz0 hz1 hz2 rfl (by decide) u6 _ _ rfl (hA.own.alloc _) ⟨_, 0, none⟩ 1 1 [.int .u8 (s[k].toNat : Int)] rfl rfl (news_new _ _ rfl) (by simp [Value.oneCell']) (by unfold maxLen; omega) (by omega) (by have := hA.gb.size; simp at *; omega) ?_; intro v3 w3 hown3 hg3 _ hat3))
              have hA3 := hA.step (news := [s[k]]) rfl hown3 hg3 hat3
              go_roundg (s.size - (k + 1))
              case measure => omega
              case rel => exact ⟨k + 1, acc ++ [s[k]], hlt, rfl, by first | rw [hq1.out] | go_num, by simp; omega, hA3, fun h => by simp at h, hu.out⟩
            | false =>
              have hr := Lib.hid (hN.out (hu2 rfl))
              clear hN hS hu1 hu2 hnil
              go_wp2_with (first
                | (go_at_call 46; refine ((hpr _).out).mono ?_; rintro e w2 ⟨rfl, rfl⟩))
              refine bodyPost_ret (v := .tuple #[.string ⟨#[]⟩, .bool false]) (by simp [results, Tryz.results41, go_sem]) rfl ?_
              exact ⟨by rw [hr.out], hA.gb⟩
    · have hke : k = s.size := by omega
      subst hke
      have hni : ¬ ((s.size : Int) < (s.size : Int)) := by omega
      have hres := Lib.hid (hS.out acc (hU.out.stop (Nat.le_refl _)))
      clear hS hN hU
      by_cases h0 : acc = []
      · obtain rfl := hnil h0
        subst h0
        have hcv := conv_nil wr
        go_wp2_with fail
        refine bodyPost_ret (v := .tuple #[.string ⟨#[]⟩, .bool true]) (by simp [results, Tryz.results41, go_sem]) rfl ?_
        exact ⟨by rw [hres.out], hA.gb⟩
      · have hcv := hA.own.conv h0
        clear hnil
        go_wp2_with fail
        refine bodyPost_ret (v := .tuple #[.string ⟨acc.toArray⟩, .bool true]) (by simp [results, Tryz.results41, go_sem]) rfl ?_
        exact ⟨by rw [hres.out], hA.gb⟩
end Go.Proofs.YtdfgnoflohfnmaaGreatDoor.Hx
/-! HTTP: the reader's block; contracts of the library in the walks' words. -/
namespace Go.Proofs.YtdfgnoflohfnmaaGreatDoor.Hx
open Go.RowKit Go.Maps

/-- what the reader has, its bytes aside -/
structure RS where
  i : Nat
  m : ByteArray
  p : ByteArray
  qv : Value
  cl : Bool
  bv : Value
  h : Int
  l : Int
  st : Int
  wh : Bool
/-- the reader's block -/
def RB (w : World) (R : Nat) (bw : Value) (σ : RS) : Prop :=
  w.heap[R]? = some (.cells #[bw, .int .i64 (σ.i : Nat), .string σ.m, .string σ.p, σ.qv, .bool σ.cl, σ.bv, .int .i64 σ.h, .int .i64 σ.l, .int .i64 σ.st, .bool σ.wh] 65 (0, 0))
section
variable {w w' : World} {R : Nat} {bw : Value} {σ : RS}
theorem RB.lt (h : RB w R bw σ) : R < w.heap.size := (Array.getElem?_eq_some_iff.1 h).1
theorem RB.c0 (h : RB w R bw σ) : w.cell? ⟨R, 0, none⟩ = some bw := by rw [cell_of_row w R 0 _ _ _ h]; rfl
theorem RB.c1 (h : RB w R bw σ) : w.cell? ⟨R, 1, none⟩ = some (.int .i64 (σ.i : Nat)) := by rw [cell_of_row w R 1 _ _ _ h]; rfl
theorem RB.c2 (h : RB w R bw σ) : w.cell? ⟨R, 2, none⟩ = some (.string σ.m) := by rw [cell_of_row w R 2 _ _ _ h]; rfl
theorem RB.c3 (h : RB w R bw σ) : w.cell? ⟨R, 3, none⟩ = some (.string σ.p) := by rw [cell_of_row w R 3 _ _ _ h]; rfl
theorem RB.c4 (h : RB w R bw σ) : w.cell? ⟨R, 4, none⟩ = some (σ.qv) := by rw [cell_of_row w R 4 _ _ _ h]; rfl
theorem RB.c5 (h : RB w R bw σ) : w.cell? ⟨R, 5, none⟩ = some (.bool σ.cl) := by rw [cell_of_row w R 5 _ _ _ h]; rfl
theorem RB.c6 (h : RB w R bw σ) : w.cell? ⟨R, 6, none⟩ = some (σ.bv) := by rw [cell_of_row w R 6 _ _ _ h]; rfl
theorem RB.c7 (h : RB w R bw σ) : w.cell? ⟨R, 7, none⟩ = some (.int .i64 σ.h) := by rw [cell_of_row w R 7 _ _ _ h]; rfl
theorem RB.c8 (h : RB w R bw σ) : w.cell? ⟨R, 8, none⟩ = some (.int .i64 σ.l) := by rw [cell_of_row w R 8 _ _ _ h]; rfl
theorem RB.c9 (h : RB w R bw σ) : w.cell? ⟨R, 9, none⟩ = some (.int .i64 σ.st) := by rw [cell_of_row w R 9 _ _ _ h]; rfl
theorem RB.c10 (h : RB w R bw σ) : w.cell? ⟨R, 10, none⟩ = some (.bool σ.wh) := by rw [cell_of_row w R 10 _ _ _ h]; rfl
theorem RB.f (h : RB w R bw σ) (i : Nat) : w.frozen? ⟨R, i, none⟩ = false := by unfold RB at h; simp [World.frozen?, h]
theorem RB.set1 (h : RB w R bw σ) (q : Nat) : RB (w.setCell ⟨R, 1, none⟩ (.int .i64 (q : Nat))) R bw { σ with i := q } := by
  unfold RB at h ⊢; simp [World.setCell, Array.getElem?_modify, h]
theorem RB.set2 (h : RB w R bw σ) (q : ByteArray) : RB (w.setCell ⟨R, 2, none⟩ (.string q)) R bw { σ with m := q } := by
  unfold RB at h ⊢; simp [World.setCell, Array.getElem?_modify, h]
theorem RB.set3 (h : RB w R bw σ) (q : ByteArray) : RB (w.setCell ⟨R, 3, none⟩ (.string q)) R bw { σ with p := q } := by
  unfold RB at h ⊢; simp [World.setCell, Array.getElem?_modify, h]
theorem RB.set4 (h : RB w R bw σ) (q : Value) : RB (w.setCell ⟨R, 4, none⟩ (q)) R bw { σ with qv := q } := by
  unfold RB at h ⊢; simp [World.setCell, Array.getElem?_modify, h]
theorem RB.set5 (h : RB w R bw σ) (q : Bool) : RB (w.setCell ⟨R, 5, none⟩ (.bool q)) R bw { σ with cl := q } := by
  unfold RB at h ⊢; simp [World.setCell, Array.getElem?_modify, h]
theorem RB.set6 (h : RB w R bw σ) (q : Value) : RB (w.setCell ⟨R, 6, none⟩ (q)) R bw { σ with bv := q } := by
  unfold RB at h ⊢; simp [World.setCell, Array.getElem?_modify, h]
theorem RB.set7 (h : RB w R bw σ) (q : Int) : RB (w.setCell ⟨R, 7, none⟩ (.int .i64 q)) R bw { σ with h := q } := by
  unfold RB at h ⊢; simp [World.setCell, Array.getElem?_modify, h]
theorem RB.set8 (h : RB w R bw σ) (q : Int) : RB (w.setCell ⟨R, 8, none⟩ (.int .i64 q)) R bw { σ with l := q } := by
  unfold RB at h ⊢; simp [World.setCell, Array.getElem?_modify, h]
theorem RB.set9 (h : RB w R bw σ) (q : Int) : RB (w.setCell ⟨R, 9, none⟩ (.int .i64 q)) R bw { σ with st := q } := by
  unfold RB at h ⊢; simp [World.setCell, Array.getElem?_modify, h]
theorem RB.set10 (h : RB w R bw σ) (q : Bool) : RB (w.setCell ⟨R, 10, none⟩ (.bool q)) R bw { σ with wh := q } := by
  unfold RB at h ⊢; simp [World.setCell, Array.getElem?_modify, h]
theorem RB.drewN (h : RB w R bw σ) (n : Nat) : RB (w.drewN n) R bw σ := h
theorem RB.kept (h : RB w R bw σ) {row : Option Nat} (hg : w.grownBy w' row) (hne : some R ≠ row) : RB w' R bw σ := (hg.block R h.lt hne).trans h
theorem RB.alloc (h : RB w R bw σ) (o : Obj) : RB (w.alloc o) R bw σ := (Below.heap_alloc w o R h.lt).trans h
end
/-- the bytes that the reader reads lie elsewhere -/
def RV (w : World) (R : Nat) (bw : Value) (bs : Bs) : Prop := (bw = .slice none 0 0 ∧ bs = []) ∨ ∃ b o c, bw = .slice (some ⟨b, o, none⟩) bs.length c ∧ bs.length ≤ c ∧ b ≠ R ∧ BA w b o bs
theorem RV.grown {w w' : World} {R : Nat} {bw : Value} {bs : Bs} {row : Option Nat} (h : RV w R bw bs) (hg : w.grownBy w' row) (hr : row = none ∨ row = some R) : RV w' R bw bs := by
  rcases h with h | ⟨b, o, c, e, hc, hb, ha⟩
  · exact .inl h
  · refine .inr ⟨b, o, c, e, hc, hb, ha.grown hg ?_⟩
    rcases hr with rfl | rfl
    · simp
    · simpa using hb
/-- the machine's own number (bytealg.MaxLen) -/
abbrev MX (w : World) (m : Int) : Prop := w.cell? ⟨0, 0, none⟩ = some (.int .i64 m)
theorem MX.grown {w w' : World} {m : Int} {row : Option Nat} (h : MX w m) (hg : w.grownBy w' row) (hr : some 0 ≠ row) : MX w' m := cell_grown h hg hr
/-- what a method of the reader leaves -/
abbrev QS1 (R : Nat) (bw : Value) (w : World) (v : Value) (τ : RS) (e : Ending) (w' : World) : Prop :=
  e = .returned v ∧ RB w' R bw τ ∧ w.grownBy w' (some R)
theorem wrong_any (R : Nat) (bw : Value) (a : Int) (σ : RS) (w : World) (h : RB w R bw σ) :
    Calls Tryz.prog 66 #[.pointer (some ⟨R, 0, none⟩), .int .i64 a] w (QS1 R bw w .nilFunc { σ with st := a }) := by
  have c9 := h.c9
  have f9 := h.f 9
  go_enter Tryz.func66, Tryz.ntmps66
  go_wp2_with fail
  go_ret
  exact ⟨rfl, h.set9 a, gb_setR (gb_refl _ _) _ _⟩
end Go.Proofs.YtdfgnoflohfnmaaGreatDoor.Hx
