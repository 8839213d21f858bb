/- HTTP, the document's side: a length. -/
import Derived.Test.YtdfgnoflohfnmaaGreatDoorRb
import Derived.Lib.ConvBytes
namespace Go.Proofs.YtdfgnoflohfnmaaGreatDoor.Hx
open Go.RowKit Go.Maps

theorem decV_snoc (l : Bs) (c : UInt8) : decV (l ++ [c]) = 10 * decV l + ((c.toNat : Int) - 48) := by unfold decV; rw [List.foldl_append]; rfl
theorem digB_iff (c : UInt8) : digB c = true ↔ (48 : Int) ≤ (c.toNat : Int) ∧ (c.toNat : Int) ≤ 57 := by unfold digB; simp; omega
theorem take_snoc (s : ByteArray) {k : Nat} (h : k < s.size) : s.data.toList.take (k + 1) = s.data.toList.take k ++ [s[k]] := by
  have h' : k < s.data.toList.length := h
  exact List.take_succ_eq_append_getElem h'
theorem pow10_le (k : Nat) (hk : k ≤ 8) : (10 : Int) ^ k ≤ 100000000 := by
  have h := Nat.pow_le_pow_right (n := 10) (by decide) hk
  have h2 : ((10 ^ k : Nat) : Int) ≤ ((10 ^ 8 : Nat) : Int) := Int.ofNat_le.mpr h
  rw [Int.natCast_pow] at h2
  exact h2
end Go.Proofs.YtdfgnoflohfnmaaGreatDoor.Hx
/-! HTTP, the document's side: small letters. -/
namespace Go.Proofs.YtdfgnoflohfnmaaGreatDoor.Hx
open Go.RowKit Go.Maps

/-- so far k bytes are small letters -/
structure LW (s : ByteArray) (g : Nat) (w : World) (k : Nat) (W : World) : Prop where
  gb : w.grownBy W none
  cell : ∀ i (h : i < s.size), W.cell? ⟨g, i, none⟩ = some (.int .u8 (if i < k then ((Lib.lowerB s[i]).toNat : Int) else (s[i].toNat : Int)))
  fr : ∀ i, i < s.size → W.frozen? ⟨g, i, none⟩ = false
theorem LW.skip {s : ByteArray} {g : Nat} {w W : World} {k : Nat} (h : LW s g w k W) (hk : k < s.size) (hx : ((Lib.lowerB s[k]).toNat : Int) = (s[k].toNat : Int)) : LW s g w (k + 1) W := by
  refine ⟨h.gb, fun i hi => ?_, h.fr⟩
  rw [h.cell i hi]
  by_cases e : i = k
  · subst e
    rw [if_neg (Nat.lt_irrefl _), if_pos (Nat.lt_succ_self _), hx]
  · by_cases h2 : i < k
    · rw [if_pos h2, if_pos (by omega)]
    · rw [if_neg h2, if_neg (by omega)]
end Go.Proofs.YtdfgnoflohfnmaaGreatDoor.Hx

/-! HTTP, the document's side: a text without escapes. -/
namespace Go.Proofs.YtdfgnoflohfnmaaGreatDoor.Hx
open Go.RowKit Go.Maps

theorem decP_e {plus : Bool} {c a b : UInt8} {r : Bs} (hc : c.toNat = 37) (h2 : ¬ (hexV a < 0 ∨ hexV b < 0)) : decP plus (c :: a :: b :: r) = (decP plus r).map (UInt8.ofNat (16 * (hexV a).toNat + (hexV b).toNat) :: ·) := by
  conv => lhs; unfold decP
  rw [if_pos hc]
  dsimp only
  rw [if_neg h2]
theorem decP_p {c : UInt8} {t : Bs} (hc : c.toNat = 43) : decP true (c :: t) = (decP true t).map (32 :: ·) := by
  conv => lhs; unfold decP
  rw [if_neg (by omega), if_pos ⟨hc, rfl⟩]
theorem decP_1 {plus : Bool} {c : UInt8} {t : Bs} (h1 : c.toNat ≠ 37) (h2 : ¬ (c.toNat = 43 ∧ plus = true)) : decP plus (c :: t) = (decP plus t).map (c :: ·) := by
  conv => lhs; unfold decP
  rw [if_neg h1, if_neg h2]
/-- what is told of a text, when a first part has been told -/
def DN (plus : Bool) (s : ByteArray) (k : Nat) (acc : Bs) : Prop := decP plus s.data.toList = (decP plus (s.data.toList.drop k)).map (acc ++ ·)
theorem DN.start (plus : Bool) (s : ByteArray) : DN plus s 0 [] := by unfold DN; simp
theorem DN.stop {plus : Bool} {s : ByteArray} {k : Nat} {acc : Bs} (h : DN plus s k acc) (hk : s.size ≤ k) : decP plus s.data.toList = some acc := by
  rw [h, list_end s hk]; simp [decP]
theorem DN.short {plus : Bool} {s : ByteArray} {k : Nat} {acc : Bs} (h : DN plus s k acc) (hk : k < s.size) (hc : s[k].toNat = 37) (h2 : s.size ≤ k + 2) : decP plus s.data.toList = none := by
  rw [h, list_at s hk]
  rcases Nat.lt_or_ge (k + 1) s.size with h1 | h1
  · rw [list_at s h1, list_end s (by omega)]
    unfold decP
    rw [if_pos hc]; rfl
  · rw [list_end s h1]
    unfold decP
    rw [if_pos hc]; rfl
theorem DN.bad {plus : Bool} {s : ByteArray} {k : Nat} {acc : Bs} (h : DN plus s k acc) (hk : k + 2 < s.size) (hc : s[k].toNat = 37) (h2 : hexV s[k + 1] < 0 ∨ hexV s[k + 2] < 0) : decP plus s.data.toList = none := by
  rw [h, list_at s (show k < s.size by omega), list_at s (show k + 1 < s.size by omega), list_at s hk]
  unfold decP
  rw [if_pos hc]
  dsimp only
  rw [if_pos h2]; rfl
theorem DN.esc {plus : Bool} {s : ByteArray} {k : Nat} {acc : Bs} (h : DN plus s k acc) (hk : k + 2 < s.size) (hc : s[k].toNat = 37) (h2 : ¬ (hexV s[k + 1] < 0 ∨ hexV s[k + 2] < 0)) {x : UInt8} (hx : x = UInt8.ofNat (16 * (hexV s[k + 1]).toNat + (hexV s[k + 2]).toNat)) : DN plus s (k + 3) (acc ++ [x]) := by
  unfold DN at h ⊢
  rw [h, list_at s (show k < s.size by omega), list_at s (show k + 1 < s.size by omega), list_at s hk, decP_e hc h2, ← hx]
  cases decP plus (s.data.toList.drop (k + 3)) <;> simp
theorem DN.plus {s : ByteArray} {k : Nat} {acc : Bs} (h : DN true s k acc) (hk : k < s.size) (hc : s[k].toNat = 43) : DN true s (k + 1) (acc ++ [32]) := by
  unfold DN at h ⊢
  rw [h, list_at s hk, decP_p hc]
  cases decP true (s.data.toList.drop (k + 1)) <;> simp
theorem DN.one {plus : Bool} {s : ByteArray} {k : Nat} {acc : Bs} (h : DN plus s k acc) (hk : k < s.size) (h1 : s[k].toNat ≠ 37) (h2 : ¬ (s[k].toNat = 43 ∧ plus = true)) : DN plus s (k + 1) (acc ++ [s[k]]) := by
  unfold DN at h ⊢
  rw [h, list_at s hk, decP_1 h1 h2]
  cases decP plus (s.data.toList.drop (k + 1)) <;> simp
theorem hex_sum {a b : Int} (ha : 0 ≤ a) (ha2 : a ≤ 15) (hb : 0 ≤ b) (hb2 : b ≤ 15) : 16 * a + b = (((UInt8.ofNat (16 * a.toNat + b.toNat)).toNat : Nat) : Int) := by
  simp
  omega
/-- what plainly leaves -/
def PlK (plus : Bool) (s : Bs) (w : World) (f : Bool) (e : Ending) (w' : World) : Prop := ∃ T : ByteArray, e = .returned (.tuple #[.string T, .bool f]) ∧ (∀ d, plainlyP plus s = some d → T = ⟨d.toArray⟩) ∧ w.grownBy w' none
set_option maxRecDepth 100000 in
set_option maxHeartbeats 6400000 in
theorem plainly_walk (plus : Bool) (s : ByteArray) (w : World) (hs : s.size ≤ 1000000) (f : Bool) (hf : f = (plainlyP plus s.data.toList).isSome) :
    Calls Tryz.prog 45 #[.string s, .bool plus] w (PlK plus s.data.toList w f) := by
  obtain ⟨i0, hi0, hz0, hz1, hz2⟩ := info_parts info_u8
  have hN : Hid (decP plus s.data.toList = none → f = false ∧ ∀ e w', e = .returned (.tuple #[.string ⟨#[]⟩, .bool false]) → w.grownBy w' none → PlK plus s.data.toList w false e w') := fun h => by
    have hp : plainlyP plus s.data.toList = none := by unfold plainlyP; rw [h]; rfl
    refine ⟨by rw [hf, hp]; rfl, fun e w' he hg => ⟨_, he, (fun d hd => by rw [hp] at hd; cases hd), hg⟩⟩
  have hS : Hid (∀ acc, decP plus s.data.toList = some acc → f = acc.all prB ∧ ∀ e w', e = .returned (.tuple #[.string ⟨acc.toArray⟩, .bool f]) → w.grownBy w' none → PlK plus s.data.toList w f e w') := fun acc h => by
    have hp : plainlyP plus s.data.toList = if acc.all prB then some acc else none := by unfold plainlyP; rw [h]; rfl
    refine ⟨by rw [hf, hp]; cases acc.all prB <;> rfl, fun e w' he hg => ⟨_, he, (fun d hd => by
      rw [hp] at hd
      split at hd
      · cases hd; rfl
      · cases hd), hg⟩⟩
  have hA0 := AP.refl (OB.nil w.heap.size w)
  have hsh := Lib.hid hs
  clear hf
  go_enter Tryz.func45, Tryz.ntmps45
  go_wp2_with fail
  go_loopg [6, 7] s.size (fun n u6 u7 wr => ∃ (k : Nat) (acc : Bs), k ≤ s.size ∧ n = s.size - k ∧ u7 = .int .i64 k ∧ Hid (acc.length ≤ k) ∧ AP w.heap.size w (.slice none 0 0) acc u6 wr ∧ (acc = [] → u6 = .slice none 0 0) ∧ Hid (DN plus s k acc))
  case atStart => exact ⟨0, [], Nat.zero_le _, rfl, rfl, Nat.le_refl _, hA0, fun _ => rfl, DN.start plus s⟩
  case round =>
    obtain ⟨k, acc, hk, rfl, rfl, hal, hA, hnil, hU⟩ := hrel
    clear hA0
    by_cases hlt : k < s.size
    · have hki : (k : Int) < (s.size : Int) := by omega
      have hq1 := Lib.hid (show wrap64 ((k : Int) + 1) = ((k + 1 : Nat) : Int) from (wrap64_id (by omega) (by omega)).trans (by omega))
      have hal1 := Lib.hid (show acc.length + 1 ≤ k + 1 from Nat.succ_le_succ hal.out)
      have hal3 := Lib.hid (show acc.length + 1 ≤ k + 3 from Nat.le_trans (Nat.succ_le_succ hal.out) (by omega))
      by_cases h37 : s[k].toNat = 37
      · have hb37 : ((s[k].toNat : Int) == 37) = true := by simp; omega
        have hb43 : ((s[k].toNat : Int) == 43) = false := by simp; omega
        by_cases hk2 : k + 2 < s.size
        · have hu := hU.out.esc hk2 h37
          have hbad := hU.out.bad hk2 h37
          have hx1 := fun W => Lib.hid (rhex_any s[k + 1] W)
          have hx2 := fun W => Lib.hid (rhex_any s[k + 2] W)
          have hr1 := hexV_rng s[k + 1]
          have hr2 := hexV_rng s[k + 2]
          have g1 : wrap64 ((k : Int) + 1) = ((k + 1 : Nat) : Int) := (wrap64_id (by omega) (by omega)).trans (by omega)
          have g2 : wrap64 ((k : Int) + 2) = ((k + 2 : Nat) : Int) := (wrap64_id (by omega) (by omega)).trans (by omega)
          have i1 : ((k + 1 : Nat) : Int) < (s.size : Int) := by omega
          have i2 : ((k + 2 : Nat) : Int) < (s.size : Int) := by omega
          have i3 : ¬ (s.size : Int) ≤ ((k + 2 : Nat) : Int) := by omega
          generalize hexV s[k + 1] = a at *
          generalize hexV s[k + 2] = b at *
          clear hU
          by_cases ha : a < 0
          · obtain ⟨rfl, hr⟩ := hN.out (hbad (.inl ha))
            replace hr := Lib.hid hr
            clear hN hS hbad hu h37 hnil
            go_wp2_with (first
              | (go_at_call 76; refine ((hx1 _).out).mono ?_; rintro e w1 ⟨rfl, rfl⟩))
            refine bodyPost_ret (v := .tuple #[.string ⟨#[]⟩, .bool false]) (by simp [results, Tryz.results45, go_sem]) rfl ?_
            exact hr.out _ _ rfl hA.gb
          · by_cases hb : b < 0
            · obtain ⟨rfl, hr⟩ := hN.out (hbad (.inr hb))
              replace hr := Lib.hid hr
              clear hN hS hbad hu h37 hnil
              go_wp2_with (first
                | (go_at_call 76; have hmk := hc1; refine ((hx2 _).out).mono ?_; rintro e w1 ⟨rfl, rfl⟩)
                | (go_at_call 76; refine ((hx1 _).out).mono ?_; rintro e w1 ⟨rfl, rfl⟩; have hc1 := hx1))
              refine bodyPost_ret (v := .tuple #[.string ⟨#[]⟩, .bool false]) (by simp [results, Tryz.results45, go_sem]) rfl ?_
              exact hr.out _ _ rfl hA.gb
            · have hu := Lib.hid (hu (by omega) rfl)
              go_wp2_with (first
                | (go_at_call 76; have hmk := hc1; refine ((hx2 _).out).mono ?_; rintro e w1 ⟨rfl, rfl⟩)
                | (go_at_call 76; refine ((hx1 _).out).mono ?_; rintro e w1 ⟨rfl, rfl⟩; have hc1 := hx1))
              have w1' : IntKind.i64.wrap ((k : Int) + 1) = (k : Int) + 1 := wrap_id (by omega) (by omega)
              have w2' : IntKind.i64.wrap ((k : Int) + 2) = (k : Int) + 2 := wrap_id (by omega) (by omega)
              have w3' : IntKind.i64.wrap (16 * a) = 16 * a := wrap_id (by omega) (by omega)
              have w4' : IntKind.i64.wrap (16 * a + b) = 16 * a + b := wrap_id (by omega) (by omega)
              go_quiet (first
                | (go_at_call 76; with_reducible exact Calls.quiet_of_same (hx1 _).out)
                | (go_at_call 76; with_reducible exact Calls.quiet_of_same (hx2 _).out))
              have hv := hex_sum (a := a) (b := b) (by omega) (by omega) (by omega) (by omega)
              rw [hv]
              generalize UInt8.ofNat (16 * a.toNat + b.toNat) = x at *
              have hA2 := hA.drewN nq
              generalize World.drewN _ nq = wq at *
              clear hN hS hbad h37 hnil hx1 hx2 hv hr1 hr2
              go_wp2_with (first
                | (at_builtin; refine wpList_append_own_at _ rfl _ _ 22 rfl w.heap.size 5 i0 (.int .u8 0) 1 1 Tryz.underlying22 hi0 hz0 hz1 hz2 rfl (by decide) u6 _ _ rfl (hA2.own.alloc _) ⟨_, 0, none⟩ 1 1 [.int .u8 (x.toNat : Int)] rfl rfl (news_new _ _ rfl) (by simp [Value.oneCell']) (by have := hal.out; have := hsh.out; unfold maxLen; omega) (by have := hal.out; have := hsh.out; omega) (by have := (hA2.gb).size; simp at *; omega) ?_; intro v3 w3 hown3 hg3 _ hat3))
              have hA3 := hA2.step (news := [x]) rfl hown3 hg3 hat3
              go_roundg (s.size - (k + 3))
              case measure => omega
              case rel => exact ⟨k + 3, acc ++ [x], by omega, rfl, by go_num, by unfold Hid; rw [List.length_append]; exact hal3.out, hA3, fun h => by simp at h, hu.out⟩
        · obtain ⟨rfl, hr⟩ := hN.out (hU.out.short hlt h37 (by omega))
          replace hr := Lib.hid hr
          have i3 : (s.size : Int) ≤ (k : Int) + 2 := by omega
          clear hN hS hU h37 hnil
          go_wp2_with fail
          refine bodyPost_ret (v := .tuple #[.string ⟨#[]⟩, .bool false]) (by simp [results, Tryz.results45, go_sem]) rfl ?_
          exact hr.out _ _ rfl hA.gb
      · have hb37 : ((s[k].toNat : Int) == 37) = false := by simp; omega
        by_cases h43 : s[k].toNat = 43 ∧ plus = true
        · obtain ⟨h43, rfl⟩ := h43
          have hu := Lib.hid (hU.out.plus hlt h43)
          have hb43 : ((s[k].toNat : Int) == 43) = true := by simp; omega
          clear hN hS hU h37 hnil h43
          go_wp2_with (first
            | (at_builtin; refine wpList_append_own_at _ rfl _ _ 22 rfl w.heap.size 5 i0 (.int .u8 0) 1 1 Tryz.underlying22 hi0 hz0 hz1 hz2 rfl (by decide) u6 _ _ rfl (hA.own.alloc _) ⟨_, 0, none⟩ 1 1 [.int .u8 32] rfl rfl (news_new _ _ rfl) (by simp [Value.oneCell']) (by have := hal.out; have := hsh.out; unfold maxLen; omega) (by have := hal.out; have := hsh.out; omega) (by have := (hA.gb).size; simp at *; omega) ?_; intro v3 w3 hown3 hg3 _ hat3))
          have hA3 := hA.step (news := [32]) rfl hown3 hg3 hat3
          go_roundg (s.size - (k + 1))
          case measure => omega
          case rel => exact ⟨k + 1, acc ++ [32], hlt, rfl, by first | rw [hq1.out] | go_num, by unfold Hid; rw [List.length_append]; exact hal1.out, hA3, fun h => by simp at h, hu.out⟩
        · have hu := Lib.hid (hU.out.one hlt h37 h43)
          have hc43 : (s[k].toNat : Int) = 43 ∨ ¬ (s[k].toNat : Int) = 43 := by omega
          rcases hc43 with hc | hc
          · have hpf : plus = false := by
              cases plus with
              | false => rfl
              | true => exact absurd ⟨by omega, rfl⟩ h43
            subst hpf
            have hb43 : ((s[k].toNat : Int) == 43) = true := by simp; omega
            clear hN hS hU h37 h43 hc hnil
            go_wp2_with (first
              | (at_builtin; refine wpList_append_own_at _ rfl _ _ 22 rfl w.heap.size 5 i0 (.int .u8 0) 1 1 Tryz.underlying22 hi0 hz0 hz1 hz2 rfl (by decide) u6 _ _ rfl (hA.own.alloc _) ⟨_, 0, none⟩ 1 1 [.int .u8 (s[k].toNat : Int)] rfl rfl (news_new _ _ rfl) (by simp [Value.oneCell']) (by have := hal.out; have := hsh.out; unfold maxLen; omega) (by have := hal.out; have := hsh.out; omega) (by have := (hA.gb).size; simp at *; omega) ?_; intro v3 w3 hown3 hg3 _ hat3))
            have hA3 := hA.step (news := [s[k]]) rfl hown3 hg3 hat3
            go_roundg (s.size - (k + 1))
            case measure => omega
            case rel => exact ⟨k + 1, acc ++ [s[k]], hlt, rfl, by first | rw [hq1.out] | go_num, by unfold Hid; rw [List.length_append]; exact hal1.out, hA3, fun h => by simp at h, hu.out⟩
          · have hb43 : ((s[k].toNat : Int) == 43) = false := by simp; omega
            clear hN hS hU h37 h43 hc hnil
            go_wp2_with (first
              | (at_builtin; refine wpList_append_own_at _ rfl _ _ 22 rfl w.heap.size 5 i0 (.int .u8 0) 1 1 Tryz.underlying22 hi0 hz0 hz1 hz2 rfl (by decide) u6 _ _ rfl (hA.own.alloc _) ⟨_, 0, none⟩ 1 1 [.int .u8 (s[k].toNat : Int)] rfl rfl (news_new _ _ rfl) (by simp [Value.oneCell']) (by have := hal.out; have := hsh.out; unfold maxLen; omega) (by have := hal.out; have := hsh.out; omega) (by have := (hA.gb).size; simp at *; omega) ?_; intro v3 w3 hown3 hg3 _ hat3))
            have hA3 := hA.step (news := [s[k]]) rfl hown3 hg3 hat3
            go_roundg (s.size - (k + 1))
            case measure => omega
            case rel => exact ⟨k + 1, acc ++ [s[k]], hlt, rfl, by first | rw [hq1.out] | go_num, by unfold Hid; rw [List.length_append]; exact hal1.out, hA3, fun h => by simp at h, hu.out⟩
    · have hke : k = s.size := by omega
      subst hke
      have hni : ¬ ((s.size : Int) < (s.size : Int)) := by omega
      obtain ⟨hfa, hr⟩ := hS.out acc (hU.out.stop (Nat.le_refl _))
      replace hr := Lib.hid hr
      obtain ⟨T, hT⟩ : ∃ T : ByteArray, T = ⟨acc.toArray⟩ := ⟨_, rfl⟩
      have hTz : T.size ≤ 1000000000 := by
        have h1 := hal.out
        have h2 := hsh.out
        rw [hT]
        show acc.toArray.size ≤ _
        simp
        omega
      have hpl : ∀ W, Hid (Calls Tryz.prog 43 #[.string T, .int .u8 32] W fun e w' => e = .returned (.bool f) ∧ w' = W) := fun W => by
        have := rplain_any 32 T W hTz
        rw [rgB_pr, hT] at this
        rw [hfa, hT]
        exact this
      have hcv : ∀ n, (convert 22 9 u6).run Tryz.prog (wr.drewN n) = .ok (.string T) (wr.drewN n) := fun n => by
        by_cases h0 : acc = []
        · rw [hnil h0, hT, h0]
          exact conv_nil _
        · rw [hT]
          exact (hA.drewN n).own.conv h0
      replace hT := Lib.hid hT
      clear hN hS hU hnil hfa
      go_wp2_with fail
      go_quiet (first
        | (go_at_call 43; with_reducible exact Calls.quiet_of_same (hpl _).out))
      go_wp2_with fail
      refine bodyPost_ret (v := .tuple #[.string T, .bool f]) (by simp [results, Tryz.results45, go_sem]) rfl ?_
      exact hr.out _ _ (by rw [hT.out]) (gb_drewN hA.gb _)
theorem plainly_any (plus : Bool) (s : ByteArray) (w : World) (hs : s.size ≤ 1000000) :
    Calls Tryz.prog 45 #[.string s, .bool plus] w (PlK plus s.data.toList w (unesc plus s.data.toList).isSome) :=
  plainly_walk plus s w hs _ (by rw [plainly_eq plus _ _ (Nat.le_refl _)])
end Go.Proofs.YtdfgnoflohfnmaaGreatDoor.Hx
