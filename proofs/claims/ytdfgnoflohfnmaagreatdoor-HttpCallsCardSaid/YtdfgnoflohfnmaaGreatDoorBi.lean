/- HTTP: two responses are the same; a text with escapes. -/
import Derived.Test.YtdfgnoflohfnmaaGreatDoorBh
namespace Go.Proofs.YtdfgnoflohfnmaaGreatDoor.Hx
open Go.RowKit Go.Maps

set_option maxRecDepth 100000 in
set_option maxHeartbeats 400000 in
theorem same_resp (st : Int) (T : ByteArray) (cl : Bool) (A1 A2 : Option Addr) (c1 c2 : Nat) (body : Bs) (w : World) (h1 : BV w (.slice A1 body.length c1) body) (h2 : BV w (.slice A2 body.length c2) body) :
    Calls Tryz.prog 29 #[.agg #[.int .i64 st, .string T, .bool cl, .slice A1 body.length c1], .agg #[.int .i64 st, .string T, .bool cl, .slice A2 body.length c2]] w fun e w' => e = .returned (.bool true) ∧ w.grownBy w' none := by
  have e1 : ∀ W, w.grownBy W none → (convert 22 9 (.slice A1 body.length c1)).run Tryz.prog W = .ok (.string ⟨body.toArray⟩) W := fun W h => (h1.kp h).str
  have e2 : ∀ W, w.grownBy W none → (convert 22 9 (.slice A2 body.length c2)).run Tryz.prog W = .ok (.string ⟨body.toArray⟩) W := fun W h => (h2.kp h).str
  have g1 := gb_alloc (gb_refl w none) (.cells #[.int .i64 st, .string T, .bool cl, .slice A1 body.length c1] 44 (0, 0))
  have g2 := gb_alloc g1 (.cells #[.int .i64 st, .string T, .bool cl, .slice A2 body.length c2] 44 (0, 0))
  have x1 := e1 _ g2
  have x2 := e2 _ g2
  clear e1 e2 h1 h2 g1
  replace g2 := Lib.hid g2
  go_enter Tryz.func29, Tryz.ntmps29
  go_wp2_with fail
  go_ret
  exact ⟨rfl, g2.out⟩
/-! ### a builder's methods -/
abbrev IsB (w : World) (b : Nat) (l : Bs) : Prop := Lib.IsBuilder 124 5 b b (Lib.byteCells l) w
theorem wb_any (b : Nat) (l : Bs) (c : UInt8) (w : World) (h : IsB w b l) (hl : l.length ≤ 10000000000) (hb : b ≤ w.heap.size) :
    Calls Tryz.prog 84 #[.pointer (some ⟨b, 0, none⟩), .int .u8 (c.toNat : Int)] w fun e w' => e = .returned .nilIface ∧ IsB w' b (l ++ [c]) ∧ Below b w w' := by
  refine (Any.Builder_WriteByte { Tryz.lays159 with } Tryz.Builder_Extra_159 b b (Lib.byteCells l) (c.toNat : Int) w h (by rw [Lib.byteCells_length]; omega) hb).mono ?_
  rintro e w' ⟨rfl, h1, h2⟩
  refine ⟨rfl, .inr ?_, h2⟩
  rw [byteCells_app]
  exact h1
theorem ws_any (b : Nat) (l : Bs) (s : ByteArray) (w : World) (h : IsB w b l) (hl : l.length + s.size ≤ 10000000000) (hb : b ≤ w.heap.size) :
    Calls Tryz.prog 85 #[.pointer (some ⟨b, 0, none⟩), .string s] w fun e w' => e = .returned (.tuple #[.int .i64 s.size, .nilIface]) ∧ IsB w' b (l ++ s.data.toList) ∧ Below b w w' := by
  refine (Any.Builder_WriteString { Tryz.lays159 with } Tryz.Builder_Extra_159 b b (Lib.byteCells l) s w h (by rw [Lib.byteCells_length]; omega) hb).mono ?_
  rintro e w' ⟨rfl, h1, h2⟩
  refine ⟨rfl, .inr ?_, h2⟩
  rw [byteCells_app]
  exact h1
theorem bs_any (b : Nat) (l : Bs) (w : World) (h : IsB w b l) (hb : b ≤ w.heap.size) :
    Calls Tryz.prog 86 #[.pointer (some ⟨b, 0, none⟩)] w fun e w' => e = .returned (.string (btx l)) ∧ Below b w w' := Any.Builder_String_any { Tryz.lays159 with } Tryz.Builder_Extra_159 b b l w h hb
/-! ### escapes -/
def butT (slash : Bool) : ByteArray := if slash then ⟨#[47]⟩ else ⟨#[]⟩
theorem idx_safe (slash : Bool) (c : UInt8) : (decide (0 ≤ Lib.indexByte ((⟨#[45, 46, 95]⟩ : ByteArray) ++ butT slash).data.toList c)) = (decide (c.toNat = 45) || decide (c.toNat = 46) || decide (c.toNat = 95) || (slash && decide (c.toNat = 47))) := by
  have : ∀ s : Bool, ∀ n : Fin 256, (decide (0 ≤ Lib.indexByte ((⟨#[45, 46, 95]⟩ : ByteArray) ++ butT s).data.toList (UInt8.ofNat n.val))) = (decide ((UInt8.ofNat n.val).toNat = 45) || decide ((UInt8.ofNat n.val).toNat = 46) || decide ((UInt8.ofNat n.val).toNat = 95) || (s && decide ((UInt8.ofNat n.val).toNat = 47))) := by decide +kernel
  have h := this slash ⟨c.toNat, c.toNat_lt⟩
  rw [UInt8.ofNat_toNat] at h
  exact h
theorem esc_succ (slash : Bool) : ∀ (l : Bs) (c : UInt8), escP slash (l ++ [c]) = escP slash l ++ (if safeB slash c then [c] else [37, hexD (c.toNat / 16), hexD (c.toNat % 16)])
  | [], c => by simp only [List.nil_append, escP]
  | a :: t, c => by
    have ih := esc_succ slash t c
    rw [List.cons_append]
    unfold escP
    by_cases h : safeB slash a = true
    · rw [if_pos h, if_pos h, ih]; rfl
    · rw [if_neg h, if_neg h, ih]; rfl
theorem and15_u8 (n : Nat) (h : n < 256) : bits BinOp.and IntKind.u8 (n : Int) 15 = ((n % 16 : Nat) : Int) := by
  have : ∀ n : Fin 256, bits BinOp.and IntKind.u8 (n.val : Int) 15 = ((n.val % 16 : Nat) : Int) := by decide +kernel
  exact this ⟨n, h⟩
theorem hex_at (n : Nat) (h : n < 16) : (⟨#[48, 49, 50, 51, 52, 53, 54, 55, 56, 57, 65, 66, 67, 68, 69, 70]⟩ : ByteArray)[n]'h = hexD n := by
  have : ∀ n : Fin 16, (⟨#[48, 49, 50, 51, 52, 53, 54, 55, 56, 57, 65, 66, 67, 68, 69, 70]⟩ : ByteArray)[n.val]'n.isLt = hexD n.val := by decide +kernel
  exact this ⟨n, h⟩
theorem hex_enc (n : Nat) (h : n < 16) : Utf8.encode ((hexD n).toNat : Int) = ⟨#[hexD n]⟩ := by
  have : ∀ n : Fin 16, Utf8.encode ((hexD n.val).toNat : Int) = ⟨#[hexD n.val]⟩ := by decide +kernel
  exact this ⟨n, h⟩
theorem esc_len (slash : Bool) : ∀ l : Bs, (escP slash l).length ≤ 3 * l.length
  | [] => by simp [escP]
  | c :: t => by
    have ih := esc_len slash t
    unfold escP
    by_cases h : safeB slash c = true
    · rw [if_pos h, List.length_cons, List.length_cons]; omega
    · rw [if_neg h, List.length_cons, List.length_cons, List.length_cons, List.length_cons]; omega
theorem gb_low {a w w' : World} (h : a.grownBy w none) (k : Below a.heap.size w w') : a.grownBy w' none :=
  ⟨k.os.trans h.os, k.tape.trans h.tape, k.output.trans h.output, Nat.le_trans h.size k.size, fun i hi hn => (k.block i hi).trans (h.block i hi hn)⟩
set_option maxRecDepth 100000 in
set_option maxHeartbeats 400000 in
theorem esc_any (slash : Bool) (s : ByteArray) (w : World) (hs : s.size ≤ 1000000000) :
    Calls Tryz.prog 61 #[.string s, .string (butT slash)] w fun e w' => e = .returned (.string (btx (escP slash s.data.toList))) ∧ w.grownBy w' none := by
  obtain ⟨B, hB⟩ : ∃ B, w.heap.size = B := ⟨_, rfl⟩
  obtain ⟨T, hT⟩ : ∃ T, (⟨#[45, 46, 95]⟩ : ByteArray) ++ butT slash = T := ⟨_, rfl⟩
  have hadd : ∀ W, (Op.stringOp .add ⟨#[45, 46, 95]⟩ (butT slash)).run Tryz.prog W = .ok (.string T) W := fun W => by rw [← hT]; exact add_any _ _ (by decide) (by cases slash <;> decide) W
  have hidx := fun c => idx_safe slash c
  rw [hT] at hidx
  generalize butT slash = bt at *
  replace hidx := Lib.hid hidx
  replace hT := Lib.hid hT
  have hw0 : Hid (IsB (w.alloc (.cells #[.pointer none, .slice none 0 0] 124)) B [] ∧ w.grownBy (w.alloc (.cells #[.pointer none, .slice none 0 0] 124)) none) := by
    subst hB
    exact Lib.hid ⟨Lib.fresh_isBuilder _ _ w, gb_alloc (gb_refl _ _) _⟩
  go_enter Tryz.func61, Tryz.ntmps61
  go_wp2_with fail
  try rw [hB]
  go_loopg [10] s.size (fun z u10 wr => ∃ k : Nat, k ≤ s.size ∧ z = s.size - k ∧ u10 = .int .i64 k ∧ Hid (IsB wr B (escP slash (s.data.toList.take k))) ∧ Hid (w.grownBy wr none))
  case atStart => exact ⟨0, Nat.zero_le _, rfl, rfl, Lib.hid hw0.out.1, Lib.hid hw0.out.2⟩
  case round =>
    obtain ⟨k, hk, rfl, rfl, hI, hg⟩ := hrel
    have hBr : B ≤ wr.heap.size := by rw [← hB]; exact hg.out.size
    have hlen : (escP slash (s.data.toList.take k)).length ≤ 3000000000 := by
      have := esc_len slash (s.data.toList.take k)
      have := List.length_take_le k s.data.toList
      omega
    by_cases hlt : k < s.size
    · have hki : (k : Int) < (s.size : Int) := by omega
      have hq1 := Lib.hid (show wrap64 ((k : Int) + 1) = ((k + 1 : Nat) : Int) from (wrap64_id (by omega) (by omega)).trans (by omega))
      have htk : s.data.toList.take (k + 1) = s.data.toList.take k ++ [s[k]] := List.take_succ_eq_append_getElem (show k < s.data.toList.length from hlt)
      have hes := Lib.hid (esc_succ slash (s.data.toList.take k) s[k])
      rw [← htk] at hes
      clear htk
      go_upto_region 6 with fail
      go_cut [28] from 16 to 27 (fun u28 wx => u28 = .bool (safeB slash s[k]) ∧ wx = wr)
      case first =>
        cases hl : letB s[k] with
        | true =>
          have hr1 : Hid (safeB slash s[k] = true) := by unfold Hid safeB; rw [hl]; rfl
          have hc1 := fun W => Lib.hid (letter_any s[k] W)
          rw [hl] at hc1
          clear hidx hadd hl
          go_wp2_with (first
            | (go_at_call 82; refine ((hc1 _).out).mono ?_; rintro e w1 ⟨rfl, rfl⟩))
          go_meet
          exact ⟨by rw [hr1.out], rfl⟩
        | false =>
          have hc1 := fun W => Lib.hid (letter_any s[k] W)
          rw [hl] at hc1
          cases hd : digB s[k] with
          | true =>
            have hr1 : Hid (safeB slash s[k] = true) := by unfold Hid safeB; rw [hl, hd]; rfl
            have hc2 := fun W => Lib.hid (digit_any s[k] W)
            rw [hd] at hc2
            clear hidx hadd hl hd
            go_wp2_with (first
              | (go_at_call 82; refine ((hc1 _).out).mono ?_; rintro e w1 ⟨rfl, rfl⟩)
              | (go_at_call 78; refine ((hc2 _).out).mono ?_; rintro e w1 ⟨rfl, rfl⟩))
            go_meet
            exact ⟨by rw [hr1.out], rfl⟩
          | false =>
            have hc2 := fun W => Lib.hid (digit_any s[k] W)
            rw [hd] at hc2
            have hc3 := fun W => Lib.hid (Tryz.strings_IndexByte T (s[k].toNat : Int) W)
            rw [show ((s[k].toNat : Int)).toNat.toUInt8 = s[k] from by rw [Int.toNat_natCast]; exact UInt8.ofNat_toNat] at hc3
            have hj := hidx.out s[k]
            have hr1 : safeB slash s[k] = decide (0 ≤ Lib.indexByte T.data.toList s[k]) := by rw [hj]; unfold safeB; rw [hl, hd]; rfl
            generalize Lib.indexByte T.data.toList s[k] = J at *
            replace hr1 := Lib.hid hr1
            clear hidx hl hd hj
            go_wp2_with (first
              | (go_at_call 82; refine ((hc1 _).out).mono ?_; rintro e w1 ⟨rfl, rfl⟩)
              | (go_at_call 78; refine ((hc2 _).out).mono ?_; rintro e w1 ⟨rfl, rfl⟩)
              | (go_at_call 83; refine ((hc3 _).out).mono ?_; rintro e w1 ⟨rfl, rfl⟩))
            go_meet
            exact ⟨by rw [hr1.out], rfl⟩
      case rest =>
      obtain ⟨rfl, rfl⟩ := hcut
      clear hidx hadd
      have hbuilder := hI
      cases hsb : safeB slash s[k] with
      | true =>
        rw [hsb, if_pos rfl] at hes
        have hwb := Lib.hid (wb_any B _ s[k] wc hI.out (by omega) hBr)
        go_wp2_with (first
          | (go_at_call 84; refine (hwb.out).mono ?_; rintro e w2 ⟨rfl, hI2, hb2⟩; replace hI2 := Lib.hid hI2; replace hb2 := Lib.hid hb2))
        go_roundg (s.size - (k + 1))
        case measure => omega
        case rel => exact ⟨k + 1, hlt, rfl, by first | rw [hq1.out] | go_num, by rw [hes.out]; exact hI2, Lib.hid (gb_low hg.out (by rw [hB]; exact hb2.out))⟩
      | false =>
        rw [hsb, if_neg (by decide)] at hes
        go_upto_region 8 with fail
        have hn256 : s[k].toNat < 256 := s[k].toNat_lt
        obtain ⟨hi, hhi⟩ : ∃ j, s[k].toNat / 16 = j := ⟨_, rfl⟩
        obtain ⟨lo, hlo⟩ : ∃ j, s[k].toNat % 16 = j := ⟨_, rfl⟩
        have hi16 : hi < 16 := by omega
        have lo16 : lo < 16 := by omega
        have hshr : (s[k].toNat : Int) / 16 = (hi : Int) := by omega
        have hand : bits BinOp.and IntKind.u8 (s[k].toNat : Int) 15 = (lo : Int) := by rw [and15_u8 _ hn256, hlo]
        rw [hhi, hlo] at hes
        obtain ⟨HI, hHI⟩ : ∃ c, hexD hi = c := ⟨_, rfl⟩
        obtain ⟨LO, hLO⟩ : ∃ c, hexD lo = c := ⟨_, rfl⟩
        have ix1 : ∀ h : hi < 16, (⟨#[48, 49, 50, 51, 52, 53, 54, 55, 56, 57, 65, 66, 67, 68, 69, 70]⟩ : ByteArray)[hi]'h = HI := fun h => by rw [← hHI]; exact hex_at hi h
        have ix2 : ∀ h : lo < 16, (⟨#[48, 49, 50, 51, 52, 53, 54, 55, 56, 57, 65, 66, 67, 68, 69, 70]⟩ : ByteArray)[lo]'h = LO := fun h => by rw [← hLO]; exact hex_at lo h
        have us1 : (Utf8.encode (HI.toNat : Int)) = ⟨#[HI]⟩ := by rw [← hHI]; exact hex_enc hi hi16
        have us2 : (Utf8.encode (LO.toNat : Int)) = ⟨#[LO]⟩ := by rw [← hLO]; exact hex_enc lo lo16
        rw [hHI, hLO] at hes
        have i0 : (0 : Int) ≤ (hi : Int) := by omega
        have i1 : (hi : Int) < 16 := by omega
        have j0 : (0 : Int) ≤ (lo : Int) := by omega
        have j1 : (lo : Int) < 16 := by omega
        have a1 : ∀ W, (Op.stringOp .add ⟨#[37]⟩ ⟨#[HI]⟩).run Tryz.prog W = .ok (.string ⟨#[37, HI]⟩) W := fun W => add_any _ _ (by decide) (by show 1 ≤ 100000000; decide) W
        have a2 : ∀ W, (Op.stringOp .add ⟨#[37, HI]⟩ ⟨#[LO]⟩).run Tryz.prog W = .ok (.string ⟨#[37, HI, LO]⟩) W := fun W => add_any _ _ (by show 2 ≤ 100000000; decide) (by show 1 ≤ 100000000; decide) W
        have hws := fun (n : Nat) (W : World) (hW : W = wc.drewN n) => Lib.hid (ws_any B _ ⟨#[37, HI, LO]⟩ W (by subst hW; exact hI.out) (by show _ + 3 ≤ _; omega) (by subst hW; simpa using hBr))
        clear hhi hlo hHI hLO hsb
        go_region_with (first
          | (go_at_call 85; refine ((hws _ _ rfl).out).mono ?_; rintro e w2 ⟨rfl, hI2, hb2⟩; replace hI2 := Lib.hid hI2; replace hb2 := Lib.hid hb2))
        all_goals
          go_wp2_with fail
          go_roundg (s.size - (k + 1))
          case measure => omega
          case rel => exact ⟨k + 1, hlt, rfl, by first | rw [hq1.out] | go_num, by rw [hes.out]; exact hI2, Lib.hid (gb_low (gb_drewN hg.out _) (by rw [hB]; exact hb2.out))⟩
    · have hke : k = s.size := by omega
      subst hke
      have hni : ¬ ((s.size : Int) < (s.size : Int)) := by omega
      have hbs := Lib.hid (bs_any B _ wr hI.out hBr)
      clear hidx hadd
      go_wp2_with (first
        | (go_at_call 86; refine (hbs.out).mono ?_; rintro e w2 ⟨rfl, hb2⟩; replace hb2 := Lib.hid hb2))
      go_ret
      exact ⟨by rw [show s.size = s.data.toList.length from rfl, List.take_length]; rfl, gb_low hg.out (by rw [hB]; exact hb2.out)⟩
end Go.Proofs.YtdfgnoflohfnmaaGreatDoor.Hx
