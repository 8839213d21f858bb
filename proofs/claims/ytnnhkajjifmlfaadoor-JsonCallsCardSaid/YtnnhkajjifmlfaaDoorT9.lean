/- Values, told: json.text. -/
import Derived.Test.YtnnhkajjifmlfaaDoorT8
import Derived.Test.YtnnhkajjifmlfaaDoorShelfC
import Derived.Lib.LaidTab
namespace Go.Proofs.YtnnhkajjifmlfaaDoor
open Go.RowKit Go.Maps

theorem JB.others {w w' : World} {B0 b : Nat} {a0 a1 a2 a3 a4 : Value} (h : JB w B0 a0 a1 a2 a3 a4) (ho : Lib.OthersKept 5 (some b) w w') (hne : B0 ≠ b) : JB w' B0 a0 a1 a2 a3 a4 :=
  ho B0 _ h (by simpa using hne) (fun c fz => by simp)
theorem gb_grow (w : World) (k : Nat) (os : Array Obj) : w.grownBy (Go.Sort.grow (w.drewN k) os) none := by
  refine ⟨rfl, rfl, rfl, by simp [Go.Sort.grow], fun i hi _ => ?_⟩
  simp only [Go.Sort.grow]
  rw [Array.getElem?_append_left (by exact hi)]
  rfl
/-- the table of powers of ten -/
def PT (w : World) : Prop := Lib.TabIs Tryd.prog w "internal/strconv.uint64pow10" .u64 Lib.pow10Tab
/-- it stands behind whatever keeps the blocks below B -/
def PB (B : Nat) (w : World) : Prop := ∀ W, Below B w W → PT W
theorem PB.to {B : Nat} {w w' : World} (h : PB B w) (k : Below B w w') : PB B w' := fun W hW => h W (k.trans hW)
/-- what text does: the builder has the value's text behind what it had -/
def TellC (j : J) : Prop := ∀ (B b : Nat) (acc : List UInt8) (S : Nat → Prop) (v : Value) (w : World), BT B b acc w → acc.length + 30 * szJ j ≤ 900000000 → B ≤ w.heap.size → b < w.heap.size → (∀ x, S x → x < B) → PB B w → JAt w S j v → fineP j = true →
    Calls Tryd.prog 48 #[.pointer (some ⟨b, 0, none⟩), v] w fun e w' => e = .returned (.tuple #[]) ∧ BT B b (acc ++ textJ j) w' ∧ Below B w w' ∧ Lib.OthersKept 5 (some b) w w'

theorem formatInt_any (n : Int) (h0 : -9223372036854775808 ≤ n) (h1 : n ≤ 9223372036854775807) (w : World) (hT : PT w) :
    Calls Tryd.prog 95 #[.int .i64 n, .int .i64 10] w fun e w' => e = .returned (.string ⟨(Lib.itoa n).toArray⟩) ∧ w.grownBy w' none := by
  refine (Tryd.strconv_FormatInt_10 n h0 h1 w hT).mono ?_
  rintro e w' ⟨rfl, k, os, rfl⟩
  exact ⟨rfl, gb_grow w k os⟩

set_option maxRecDepth 100000 in
set_option maxHeartbeats 1600000 in
theorem tell_1 (n : Int) (t : ByteArray) (names : List ByteArray) (list : List J) : TellC (.mk 1 n t names list) := by
  intro B b acc S v w hb hl hB hbl hS hP hv hf
  obtain ⟨nv, lv, rfl, hN, hL⟩ := hv.parts
  have hg1 : w.grownBy (w.alloc (.cells #[.int .i64 1, .int .i64 n, .string t, nv, lv] 26)) none := gb_alloc (gb_refl w none) _
  have J0 := JB.new w (.int .i64 1) (.int .i64 n) (.string t) nv lv
  obtain ⟨d0, d1, d2, d3, d4, df⟩ := J0.all
  have hT : Hid (textJ (.mk 1 n t names list) = (⟨#[110, 117, 108, 108]⟩ : ByteArray).data.toList) := by unfold Hid; rw [textJ]; rfl
  have HW := fun (W : World) (h : BT B b acc W) (hB : B ≤ W.heap.size) => Lib.hid (bt_text B b acc ⟨#[110, 117, 108, 108]⟩ W h (by show acc.length + 4 ≤ _; omega) hB)
  have h4 : (⟨#[110, 117, 108, 108]⟩ : ByteArray).size = 4 := rfl
  clear hv hN hL hf hl
  go_enter Tryd.func48, Tryd.ntmps48
  go_wp2_with (first
    | (go_at_call 93; refine ((HW _ (isb_kept hb hg1) (Nat.le_trans hB hg1.size)).out).mono ?_; rintro e w2 ⟨rfl, hb2, hl2, ho2⟩))
  go_end0
  exact ⟨rfl, by rw [hT.out]; exact hb2, (below_gb' hg1 hB).trans hl2, (kept_gb hg1).trans ho2⟩
set_option maxRecDepth 100000 in
set_option maxHeartbeats 1600000 in
theorem tell_2 (n : Int) (t : ByteArray) (names : List ByteArray) (list : List J) : TellC (.mk 2 n t names list) := by
  intro B b acc S v w hb hl hB hbl hS hP hv hf
  obtain ⟨nv, lv, rfl, hN, hL⟩ := hv.parts
  have hg1 : w.grownBy (w.alloc (.cells #[.int .i64 2, .int .i64 n, .string t, nv, lv] 26)) none := gb_alloc (gb_refl w none) _
  have J0 := JB.new w (.int .i64 2) (.int .i64 n) (.string t) nv lv
  obtain ⟨d0, d1, d2, d3, d4, df⟩ := J0.all
  have hT : Hid (textJ (.mk 2 n t names list) = (⟨(Lib.formatBool (n == 1)).toArray⟩ : ByteArray).data.toList) := by
    unfold Hid; rw [textJ]
    by_cases h : n = 1
    · subst h; rfl
    · rw [if_neg (by decide), if_pos rfl, if_neg h, show (n == 1) = false from by simpa using h]; rfl
  have hlen : (⟨(Lib.formatBool (n == 1)).toArray⟩ : ByteArray).size ≤ 10 := by
    cases (n == 1) <;> decide
  have HF := fun (W : World) => Lib.hid (Tryd.strconv_FormatBool (n == 1) W)
  generalize hX : (⟨(Lib.formatBool (n == 1)).toArray⟩ : ByteArray) = X at *
  have HW := fun (W : World) (h : BT B b acc W) (hB : B ≤ W.heap.size) => Lib.hid (bt_text B b acc X W h (by omega) hB)
  clear hv hN hL hf hl hX hlen
  go_enter Tryd.func48, Tryd.ntmps48
  go_wp2_with (first
    | (go_at_call 93; refine ((HW _ (isb_kept hb hg1) (Nat.le_trans hB hg1.size)).out).mono ?_; rintro e w2 ⟨rfl, hb2, hl2, ho2⟩)
    | (go_at_call 94; refine ((HF _).out).mono ?_; rintro e w3 ⟨rfl, rfl⟩))
  go_end0
  exact ⟨rfl, by rw [hT.out]; exact hb2, (below_gb' hg1 hB).trans hl2, (kept_gb hg1).trans ho2⟩
set_option maxRecDepth 100000 in
set_option maxHeartbeats 1600000 in
theorem tell_3 (n : Int) (t : ByteArray) (names : List ByteArray) (list : List J) (h0 : -9223372036854775808 ≤ n) (h1 : n ≤ 9223372036854775807) : TellC (.mk 3 n t names list) := by
  intro B b acc S v w hb hl hB hbl hS hP hv hf
  obtain ⟨nv, lv, rfl, hN, hL⟩ := hv.parts
  have hg1 : w.grownBy (w.alloc (.cells #[.int .i64 3, .int .i64 n, .string t, nv, lv] 26)) none := gb_alloc (gb_refl w none) _
  have J0 := JB.new w (.int .i64 3) (.int .i64 n) (.string t) nv lv
  obtain ⟨d0, d1, d2, d3, d4, df⟩ := J0.all
  have hT : Hid (textJ (.mk 3 n t names list) = (⟨(Lib.itoa n).toArray⟩ : ByteArray).data.toList) := by unfold Hid; rw [textJ]; rfl
  have hlen : (⟨(Lib.itoa n).toArray⟩ : ByteArray).size ≤ 21 := by
    have := Lib.itoa_length_le n h0 h1
    show (Lib.itoa n).toArray.size ≤ _
    rw [List.size_toArray]; exact this
  have HF := fun (W : World) (hP : PT W) => Lib.hid (formatInt_any n h0 h1 W hP)
  generalize hX : (⟨(Lib.itoa n).toArray⟩ : ByteArray) = X at *
  have HW := fun (W : World) (h : BT B b acc W) (hB : B ≤ W.heap.size) => Lib.hid (bt_text B b acc X W h (by omega) hB)
  clear hv hN hL hf hl hX hlen h0 h1
  go_enter Tryd.func48, Tryd.ntmps48
  go_wp2_with (first
    | (go_at_call 93; refine ((HW _ (isb_kept hb (gb_trans hg1 hg3)) (Nat.le_trans hB (gb_trans hg1 hg3).size)).out).mono ?_; rintro e w2 ⟨rfl, hb2, hl2, ho2⟩)
    | (go_at_call 95; refine ((HF _ (hP _ (below_gb' hg1 hB))).out).mono ?_; rintro e w3 ⟨rfl, hg3⟩))
  go_end0
  exact ⟨rfl, by rw [hT.out]; exact hb2, (below_gb' (gb_trans hg1 hg3) hB).trans hl2, (kept_gb (gb_trans hg1 hg3)).trans ho2⟩
set_option maxRecDepth 100000 in
set_option maxHeartbeats 1600000 in
theorem tell_4 (n : Int) (t : ByteArray) (names : List ByteArray) (list : List J) : TellC (.mk 4 n t names list) := by
  intro B b acc S v w hb hl hB hbl hS hP hv hf
  obtain ⟨nv, lv, rfl, hN, hL⟩ := hv.parts
  have hg1 : w.grownBy (w.alloc (.cells #[.int .i64 4, .int .i64 n, .string t, nv, lv] 26)) none := gb_alloc (gb_refl w none) _
  have J0 := JB.new w (.int .i64 4) (.int .i64 n) (.string t) nv lv
  obtain ⟨d0, d1, d2, d3, d4, df⟩ := J0.all
  have hT : Hid (textJ (.mk 4 n t names list) = 34 :: (qlist t.data.toList ++ [34])) := by unfold Hid; rw [textJ]; rfl
  rw [szJ] at hl
  have HW := fun (W : World) (h : BT B b acc W) (hB : B ≤ W.heap.size) (hb : b < W.heap.size) => Lib.hid (quote_any B b acc t W h (by omega) hB hb)
  clear hv hN hL hf hl
  go_enter Tryd.func48, Tryd.ntmps48
  go_wp2_with (first
    | (go_at_call 51; refine ((HW _ (isb_kept hb hg1) (Nat.le_trans hB hg1.size) (Nat.lt_of_lt_of_le hbl hg1.size)).out).mono ?_; rintro e w2 ⟨rfl, hb2, hl2, ho2⟩))
  go_end0
  exact ⟨rfl, by rw [hT.out]; exact hb2, (below_gb' hg1 hB).trans hl2, (kept_gb hg1).trans ho2⟩
end Go.Proofs.YtnnhkajjifmlfaaDoor
