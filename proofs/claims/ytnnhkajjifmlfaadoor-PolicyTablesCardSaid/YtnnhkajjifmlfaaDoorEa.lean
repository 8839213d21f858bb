/- Policies: sums of bytes (crc.Update, crc.Sum): the walks. -/
import Derived.Test.YtnnhkajjifmlfaaDoorPu
import Derived.Laws.BitsAllLaws
namespace Go.Proofs.YtnnhkajjifmlfaaDoor.Pl
open Go.RowKit Go.Maps

/-- a register behind one bit -/
def stepN (x : Nat) : Nat := (x / 2) ^^^ (2197175160 * (x % 2))
def stepsN : Nat → Nat → Nat
  | 0, x => x
  | k + 1, x => stepsN k (stepN x)
def tabN (i : Nat) : Nat := stepsN 8 i
def updN (s b : Nat) : Nat := tabN ((s % 256) ^^^ b) ^^^ (s / 256)
def foldN : List UInt8 → Nat → Nat
  | [], s => s
  | c :: r, s => foldN r (updN s c.toNat)
def notN (s : Nat) : Nat := 4294967295 ^^^ s
def crcN (s : Nat) (l : List UInt8) : Nat := notN (foldN l (notN s))
theorem xor32 {a b : Nat} (ha : a < 4294967296) (hb : b < 4294967296) : a ^^^ b < 4294967296 := Nat.xor_lt_two_pow (n := 32) ha hb
theorem stepN_lt {x : Nat} (h : x < 4294967296) : stepN x < 4294967296 := by
  unfold stepN
  exact xor32 (by omega) (by omega)
theorem stepsN_lt : ∀ (k : Nat) {x : Nat}, x < 4294967296 → stepsN k x < 4294967296
  | 0, _, h => h
  | k + 1, _, h => stepsN_lt k (stepN_lt h)
theorem tabN_lt {i : Nat} (h : i < 256) : tabN i < 4294967296 := stepsN_lt 8 (by omega)
theorem xor8 {a b : Nat} (ha : a < 256) (hb : b < 256) : a ^^^ b < 256 := Nat.xor_lt_two_pow (n := 8) ha hb
theorem updN_lt {s b : Nat} (hs : s < 4294967296) (hb : b < 256) : updN s b < 4294967296 := by
  unfold updN
  exact xor32 (tabN_lt (xor8 (by omega) hb)) (by omega)
theorem notN_lt {s : Nat} (hs : s < 4294967296) : notN s < 4294967296 := xor32 (by omega) hs
theorem foldN_lt : ∀ (l : List UInt8) {s : Nat}, s < 4294967296 → foldN l s < 4294967296
  | [], _, h => h
  | c :: r, _, h => foldN_lt r (updN_lt h (UInt8.toNat_lt c))
theorem crcN_lt (s : Nat) (l : List UInt8) (h : s < 4294967296) : crcN s l < 4294967296 := notN_lt (foldN_lt l (notN_lt h))
/-- the table, laid up to i -/
def tabV (i : Nat) : List Value := (List.range 256).map fun j => .int .u32 ((if j < i then tabN j else 0 : Nat) : Int)
/-- bytes in memory -/
def BytesAt (w : World) (S : Nat → Prop) (v : Value) (l : List UInt8) : Prop :=
  ∃ A c, v = .slice A l.length c ∧ (0 < l.length → ∃ b o, A = some ⟨b, o, none⟩ ∧ S b ∧ ∀ i (h : i < l.length), w.cell? ⟨b, o + i, none⟩ = some (.int .u8 l[i].toNat))
/-- the table's block -/
def CB (w : World) (T i : Nat) : Prop := w.heap[T]? = some (.cells (tabV i).toArray 175 (0, 0))
theorem tabV_len (i : Nat) : (tabV i).length = 256 := by unfold tabV; simp
theorem tabV_get (i j : Nat) (h : j < 256) : (tabV i)[j]? = some (.int .u32 ((if j < i then tabN j else 0 : Nat) : Int)) := by
  unfold tabV
  rw [List.getElem?_map, List.getElem?_range h]
  rfl
theorem tabV_set (i : Nat) (h : i < 256) : (tabV i).set i (.int .u32 (tabN i)) = tabV (i + 1) := by
  apply List.ext_getElem?
  intro j
  by_cases hj : j < 256
  · by_cases e : i = j
    · subst e
      rw [List.getElem?_set_self (by rw [tabV_len]; exact h), tabV_get _ _ h, if_pos (by omega)]
    · rw [List.getElem?_set_ne e, tabV_get _ _ hj, tabV_get _ _ hj]
      have : (j < i) ↔ (j < i + 1) := by omega
      simp only [this]
  · rw [List.getElem?_eq_none (by rw [List.length_set, tabV_len]; omega), List.getElem?_eq_none (by rw [tabV_len]; omega)]
theorem zero175 : Tryd.zeroCells175 = (tabV 0).toArray := by kernel_rfl
section
variable {w w' : World} {T i : Nat}
theorem CB.lt (h : CB w T i) : T < w.heap.size := (Array.getElem?_eq_some_iff.1 h).1
theorem CB.at_ (h : CB w T i) {j : Nat} (hj : j < 256) : w.cell? ⟨T, j, none⟩ = some (.int .u32 ((if j < i then tabN j else 0 : Nat) : Int)) := by
  rw [cell_of_row w T j _ _ _ h, List.getElem?_toArray, tabV_get i j hj]
theorem CB.f (h : CB w T i) (j : Nat) : w.frozen? ⟨T, j, none⟩ = false := by unfold CB at h; simp [World.frozen?, h]
theorem CB.set (h : CB w T i) (hi : i < 256) : CB (w.setCell ⟨T, i, none⟩ (.int .u32 (tabN i))) T (i + 1) := by
  unfold CB at h ⊢
  rw [← tabV_set i hi]
  simp [World.setCell, Array.getElem?_modify, h]
theorem CB.grown (h : CB w T i) {row : Option Nat} (hg : w.grownBy w' row) (hne : some T ≠ row) : CB w' T i := (hg.block T h.lt hne).trans h
end
theorem step_op {x : Nat} (h : x < 4294967296) : bits .xor .u32 ((x : Int) / 2) (2197175160 * bits .and .u32 (x : Int) 1 % 4294967296) = (stepN x : Int) := by
  have e1 : bits .and .u32 (x : Int) 1 = ((x % 2 : Nat) : Int) := by
    have := u32_and_nat x 1 h (by omega)
    rw [Nat.and_one_is_mod] at this
    exact this
  rw [e1]
  have e2 : (2197175160 * ((x % 2 : Nat) : Int) % 4294967296) = ((2197175160 * (x % 2) : Nat) : Int) := by omega
  have e3 : (x : Int) / 2 = ((x / 2 : Nat) : Int) := by omega
  rw [e2, e3, u32_xor_nat _ _ (by omega) (by omega)]
  rfl
theorem not_op {s : Nat} (h : s < 4294967296) : bits .xor .u32 IntKind.u32.max (s : Int) = (notN s : Int) := by
  have e : IntKind.u32.max = ((4294967295 : Nat) : Int) := by decide
  rw [e]
  exact u32_xor_nat 4294967295 s (by omega) h
theorem ix_op {s b : Nat} (_h : s < 4294967296) (hb : b < 256) : bits .xor .u8 ((s : Int) % 256) (b : Int) = (((s % 256) ^^^ b : Nat) : Int) := by
  have e : (s : Int) % 256 = ((s % 256 : Nat) : Int) := by omega
  rw [e, u8_xor_nat _ _ (by omega) hb]
theorem upd_op {s b : Nat} (h : s < 4294967296) (hb : b < 256) : bits .xor .u32 (tabN ((s % 256) ^^^ b) : Int) ((s : Int) / 256) = (updN s b : Int) := by
  have e : (s : Int) / 256 = ((s / 256 : Nat) : Int) := by omega
  rw [e, u32_xor_nat _ _ (tabN_lt (xor8 (by omega) hb)) (by omega)]
  rfl
theorem foldN_drop (l : List UInt8) (q : Nat) (h : q < l.length) (s : Nat) : foldN (l.drop q) s = foldN (l.drop (q + 1)) (updN s l[q].toNat) := by
  rw [List.drop_eq_getElem_cons h]; rfl
set_option maxRecDepth 100000 in
set_option maxHeartbeats 3200000 in
theorem update_any (s : Nat) (l : List UInt8) (S : Nat → Prop) (v : Value) (w : World) (hs : s < 4294967296) (hl : l.length ≤ 1000000) (h : BytesAt w S v l) (_hS : ∀ b, S b → b < w.heap.size) :
    Calls Tryd.prog 148 #[.int .u32 s, v] w fun e w' => e = .returned (.int .u32 (crcN s l)) ∧ w.grownBy w' none := by
  obtain ⟨A, c, rfl, hA⟩ := h
  have c0 : CB (w.alloc (.cells Tryd.zeroCells175 175)) w.heap.size 0 := by rw [zero175]; exact heap_alloc_new w _
  have g0 := gb_alloc (gb_refl w none) (.cells Tryd.zeroCells175 175)
  go_enter Tryd.func148, Tryd.ntmps148
  go_wp2_with fail
  generalize w.alloc (.cells Tryd.zeroCells175 175) = W at *
  go_loopg [10] 256 (fun z u10 wr => ∃ i : Nat, i ≤ 256 ∧ z = 256 - i ∧ u10 = .int .i64 i ∧ CB wr w.heap.size i ∧ w.grownBy wr none)
  case atStart => exact ⟨0, by omega, rfl, rfl, c0, g0⟩
  case round =>
    clear c0 g0
    obtain ⟨i, hi, rfl, rfl, hc, hg⟩ := hrel
    by_cases hlt : i < 256
    · have hiI : (i : Int) < 256 := by omega
      have hi0 : (0 : Int) ≤ (i : Int) := by omega
      have hq1 := Lib.hid (show wrap64 ((i : Int) + 1) = ((i + 1 : Nat) : Int) from (wrap64_id (by omega) (by omega)).trans (by omega))
      go_wp2_with fail
      go_loopg [7, 15] 8 (fun z u7 u15 wr2 => ∃ (k x : Nat), k ≤ 8 ∧ z = 8 - k ∧ u7 = .int .u32 x ∧ u15 = .int .i64 k ∧ x < 4294967296 ∧ Hid (stepsN (8 - k) x = tabN i) ∧ wr2 = wr)
      case atStart => exact ⟨0, i, by omega, rfl, by first | rfl | (congr 1; omega), rfl, by omega, rfl, rfl⟩
      case round =>
        obtain ⟨k, x, hk, rfl, rfl, rfl, hx, hst, rfl⟩ := hrel
        by_cases hk8 : k < 8
        · have hkI : (k : Int) < 8 := by omega
          have hso := step_op hx
          have hxl := stepN_lt hx
          have hq2 := Lib.hid (show wrap64 ((k : Int) + 1) = ((k + 1 : Nat) : Int) from (wrap64_id (by omega) (by omega)).trans (by omega))
          have hst2 : Hid (stepsN (8 - (k + 1)) (stepN x) = tabN i) := by
            have := hst.out
            rw [show 8 - k = (8 - (k + 1)) + 1 from by omega, stepsN] at this
            exact this
          clear hst
          go_wp2_with fail
          go_roundg (8 - (k + 1))
          case measure => omega
          case rel => exact ⟨k + 1, stepN x, by omega, rfl, by first | rw [hso] | rfl, by first | rw [hq2.out] | go_num, hxl, hst2, rfl⟩
        · obtain rfl : k = 8 := by omega
          obtain rfl : x = tabN i := hst.out
          have f := hc.f i
          have cc := hc.at_ hlt
          have hc2 := hc.set hlt
          have hg2 := gb_setN hg (Nat.le_refl w.heap.size) i (.int .u32 (tabN i))
          clear hst
          go_wp2_with fail
          go_roundg (256 - (i + 1))
          case measure => omega
          case rel => exact ⟨i + 1, hlt, rfl, by first | rw [hq1.out] | go_num, hc2, hg2⟩
    · obtain rfl : i = 256 := by omega
      have hno := not_op hs
      go_wp2_with fail
      go_loopg [0, 32] l.length (fun z u0 u32 wr2 => ∃ (q x : Nat), q ≤ l.length ∧ z = l.length - q ∧ u0 = .int .u32 x ∧ u32 = .int .i64 q ∧ x < 4294967296 ∧ Hid (foldN (l.drop q) x = foldN l (notN s)) ∧ wr2 = wr)
      case atStart => exact ⟨0, notN s, Nat.zero_le _, rfl, by first | rw [hno] | rfl, rfl, notN_lt hs, rfl, rfl⟩
      case round =>
        obtain ⟨q, x, hq, rfl, rfl, rfl, hx, hst, rfl⟩ := hrel
        by_cases hlt : q < l.length
        · obtain ⟨b, o, rfl, hSb, hcell⟩ := hA (by omega)
          have hqI : (q : Int) < (l.length : Int) := by omega
          have cq := cell_grown (hcell q hlt) hg (by simp)
          have hq1 := Lib.hid (show wrap64 ((q : Int) + 1) = ((q + 1 : Nat) : Int) from (wrap64_id (by omega) (by omega)).trans (by omega))
          have hst2 : Hid (foldN (l.drop (q + 1)) (updN x l[q].toNat) = foldN l (notN s)) := by unfold Hid; rw [← foldN_drop l q hlt x]; exact hst.out
          have hb := UInt8.toNat_lt l[q]
          generalize l[q].toNat = y at *
          have hio := ix_op hx hb
          have huo := upd_op hx hb
          have hz := xor8 (a := x % 256) (b := y) (by omega) hb
          have ct := hc.at_ hz
          rw [if_pos hz] at ct
          have hul := updN_lt hx hb
          clear hst hcell hA
          have hz0 : (((x % 256) ^^^ y : Nat) : Int) < 256 := by omega
          generalize (x % 256) ^^^ y = t at *
          go_wp2_with fail
          go_roundg (l.length - (q + 1))
          case measure => omega
          case rel => exact ⟨q + 1, updN x y, hlt, rfl, rfl, by first | rw [hq1.out] | go_num, hul, hst2, rfl⟩
        · obtain rfl : q = l.length := by omega
          have hfin : Hid (crcN s l = notN x) := by
            unfold Hid crcN
            rw [← hst.out, List.drop_length]; rfl
          have hno2 := not_op hx
          clear hst hA
          go_wp2_with fail
          go_ret
          exact ⟨by first | (rw [hfin.out, ← hno2]; done) | (rw [hfin.out]; rfl), hg⟩
end Go.Proofs.YtnnhkajjifmlfaaDoor.Pl
