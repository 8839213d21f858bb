/- A segment's name: the walks of the program's and of the reference's. -/
import Derived.Test.YtnnficmkdahpjaaGreatDoorQ1
namespace Go.Proofs.YtnnficmkdahpjaaGreatDoor
open Go.RowKit Go.Sort Go.Lib

/-- twelve digits -/
def dig12 (n : Nat) : List UInt8 := List.replicate (12 - nDigits n) 48 ++ decDigits n
def nameL (n : Nat) : List UInt8 := if n < 1000000000000 then [109, 97, 110, 105, 102, 101, 115, 116, 45] ++ dig12 n else []

theorem nd_le : ∀ (k u : Nat), 1 ≤ k → u < 10 ^ k → nDigits u ≤ k
  | 0, _, h, _ => by omega
  | k + 1, u, _, hu => by
    by_cases h : u < 10
    · rw [nDigits_small h]; omega
    · rw [nDigits_big h]
      have hk : 1 ≤ k := by
        rcases Nat.eq_zero_or_pos k with rfl | h'
        · simp at hu; omega
        · exact h'
      have := nd_le k (u / 10) hk (by rw [Nat.pow_succ] at hu; omega)
      omega
theorem nd12 {n : Nat} (h : n < 1000000000000) : nDigits n ≤ 12 := nd_le 12 n (by decide) (by omega)

theorem repeat_rep (c : Nat) : repeatL [48] c = List.replicate c 48 := by
  induction c with
  | zero => rfl
  | succ c ih => rw [repeatL, ih]; rfl
theorem run_add_text {a b : ByteArray} (ha : a.size ≤ 1000) (hb : b.size ≤ 1000) {w : World} : (Op.stringOp .add a b).run Tryz.prog w = .ok (.string (a ++ b)) w :=
  run_string_add_sum w a b (by omega)
theorem rep_short (c : Nat) (h : c ≤ 100) : (⟨(repeatL [48] c).toArray⟩ : ByteArray).size ≤ 100 := by
  show (repeatL [48] c).toArray.size ≤ 100
  simp only [List.size_toArray, repeatL_length, List.length_singleton]
  omega
theorem name_bytes {n : Nat} (hs : n < 1000000000000) {D R : ByteArray} (hD : (⟨(decDigits n).toArray⟩ : ByteArray) = D) (hR : (⟨(repeatL [48] (12 - nDigits n)).toArray⟩ : ByteArray) = R) :
    (⟨(nameL n).toArray⟩ : ByteArray) = (⟨#[109, 97, 110, 105, 102, 101, 115, 116, 45]⟩ : ByteArray) ++ R ++ D := by
  subst hD hR
  rw [repeat_rep]
  unfold nameL dig12
  rw [if_pos hs]
  apply ByteArray.ext
  apply Array.ext'
  simp [ByteArray.data_append]

set_option maxRecDepth 100000 in
set_option maxHeartbeats 1600000 in
theorem name_any (n : Nat) (hn : n < 18446744073709551616) (w : World) (htab : PT w) :
    Calls Tryz.prog 9 #[.int .u64 n] w fun e w' => e = .returned (.string ⟨(nameL n).toArray⟩) ∧ w.grownBy w' none := by
  obtain ⟨S, hS0⟩ : ∃ S : ByteArray, (⟨(nameL n).toArray⟩ : ByteArray) = S := ⟨_, rfl⟩
  rw [hS0]
  have HS := Lib.hid hS0
  clear hS0
  by_cases hs : n < 1000000000000
  · have hsI : ¬ (1000000000000 : Int) ≤ (n : Int) := by omega
    have h12 := nd12 hs
    have hR := fun W => Lib.hid (Tryz.strings_Repeat ⟨#[48]⟩ (12 - nDigits n) W (by omega) (by show 1 * _ ≤ _; omega))
    have HT := Lib.hid htab
    have hsz : (⟨(decDigits n).toArray⟩ : ByteArray).size = nDigits n := by rw [← decDigits_length n]; simp [ByteArray.size]
    obtain ⟨z, hz⟩ : ∃ z : Int, (12 : Int) - (nDigits n : Int) = z := ⟨_, rfl⟩
    have hz2 : z = ((12 - nDigits n : Nat) : Int) := by omega
    clear htab
    have hF := Lib.hid (fmtu_any n hn w HT.out)
    obtain ⟨D, hD⟩ : ∃ D : ByteArray, (⟨(decDigits n).toArray⟩ : ByteArray) = D := ⟨_, rfl⟩
    obtain ⟨R, hR0⟩ : ∃ R : ByteArray, (⟨(repeatL [48] (12 - nDigits n)).toArray⟩ : ByteArray) = R := ⟨_, rfl⟩
    rw [hD] at hF hsz
    have AD := Lib.hid hD
    have AR := Lib.hid hR0
    have hR2 : ∀ W, Hid (Calls Tryz.prog 27 #[.string ⟨#[48]⟩, .int .i64 z] W fun e w' => e = .returned (.string R) ∧ Below W.heap.size W w') := fun W => by have := (hR W).out; rw [hR0, ← hz2] at this; exact Lib.hid this
    have hN := Lib.hid (name_bytes hs AD.out AR.out)
    clear hD hR0 hR hz2
    have HR2 := Lib.hid hR2
    clear hR2
    obtain ⟨E1, hE1⟩ : ∃ E : ByteArray, (⟨#[109, 97, 110, 105, 102, 101, 115, 116, 45]⟩ : ByteArray) ++ R = E := ⟨_, rfl⟩
    have hA1 : ∀ w, (Op.stringOp .add ⟨#[109, 97, 110, 105, 102, 101, 115, 116, 45]⟩ R).run Tryz.prog w = .ok (.string E1) w := fun w => by
      rw [← hE1]
      exact run_add_text (by decide) (by rw [← AR.out]; exact Nat.le_trans (rep_short _ (by omega)) (by decide))
    have hA2 : ∀ w, (Op.stringOp .add E1 D).run Tryz.prog w = .ok (.string S) w := fun w => by
      rw [← HS.out, hN.out, hE1]
      exact run_add_text (by rw [← hE1, ByteArray.size_append]; have := rep_short (12 - nDigits n) (by omega); rw [AR.out] at this; show 9 + _ ≤ _; omega) (by rw [hsz]; omega)
    have hRs : R.size ≤ 100 := by rw [← AR.out]; exact rep_short _ (by omega)
    clear hE1
    go_enter Tryz.func9, Tryz.ntmps9
    go_wp2_with (first
      | (go_at_call 27; refine (HR2.out _).out.mono ?_; rintro e w2 ⟨rfl, hB⟩)
      | (go_at_call 26; refine hF.out.mono ?_; rintro e w1 ⟨rfl, hg1⟩))
    go_ret
    exact ⟨rfl, gb_trans hg1 (gb_below hB none)⟩
  · have hsI : (1000000000000 : Int) ≤ (n : Int) := by omega
    have hN : nameL n = [] := by unfold nameL; rw [if_neg hs]
    clear htab
    go_enter Tryz.func9, Tryz.ntmps9
    go_wp2
    go_ret
    refine ⟨?_, gb_refl _ _⟩
    rw [← HS.out, hN]
    rfl
end Go.Proofs.YtnnficmkdahpjaaGreatDoor
