/- Policies, the document's reader: a number is read: the walk. -/
import Derived.Test.YtnnhkajjifmlfaaDoorDl
namespace Go.Proofs.YtnnhkajjifmlfaaDoor.Pl
open Go.RowKit Go.Maps

/-- are a text's bytes digits? -/
def Digs (x : ByteArray) : Prop := ∀ j, j < x.size → 48 ≤ chr x j ∧ chr x j ≤ 57
theorem list_drop_get {x : ByteArray} {k : Nat} (h : k < x.size) : x.data.toList.drop k = x[k] :: x.data.toList.drop (k + 1) := by
  have h' : k < x.data.toList.length := by simpa using h
  rw [List.drop_eq_getElem_cons h']
  rfl
theorem w8_dig {x : Int} (h1 : 48 ≤ x) (h2 : x ≤ 57) : IntKind.u8.wrap (x - 48) = x - 48 := by
  simp only [IntKind.wrap, IntKind.bits, IntKind.signed]
  have : (x - 48) % 2 ^ 8 = x - 48 := by omega
  simp; omega
set_option maxRecDepth 100000 in
set_option maxHeartbeats 3200000 in
theorem rnumber_any (R : Nat) (s : ByteArray) (ρ : RQ) (nv : Value) (w : World) (h : RB w R s ρ nv) (hp : ρ.p ≤ s.size) (hs : s.size ≤ 2000000) (hx : ρ.x.size ≤ 2000000) (hd : ρ.k = 3 → Digs ρ.x) :
    Calls Tryd.prog 161 #[.pointer (some ⟨R, 0, none⟩)] w (QS1 R s nv w (.int .i64 (numberR s ρ).1) (numberR s ρ).2) := by
  have c2 := h.c2
  have c4 := h.c4
  have hWr := Lib.hid (wrong_any R s ρ.ta ρ nv w h)
  have hT : Hid (numberR s ρ = if ρ.k = 3 then ((numF ρ.x.data.toList 0 ρ.lg).1, onR s { ρ with lg := (numF ρ.x.data.toList 0 ρ.lg).2 }) else (0, wrongR ρ.ta ρ)) := rfl
  go_enter Tryd.func161, Tryd.ntmps161
  by_cases hk : ρ.k = 3
  · have hkb : (ρ.k != 3) = false := by simp [hk]
    have hT2 : Hid (numberR s ρ = ((numF ρ.x.data.toList 0 ρ.lg).1, onR s { ρ with lg := (numF ρ.x.data.toList 0 ρ.lg).2 })) := by unfold Hid; rw [hT.out, if_pos hk]
    have hD := hd hk
    clear hk hT hd hWr
    go_wp2_with fail
    go_loopg [3, 4] ρ.x.size (fun z u3 u4 wr => ∃ (k : Nat) (n : Int) (g : Bool), k ≤ ρ.x.size ∧ z = ρ.x.size - k ∧ u3 = .int .i64 n ∧ u4 = .int .i64 k ∧ 0 ≤ n ∧ n ≤ 4611686018427387909 ∧ Hid (numF (ρ.x.data.toList.drop k) n g = numF ρ.x.data.toList 0 ρ.lg) ∧ RB wr R s { ρ with lg := g } nv ∧ w.grownBy wr (some R))
    case atStart => exact ⟨0, 0, ρ.lg, Nat.zero_le _, rfl, rfl, rfl, by omega, by omega, rfl, h, gb_refl _ _⟩
    case round =>
      obtain ⟨k, n, g, hkl, rfl, rfl, rfl, hn0, hn1, hF, hR, hg⟩ := hrel
      have d3 := hR.c3
      have d6 := hR.c6
      have f6 := hR.f 6
      simp only at d3
      have hk1 := Lib.hid (show wrap64 ((k : Int) + 1) = ((k + 1 : Nat) : Int) from (wrap64_id (by omega) (by omega)).trans (by omega))
      by_cases hlt : k < ρ.x.size
      · have hltI : (k : Int) < (ρ.x.size : Int) := by omega
        obtain ⟨v0, v1⟩ := hD k hlt
        rw [chr_in hlt] at v0 v1
        have hcell : Hid (ρ.x.data.toList.drop k = ρ.x[k] :: ρ.x.data.toList.drop (k + 1)) := list_drop_get hlt
        obtain ⟨c, hc⟩ : ∃ c, ρ.x[k] = c := ⟨_, rfl⟩
        rw [hc] at v0 v1 hcell
        have hd0 : 0 ≤ (c.toNat : Int) - 48 := by omega
        have hd1 : (c.toNat : Int) - 48 ≤ 9 := by omega
        have q8 : IntKind.u8.wrap ((c.toNat : Int) - 48) = (c.toNat : Int) - 48 := w8_dig (by omega) (by omega)
        clear hD
        by_cases hgt : 461168601842738790 < n
        · have hF2 : Hid (numF (ρ.x.data.toList.drop (k + 1)) (10 * 0 + ((c.toNat : Int) - 48)) true = numF ρ.x.data.toList 0 ρ.lg) := by
            unfold Hid
            have := hF.out
            rw [hcell.out, numF, if_pos hgt] at this
            exact this
          have hR2 := hR.set6 true
          have hg2 := gb_setR hg 6 (.bool true)
          clear hF hcell
          go_wp2_with fail
          go_roundg (ρ.x.size - (k + 1))
          case measure => omega
          case rel => exact ⟨k + 1, 10 * 0 + ((c.toNat : Int) - 48), true, hlt, rfl, by first | rfl | (congr 1; omega), by first | rw [hk1.out] | go_num, by omega, by omega, hF2, hR2, hg2⟩
        · have hF2 : Hid (numF (ρ.x.data.toList.drop (k + 1)) (10 * n + ((c.toNat : Int) - 48)) g = numF ρ.x.data.toList 0 ρ.lg) := by
            unfold Hid
            have := hF.out
            rw [hcell.out, numF, if_neg hgt] at this
            exact this
          have hgtI : ¬ (461168601842738790 : Int) < n := hgt
          clear hF hcell
          go_wp2_with fail
          go_roundg (ρ.x.size - (k + 1))
          case measure => omega
          case rel => exact ⟨k + 1, 10 * n + ((c.toNat : Int) - 48), g, hlt, rfl, by first | rfl | (congr 1; omega), by first | rw [hk1.out] | go_num, by omega, by omega, hF2, hR, hg⟩
      · obtain rfl : k = ρ.x.size := by omega
        have hltd : decide ((ρ.x.size : Int) < (ρ.x.size : Int)) = false := by simp
        have hOn := fun W (hW : RB W R s { ρ with lg := g } nv) => Lib.hid (on_any R s { ρ with lg := g } nv W hW hp hs)
        have hF2 : Hid (numF ρ.x.data.toList 0 ρ.lg = (n, g)) := by
          unfold Hid
          rw [← hF.out, List.drop_eq_nil_of_le (by simp)]
          rfl
        clear hF hlt c2 c4 h
        go_wp2_with (first
          | (go_at_call 67; refine ((hOn _ hR).out).mono ?_; rintro e w1 ⟨rfl, hR1, hg1⟩))
        go_ret
        exact ⟨by rw [hT2.out, hF2.out]; rfl, by rw [hT2.out, hF2.out]; exact hR1, gb_trans hg hg1⟩
  · have hkb : (ρ.k != 3) = true := by simpa using hk
    have hT2 : Hid (numberR s ρ = (0, wrongR ρ.ta ρ)) := by unfold Hid; rw [hT.out, if_neg hk]
    clear hk hT hd
    go_wp2_with (first
      | (go_at_call 69; refine (hWr.out).mono ?_; rintro e w1 ⟨rfl, hR, hg⟩))
    go_ret
    exact ⟨by rw [hT2.out]; rfl, by rw [hT2.out]; exact hR, hg⟩
end Go.Proofs.YtnnhkajjifmlfaaDoor.Pl
