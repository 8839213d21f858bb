/- (*reader).escape. -/
import Derived.Test.YtnnhkajjifmlfaaDoorJ4
namespace Go.Proofs.YtnnhkajjifmlfaaDoor
open Go.RowKit Go.Maps

theorem ret_int {k : IntKind} {a b : Int} (h : a = b) : Ending.returned (.int k a) = Ending.returned (.int k b) := by rw [h]
theorem orB_fin : ∀ x y : Fin 16, bits BinOp.or IntKind.i64 (wrap64 (bits BinOp.or IntKind.i64 0 (x.val : Int) * 16)) (y.val : Int) % 256 = 16 * (x.val : Int) + (y.val : Int) := by decide +kernel
theorem orB (x y : Int) (h1 : 0 ≤ x) (h2 : x ≤ 15) (h3 : 0 ≤ y) (h4 : y ≤ 15) :
    bits BinOp.or IntKind.i64 (wrap64 (bits BinOp.or IntKind.i64 0 x * 16)) y % 256 = 16 * x + y := by
  obtain ⟨a, rfl⟩ := Int.eq_ofNat_of_zero_le h1
  obtain ⟨b, rfl⟩ := Int.eq_ofNat_of_zero_le h3
  exact orB_fin ⟨a, by omega⟩ ⟨b, by omega⟩

def stepP (σ : PS) : PS := { σ with p := σ.p + 1 }
def escU (s : ByteArray) (σ : PS) : Int × PS :=
  if hexS (nextS s σ) < 0 then (0, failS σ 4 σ.p)
  else if hexS (nextS s (stepP σ)) < 0 then (0, failS (stepP σ) 4 (stepP σ).p)
  else (16 * hexS (nextS s σ) + hexS (nextS s (stepP σ)), stepP (stepP σ))
/-- the byte that c stands for behind a backslash; -1: none -/
def unesc (c : Int) : Int := if c = 34 then 34 else if c = 92 then 92 else if c = 98 then 8 else if c = 116 then 9 else if c = 110 then 10 else if c = 102 then 12 else if c = 114 then 13 else -1
def escS (s : ByteArray) (σ : PS) : Int × PS :=
  if nextS s σ = 117 then escU s (needS s (nats ⟨#[117, 48, 48]⟩) σ)
  else if nextS s σ = 47 then (47, stepP σ)
  else if unesc (nextS s σ) < 0 then (0, failS σ 4 σ.p)
  else (unesc (nextS s σ), stepP σ)
theorem hex_next {s : ByteArray} {σ : PS} (h : 0 ≤ hexS (nextS s σ)) : σ.e = 0 ∧ σ.p < s.size := by
  unfold nextS at h
  split at h
  · refine ⟨‹_›, ?_⟩
    rcases Nat.lt_or_ge σ.p s.size with h1 | h1
    · exact h1
    · rw [chr_out h1] at h; exact absurd h (by decide)
  · exact absurd h (by decide)
theorem nextS_lt (s : ByteArray) (σ : PS) : nextS s σ < 256 := by
  unfold nextS; split
  · exact chr_lt _ _
  · omega

set_option maxHeartbeats 1600000 in
theorem esc_u (R : Nat) (s : ByteArray) (σ : PS) (w : World) (hc : nextS s σ = 117) (h : RD w R s σ) (hp : σ.p ≤ s.size) (hs : s.size ≤ 2000000) :
    Calls Tryd.prog 129 #[.pointer (some ⟨R, 0, none⟩)] w fun e w' => e = .returned (.int .u8 (escS s σ).1) ∧ RD w' R s (escS s σ).2 ∧ w.grownBy w' (some R) := by
  have He : escS s σ = escU s (needS s (nats ⟨#[117, 48, 48]⟩) σ) := by unfold escS; rw [if_pos hc]
  rw [He]; clear He
  have hn := next_any R s σ w h hp
  rw [hc] at hn
  have Hn := Lib.hid hn
  clear hn hc
  have hp1 : (needS s (nats ⟨#[117, 48, 48]⟩) σ).p ≤ s.size := needS_le _ hp
  have Hneed := fun (n : Nat) => Lib.hid (need_any R s ⟨#[117, 48, 48]⟩ σ (w.drewN n) h hp hs (by decide))
  generalize needS s (nats ⟨#[117, 48, 48]⟩) σ = τ at *
  go_enter Tryd.func129, Tryd.ntmps129
  go_wp2_with (first
    | (go_at_call 81; refine (Hn.out).mono ?_; rintro e w1 ⟨rfl, n, rfl⟩)
    | (go_at_call 82; refine ((Hneed _).out).mono ?_; rintro e w2 ⟨rfl, hR2, hg2⟩))
  refine wp_loop_rounds 3 ?_; rw [rounds_succ]
  have hx := hexS_bd (nextS s τ)
  by_cases hd : hexS (nextS s τ) < 0
  · have He : Hid (escU s τ = (0, failS τ 4 τ.p)) := by unfold Hid escU; rw [if_pos hd]
    have c1 := hR2.c1
    go_wp2_with (first
      | (go_at_call 81; refine (next_any R s τ _ (by exact hR2) hp1).mono ?_; rintro e w3 ⟨rfl, n3, rfl⟩)
      | (go_at_call 149; refine (hex_any _ (nextS_lt s τ) _).mono ?_; rintro e w4 ⟨rfl, rfl⟩)
      | (go_at_call 43; refine (fail_any R s τ _ _ _ (by exact hR2)).mono ?_; rintro e w5 ⟨rfl, hR5, hg5⟩))
    go_ret
    rw [He.out]
    exact ⟨rfl, hR5, gb_trans (gb_trans (gb_drewN (gb_refl _ _) _) (gb_drewN hg2 _)) hg5⟩
  · have hd0 : 0 ≤ hexS (nextS s τ) := by omega
    obtain ⟨he, hlt⟩ := hex_next hd0
    have hR3 := fun n => (hR2.drewN n).set1 (τ.p + 1)
    have hx2 := hexS_bd (nextS s (stepP τ))
    have c1 := hR2.c1
    have f1 := hR2.f 1
    have hp2 : (stepP τ).p ≤ s.size := hlt
    generalize hgx : hexS (nextS s τ) = x at *
    have Hgx := Lib.hid hgx; clear hgx
    go_wp2_with (first
      | (go_at_call 81; refine (next_any R s τ _ (by exact hR2) hp1).mono ?_; rintro e w3 ⟨rfl, n3, rfl⟩)
      | (go_at_call 149; refine (hex_any _ (nextS_lt s τ) _).mono ?_; rintro e w4 ⟨rfl, rfl⟩; rw [Hgx.out]))
    rw [rounds_succ]
    have hR3 : RD _ R s (stepP τ) := (hR2.drewN n3).set1 (τ.p + 1)
    by_cases hd2 : hexS (nextS s (stepP τ)) < 0
    · have He : Hid (escU s τ = (0, failS (stepP τ) 4 (stepP τ).p)) := by unfold Hid escU; rw [if_neg (by rw [Hgx.out]; omega), if_pos hd2]
      have c13 := hR3.c1
      go_wp2_with (first
        | (go_at_call 81; refine (next_any R s (stepP τ) _ (by exact hR3) hp2).mono ?_; rintro e w5 ⟨rfl, n5, rfl⟩)
        | (go_at_call 149; refine (hex_any _ (nextS_lt s (stepP τ)) _).mono ?_; rintro e w6 ⟨rfl, rfl⟩)
        | (go_at_call 43; refine (fail_any R s (stepP τ) _ _ _ (by exact hR3)).mono ?_; rintro e w7 ⟨rfl, hR7, hg7⟩))
      go_ret
      rw [He.out]
      exact ⟨rfl, hR7, gb_trans (gb_drewN (gb_setR (gb_drewN (gb_trans (gb_drewN (gb_refl w _) _) hg2) _) _ _) _) hg7⟩
    · have hd20 : 0 ≤ hexS (nextS s (stepP τ)) := by omega
      obtain ⟨he2, hlt2⟩ := hex_next hd20
      have He : Hid (escU s τ = (16 * x + hexS (nextS s (stepP τ)), stepP (stepP τ))) := by unfold Hid escU; rw [if_neg (by rw [Hgx.out]; omega), if_neg hd2, Hgx.out]
      generalize hgy : hexS (nextS s (stepP τ)) = y at *
      have Hgy := Lib.hid hgy; clear hgy
      have c13 := hR3.c1
      have f13 := hR3.f 1
      go_wp2_with (first
        | (go_at_call 81; refine (next_any R s (stepP τ) _ (by exact hR3) hp2).mono ?_; rintro e w5 ⟨rfl, n5, rfl⟩)
        | (go_at_call 149; refine (hex_any _ (nextS_lt s (stepP τ)) _).mono ?_; rintro e w6 ⟨rfl, rfl⟩; rw [Hgy.out]))
      rw [rounds_succ]
      go_wp2_with fail
      go_ret
      rw [He.out]
      have hR5 := (hR3.drewN n5).set1 ((stepP τ).p + 1)
      refine ⟨ret_int (orB x y (by omega) (by omega) (by omega) (by omega)), hR5, ?_⟩
      exact gb_setR (gb_drewN (gb_setR (gb_drewN (gb_trans (gb_drewN (gb_refl w _) _) hg2) _) _ _) _) _ _

/-- what the map of escapes holds -/
theorem shortD_at (x c : Int) (h : ∀ zd, shortD.atKey (.int .u8 x) zd = .lit (.int .u8 c)) :
    (x = 8 ∧ c = 98) ∨ (x = 9 ∧ c = 116) ∨ (x = 10 ∧ c = 110) ∨ (x = 12 ∧ c = 102) ∨ (x = 13 ∧ c = 114) ∨ (x = 34 ∧ c = 34) ∨ (x = 92 ∧ c = 92) := by
  have e : shortD = .map [(.int .u8 8, .lit (.int .u8 98)), (.int .u8 9, .lit (.int .u8 116)), (.int .u8 10, .lit (.int .u8 110)), (.int .u8 12, .lit (.int .u8 102)), (.int .u8 13, .lit (.int .u8 114)), (.int .u8 34, .lit (.int .u8 34)), (.int .u8 92, .lit (.int .u8 92))] := by kernel_rfl
  have h0 := h .nil
  rw [e] at h0
  simp only [DataW.atKey, List.find?] at h0
  by_cases h1 : x = 8
  · subst h1; simp [Lit.sameKey] at h0; omega
  by_cases h2 : x = 9
  · subst h2; simp [Lit.sameKey] at h0; omega
  by_cases h3 : x = 10
  · subst h3; simp [Lit.sameKey] at h0; omega
  by_cases h4 : x = 12
  · subst h4; simp [Lit.sameKey] at h0; omega
  by_cases h5 : x = 13
  · subst h5; simp [Lit.sameKey] at h0; omega
  by_cases h6 : x = 34
  · subst h6; simp [Lit.sameKey] at h0; omega
  by_cases h7 : x = 92
  · subst h7; simp [Lit.sameKey] at h0; omega
  · simp [Lit.sameKey, Ne.symm h1, Ne.symm h2, Ne.symm h3, Ne.symm h4, Ne.symm h5, Ne.symm h6, Ne.symm h7] at h0
theorem shortD_has : Maps.has shortD (.int .u8 8) = true ∧ Maps.has shortD (.int .u8 9) = true ∧ Maps.has shortD (.int .u8 10) = true ∧ Maps.has shortD (.int .u8 12) = true ∧ Maps.has shortD (.int .u8 13) = true ∧ Maps.has shortD (.int .u8 34) = true ∧ Maps.has shortD (.int .u8 92) = true := by
  refine ⟨?_, ?_, ?_, ?_, ?_, ?_, ?_⟩ <;> kernel_rfl
theorem unesc_hit {x c : Int} (h : ∀ zd, shortD.atKey (.int .u8 x) zd = .lit (.int .u8 c)) : unesc c = x ∧ 0 ≤ x ∧ x < 256 := by
  rcases shortD_at x c h with ⟨rfl, rfl⟩ | ⟨rfl, rfl⟩ | ⟨rfl, rfl⟩ | ⟨rfl, rfl⟩ | ⟨rfl, rfl⟩ | ⟨rfl, rfl⟩ | ⟨rfl, rfl⟩ <;> decide
end Go.Proofs.YtnnhkajjifmlfaaDoor
