/- (*reader).escape, whole. -/
import Derived.Test.YtnnhkajjifmlfaaDoorJ5
namespace Go.Proofs.YtnnhkajjifmlfaaDoor
open Go.RowKit Go.Maps

theorem unesc_at (c : Int) (h : 0 ≤ unesc c) : (∀ zd, shortD.atKey (.int .u8 (unesc c)) zd = .lit (.int .u8 c)) ∧ Maps.has shortD (.int .u8 (unesc c)) = true := by
  unfold unesc at h ⊢
  by_cases h1 : c = 34
  · subst h1; exact ⟨fun zd => by kernel_rfl, by kernel_rfl⟩
  by_cases h2 : c = 92
  · subst h2; exact ⟨fun zd => by kernel_rfl, by kernel_rfl⟩
  by_cases h3 : c = 98
  · subst h3; exact ⟨fun zd => by kernel_rfl, by kernel_rfl⟩
  by_cases h4 : c = 116
  · subst h4; exact ⟨fun zd => by kernel_rfl, by kernel_rfl⟩
  by_cases h5 : c = 110
  · subst h5; exact ⟨fun zd => by kernel_rfl, by kernel_rfl⟩
  by_cases h6 : c = 102
  · subst h6; exact ⟨fun zd => by kernel_rfl, by kernel_rfl⟩
  by_cases h7 : c = 114
  · subst h7; exact ⟨fun zd => by kernel_rfl, by kernel_rfl⟩
  · simp only [h1, h2, h3, h4, h5, h6, h7, if_false] at h; omega

set_option maxHeartbeats 1600000 in
theorem esc_47 (R : Nat) (s : ByteArray) (σ : PS) (w : World) (hc : nextS s σ = 47) (h : RD w R s σ) (hp : σ.p ≤ s.size) (hs : s.size ≤ 2000000) :
    Calls Tryd.prog 129 #[.pointer (some ⟨R, 0, none⟩)] w fun e w' => e = .returned (.int .u8 (escS s σ).1) ∧ RD w' R s (escS s σ).2 ∧ w.grownBy w' (some R) := by
  have He : escS s σ = (47, stepP σ) := by unfold escS; rw [if_neg (by omega), if_pos hc]
  rw [He]; clear He
  have hn := next_any R s σ w h hp
  rw [hc] at hn
  have Hn := Lib.hid hn
  clear hn hc
  have c1 := h.c1
  have f1 := h.f 1
  go_enter Tryd.func129, Tryd.ntmps129
  go_wp2_with (first
    | (go_at_call 81; refine (Hn.out).mono ?_; rintro e w1 ⟨rfl, n, rfl⟩))
  go_ret
  exact ⟨rfl, (h.drewN _).set1 _, gb_setR (gb_drewN (gb_refl w _) _) _ _⟩

set_option maxHeartbeats 1600000 in
theorem esc_map (R : Nat) (s : ByteArray) (σ : PS) (w : World) (c : Nat) (hcn : nextS s σ = c) (hc0 : c ≠ 117) (hc1 : c ≠ 47) (h : RD w R s σ) (hp : σ.p ≤ s.size) (hs : s.size ≤ 2000000) :
    Calls Tryd.prog 129 #[.pointer (some ⟨R, 0, none⟩)] w fun e w' => e = .returned (.int .u8 (escS s σ).1) ∧ RD w' R s (escS s σ).2 ∧ w.grownBy w' (some R) := by
  have hn := next_any R s σ w h hp
  rw [hcn] at hn
  have Hn := Lib.hid hn
  have He1 : Hid (unesc c < 0 → escS s σ = (0, failS σ 4 σ.p)) := fun hu => by unfold escS; rw [hcn, if_neg hc0, if_neg hc1, if_pos hu]
  have He2 : Hid (∀ x, unesc c = x → 0 ≤ x → escS s σ = (x, stepP σ)) := fun x hu hx => by unfold escS; rw [hcn, if_neg hc0, if_neg hc1, if_neg (by omega), hu]
  have b0 : ((c : Int) == 117) = false := by simp; omega
  have b1 : ((c : Int) == 47) = false := by simp; omega
  clear hn hcn hc0 hc1
  have hRl := h.lt
  go_enter Tryd.func129, Tryd.ntmps129
  go_wp2_with (first
    | (go_at_call 81; refine (Hn.out).mono ?_; rintro e w1 ⟨rfl, n, rfl⟩)
    | (go_at_call 97; refine (short_any _).mono ?_; rintro e w2 ⟨rfl, hown2, hg2⟩)
    | (at_range; refine wpList_range_own _ rfl _ 133 rfl 5 5 lawU8 Tryd.underlying133 _ w.heap.size 7 _ rfl hown2 ?_; intro w3 hrg3 hg3 hs3))
  go_frame
  have hR3 : RD w3 R s σ := ((h.drewN n).kept hg2 (by simp)).kept hg3 (by simp)
  have hgg : w.grownBy w3 (some R) := gb_more (gb_more (gb_drewN (gb_refl w _) n) hg2 (by simp)) hg3 (by simp)
  have hB2 : w.heap.size ≤ w2.heap.size := hg2.size
  go_loopg [] 7 (fun k wr => ∃ (left : Lit → Bool) (cnt : Nat), k = cnt ∧ wr.ranges Tryd.prog 5 (plainElem Tryd.prog 5) w.heap.size w2.heap.size 7 shortD left cnt ∧ RD wr R s σ ∧ w.grownBy wr (some R) ∧ Hid (0 ≤ unesc c → left (.int .u8 (unesc c)) = true))
  case atStart => exact ⟨_, _, by kernel_rfl, hrg3, hR3, hgg, fun hu => (unesc_at c hu).2⟩
  case round =>
    obtain ⟨left, cnt, rfl, hrg, hR, hg, Hl⟩ := hrel
    clear h hR3 hgg hrg3 hg3 hown2
    have c1 := hR.c1
    have f1 := hR.f 1
    go_wp2_with (first
      | (at_next; refine wpList_next_ranges_ii _ rfl _ rfl 5 5 .u8 .u8 lawU8 Tryd.underlying5 Tryd.underlying5 w.heap.size w2.heap.size 7 _ _ _ rfl hrg ?_ ?_))
    · intro _ hl0
      have hu : unesc c < 0 := by
        rcases Int.lt_or_le (unesc c) 0 with hu | hu
        · exact hu
        · have := Hl.out hu; rw [hl0] at this; cases this
      have He := Lib.hid (He1.out hu)
      clear hu He1 He2 hl0
      go_wp2_with (first
        | (go_at_call 43; refine (fail_any R s σ _ _ _ hR).mono ?_; rintro e w5 ⟨rfl, hR5, hg5⟩))
      go_ret
      rw [He.out]
      exact ⟨rfl, hR5, gb_trans hg hg5⟩
    · intro x c' w1 cnt1 hwx hwc hlx hat hrg1 hlt hg1 hs1 hen
      have hne : R ≠ w2.heap.size := by omega
      have hR1 := hR.kept hg1 (by simpa using hne)
      have c11 := hR1.c1
      have f11 := hR1.f 1
      clear c1 f1
      have Hat := Lib.hid hat
      clear hat
      by_cases hcc : c' = c
      · obtain ⟨hx1, hx2, hx3⟩ := unesc_hit (hcc ▸ Hat.out)
        have He := Lib.hid (He2.out x hx1 hx2)
        subst hcc
        clear hx1 He1 He2 Hl
        go_wp2_with fail
        go_ret
        rw [He.out]
        exact ⟨rfl, hR1.set1 _, gb_setR (gb_more hg hg1 (by intro g hgx; cases hgx; exact .inr hB2)) _ _⟩
      · have hcb : (c' == (c : Int)) = false := by simpa using hcc
        have Hl1 : Hid (0 ≤ unesc c → (left (.int .u8 (unesc c)) && !(Lit.int .u8 (unesc c)).sameKey (.int .u8 x)) = true) := by
          intro hu
          rw [Hl.out hu]
          have h2 := (unesc_at c hu).1
          by_cases hxe : unesc c = x
          · rw [hxe] at h2
            have := (Hat.out .nil).symm.trans (h2 .nil)
            simp at this; exact absurd this hcc
          · simp [Lit.sameKey, hxe]
        clear hcc He1 He2
        go_wp2_with fail
        go_roundg cnt1
        case measure => exact hlt
        case rel => exact ⟨_, cnt1, rfl, hrg1, hR1, gb_more hg hg1 (by intro g hgx; cases hgx; exact .inr hB2), Hl1⟩
end Go.Proofs.YtnnhkajjifmlfaaDoor
