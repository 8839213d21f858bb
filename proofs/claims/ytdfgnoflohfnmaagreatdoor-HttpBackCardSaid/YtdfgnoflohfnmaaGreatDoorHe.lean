/- HTTP: a request's body: the ways joined. -/
import Derived.Test.YtdfgnoflohfnmaaGreatDoorHd
namespace Go.Proofs.YtdfgnoflohfnmaaGreatDoor.Hx
open Go.RowKit Go.Maps

set_option maxRecDepth 100000 in
set_option maxHeartbeats 3200000 in
theorem body_full (R : Nat) (b o c : Nat) (bs : Bs) (σ : RS) (w : World) (h : RB w R (.slice (some ⟨b, o, none⟩) bs.length c) σ) (hc : bs.length ≤ c) (hci : c = σ.i) (hi : σ.i ≤ bs.length) (hl : bs.length ≤ 2000000)
    (k : Nat) (hm : max 0 σ.l = (k : Int)) (hb : ¬ (262144 : Int) < (k : Int)) (hk : ¬ bs.length < σ.i + k) :
    Calls Tryz.prog 91 #[.pointer (some ⟨R, 0, none⟩)] w (BK R (.slice (some ⟨b, o, none⟩) bs.length c) w bs σ) := by
  have c0 := h.c0
  have c1 := h.c1
  have c8 := h.c8
  obtain rfl : k = 0 := by clear hm hb; omega
  have i2 : (σ.i : Int) ≤ (c : Int) := by clear hm hb; omega
  have hw4 : IntKind.i64.wrap (σ.i : Int) = (σ.i : Int) := wrap_id (by omega) (by clear hm hb; omega)
  have hw5 : wrap64 (σ.i : Int) = (σ.i : Int) := wrap64_id (by omega) (by clear hm hb; omega)
  have hkn : ((bs.drop σ.i).take 0).length = 0 := rfl
  have hRn : some R ≠ (none : Option Nat) := by simp
  obtain ⟨hk', hw, hw2, hw3, i0, i1, hk2⟩ := body_nums hi hl hk
  have hm0 := hm
  obtain ⟨l, hsl⟩ : ∃ l, σ.l = l := ⟨_, rfl⟩
  rw [hsl] at c8 hm
  have hm0 := Lib.hid hm0
  have hkh := Lib.hid hk
  have hbh := Lib.hid hb
  clear hk
  have hsl := Lib.hid hsl
  have hcl := fun (n : Nat) (W : World) (hW : W = w.drewN n) => Lib.hid (clone_any (.slice (some ⟨b, o, none⟩) 0 0) ((bs.drop σ.i).take 0) W ⟨_, _, rfl, Nat.le_refl _, fun h => absurd rfl h⟩ (by rw [hkn]; omega))
  subst hci
  clear hc hl hi
  go_enter Tryz.func91, Tryz.ntmps91
  go_wp2_with fail
  clear hb
  go_quiet (fail)
  go_upto_region 6 with fail
  clear hk' hw hm
  go_cut [] from 25 to 44 (fun wx => ∃ (A2 : Option Addr) (c2 b2 : Nat), RB wx R (.slice (some ⟨b, o, none⟩) bs.length σ.i) { σ with bv := (.slice A2 0 c2) } ∧ Hid (BF wx (.slice A2 0 c2) b2 ((bs.drop σ.i).take 0)) ∧ w.heap.size ≤ b2 ∧ w.grownBy wx (some R))
  case first =>
    go_region_with (first
      | (go_at_call 47; refine ((hcl _ _ rfl).out).mono ?_; rintro e w2 ⟨v, b2, rfl, hv, hb2, g2⟩; obtain ⟨A2, c2, rfl, hc2⟩ := hv.shape; rw [hkn] at hv; have h2 := (h.drewN _).kept g2 hRn; have f6 := h2.f 6; have x6 := h2.c6))
    all_goals
      have hb3 : w.heap.size ≤ b2 := by simpa using hb2
      have hRb : b2 ≠ R := by have := h.lt; omega
      go_wp2_with fail
      go_meet
      exact ⟨A2, c2, b2, h2.set6 _, bf_set hv hRb 6 _, hb3, gb_setR (gb_row (gb_trans (gb_drewN (gb_refl _ _) _) g2) _) _ _⟩
  case rest =>
  obtain ⟨A2, c2, b2, h3, hv, hb3, g3⟩ := hcut
  have hRb : b2 ≠ R := by have := h.lt; omega
  have c1b := h3.c1
  have f1b := h3.f 1
  have h4 := h3.set1 (σ.i + 0)
  rw [Nat.add_zero] at h4
  have f10 := h4.f 10
  have c10 := h4.c10
  have h5 := Lib.hid (h4.set10 true)
  clear h4 hcl c0 c1 c8 h
  go_wp2_with fail
  go_ret
  refine BK.of_got hm0 hbh hkh ⟨_, b2, bf_set (bf_set hv.out hRb 1 _) hRb 10 _, hb3, rfl, h5.out, gb_setR (gb_setR g3 _ _) _ _⟩
/-- a body -/
theorem body_any (R : Nat) (bw : Value) (bs : Bs) (σ : RS) (w : World) (h : RB w R bw σ) (hB : RV w R bw bs) (h0 : bs ≠ []) (hi : σ.i ≤ bs.length) (hl : bs.length ≤ 2000000) :
    Calls Tryz.prog 91 #[.pointer (some ⟨R, 0, none⟩)] w (BK R bw w bs σ) := by
  rcases hB with ⟨_, h1⟩ | ⟨b, o, c, rfl, hc, hb, ha⟩
  · exact absurd h1 h0
  · by_cases hbig : 262144 < max 0 σ.l
    · exact body_big R _ bs σ w h hbig
    · by_cases hk : bs.length < σ.i + (max 0 σ.l).toNat
      · exact body_more R _ c bs σ w h hi hl hbig hk
      · obtain ⟨k, hm⟩ : ∃ k : Nat, max 0 σ.l = (k : Int) := ⟨(max 0 σ.l).toNat, by omega⟩
        rw [hm] at hbig hk
        rw [Int.toNat_natCast] at hk
        by_cases hci : c = σ.i
        · exact body_full R b o c bs σ w h hc hci hi hl k hm hbig hk
        · exact body_room R b o c bs σ w h ha hc hci hi hl k hm hbig hk
end Go.Proofs.YtdfgnoflohfnmaaGreatDoor.Hx
