/- HTTP: bytes cloned; a request's body: bootprint/http.body, walked. -/
import Derived.Test.YtdfgnoflohfnmaaGreatDoorHc
import Derived.Deep.RegionWith
import Derived.Deep.CutRange
namespace Go.Proofs.YtdfgnoflohfnmaaGreatDoor.Hx
open Go.RowKit Go.Maps

set_option maxRecDepth 100000 in
set_option maxHeartbeats 3200000 in
theorem clone_any (x : Value) (bs : Bs) (w : World) (hx : BV w x bs) (hl : bs.length ≤ 1000000000) :
    Calls Tryz.prog 47 #[x] w fun e w' => ∃ v b, e = .returned v ∧ BF w' v b bs ∧ w.heap.size ≤ b ∧ w.grownBy w' none := by
  obtain ⟨A, c, rfl, hc, ha⟩ := hx
  cases A with
  | none =>
    have h0 : bs = [] := Classical.byContradiction fun h => by obtain ⟨b, o, e, _⟩ := ha h; cases e
    subst h0
    clear ha
    have hq := fun W a n c => Lib.run_eql_slice_nil (P := Tryz.prog) W 22 5 a n c 0 0 Tryz.underlying22
    go_enter Tryz.func47, Tryz.ntmps47
    go_wp2_with fail
    go_ret
    exact ⟨.slice none 0 0, w.heap.size, rfl, BF.nil _ _, Nat.le_refl _, gb_refl _ _⟩
  | some a =>
    have hb0 : BF (w.alloc (.cells #[] 5 (0, 0))) (.slice (some ⟨w.heap.size, 0, none⟩) 0 0) w.heap.size [] :=
      .inr ⟨0, 0, #[], rfl, Nat.le_refl _, by unfold maxLen; omega, heap_alloc_new _ _, Nat.le_refl _, rfl⟩
    have hx1 : BV (w.alloc (.cells #[] 5 (0, 0))) (.slice (some a) bs.length c) bs := ⟨some a, c, rfl, hc, fun h0 => by
      obtain ⟨b, o, e, hb⟩ := ha h0
      exact ⟨b, o, e, hb.grown (gb_alloc (gb_refl w none) _) (by simp)⟩⟩
    clear ha
    have hq := fun W a n c => Lib.run_eql_slice_nil (P := Tryz.prog) W 22 5 a n c 0 0 Tryz.underlying22
    go_enter Tryz.func47, Tryz.ntmps47
    go_wp2_with (first
      | (refine wpList_append_bf rfl _ _ rfl rfl rfl hb0 hx1 (by simpa using hl) ?_; intro v w1 b h1 g1 hb1))
    go_ret
    have g0 : w.grownBy (w.alloc (.cells #[] 5 (0, 0))) none := gb_alloc (gb_refl _ _) _
    exact ⟨v, b, rfl, h1, by have := g0.size; simp at this; rcases hb1 with rfl | h; exact Nat.le_refl _; simp at h; omega, gb_more g0 g1 (fun g hg => by cases hg; exact .inr (Nat.le_refl _))⟩
/-- what a body leaves -/
def BK (R : Nat) (bw : Value) (w : World) (bs : Bs) (σ : RS) (e : Ending) (w' : World) : Prop :=
  if 262144 < max 0 σ.l then QS1 R bw w .nilFunc { σ with st := 413 } e w'
  else if bs.length < σ.i + (max 0 σ.l).toNat then QS1 R bw w .nilFunc σ e w'
  else ∃ v b, BF w' v b ((bs.drop σ.i).take (max 0 σ.l).toNat) ∧ w.heap.size ≤ b ∧ QS1 R bw w .nilFunc { σ with i := σ.i + (max 0 σ.l).toNat, bv := v, wh := true } e w'
set_option maxRecDepth 100000 in
set_option maxHeartbeats 3200000 in
theorem body_big (R : Nat) (bw : Value) (bs : Bs) (σ : RS) (w : World) (h : RB w R bw σ) (hb : 262144 < max 0 σ.l) :
    Calls Tryz.prog 91 #[.pointer (some ⟨R, 0, none⟩)] w (BK R bw w bs σ) := by
  have c8 := h.c8
  obtain ⟨l, hl⟩ : ∃ l, σ.l = l := ⟨_, rfl⟩
  rw [hl] at c8
  have hm : max 0 l = l := by rw [hl] at hb; omega
  have hb' : 262144 < l := by rw [hl] at hb; omega
  have hb := Lib.hid hb
  go_enter Tryz.func91, Tryz.ntmps91
  go_wp2_with (first
    | (go_at_call 66; refine (wrong_any R bw 413 _ _ h).mono ?_; rintro e w4 ⟨rfl, h4, g4⟩))
  go_ret
  unfold BK
  rw [if_pos hb.out]
  exact ⟨rfl, h4, g4⟩
set_option maxRecDepth 100000 in
set_option maxHeartbeats 3200000 in
theorem body_more (R : Nat) (A : Option Addr) (c : Nat) (bs : Bs) (σ : RS) (w : World) (h : RB w R (.slice A bs.length c) σ) (hi : σ.i ≤ bs.length) (hl : bs.length ≤ 2000000) (hb : ¬ 262144 < max 0 σ.l) (hk : bs.length < σ.i + (max 0 σ.l).toNat) :
    Calls Tryz.prog 91 #[.pointer (some ⟨R, 0, none⟩)] w (BK R (.slice A bs.length c) w bs σ) := by
  have c0 := h.c0
  have c1 := h.c1
  have c8 := h.c8
  obtain ⟨l, hl⟩ : ∃ l, σ.l = l := ⟨_, rfl⟩
  rw [hl] at c8
  obtain ⟨k, hm⟩ : ∃ k : Nat, max 0 l = (k : Int) := ⟨(max 0 l).toNat, by omega⟩
  have hb' : ¬ (262144 : Int) < (k : Int) := by rw [hl] at hb; omega
  have hk' : (bs.length : Int) - (σ.i : Int) < (k : Int) := by rw [hl, hm] at hk; simp at hk; omega
  have hw : wrap64 ((bs.length : Int) - (σ.i : Int)) = (bs.length : Int) - (σ.i : Int) := wrap64_id (by omega) (by omega)
  have hb := Lib.hid hb
  have hk := Lib.hid hk
  go_enter Tryz.func91, Tryz.ntmps91
  go_wp2_with fail
  go_quiet (fail)
  go_wp2_with fail
  go_ret
  unfold BK
  rw [if_neg (show ¬ 262144 < max 0 σ.l from by have := hb.out; omega), if_pos hk.out]
  exact ⟨rfl, h.drewN _, gb_drewN (gb_refl _ _) _⟩
theorem BK.of_got {R : Nat} {bw : Value} {w : World} {bs : Bs} {σ : RS} {e : Ending} {w' : World} {k : Nat} (hm : Hid (max 0 σ.l = (k : Int))) (hb : Hid ((k : Int) ≤ 262144)) (hk : Hid (¬ bs.length < σ.i + k))
    (h : ∃ v b, BF w' v b ((bs.drop σ.i).take k) ∧ w.heap.size ≤ b ∧ QS1 R bw w .nilFunc { σ with i := σ.i + k, bv := v, wh := true } e w') : BK R bw w bs σ e w' := by
  unfold BK
  rw [hm.out, Int.toNat_natCast, if_neg (Int.not_lt.mpr hb.out), if_neg hk.out]
  exact h
theorem bf_set {w : World} {v : Value} {b : Nat} {bs : Bs} (h : BF w v b bs) {R : Nat} (hne : b ≠ R) (i : Nat) (u : Value) : BF (w.setCell ⟨R, i, none⟩ u) v b bs := h.grown (gb_setR (gb_refl _ _) i u) (by simpa using hne)
theorem body_nums {i k L : Nat} (hi : i ≤ L) (hl : L ≤ 2000000) (hk : ¬ L < i + k) : (¬ (L : Int) - (i : Int) < (k : Int)) ∧ wrap64 ((L : Int) - (i : Int)) = (L : Int) - (i : Int) ∧ wrap64 ((i : Int) + (k : Int)) = (i : Int) + (k : Int) ∧ IntKind.i64.wrap ((i : Int) + (k : Int)) = (i : Int) + (k : Int) ∧ (0 : Int) ≤ (i : Int) ∧ (i : Int) ≤ (i : Int) + (k : Int) ∧ k ≤ 2000000 :=
  ⟨by omega, wrap64_id (by omega) (by omega), wrap64_id (by omega) (by omega), wrap_id (by omega) (by omega), by omega, by omega, by omega⟩
set_option maxRecDepth 100000 in
set_option maxHeartbeats 3200000 in
theorem body_room (R : Nat) (b o c : Nat) (bs : Bs) (σ : RS) (w : World) (h : RB w R (.slice (some ⟨b, o, none⟩) bs.length c) σ) (hB : BA w b o bs) (hc : bs.length ≤ c) (hci : c ≠ σ.i) (hi : σ.i ≤ bs.length) (hl : bs.length ≤ 2000000)
    (k : Nat) (hm : max 0 σ.l = (k : Int)) (hb : ¬ (262144 : Int) < (k : Int)) (hk : ¬ bs.length < σ.i + k) :
    Calls Tryz.prog 91 #[.pointer (some ⟨R, 0, none⟩)] w (BK R (.slice (some ⟨b, o, none⟩) bs.length c) w bs σ) := by
  have c0 := h.c0
  have c1 := h.c1
  have c8 := h.c8
  have i2 : (σ.i : Int) + (k : Int) ≤ (c : Int) := by clear hm hci hb; omega
  have i3 : ¬ c = σ.i := hci
  have hkn : ((bs.drop σ.i).take k).length = k := by rw [List.length_take, List.length_drop]; clear hm i3 hci hb; omega
  have hRn : some R ≠ (none : Option Nat) := by simp
  obtain ⟨hk', hw, hw2, hw3, i0, i1, hk2⟩ := body_nums hi hl hk
  have hm0 := hm
  obtain ⟨l, hsl⟩ : ∃ l, σ.l = l := ⟨_, rfl⟩
  rw [hsl] at c8 hm
  have hm0 := Lib.hid hm0
  have hkh := Lib.hid hk
  have hbh := Lib.hid hb
  clear hk
  have hsl := Lib.hid hsl
  have hcl := fun (n : Nat) (W : World) (hW : W = w.drewN n) => Lib.hid (clone_any (.slice (some ⟨b, o + σ.i, none⟩) k (c - σ.i)) ((bs.drop σ.i).take k) W ⟨_, _, by rw [hkn], by rw [hkn]; omega, fun _ => ⟨b, o + σ.i, rfl, by subst hW; exact (hB.drop σ.i).take k⟩⟩ (by rw [hkn]; omega))
  have hsub : ((σ.i : Int) + (k : Int)).toNat - σ.i = k := by omega
  clear hc hl hci hi
  go_enter Tryz.func91, Tryz.ntmps91
  go_wp2_with fail
  clear hb
  go_quiet (fail)
  go_upto_region 6 with fail
  clear hk' hw hm
  go_cut [] from 25 to 44 (fun wx => ∃ (A2 : Option Addr) (c2 b2 : Nat), RB wx R (.slice (some ⟨b, o, none⟩) bs.length c) { σ with bv := .slice A2 k c2 } ∧ Hid (BF wx (.slice A2 k c2) b2 ((bs.drop σ.i).take k)) ∧ w.heap.size ≤ b2 ∧ w.grownBy wx (some R))
  case first =>
    go_region_with (first
      | (go_at_call 47; refine ((hcl _ _ rfl).out).mono ?_; rintro e w2 ⟨v, b2, rfl, hv, hb2, g2⟩; obtain ⟨A2, c2, rfl, hc2⟩ := hv.shape; rw [hkn] at hv; have h2 := (h.drewN _).kept g2 hRn; have f6 := h2.f 6; have x6 := h2.c6))
    all_goals
      have hb3 : w.heap.size ≤ b2 := by simpa using hb2
      have hRb : b2 ≠ R := by have := h.lt; omega
      go_wp2_with fail
      go_meet
      exact ⟨A2, c2, b2, h2.set6 _, bf_set hv hRb 6 _, hb3, gb_setR (gb_row (gb_trans (gb_drewN (gb_refl _ _) _) g2) _) _ _⟩
  case rest =>
  obtain ⟨A2, c2, b2, h3, hv, hb3, g3⟩ := hcut
  have hRb : b2 ≠ R := by have := h.lt; omega
  have c1b := h3.c1
  have f1b := h3.f 1
  have h4 := h3.set1 (σ.i + k)
  rw [Int.natCast_add] at h4
  have f10 := h4.f 10
  have c10 := h4.c10
  have h5 := Lib.hid (h4.set10 true)
  clear h4 hcl c0 c1 c8 h
  go_wp2_with fail
  go_ret
  refine BK.of_got hm0 hbh hkh ⟨_, b2, bf_set (bf_set hv.out hRb 1 _) hRb 10 _, hb3, rfl, h5.out, gb_setR (gb_setR g3 _ _) _ _⟩
end Go.Proofs.YtdfgnoflohfnmaaGreatDoor.Hx
