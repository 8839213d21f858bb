/- Policies: what signs hold together: the walks. -/
import Derived.Test.YtnnhkajjifmlfaaDoorPk
namespace Go.Proofs.YtnnhkajjifmlfaaDoor.Pl
open Go.RowKit Go.Maps

theorem bangN {σ : PQ} {s : ByteArray} (h : signB 33 σ = false) : ∀ f : Nat, bangP s f σ = (0, σ)
  | 0 => rfl
  | f + 1 => by unfold bangP; rw [h]; rfl
theorem bangY {σ : PQ} {s : ByteArray} (h : signB 33 σ = true) (f : Nat) : bangP s (f + 1) σ = ((bangP s f (nextP s σ)).1 + 1, (bangP s f (nextP s σ)).2) := by
  conv => lhs; unfold bangP
  rw [if_pos h]
theorem notsP_add : ∀ (n : Nat) (i : Int) (σ : PQ), notsP (n + 1) i σ = notsP n (putP ⟨7, 0, ⟨#[]⟩, ⟨#[]⟩, i, 0⟩ σ).1 (putP ⟨7, 0, ⟨#[]⟩, ⟨#[]⟩, i, 0⟩ σ).2 := fun _ _ _ => rfl
set_option maxHeartbeats 3200000 in
theorem not_any {F : PQ → Int × PQ} {B : Nat} {s : ByteArray} (hs : s.size ≤ 100000) (hB6 : 6 ≤ B) (hU : FGn s F) (t : Nat) (hF : FC 64 F B s (t + 1)) : FC 138 (notP s F) B s t := by
  intro R σ w h hl hn ht hG
  have hOne := one_any hs hB6 hU t hF
  have hUo := gn_one hU
  have hta := hl.ta_le
  obtain ⟨res, hres, hE⟩ : ∃ res, notP s F σ = res ∧ Hid (res = notsP (bangP s (s.size + 1) σ).1 (oneP s F (bangP s (s.size + 1) σ).2).1 (oneP s F (bangP s (s.size + 1) σ).2).2) := ⟨_, rfl, rfl⟩
  rw [hres]
  clear hres
  go_enter Tryd.func138, Tryd.ntmps138
  go_wp2_with fail
  go_loopg [3] (s.size + 1 - σ.ta) (fun k u3 wr => ∃ (j f : Nat) (τ : PQ), u3 = .int .i64 j ∧ Hid (bangP s (s.size + 1) σ = ((bangP s f τ).1 + j, (bangP s f τ).2)) ∧ Lk s τ ∧ τ.ns = σ.ns ∧ σ.ta + j ≤ τ.ta ∧ s.size < f + τ.ta ∧ k = s.size + 1 - τ.ta ∧ PR B R s τ wr ∧ Below B w wr)
  case atStart => exact ⟨0, s.size + 1, σ, rfl, rfl, hl, rfl, by omega, by omega, rfl, h, Below.refl _ _⟩
  case round =>
    obtain ⟨j, f, τ, rfl, hbg, hlk, hns, hj, hf, rfl, hp, hb⟩ := hrel
    have hta2 := hlk.ta_le
    cases hsg : signB 33 τ with
    | true =>
      obtain ⟨f', rfl⟩ : ∃ f', f = f' + 1 := ⟨f - 1, by omega⟩
      obtain ⟨g1, g2, g3⟩ := gn_sign hlk (signB_k0 hsg)
      have hbg2 : Hid (bangP s (s.size + 1) σ = ((bangP s f' (nextP s τ)).1 + (j + 1), (bangP s f' (nextP s τ)).2)) := by
        unfold Hid
        rw [hbg.out, bangY hsg]
        simp only
        congr 1
        omega
      have hS := Lib.hid (sign_prY 33 hp hlk (by omega) hsg)
      have hta3 := g2.ta_le
      have hjI : (j : Int) ≤ 200000 := by omega
      have hq1 := Lib.hid (show wrap64 ((j : Int) + 1) = ((j + 1 : Nat) : Int) from (wrap64_id (by omega) (by omega)).trans (by omega))
      clear hbg
      go_wp2_with (first
        | (go_at_call 109; refine (hS.out).mono ?_; rintro e w1 ⟨rfl, hp1, hb1⟩))
      go_roundg (s.size + 1 - (nextP s τ).ta)
      case measure => omega
      case rel => exact ⟨j + 1, f', nextP s τ, by first | rw [hq1.out] | go_num, hbg2, g2, g3.trans hns, by omega, by omega, rfl, hp1, hb.trans hb1⟩
    | false =>
      have hbg2 : Hid (bangP s (s.size + 1) σ = (j, τ)) := by
        unfold Hid
        rw [hbg.out, bangN hsg]
        simp
      have hS := Lib.hid (sign_prN 33 hp hlk (by omega) hsg)
      have hE2 : Hid (res = notsP j (oneP s F τ).1 (oneP s F τ).2) := by unfold Hid; rw [hE.out, hbg2.out]
      clear hE
      have hO := fun W (hh : PR B R s τ W) (hGW : Gv W) => Lib.hid (hOne R τ W hh hlk (by rw [hns]; omega) (by omega) hGW)
      have hgo := hUo τ hlk
      clear hbg hbg2 hOne hUo hF hU
      generalize oneP s F τ = y at *
      obtain ⟨v, υ⟩ := y
      simp only at *
      have hlu := hgo.lk
      have hnu : υ.ns.length + j ≤ 1 + 2 * υ.ta := by
        have h1 := hgo.ns
        have h2 := hgo.ta
        rw [hns] at h1
        omega
      have htu := hlu.ta_le
      clear hgo
      go_wp2_with (first
        | (go_at_call 159; refine ((hO _ hp1 (gv_below hG (hb.trans hb1) hB6)).out).mono ?_; rintro e w2 ⟨rfl, hp2, hb2⟩)
        | (go_at_call 109; refine (hS.out).mono ?_; rintro e w1 ⟨rfl, hp1, hb1⟩))
      go_loopg [4, 12] (j + 1) (fun k u4 u12 wr2 => ∃ (i : Nat) (a : Int) (ρ : PQ), i ≤ j ∧ u4 = .int .i64 a ∧ u12 = .int .i64 i ∧ Hid (notsP (j - i) a ρ = notsP j v υ) ∧ ρ.ns.length ≤ υ.ns.length + i ∧ k = j + 1 - i ∧ PR B R s ρ wr2 ∧ Below B w wr2)
      case atStart => exact ⟨0, v, υ, Nat.zero_le _, rfl, rfl, rfl, Nat.le_refl _, rfl, hp2, (hb.trans hb1).trans hb2⟩
      case round =>
        clear hp2 hp1 hp hb1 hb2 hb hO hS
        obtain ⟨i, a, ρ, hi, rfl, rfl, hno, hnr, rfl, hp, hb⟩ := hrel
        by_cases hij : i < j
        · have hijI : (i : Int) < (j : Int) := by omega
          obtain ⟨m, hm⟩ : ∃ m, j - i = m + 1 := ⟨j - i - 1, by omega⟩
          have hP := Lib.hid (put_any B R s ρ ⟨7, 0, ⟨#[]⟩, ⟨#[]⟩, a, 0⟩ _ hp (by omega))
          have hno2 : Hid (notsP (j - (i + 1)) (putP ⟨7, 0, ⟨#[]⟩, ⟨#[]⟩, a, 0⟩ ρ).1 (putP ⟨7, 0, ⟨#[]⟩, ⟨#[]⟩, a, 0⟩ ρ).2 = notsP j v υ) := by
            have := hno.out
            rw [hm, notsP_add] at this
            rw [show j - (i + 1) = m by omega]
            exact this
          have hln : (putP ⟨7, 0, ⟨#[]⟩, ⟨#[]⟩, a, 0⟩ ρ).2.ns.length = ρ.ns.length + 1 := by unfold putP; simp
          have hq1 := Lib.hid (show wrap64 ((i : Int) + 1) = ((i + 1 : Nat) : Int) from (wrap64_id (by omega) (by omega)).trans (by omega))
          generalize putP ⟨7, 0, ⟨#[]⟩, ⟨#[]⟩, a, 0⟩ ρ = z at *
          obtain ⟨a2, ρ2⟩ := z
          simp only at *
          clear hno hm
          go_wp2_with (first
            | (go_at_call 110; refine (hP.out).mono ?_; rintro e w3 ⟨rfl, hp3, hb3⟩))
          go_roundg (j - i)
          case measure => omega
          case rel => exact ⟨i + 1, a2, ρ2, by omega, rfl, by first | rw [hq1.out] | go_num, hno2, by omega, by omega, hp3, hb.trans hb3⟩
        · obtain rfl : i = j := by omega
          have hno2 : Hid (notsP i v υ = (a, ρ)) := by
            have := hno.out
            rw [Nat.sub_self] at this
            exact this.symm
          have hijI : ¬ (i : Int) < (i : Int) := by omega
          clear hno
          go_wp2_with fail
          go_ret
          exact ⟨by rw [hE2.out, hno2.out]; rfl, by rw [hE2.out, hno2.out]; exact hp, hb⟩
end Go.Proofs.YtnnhkajjifmlfaaDoor.Pl
