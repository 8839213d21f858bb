/- Policies: & and | are read: the walks. -/
import Derived.Test.YtnnhkajjifmlfaaDoorPl
namespace Go.Proofs.YtnnhkajjifmlfaaDoor.Pl
open Go.RowKit Go.Maps

set_option maxHeartbeats 3200000 in
theorem andW_any {G : PQ → Int × PQ} {B : Nat} {s : ByteArray} (hs : s.size ≤ 100000) (hB6 : 6 ≤ B) (hU : FGn s G) (t : Nat) (hG0 : FC 138 G B s t) : FC 108 (fun σ => manyP s 38 8 G (s.size + 1) (G σ).1 (G σ).2) B s t := by
  intro R σ w h hl hn ht hG
  have hta := hl.ta_le
  obtain ⟨res, hres, hE⟩ : ∃ res, manyP s 38 8 G (s.size + 1) (G σ).1 (G σ).2 = res ∧ Hid (manyP s 38 8 G (s.size + 1) (G σ).1 (G σ).2 = res) := ⟨_, rfl, rfl⟩
  simp only
  rw [hres]
  clear hres
  have hO := Lib.hid (hG0 R σ w h hl hn ht hG)
  have hgo := hU σ hl
  generalize G σ = y at *
  obtain ⟨v, υ⟩ := y
  simp only at *
  have hlu := hgo.lk
  have hnu : υ.ns.length ≤ 1 + 2 * υ.ta := by have := hgo.ns; omega
  have htu : σ.ta ≤ υ.ta := hgo.ta
  clear hgo
  go_enter Tryd.func108, Tryd.ntmps108
  go_wp2_with (first
    | (go_at_call 138; refine (hO.out).mono ?_; rintro e w1 ⟨rfl, hp1, hb1⟩))
  go_loopg [3] (s.size + 1 - υ.ta) (fun k u3 wr => ∃ (f : Nat) (a : Int) (τ : PQ), u3 = .int .i64 a ∧ Hid (manyP s 38 8 G f a τ = res) ∧ Lk s τ ∧ τ.ns.length ≤ 1 + 2 * τ.ta ∧ σ.ta ≤ τ.ta ∧ s.size < f + τ.ta ∧ k = s.size + 1 - τ.ta ∧ PR B R s τ wr ∧ Below B w wr)
  case atStart => exact ⟨s.size + 1, v, υ, rfl, hE, hlu, hnu, htu, by omega, rfl, hp1, hb1⟩
  case round =>
    clear hp1 hb1 hE hO
    obtain ⟨f, a, τ, rfl, hma, hlk, hns, hj, hf, rfl, hp, hb⟩ := hrel
    have hta2 := hlk.ta_le
    cases hsg : signB 38 τ with
    | true =>
      obtain ⟨f', rfl⟩ : ∃ f', f = f' + 1 := ⟨f - 1, by omega⟩
      obtain ⟨g1, g2, g3⟩ := gn_sign hlk (signB_k0 hsg)
      have hma2 : Hid (manyP s 38 8 G f' (putP ⟨8, 0, ⟨#[]⟩, ⟨#[]⟩, a, (G (nextP s τ)).1⟩ (G (nextP s τ)).2).1 (putP ⟨8, 0, ⟨#[]⟩, ⟨#[]⟩, a, (G (nextP s τ)).1⟩ (G (nextP s τ)).2).2 = res) := by
        have := hma.out
        rw [manyP, if_pos hsg] at this
        exact this
      have hS := Lib.hid (sign_prY 38 hp hlk (by omega) hsg)
      have hta3 := g2.ta_le
      have hI := fun W (hh : PR B R s (nextP s τ) W) (hGW : Gv W) => Lib.hid (hG0 R (nextP s τ) W hh g2 (by rw [g3]; omega) (by omega) hGW)
      have hgo := hU _ g2
      have hgn := hgo.ns
      rw [g3] at hgn
      have hgt := hgo.ta
      have hgl := hgo.lk
      clear hma hgo
      generalize G (nextP s τ) = z at *
      obtain ⟨v2, υ2⟩ := z
      simp only at *
      have hgs := hgl.ta_le
      have hP := fun W (hh : PR B R s υ2 W) => Lib.hid (put_any B R s υ2 ⟨8, 0, ⟨#[]⟩, ⟨#[]⟩, a, v2⟩ W hh (by omega))
      have hln : (putP ⟨8, 0, ⟨#[]⟩, ⟨#[]⟩, a, v2⟩ υ2).2.ns.length = υ2.ns.length + 1 := by unfold putP; simp
      have hlt : (putP ⟨8, 0, ⟨#[]⟩, ⟨#[]⟩, a, v2⟩ υ2).2.ta = υ2.ta := rfl
      have hll := (gn_put hgl ⟨8, 0, ⟨#[]⟩, ⟨#[]⟩, a, v2⟩).lk
      generalize putP ⟨8, 0, ⟨#[]⟩, ⟨#[]⟩, a, v2⟩ υ2 = z at *
      obtain ⟨a3, τ3⟩ := z
      simp only at *
      go_wp2_with (first
        | (go_at_call 109; refine (hS.out).mono ?_; rintro e w2 ⟨rfl, hp2, hb2⟩)
        | (go_at_call 138; refine ((hI _ hp2 (gv_below hG (hb.trans hb2) hB6)).out).mono ?_; rintro e w3 ⟨rfl, hp3, hb3⟩)
        | (go_at_call 110; refine ((hP _ hp3).out).mono ?_; rintro e w4 ⟨rfl, hp4, hb4⟩))
      go_roundg (s.size + 1 - τ3.ta)
      case measure => omega
      case rel => exact ⟨f', a3, τ3, rfl, hma2, hll, by omega, by omega, by omega, rfl, hp4, ((hb.trans hb2).trans hb3).trans hb4⟩
    | false =>
      have hE2 : Hid (res = (a, τ)) := by
        have := hma.out
        cases f with
        | zero => omega
        | succ f => rw [manyP, hsg] at this; exact this.symm
      have hS := Lib.hid (sign_prN 38 hp hlk (by omega) hsg)
      clear hma
      go_wp2_with (first
        | (go_at_call 109; refine (hS.out).mono ?_; rintro e w2 ⟨rfl, hp2, hb2⟩))
      go_ret
      exact ⟨by rw [hE2.out]; rfl, by rw [hE2.out]; exact hp2, hb.trans hb2⟩
set_option maxHeartbeats 3200000 in
theorem orW_any {G : PQ → Int × PQ} {B : Nat} {s : ByteArray} (hs : s.size ≤ 100000) (hB6 : 6 ≤ B) (hU : FGn s G) (t : Nat) (hG0 : FC 108 G B s t) : FC 64 (fun σ => manyP s 124 9 G (s.size + 1) (G σ).1 (G σ).2) B s t := by
  intro R σ w h hl hn ht hG
  have hta := hl.ta_le
  obtain ⟨res, hres, hE⟩ : ∃ res, manyP s 124 9 G (s.size + 1) (G σ).1 (G σ).2 = res ∧ Hid (manyP s 124 9 G (s.size + 1) (G σ).1 (G σ).2 = res) := ⟨_, rfl, rfl⟩
  simp only
  rw [hres]
  clear hres
  have hO := Lib.hid (hG0 R σ w h hl hn ht hG)
  have hgo := hU σ hl
  generalize G σ = y at *
  obtain ⟨v, υ⟩ := y
  simp only at *
  have hlu := hgo.lk
  have hnu : υ.ns.length ≤ 1 + 2 * υ.ta := by have := hgo.ns; omega
  have htu : σ.ta ≤ υ.ta := hgo.ta
  clear hgo
  go_enter Tryd.func64, Tryd.ntmps64
  go_wp2_with (first
    | (go_at_call 108; refine (hO.out).mono ?_; rintro e w1 ⟨rfl, hp1, hb1⟩))
  go_loopg [3] (s.size + 1 - υ.ta) (fun k u3 wr => ∃ (f : Nat) (a : Int) (τ : PQ), u3 = .int .i64 a ∧ Hid (manyP s 124 9 G f a τ = res) ∧ Lk s τ ∧ τ.ns.length ≤ 1 + 2 * τ.ta ∧ σ.ta ≤ τ.ta ∧ s.size < f + τ.ta ∧ k = s.size + 1 - τ.ta ∧ PR B R s τ wr ∧ Below B w wr)
  case atStart => exact ⟨s.size + 1, v, υ, rfl, hE, hlu, hnu, htu, by omega, rfl, hp1, hb1⟩
  case round =>
    clear hp1 hb1 hE hO
    obtain ⟨f, a, τ, rfl, hma, hlk, hns, hj, hf, rfl, hp, hb⟩ := hrel
    have hta2 := hlk.ta_le
    cases hsg : signB 124 τ with
    | true =>
      obtain ⟨f', rfl⟩ : ∃ f', f = f' + 1 := ⟨f - 1, by omega⟩
      obtain ⟨g1, g2, g3⟩ := gn_sign hlk (signB_k0 hsg)
      have hma2 : Hid (manyP s 124 9 G f' (putP ⟨9, 0, ⟨#[]⟩, ⟨#[]⟩, a, (G (nextP s τ)).1⟩ (G (nextP s τ)).2).1 (putP ⟨9, 0, ⟨#[]⟩, ⟨#[]⟩, a, (G (nextP s τ)).1⟩ (G (nextP s τ)).2).2 = res) := by
        have := hma.out
        rw [manyP, if_pos hsg] at this
        exact this
      have hS := Lib.hid (sign_prY 124 hp hlk (by omega) hsg)
      have hta3 := g2.ta_le
      have hI := fun W (hh : PR B R s (nextP s τ) W) (hGW : Gv W) => Lib.hid (hG0 R (nextP s τ) W hh g2 (by rw [g3]; omega) (by omega) hGW)
      have hgo := hU _ g2
      have hgn := hgo.ns
      rw [g3] at hgn
      have hgt := hgo.ta
      have hgl := hgo.lk
      clear hma hgo
      generalize G (nextP s τ) = z at *
      obtain ⟨v2, υ2⟩ := z
      simp only at *
      have hgs := hgl.ta_le
      have hP := fun W (hh : PR B R s υ2 W) => Lib.hid (put_any B R s υ2 ⟨9, 0, ⟨#[]⟩, ⟨#[]⟩, a, v2⟩ W hh (by omega))
      have hln : (putP ⟨9, 0, ⟨#[]⟩, ⟨#[]⟩, a, v2⟩ υ2).2.ns.length = υ2.ns.length + 1 := by unfold putP; simp
      have hlt : (putP ⟨9, 0, ⟨#[]⟩, ⟨#[]⟩, a, v2⟩ υ2).2.ta = υ2.ta := rfl
      have hll := (gn_put hgl ⟨9, 0, ⟨#[]⟩, ⟨#[]⟩, a, v2⟩).lk
      generalize putP ⟨9, 0, ⟨#[]⟩, ⟨#[]⟩, a, v2⟩ υ2 = z at *
      obtain ⟨a3, τ3⟩ := z
      simp only at *
      go_wp2_with (first
        | (go_at_call 109; refine (hS.out).mono ?_; rintro e w2 ⟨rfl, hp2, hb2⟩)
        | (go_at_call 108; refine ((hI _ hp2 (gv_below hG (hb.trans hb2) hB6)).out).mono ?_; rintro e w3 ⟨rfl, hp3, hb3⟩)
        | (go_at_call 110; refine ((hP _ hp3).out).mono ?_; rintro e w4 ⟨rfl, hp4, hb4⟩))
      go_roundg (s.size + 1 - τ3.ta)
      case measure => omega
      case rel => exact ⟨f', a3, τ3, rfl, hma2, hll, by omega, by omega, by omega, rfl, hp4, ((hb.trans hb2).trans hb3).trans hb4⟩
    | false =>
      have hE2 : Hid (res = (a, τ)) := by
        have := hma.out
        cases f with
        | zero => omega
        | succ f => rw [manyP, hsg] at this; exact this.symm
      have hS := Lib.hid (sign_prN 124 hp hlk (by omega) hsg)
      clear hma
      go_wp2_with (first
        | (go_at_call 109; refine (hS.out).mono ?_; rintro e w2 ⟨rfl, hp2, hb2⟩))
      go_ret
      exact ⟨by rw [hE2.out]; rfl, by rw [hE2.out]; exact hp2, hb.trans hb2⟩
theorem orD_any {B : Nat} {s : ByteArray} (hs : s.size ≤ 100000) (hB6 : 6 ≤ B) : ∀ (d t : Nat), s.size < d + t → FC 64 (orD s d) B s t
  | 0, t, h => fun R σ w _ hl _ ht _ => by have := hl.ta_le; omega
  | d + 1, t, h => orW_any hs hB6 (gn_and (gn_orD s d)) t (andW_any hs hB6 (gn_not (gn_orD s d)) t (not_any hs hB6 (gn_orD s d) t (orD_any hs hB6 d (t + 1) (by omega))))
end Go.Proofs.YtnnhkajjifmlfaaDoor.Pl
