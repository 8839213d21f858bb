/- Policies: what holds together is read: the walks. -/
import Derived.Test.YtnnhkajjifmlfaaDoorPj
namespace Go.Proofs.YtnnhkajjifmlfaaDoor.Pl
open Go.RowKit Go.Maps

theorem gv_below {B : Nat} {w w' : World} (h : Gv w) (hb : Below B w w') (hB : 6 ≤ B) : Gv w' := by
  obtain ⟨⟨t1, p1, h1⟩, ⟨t2, p2, h2⟩⟩ := h
  exact ⟨⟨t1, p1, var_kept glob_syn h1 (hb.block 2 (by omega))⟩, ⟨t2, p2, var_kept glob_rng h2 (hb.block 3 (by omega))⟩⟩
/-- what a method leaves -/
abbrev SI (B R : Nat) (s : ByteArray) (w : World) (v : Value) (τ : PQ) (e : Ending) (w' : World) : Prop :=
  e = .returned v ∧ PR B R s τ w' ∧ Below B w w'
theorem si_of_ps1 {B R f : Nat} {args : Array Value} {s : ByteArray} {σ τ : PQ} {w : World} {v : Value} (h : PR B R s σ w) (hns : τ.ns = σ.ns)
    (hc : ∀ nv, PB w R s σ nv → Calls Tryd.prog f args w (PS1 R s nv w v τ)) : Calls Tryd.prog f args w (SI B R s w v τ) := by
  have hBw := h.gr
  obtain ⟨hB, A, c, hR, hown, hne⟩ := h
  refine (hc _ hR).mono ?_
  rintro e w' ⟨rfl, hR', hg⟩
  obtain ⟨h1, h2⟩ := PR.ps1 hB hown hne hR' hg hns hBw
  exact ⟨rfl, h1, h2⟩
theorem sign_prY {B R : Nat} {s : ByteArray} {σ : PQ} {w : World} (c : UInt8) (h : PR B R s σ w) (hl : Lk s σ) (hs : s.size ≤ 2000000) (hc : signB c σ = true) :
    Calls Tryd.prog 109 #[.pointer (some ⟨R, 0, none⟩), .string ⟨#[c]⟩] w (SI B R s w (.bool true) (nextP s σ)) :=
  si_of_ps1 h (next_gr s σ).2 fun nv hR => sign_yes R s c σ nv w hR hl.ps hs hc
theorem sign_prN {B R : Nat} {s : ByteArray} {σ : PQ} {w : World} (c : UInt8) (h : PR B R s σ w) (hl : Lk s σ) (hs : s.size ≤ 2000000) (hc : signB c σ = false) :
    Calls Tryd.prog 109 #[.pointer (some ⟨R, 0, none⟩), .string ⟨#[c]⟩] w (SI B R s w (.bool false) σ) :=
  si_of_ps1 h rfl fun nv hR => sign_no R s c σ nv w hR hl.ps hs hc
theorem fault_pr {B R : Nat} {s : ByteArray} {σ : PQ} {w : World} (h : PR B R s σ w) :
    Calls Tryd.prog 65 #[.pointer (some ⟨R, 0, none⟩)] w (SI B R s w (.tuple #[]) (faultP σ)) :=
  si_of_ps1 h (fault_ns σ) fun nv hR => fault_any R s σ nv w hR
/-- a function reads as F does, from tokens at t on -/
def FC (f : Nat) (F : PQ → Int × PQ) (B : Nat) (s : ByteArray) (t : Nat) : Prop :=
  ∀ (R : Nat) (σ : PQ) (w : World), PR B R s σ w → Lk s σ → σ.ns.length ≤ 2 * σ.ta → t ≤ σ.ta → Gv w → Calls Tryd.prog f #[.pointer (some ⟨R, 0, none⟩)] w (RI B R s w (F σ).1 (F σ).2)
set_option maxHeartbeats 3200000 in
theorem one_paren {F : PQ → Int × PQ} {B : Nat} {s : ByteArray} (hs : s.size ≤ 100000) (hB6 : 6 ≤ B) (hU : FGn s F) (R : Nat) (σ : PQ) (w : World) (h : PR B R s σ w) (hl : Lk s σ) (hn : σ.ns.length ≤ 2 * σ.ta) (hF : FC 64 F B s (σ.ta + 1)) (hG : Gv w) (hsg : signB 40 σ = true) :
    Calls Tryd.prog 159 #[.pointer (some ⟨R, 0, none⟩)] w (RI B R s w (oneP s F σ).1 (oneP s F σ).2) := by
  have hE : oneP s F σ = ((F (nextP s σ)).1, needP s 41 (F (nextP s σ)).2) := by unfold oneP; rw [hsg]; rfl
  rw [hE]
  clear hE
  obtain ⟨g1, g2, g3⟩ := gn_sign hl (signB_k0 hsg)
  have hS := Lib.hid (sign_prY 40 h hl (by omega) hsg)
  have hO := fun W (hh : PR B R s (nextP s σ) W) (hGW : Gv W) => Lib.hid (hF R (nextP s σ) W hh g2 (by rw [g3]; omega) g1 hGW)
  have hlF := (hU _ g2).lk
  clear hF g3
  generalize F (nextP s σ) = y at *
  obtain ⟨v, τ⟩ := y
  simp only at *
  cases h41 : signB 41 τ with
  | true =>
    have hS2 := fun W (hh : PR B R s τ W) => Lib.hid (sign_prY 41 hh hlF (by omega) h41)
    have hN : needP s 41 τ = nextP s τ := by unfold needP; rw [h41]; rfl
    rw [hN]
    go_enter Tryd.func159, Tryd.ntmps159
    go_wp2_with (first
      | (go_at_call 109; have hmk := hp2; refine ((hS2 _ hp2).out).mono ?_; rintro e w3 ⟨rfl, hp3, hb3⟩)
      | (go_at_call 109; refine (hS.out).mono ?_; rintro e w1 ⟨rfl, hp1, hb1⟩)
      | (go_at_call 64; refine ((hO _ hp1 (gv_below hG hb1 hB6)).out).mono ?_; rintro e w2 ⟨rfl, hp2, hb2⟩))
    go_ret
    exact ⟨rfl, hp3, (hb1.trans hb2).trans hb3⟩
  | false =>
    have hS2 := fun W (hh : PR B R s τ W) => Lib.hid (sign_prN 41 hh hlF (by omega) h41)
    have hN : needP s 41 τ = faultP τ := by unfold needP; rw [h41]; rfl
    rw [hN]
    go_enter Tryd.func159, Tryd.ntmps159
    go_wp2_with (first
      | (go_at_call 65; refine (fault_pr hp3).mono ?_; rintro e w4 ⟨rfl, hp4, hb4⟩)
      | (go_at_call 109; have hmk := hp2; refine ((hS2 _ hp2).out).mono ?_; rintro e w3 ⟨rfl, hp3, hb3⟩)
      | (go_at_call 109; refine (hS.out).mono ?_; rintro e w1 ⟨rfl, hp1, hb1⟩)
      | (go_at_call 64; refine ((hO _ hp1 (gv_below hG hb1 hB6)).out).mono ?_; rintro e w2 ⟨rfl, hp2, hb2⟩))
    go_ret
    exact ⟨rfl, hp4, ((hb1.trans hb2).trans hb3).trans hb4⟩
theorem one_any {F : PQ → Int × PQ} {B : Nat} {s : ByteArray} (hs : s.size ≤ 100000) (hB6 : 6 ≤ B) (hU : FGn s F) (t : Nat) (hF : FC 64 F B s (t + 1)) : FC 159 (oneP s F) B s t := by
  intro R σ w h hl hn ht hG
  have hta := hl.ta_le
  cases hsg : signB 40 σ with
  | true => exact one_paren hs hB6 hU R σ w h hl hn (fun R σ w a b c d => hF R σ w a b c (by omega)) hG hsg
  | false =>
    have hn' : σ.ns.length ≤ 1000000 := by omega
    have hs' : s.size ≤ 2000000 := by omega
    by_cases h1 : (takeP s 1 σ).1 = wAlways
    · exact one_always B R s F σ w h hl hn' hs' hG hB6 hsg h1
    by_cases h2 : (takeP s 1 σ).1 = wError
    · exact one_error B R s F σ w h hl hn' hs' hG hB6 hsg h2
    by_cases h3 : (takeP s 1 σ).1 = wSlow
    · exact one_slow B R s F σ w h hl hn' hs' hG hB6 hsg h3
    by_cases h4 : (takeP s 1 σ).1 = wRatio
    · exact one_ratio B R s F σ w h hl hn' hs' hG hB6 hsg h4
    by_cases h5 : (takeP s 1 σ).1 = wService
    · exact one_service B R s F σ w h hl hn' hs' hG hB6 hsg h5
    by_cases h6 : (takeP s 1 σ).1 = wTag
    · cases h7 : signB 61 (takeP s 3 (takeP s 1 σ).2).2 with
      | true => exact one_tag B R s F σ w h hl hn' hs' hG hB6 hsg h6 h7
      | false => exact one_tagn B R s F σ w h hl hn' hs' hG hB6 hsg h6 h7
    · exact one_none B R s F σ w h hl hn' hs' hG hB6 hsg ⟨h1, h2, h3, h4, h5, h6⟩
end Go.Proofs.YtnnhkajjifmlfaaDoor.Pl
/-! Policies: what signs hold together: the walks. -/
namespace Go.Proofs.YtnnhkajjifmlfaaDoor.Pl
open Go.RowKit Go.Maps

theorem bangN {σ : PQ} {s : ByteArray} (h : signB 33 σ = false) : ∀ f : Nat, bangP s f σ = (0, σ)
  | 0 => rfl
  | f + 1 => by unfold bangP; rw [h]; rfl
theorem bangY {σ : PQ} {s : ByteArray} (h : signB 33 σ = true) (f : Nat) : bangP s (f + 1) σ = ((bangP s f (nextP s σ)).1 + 1, (bangP s f (nextP s σ)).2) := by
  conv => lhs; unfold bangP
  rw [if_pos h]
theorem notsP_add : ∀ (n : Nat) (i : Int) (σ : PQ), notsP (n + 1) i σ = notsP n (putP ⟨7, 0, ⟨#[]⟩, ⟨#[]⟩, i, 0⟩ σ).1 (putP ⟨7, 0, ⟨#[]⟩, ⟨#[]⟩, i, 0⟩ σ).2 := fun _ _ _ => rfl
set_option maxHeartbeats 3200000 in
theorem not_any {F : PQ → Int × PQ} {B : Nat} {s : ByteArray} (hs : s.size ≤ 100000) (hB6 : 6 ≤ B) (hU : FGn s F) (t : Nat) (hF : FC 64 F B s (t + 1)) : FC 138 (notP s F) B s t := by
  intro R σ w h hl hn ht hG
  have hOne := one_any hs hB6 hU t hF
  have hUo := gn_one hU
  have hta := hl.ta_le
  obtain ⟨res, hres, hE⟩ : ∃ res, notP s F σ = res ∧ Hid (res = notsP (bangP s (s.size + 1) σ).1 (oneP s F (bangP s (s.size + 1) σ).2).1 (oneP s F (bangP s (s.size + 1) σ).2).2) := ⟨_, rfl, rfl⟩
  rw [hres]
  clear hres
  go_enter Tryd.func138, Tryd.ntmps138
  go_wp2_with fail
  go_loopg [3] (s.size + 1 - σ.ta) (fun k u3 wr => ∃ (j f : Nat) (τ : PQ), u3 = .int .i64 j ∧ Hid (bangP s (s.size + 1) σ = ((bangP s f τ).1 + j, (bangP s f τ).2)) ∧ Lk s τ ∧ τ.ns = σ.ns ∧ σ.ta + j ≤ τ.ta ∧ s.size < f + τ.ta ∧ k = s.size + 1 - τ.ta ∧ PR B R s τ wr ∧ Below B w wr)
  case atStart => exact ⟨0, s.size + 1, σ, rfl, rfl, hl, rfl, by omega, by omega, rfl, h, Below.refl _ _⟩
  case round =>
    obtain ⟨j, f, τ, rfl, hbg, hlk, hns, hj, hf, rfl, hp, hb⟩ := hrel
    have hta2 := hlk.ta_le
    cases hsg : signB 33 τ with
    | true =>
      obtain ⟨f', rfl⟩ : ∃ f', f = f' + 1 := ⟨f - 1, by omega⟩
      obtain ⟨g1, g2, g3⟩ := gn_sign hlk (signB_k0 hsg)
      have hbg2 : Hid (bangP s (s.size + 1) σ = ((bangP s f' (nextP s τ)).1 + (j + 1), (bangP s f' (nextP s τ)).2)) := by
        unfold Hid
        rw [hbg.out, bangY hsg]
        simp only
        congr 1
        omega
      have hS := Lib.hid (sign_prY 33 hp hlk (by omega) hsg)
      have hta3 := g2.ta_le
      have hjI : (j : Int) ≤ 200000 := by omega
      have hq1 := Lib.hid (show wrap64 ((j : Int) + 1) = ((j + 1 : Nat) : Int) from (wrap64_id (by omega) (by omega)).trans (by omega))
      clear hbg
      go_wp2_with (first
        | (go_at_call 109; refine (hS.out).mono ?_; rintro e w1 ⟨rfl, hp1, hb1⟩))
      go_roundg (s.size + 1 - (nextP s τ).ta)
      case measure => omega
      case rel => exact ⟨j + 1, f', nextP s τ, by first | rw [hq1.out] | go_num, hbg2, g2, g3.trans hns, by omega, by omega, rfl, hp1, hb.trans hb1⟩
    | false =>
      have hbg2 : Hid (bangP s (s.size + 1) σ = (j, τ)) := by
        unfold Hid
        rw [hbg.out, bangN hsg]
        simp
      have hS := Lib.hid (sign_prN 33 hp hlk (by omega) hsg)
      have hE2 : Hid (res = notsP j (oneP s F τ).1 (oneP s F τ).2) := by unfold Hid; rw [hE.out, hbg2.out]
      clear hE
      have hO := fun W (hh : PR B R s τ W) (hGW : Gv W) => Lib.hid (hOne R τ W hh hlk (by rw [hns]; omega) (by omega) hGW)
      have hgo := hUo τ hlk
      clear hbg hbg2 hOne hUo hF hU
      generalize oneP s F τ = y at *
      obtain ⟨v, υ⟩ := y
      simp only at *
      have hlu := hgo.lk
      have hnu : υ.ns.length + j ≤ 1 + 2 * υ.ta := by
        have h1 := hgo.ns
        have h2 := hgo.ta
        rw [hns] at h1
        omega
      have htu := hlu.ta_le
      clear hgo
      go_wp2_with (first
        | (go_at_call 159; refine ((hO _ hp1 (gv_below hG (hb.trans hb1) hB6)).out).mono ?_; rintro e w2 ⟨rfl, hp2, hb2⟩)
        | (go_at_call 109; refine (hS.out).mono ?_; rintro e w1 ⟨rfl, hp1, hb1⟩))
      go_loopg [4, 12] (j + 1) (fun k u4 u12 wr2 => ∃ (i : Nat) (a : Int) (ρ : PQ), i ≤ j ∧ u4 = .int .i64 a ∧ u12 = .int .i64 i ∧ Hid (notsP (j - i) a ρ = notsP j v υ) ∧ ρ.ns.length ≤ υ.ns.length + i ∧ k = j + 1 - i ∧ PR B R s ρ wr2 ∧ Below B w wr2)
      case atStart => exact ⟨0, v, υ, Nat.zero_le _, rfl, rfl, rfl, Nat.le_refl _, rfl, hp2, (hb.trans hb1).trans hb2⟩
      case round =>
        clear hp2 hp1 hp hb1 hb2 hb hO hS
        obtain ⟨i, a, ρ, hi, rfl, rfl, hno, hnr, rfl, hp, hb⟩ := hrel
        by_cases hij : i < j
        · have hijI : (i : Int) < (j : Int) := by omega
          obtain ⟨m, hm⟩ : ∃ m, j - i = m + 1 := ⟨j - i - 1, by omega⟩
          have hP := Lib.hid (put_any B R s ρ ⟨7, 0, ⟨#[]⟩, ⟨#[]⟩, a, 0⟩ _ hp (by omega))
          have hno2 : Hid (notsP (j - (i + 1)) (putP ⟨7, 0, ⟨#[]⟩, ⟨#[]⟩, a, 0⟩ ρ).1 (putP ⟨7, 0, ⟨#[]⟩, ⟨#[]⟩, a, 0⟩ ρ).2 = notsP j v υ) := by
            have := hno.out
            rw [hm, notsP_add] at this
            rw [show j - (i + 1) = m by omega]
            exact this
          have hln : (putP ⟨7, 0, ⟨#[]⟩, ⟨#[]⟩, a, 0⟩ ρ).2.ns.length = ρ.ns.length + 1 := by unfold putP; simp
          have hq1 := Lib.hid (show wrap64 ((i : Int) + 1) = ((i + 1 : Nat) : Int) from (wrap64_id (by omega) (by omega)).trans (by omega))
          generalize putP ⟨7, 0, ⟨#[]⟩, ⟨#[]⟩, a, 0⟩ ρ = z at *
          obtain ⟨a2, ρ2⟩ := z
          simp only at *
          clear hno hm
          go_wp2_with (first
            | (go_at_call 110; refine (hP.out).mono ?_; rintro e w3 ⟨rfl, hp3, hb3⟩))
          go_roundg (j - i)
          case measure => omega
          case rel => exact ⟨i + 1, a2, ρ2, by omega, rfl, by first | rw [hq1.out] | go_num, hno2, by omega, by omega, hp3, hb.trans hb3⟩
        · obtain rfl : i = j := by omega
          have hno2 : Hid (notsP i v υ = (a, ρ)) := by
            have := hno.out
            rw [Nat.sub_self] at this
            exact this.symm
          have hijI : ¬ (i : Int) < (i : Int) := by omega
          clear hno
          go_wp2_with fail
          go_ret
          exact ⟨by rw [hE2.out, hno2.out]; rfl, by rw [hE2.out, hno2.out]; exact hp, hb⟩
end Go.Proofs.YtnnhkajjifmlfaaDoor.Pl
