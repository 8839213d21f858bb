/- Policies: what holds together is read: the walks. -/
import Derived.Test.YtnnhkajjifmlfaaDoorPj
namespace Go.Proofs.YtnnhkajjifmlfaaDoor.Pl
open Go.RowKit Go.Maps

theorem gv_below {B : Nat} {w w' : World} (h : Gv w) (hb : Below B w w') (hB : 6 ≤ B) : Gv w' := by
  obtain ⟨⟨t1, p1, h1⟩, ⟨t2, p2, h2⟩⟩ := h
  exact ⟨⟨t1, p1, var_kept glob_syn h1 (hb.block 2 (by omega))⟩, ⟨t2, p2, var_kept glob_rng h2 (hb.block 3 (by omega))⟩⟩
/-- what a method leaves -/
abbrev SI (B R : Nat) (s : ByteArray) (w : World) (v : Value) (τ : PQ) (e : Ending) (w' : World) : Prop :=
  e = .returned v ∧ PR B R s τ w' ∧ Below B w w'
theorem si_of_ps1 {B R f : Nat} {args : Array Value} {s : ByteArray} {σ τ : PQ} {w : World} {v : Value} (h : PR B R s σ w) (hns : τ.ns = σ.ns)
    (hc : ∀ nv, PB w R s σ nv → Calls Tryd.prog f args w (PS1 R s nv w v τ)) : Calls Tryd.prog f args w (SI B R s w v τ) := by
  have hBw := h.gr
  obtain ⟨hB, A, c, hR, hown, hne⟩ := h
  refine (hc _ hR).mono ?_
  rintro e w' ⟨rfl, hR', hg⟩
  obtain ⟨h1, h2⟩ := PR.ps1 hB hown hne hR' hg hns hBw
  exact ⟨rfl, h1, h2⟩
theorem sign_prY {B R : Nat} {s : ByteArray} {σ : PQ} {w : World} (c : UInt8) (h : PR B R s σ w) (hl : Lk s σ) (hs : s.size ≤ 2000000) (hc : signB c σ = true) :
    Calls Tryd.prog 109 #[.pointer (some ⟨R, 0, none⟩), .string ⟨#[c]⟩] w (SI B R s w (.bool true) (nextP s σ)) :=
  si_of_ps1 h (next_gr s σ).2 fun nv hR => sign_yes R s c σ nv w hR hl.ps hs hc
theorem sign_prN {B R : Nat} {s : ByteArray} {σ : PQ} {w : World} (c : UInt8) (h : PR B R s σ w) (hl : Lk s σ) (hs : s.size ≤ 2000000) (hc : signB c σ = false) :
    Calls Tryd.prog 109 #[.pointer (some ⟨R, 0, none⟩), .string ⟨#[c]⟩] w (SI B R s w (.bool false) σ) :=
  si_of_ps1 h rfl fun nv hR => sign_no R s c σ nv w hR hl.ps hs hc
theorem fault_pr {B R : Nat} {s : ByteArray} {σ : PQ} {w : World} (h : PR B R s σ w) :
    Calls Tryd.prog 65 #[.pointer (some ⟨R, 0, none⟩)] w (SI B R s w (.tuple #[]) (faultP σ)) :=
  si_of_ps1 h (fault_ns σ) fun nv hR => fault_any R s σ nv w hR
/-- a function reads as F does, from tokens at t on -/
def FC (f : Nat) (F : PQ → Int × PQ) (B : Nat) (s : ByteArray) (t : Nat) : Prop :=
  ∀ (R : Nat) (σ : PQ) (w : World), PR B R s σ w → Lk s σ → σ.ns.length ≤ 2 * σ.ta → t ≤ σ.ta → Gv w → Calls Tryd.prog f #[.pointer (some ⟨R, 0, none⟩)] w (RI B R s w (F σ).1 (F σ).2)
set_option maxHeartbeats 3200000 in
theorem one_paren {F : PQ → Int × PQ} {B : Nat} {s : ByteArray} (hs : s.size ≤ 100000) (hB6 : 6 ≤ B) (hU : FGn s F) (R : Nat) (σ : PQ) (w : World) (h : PR B R s σ w) (hl : Lk s σ) (hn : σ.ns.length ≤ 2 * σ.ta) (hF : FC 64 F B s (σ.ta + 1)) (hG : Gv w) (hsg : signB 40 σ = true) :
    Calls Tryd.prog 159 #[.pointer (some ⟨R, 0, none⟩)] w (RI B R s w (oneP s F σ).1 (oneP s F σ).2) := by
  have hE : oneP s F σ = ((F (nextP s σ)).1, needP s 41 (F (nextP s σ)).2) := by unfold oneP; rw [hsg]; rfl
  rw [hE]
  clear hE
  obtain ⟨g1, g2, g3⟩ := gn_sign hl (signB_k0 hsg)
  have hS := Lib.hid (sign_prY 40 h hl (by omega) hsg)
  have hO := fun W (hh : PR B R s (nextP s σ) W) (hGW : Gv W) => Lib.hid (hF R (nextP s σ) W hh g2 (by rw [g3]; omega) g1 hGW)
  have hlF := (hU _ g2).lk
  clear hF g3
  generalize F (nextP s σ) = y at *
  obtain ⟨v, τ⟩ := y
  simp only at *
  cases h41 : signB 41 τ with
  | true =>
    have hS2 := fun W (hh : PR B R s τ W) => Lib.hid (sign_prY 41 hh hlF (by omega) h41)
    have hN : needP s 41 τ = nextP s τ := by unfold needP; rw [h41]; rfl
    rw [hN]
    go_enter Tryd.func159, Tryd.ntmps159
    go_wp2_with (first
      | (go_at_call 109; have hmk := hp2; refine ((hS2 _ hp2).out).mono ?_; rintro e w3 ⟨rfl, hp3, hb3⟩)
      | (go_at_call 109; refine (hS.out).mono ?_; rintro e w1 ⟨rfl, hp1, hb1⟩)
      | (go_at_call 64; refine ((hO _ hp1 (gv_below hG hb1 hB6)).out).mono ?_; rintro e w2 ⟨rfl, hp2, hb2⟩))
    go_ret
    exact ⟨rfl, hp3, (hb1.trans hb2).trans hb3⟩
  | false =>
    have hS2 := fun W (hh : PR B R s τ W) => Lib.hid (sign_prN 41 hh hlF (by omega) h41)
    have hN : needP s 41 τ = faultP τ := by unfold needP; rw [h41]; rfl
    rw [hN]
    go_enter Tryd.func159, Tryd.ntmps159
    go_wp2_with (first
      | (go_at_call 65; refine (fault_pr hp3).mono ?_; rintro e w4 ⟨rfl, hp4, hb4⟩)
      | (go_at_call 109; have hmk := hp2; refine ((hS2 _ hp2).out).mono ?_; rintro e w3 ⟨rfl, hp3, hb3⟩)
      | (go_at_call 109; refine (hS.out).mono ?_; rintro e w1 ⟨rfl, hp1, hb1⟩)
      | (go_at_call 64; refine ((hO _ hp1 (gv_below hG hb1 hB6)).out).mono ?_; rintro e w2 ⟨rfl, hp2, hb2⟩))
    go_ret
    exact ⟨rfl, hp4, ((hb1.trans hb2).trans hb3).trans hb4⟩
theorem one_any {F : PQ → Int × PQ} {B : Nat} {s : ByteArray} (hs : s.size ≤ 100000) (hB6 : 6 ≤ B) (hU : FGn s F) (t : Nat) (hF : FC 64 F B s (t + 1)) : FC 159 (oneP s F) B s t := by
  intro R σ w h hl hn ht hG
  have hta := hl.ta_le
  cases hsg : signB 40 σ with
  | true => exact one_paren hs hB6 hU R σ w h hl hn (fun R σ w a b c d => hF R σ w a b c (by omega)) hG hsg
  | false =>
    have hn' : σ.ns.length ≤ 1000000 := by omega
    have hs' : s.size ≤ 2000000 := by omega
    by_cases h1 : (takeP s 1 σ).1 = wAlways
    · exact one_always B R s F σ w h hl hn' hs' hG hB6 hsg h1
    by_cases h2 : (takeP s 1 σ).1 = wError
    · exact one_error B R s F σ w h hl hn' hs' hG hB6 hsg h2
    by_cases h3 : (takeP s 1 σ).1 = wSlow
    · exact one_slow B R s F σ w h hl hn' hs' hG hB6 hsg h3
    by_cases h4 : (takeP s 1 σ).1 = wRatio
    · exact one_ratio B R s F σ w h hl hn' hs' hG hB6 hsg h4
    by_cases h5 : (takeP s 1 σ).1 = wService
    · exact one_service B R s F σ w h hl hn' hs' hG hB6 hsg h5
    by_cases h6 : (takeP s 1 σ).1 = wTag
    · cases h7 : signB 61 (takeP s 3 (takeP s 1 σ).2).2 with
      | true => exact one_tag B R s F σ w h hl hn' hs' hG hB6 hsg h6 h7
      | false => exact one_tagn B R s F σ w h hl hn' hs' hG hB6 hsg h6 h7
    · exact one_none B R s F σ w h hl hn' hs' hG hB6 hsg ⟨h1, h2, h3, h4, h5, h6⟩
end Go.Proofs.YtnnhkajjifmlfaaDoor.Pl
