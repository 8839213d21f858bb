/- Policies, the document's reader: an atom: the walks. -/
import Derived.Test.YtnnhkajjifmlfaaDoorDn
import Derived.Test.YtnnhkajjifmlfaaDoorPl
namespace Go.Proofs.YtnnhkajjifmlfaaDoor.Pl
open Go.RowKit Go.Maps

/-- what a method leaves -/
abbrev TI (B R : Nat) (s : ByteArray) (w : World) (v : Value) (τ : RQ) (e : Ending) (w' : World) : Prop :=
  e = .returned v ∧ QR B R s τ w' ∧ Below B w w'
theorem ti_of_qs1 {B R f : Nat} {args : Array Value} {s : ByteArray} {ρ τ : RQ} {w : World} {v : Value} (h : QR B R s ρ w) (hns : τ.ns = ρ.ns)
    (hc : ∀ nv, RB w R s ρ nv → Calls Tryd.prog f args w (QS1 R s nv w v τ)) : Calls Tryd.prog f args w (TI B R s w v τ) := by
  have hBw := h.gr
  obtain ⟨hB, A, c, hR, hown, hne⟩ := h
  refine (hc _ hR).mono ?_
  rintro e w' ⟨rfl, hR', hg⟩
  obtain ⟨h1, h2⟩ := QR.qs1 hB hown hne hR' hg hns hBw
  exact ⟨rfl, h1, h2⟩
theorem sign_q {B R : Nat} {s : ByteArray} {ρ : RQ} {w : World} (h : QR B R s ρ w) (c : UInt8) :
    Calls Tryd.prog 114 #[.pointer (some ⟨R, 0, none⟩), .string ⟨#[c]⟩] w fun e w' => e = .returned (.bool (signR c ρ)) ∧ w' = w := by
  obtain ⟨hB, A, k, hR, hown, hne⟩ := h
  exact rsign_any R s c ρ _ w hR
theorem on_q {B R : Nat} {s : ByteArray} {ρ : RQ} {w : World} (h : QR B R s ρ w) (hl : RL s ρ) (hs : s.size ≤ 2000000) :
    Calls Tryd.prog 67 #[.pointer (some ⟨R, 0, none⟩)] w (TI B R s w (.tuple #[]) (onR s ρ)) :=
  ti_of_qs1 h (onR_ns s ρ) fun nv hR => on_any R s ρ nv w hR hl.ps hs
theorem wrong_q {B R : Nat} {s : ByteArray} {ρ : RQ} {w : World} (h : QR B R s ρ w) :
    Calls Tryd.prog 69 #[.pointer (some ⟨R, 0, none⟩), .int .i64 ρ.ta] w (TI B R s w (.tuple #[]) (wrongR ρ.ta ρ)) :=
  ti_of_qs1 h rfl fun nv hR => wrong_any R s ρ.ta ρ nv w hR
theorem quoted_ns (s : ByteArray) (ρ : RQ) : (quotedR s ρ).2.ns = ρ.ns := by unfold quotedR; split; exact onR_ns s ρ; rfl
theorem number_ns (s : ByteArray) (ρ : RQ) : (numberR s ρ).2.ns = ρ.ns := by unfold numberR; split; exact onR_ns s _; rfl
theorem quoted_q {B R : Nat} {s : ByteArray} {ρ : RQ} {w : World} (h : QR B R s ρ w) (hl : RL s ρ) (hs : s.size ≤ 2000000) :
    Calls Tryd.prog 162 #[.pointer (some ⟨R, 0, none⟩)] w (TI B R s w (.string (quotedR s ρ).1) (quotedR s ρ).2) :=
  ti_of_qs1 h (quoted_ns s ρ) fun nv hR => rquoted_any R s ρ nv w hR hl.ps hs
theorem number_q {B R : Nat} {s : ByteArray} {ρ : RQ} {w : World} (h : QR B R s ρ w) (hl : RL s ρ) (hs : s.size ≤ 2000000) :
    Calls Tryd.prog 161 #[.pointer (some ⟨R, 0, none⟩)] w (TI B R s w (.int .i64 (numberR s ρ).1) (numberR s ρ).2) :=
  ti_of_qs1 h (number_ns s ρ) fun nv hR => rnumber_any R s ρ nv w hR hl.ps hs (Nat.le_trans hl.xs hs) hl.dg
/-- a function reads as F does, from tokens at t on -/
def FQ (f : Nat) (F : RQ → Int × RQ) (B : Nat) (s : ByteArray) (t : Nat) : Prop :=
  ∀ (R : Nat) (ρ : RQ) (w : World), QR B R s ρ w → RL s ρ → (ρ.ns.length : Int) ≤ 2 * ρ.ta → (t : Int) ≤ ρ.ta → Calls Tryd.prog f #[.pointer (some ⟨R, 0, none⟩)] w (QI B R s w (F ρ).1 (F ρ).2)
theorem signR_no (c : UInt8) {ρ : RQ} (h : 0 ≤ ρ.bad ∨ ρ.k ≠ 2) : signR c ρ = false := by
  unfold signR
  rcases h with h | h
  · rw [decide_eq_false (by omega)]; rfl
  · rw [beq_eq_false_iff_ne.2 h, Bool.and_false]; rfl
theorem atomF_s (s : ByteArray) (F : RQ → Int × RQ) (f : Nat) (ρ : RQ) : atomF s F (f + 1) ρ =
    if signR 33 ρ then putR ⟨7, 0, ⟨#[]⟩, ⟨#[]⟩, (atomF s F f (onR s ρ)).1, 0⟩ (atomF s F f (onR s ρ)).2
    else if signR 40 ρ then ((F (onR s ρ)).1, needR s 41 (F (onR s ρ)).2)
    else if 0 ≤ ρ.bad ∨ ρ.k ≠ 1 then (0, wrongR ρ.ta ρ)
    else wordR s ρ.x (onR s ρ) := rfl
set_option maxRecDepth 100000 in
set_option maxHeartbeats 3200000 in
theorem atom_bang {F : RQ → Int × RQ} {B : Nat} {s : ByteArray} (hs : s.size ≤ 100000) (hU : FGr s F) (f R : Nat) (ρ : RQ) (w : World) (h : QR B R s ρ w) (hl : RL s ρ) (hn : (ρ.ns.length : Int) ≤ 2 * ρ.ta)
    (hF : FQ 143 (atomF s F f) B s (ρ.ta + 1).toNat) (hsg : signR 33 ρ = true) :
    Calls Tryd.prog 143 #[.pointer (some ⟨R, 0, none⟩)] w (QI B R s w (atomF s F (f + 1) ρ).1 (atomF s F (f + 1) ρ).2) := by
  rw [atomF_s, if_pos hsg]
  obtain ⟨g0, g1, g2, g3⟩ := gr_tok hl (signR_k hsg)
  have h0 := hl.t0
  have hta := hl.ta_le
  have hO := fun W (hh : QR B R s (onR s ρ) W) => Lib.hid (hF R (onR s ρ) W hh g2 (by rw [g3]; omega) (by omega))
  have hgo := gr_atom hU f _ g2
  have hgn := hgo.ns
  rw [g3] at hgn
  have hgt := hgo.lk.ta_le
  have hS := fun c => sign_q h c
  have hOn := Lib.hid (on_q h hl (by omega))
  clear hgo hF hU
  generalize atomF s F f (onR s ρ) = y at *
  obtain ⟨v, τ⟩ := y
  simp only at *
  have hP := fun W (hh : QR B R s τ W) => Lib.hid (rput_any B R s τ ⟨7, 0, ⟨#[]⟩, ⟨#[]⟩, v, 0⟩ W hh (by omega))
  go_enter Tryd.func143, Tryd.ntmps143
  go_wp2_with (first
    | (go_at_call 114; refine (hS _).mono ?_; rintro e w0 ⟨rfl, rfl⟩)
    | (go_at_call 67; refine (hOn.out).mono ?_; rintro e w1 ⟨rfl, hp1, hb1⟩)
    | (go_at_call 143; refine ((hO _ hp1).out).mono ?_; rintro e w2 ⟨rfl, hp2, hb2⟩)
    | (go_at_call 115; refine ((hP _ hp2).out).mono ?_; rintro e w3 ⟨rfl, hp3, hb3⟩))
  go_ret
  exact ⟨rfl, hp3, (hb1.trans hb2).trans hb3⟩
set_option maxRecDepth 100000 in
set_option maxHeartbeats 3200000 in
theorem atom_parY {F : RQ → Int × RQ} {B : Nat} {s : ByteArray} (hs : s.size ≤ 100000) (hU : FGr s F) (f R : Nat) (ρ : RQ) (w : World) (h : QR B R s ρ w) (hl : RL s ρ) (hn : (ρ.ns.length : Int) ≤ 2 * ρ.ta)
    (hF : FQ 68 F B s (ρ.ta + 1).toNat) (hno : signR 33 ρ = false) (hsg : signR 40 ρ = true) (h41 : signR 41 (F (onR s ρ)).2 = true) :
    Calls Tryd.prog 143 #[.pointer (some ⟨R, 0, none⟩)] w (QI B R s w (atomF s F (f + 1) ρ).1 (atomF s F (f + 1) ρ).2) := by
  rw [atomF_s, if_neg (by rw [hno]; decide), if_pos hsg]
  obtain ⟨g0, g1, g2, g3⟩ := gr_tok hl (signR_k hsg)
  have h0 := hl.t0
  have hta := hl.ta_le
  have hO := fun W (hh : QR B R s (onR s ρ) W) => Lib.hid (hF R (onR s ρ) W hh g2 (by rw [g3]; omega) (by omega))
  have hlF := (hU _ g2).lk
  have hS := fun c => sign_q h c
  have hOn := Lib.hid (on_q h hl (by omega))
  clear hF hU
  generalize F (onR s ρ) = y at *
  obtain ⟨v, τ⟩ := y
  simp only at *
  have hN : needR s 41 τ = onR s τ := by unfold needR; rw [h41]; rfl
  rw [hN]
  clear hN
  have hS2 := fun W (hh : QR B R s τ W) c => sign_q hh c
  have hE := fun W (hh : QR B R s τ W) => Lib.hid (on_q hh hlF (by omega))
  have d4 := fun W (hh : QR B R s τ W) => (show W.cell? ⟨R, 4, none⟩ = some (.int .i64 τ.ta) from by obtain ⟨_, A, c, hR, _, _⟩ := hh; exact hR.c4)
  go_enter Tryd.func143, Tryd.ntmps143
  go_wp2_with (first
    | (go_at_call 114; have hmk := hp2; refine (hS2 _ hp2 _).mono ?_; rintro e w3 ⟨rfl, rfl⟩; have d4 := d4 _ hp2)
    | (go_at_call 114; refine (hS _).mono ?_; rintro e w0 ⟨rfl, rfl⟩)
    | (go_at_call 67; have hmk := hp2; refine ((hE _ hp2).out).mono ?_; rintro e w4 ⟨rfl, hp4, hb4⟩)
    | (go_at_call 67; refine (hOn.out).mono ?_; rintro e w1 ⟨rfl, hp1, hb1⟩)
    | (go_at_call 68; refine ((hO _ hp1).out).mono ?_; rintro e w2 ⟨rfl, hp2, hb2⟩))
  go_ret
  exact ⟨rfl, hp4, (hb1.trans hb2).trans hb4⟩
set_option maxRecDepth 100000 in
set_option maxHeartbeats 3200000 in
theorem atom_parN {F : RQ → Int × RQ} {B : Nat} {s : ByteArray} (hs : s.size ≤ 100000) (hU : FGr s F) (f R : Nat) (ρ : RQ) (w : World) (h : QR B R s ρ w) (hl : RL s ρ) (hn : (ρ.ns.length : Int) ≤ 2 * ρ.ta)
    (hF : FQ 68 F B s (ρ.ta + 1).toNat) (hno : signR 33 ρ = false) (hsg : signR 40 ρ = true) (h41 : signR 41 (F (onR s ρ)).2 = false) :
    Calls Tryd.prog 143 #[.pointer (some ⟨R, 0, none⟩)] w (QI B R s w (atomF s F (f + 1) ρ).1 (atomF s F (f + 1) ρ).2) := by
  rw [atomF_s, if_neg (by rw [hno]; decide), if_pos hsg]
  obtain ⟨g0, g1, g2, g3⟩ := gr_tok hl (signR_k hsg)
  have h0 := hl.t0
  have hta := hl.ta_le
  have hO := fun W (hh : QR B R s (onR s ρ) W) => Lib.hid (hF R (onR s ρ) W hh g2 (by rw [g3]; omega) (by omega))
  have hlF := (hU _ g2).lk
  have hS := fun c => sign_q h c
  have hOn := Lib.hid (on_q h hl (by omega))
  clear hF hU
  generalize F (onR s ρ) = y at *
  obtain ⟨v, τ⟩ := y
  simp only at *
  have hN : needR s 41 τ = wrongR τ.ta τ := by unfold needR; rw [h41]; rfl
  rw [hN]
  clear hN
  have hS2 := fun W (hh : QR B R s τ W) c => sign_q hh c
  have hE := fun W (hh : QR B R s τ W) => Lib.hid (wrong_q hh)
  have d4 := fun W (hh : QR B R s τ W) => (show W.cell? ⟨R, 4, none⟩ = some (.int .i64 τ.ta) from by obtain ⟨_, A, c, hR, _, _⟩ := hh; exact hR.c4)
  go_enter Tryd.func143, Tryd.ntmps143
  go_wp2_with (first
    | (go_at_call 114; have hmk := hp2; refine (hS2 _ hp2 _).mono ?_; rintro e w3 ⟨rfl, rfl⟩; have d4 := d4 _ hp2)
    | (go_at_call 114; refine (hS _).mono ?_; rintro e w0 ⟨rfl, rfl⟩)
    | (go_at_call 69; have hmk := hp2; refine ((hE _ hp2).out).mono ?_; rintro e w4 ⟨rfl, hp4, hb4⟩)
    | (go_at_call 67; refine (hOn.out).mono ?_; rintro e w1 ⟨rfl, hp1, hb1⟩)
    | (go_at_call 68; refine ((hO _ hp1).out).mono ?_; rintro e w2 ⟨rfl, hp2, hb2⟩))
  go_ret
  exact ⟨rfl, hp4, (hb1.trans hb2).trans hb4⟩
set_option maxRecDepth 100000 in
set_option maxHeartbeats 3200000 in
theorem atom_none {F : RQ → Int × RQ} {B : Nat} {s : ByteArray} (f R : Nat) (ρ : RQ) (w : World) (h : QR B R s ρ w) (hno : signR 33 ρ = false) (hno2 : signR 40 ρ = false) (hb : 0 ≤ ρ.bad ∨ ρ.k ≠ 1) :
    Calls Tryd.prog 143 #[.pointer (some ⟨R, 0, none⟩)] w (QI B R s w (atomF s F (f + 1) ρ).1 (atomF s F (f + 1) ρ).2) := by
  rw [atomF_s, if_neg (by rw [hno]; decide), if_neg (by rw [hno2]; decide), if_pos hb]
  have hS := fun c => sign_q h c
  have hE := Lib.hid (wrong_q h)
  obtain ⟨c2, c4, c5⟩ : w.cell? ⟨R, 2, none⟩ = some (.int .i64 ρ.k) ∧ w.cell? ⟨R, 4, none⟩ = some (.int .i64 ρ.ta) ∧ w.cell? ⟨R, 5, none⟩ = some (.int .i64 ρ.bad) := by
    obtain ⟨_, A, c, hR, _, _⟩ := h; exact ⟨hR.c2, hR.c4, hR.c5⟩
  by_cases hb0 : 0 ≤ ρ.bad
  · clear hb
    go_enter Tryd.func143, Tryd.ntmps143
    go_wp2_with (first
      | (go_at_call 114; refine (hS _).mono ?_; rintro e w0 ⟨rfl, rfl⟩)
      | (go_at_call 69; refine (hE.out).mono ?_; rintro e w4 ⟨rfl, hp4, hb4⟩))
    go_ret
    exact ⟨rfl, hp4, hb4⟩
  · have hk : (ρ.k != 1) = true := by rcases hb with hb | hb; exact absurd hb hb0; simpa using hb
    clear hb
    go_enter Tryd.func143, Tryd.ntmps143
    go_wp2_with (first
      | (go_at_call 114; refine (hS _).mono ?_; rintro e w0 ⟨rfl, rfl⟩)
      | (go_at_call 69; refine (hE.out).mono ?_; rintro e w4 ⟨rfl, hp4, hb4⟩))
    go_ret
    exact ⟨rfl, hp4, hb4⟩
set_option maxRecDepth 100000 in
set_option maxHeartbeats 3200000 in
theorem atom_always {F : RQ → Int × RQ} {B : Nat} {s : ByteArray} (hs : s.size ≤ 100000) (f R : Nat) (ρ : RQ) (w : World) (h : QR B R s ρ w) (hl : RL s ρ) (hn : (ρ.ns.length : Int) ≤ 2 * ρ.ta) (hb : ρ.bad < 0) (hk : ρ.k = 1) (hx : ρ.x = wAlways) :
    Calls Tryd.prog 143 #[.pointer (some ⟨R, 0, none⟩)] w (QI B R s w (atomF s F (f + 1) ρ).1 (atomF s F (f + 1) ρ).2) := by
  have hno := signR_no 33 (ρ := ρ) (.inr (by omega))
  have hno2 := signR_no 40 (ρ := ρ) (.inr (by omega))
  rw [atomF_s, if_neg (by rw [hno]; decide), if_neg (by rw [hno2]; decide), if_neg (by omega)]
  have hta := hl.ta_le
  have hS := fun c => sign_q h c
  have hOn := Lib.hid (on_q h hl (by omega))
  have hkb : (ρ.k != 1) = false := by simp [hk]
  have hb0 : ¬ (0 : Int) ≤ ρ.bad := by omega
  obtain ⟨c2, c3, c5⟩ : w.cell? ⟨R, 2, none⟩ = some (.int .i64 ρ.k) ∧ w.cell? ⟨R, 3, none⟩ = some (.string ρ.x) ∧ w.cell? ⟨R, 5, none⟩ = some (.int .i64 ρ.bad) := by
    obtain ⟨_, A, c, hR, _, _⟩ := h; exact ⟨hR.c2, hR.c3, hR.c5⟩
  obtain ⟨_, g1, g2, g3⟩ := gr_tok hl (by omega : ρ.k ≠ 0)
  generalize ρ.x = x at *
  have e0 := txt_yes tl_wAlways (x := x) (t := wAlways) hx
  have hW : wordR s x (onR s ρ) = putR ⟨1, 0, ⟨#[]⟩, ⟨#[]⟩, 0, 0⟩ (onR s ρ) := by unfold wordR; rw [if_pos hx]
  rw [hW]
  clear hW hx hk hb
  have hP := fun W (hh : QR B R s (onR s ρ) W) => Lib.hid (rput_any B R s (onR s ρ) ⟨1, 0, ⟨#[]⟩, ⟨#[]⟩, 0, 0⟩ W hh (by rw [g3]; omega))
  go_enter Tryd.func143, Tryd.ntmps143
  go_wp2_with (first
    | (go_at_call 114; refine (hS _).mono ?_; rintro e w0 ⟨rfl, rfl⟩)
    | (go_at_call 67; refine (hOn.out).mono ?_; rintro e w1 ⟨rfl, hp1, hb1⟩)
    | (go_at_call 115; refine ((hP _ hp1).out).mono ?_; rintro e w3 ⟨rfl, hp3, hb3⟩))
  go_ret
  exact ⟨rfl, hp3, hb1.trans hb3⟩
set_option maxRecDepth 100000 in
set_option maxHeartbeats 3200000 in
theorem atom_error {F : RQ → Int × RQ} {B : Nat} {s : ByteArray} (hs : s.size ≤ 100000) (f R : Nat) (ρ : RQ) (w : World) (h : QR B R s ρ w) (hl : RL s ρ) (hn : (ρ.ns.length : Int) ≤ 2 * ρ.ta) (hb : ρ.bad < 0) (hk : ρ.k = 1) (hx : ρ.x = wError) :
    Calls Tryd.prog 143 #[.pointer (some ⟨R, 0, none⟩)] w (QI B R s w (atomF s F (f + 1) ρ).1 (atomF s F (f + 1) ρ).2) := by
  have hno := signR_no 33 (ρ := ρ) (.inr (by omega))
  have hno2 := signR_no 40 (ρ := ρ) (.inr (by omega))
  rw [atomF_s, if_neg (by rw [hno]; decide), if_neg (by rw [hno2]; decide), if_neg (by omega)]
  have hta := hl.ta_le
  have hS := fun c => sign_q h c
  have hOn := Lib.hid (on_q h hl (by omega))
  have hkb : (ρ.k != 1) = false := by simp [hk]
  have hb0 : ¬ (0 : Int) ≤ ρ.bad := by omega
  obtain ⟨c2, c3, c5⟩ : w.cell? ⟨R, 2, none⟩ = some (.int .i64 ρ.k) ∧ w.cell? ⟨R, 3, none⟩ = some (.string ρ.x) ∧ w.cell? ⟨R, 5, none⟩ = some (.int .i64 ρ.bad) := by
    obtain ⟨_, A, c, hR, _, _⟩ := h; exact ⟨hR.c2, hR.c3, hR.c5⟩
  obtain ⟨_, g1, g2, g3⟩ := gr_tok hl (by omega : ρ.k ≠ 0)
  generalize ρ.x = x at *
  have e0 := txt_no tl_wAlways (x := x) (t := wAlways) (by rw [hx]; decide)
  have e1 := txt_yes tl_wError (x := x) (t := wError) hx
  have hW : wordR s x (onR s ρ) = putR ⟨2, 0, ⟨#[]⟩, ⟨#[]⟩, 0, 0⟩ (onR s ρ) := by unfold wordR; rw [if_neg (by rw [hx]; decide), if_pos hx]
  rw [hW]
  clear hW hx hk hb
  have hP := fun W (hh : QR B R s (onR s ρ) W) => Lib.hid (rput_any B R s (onR s ρ) ⟨2, 0, ⟨#[]⟩, ⟨#[]⟩, 0, 0⟩ W hh (by rw [g3]; omega))
  go_enter Tryd.func143, Tryd.ntmps143
  go_wp2_with (first
    | (go_at_call 114; refine (hS _).mono ?_; rintro e w0 ⟨rfl, rfl⟩)
    | (go_at_call 67; refine (hOn.out).mono ?_; rintro e w1 ⟨rfl, hp1, hb1⟩)
    | (go_at_call 115; refine ((hP _ hp1).out).mono ?_; rintro e w3 ⟨rfl, hp3, hb3⟩))
  go_ret
  exact ⟨rfl, hp3, hb1.trans hb3⟩
set_option maxRecDepth 100000 in
set_option maxHeartbeats 3200000 in
theorem atom_slow {F : RQ → Int × RQ} {B : Nat} {s : ByteArray} (hs : s.size ≤ 100000) (f R : Nat) (ρ : RQ) (w : World) (h : QR B R s ρ w) (hl : RL s ρ) (hn : (ρ.ns.length : Int) ≤ 2 * ρ.ta) (hb : ρ.bad < 0) (hk : ρ.k = 1) (hx : ρ.x = wSlow) :
    Calls Tryd.prog 143 #[.pointer (some ⟨R, 0, none⟩)] w (QI B R s w (atomF s F (f + 1) ρ).1 (atomF s F (f + 1) ρ).2) := by
  have hno := signR_no 33 (ρ := ρ) (.inr (by omega))
  have hno2 := signR_no 40 (ρ := ρ) (.inr (by omega))
  rw [atomF_s, if_neg (by rw [hno]; decide), if_neg (by rw [hno2]; decide), if_neg (by omega)]
  have hta := hl.ta_le
  have hS := fun c => sign_q h c
  have hOn := Lib.hid (on_q h hl (by omega))
  have hkb : (ρ.k != 1) = false := by simp [hk]
  have hb0 : ¬ (0 : Int) ≤ ρ.bad := by omega
  obtain ⟨c2, c3, c5⟩ : w.cell? ⟨R, 2, none⟩ = some (.int .i64 ρ.k) ∧ w.cell? ⟨R, 3, none⟩ = some (.string ρ.x) ∧ w.cell? ⟨R, 5, none⟩ = some (.int .i64 ρ.bad) := by
    obtain ⟨_, A, c, hR, _, _⟩ := h; exact ⟨hR.c2, hR.c3, hR.c5⟩
  obtain ⟨_, g1, g2, g3⟩ := gr_tok hl (by omega : ρ.k ≠ 0)
  generalize ρ.x = x at *
  have e0 := txt_no tl_wAlways (x := x) (t := wAlways) (by rw [hx]; decide)
  have e1 := txt_no tl_wError (x := x) (t := wError) (by rw [hx]; decide)
  have e2 := txt_yes tl_wSlow (x := x) (t := wSlow) hx
  have hW : wordR s x (onR s ρ) = putR ⟨3, (numberR s (onR s ρ)).1, ⟨#[]⟩, ⟨#[]⟩, 0, 0⟩ (numberR s (onR s ρ)).2 := by unfold wordR; rw [if_neg (by rw [hx]; decide), if_neg (by rw [hx]; decide), if_pos hx]
  rw [hW]
  clear hW hx hk hb
  have hV := fun W (hh : QR B R s (onR s ρ) W) => Lib.hid (number_q hh g2 (by omega))
  have hns2 : (numberR s (onR s ρ)).2.ns = ρ.ns := (number_ns s _).trans g3
  generalize numberR s (onR s ρ) = y at *
  obtain ⟨v, τ⟩ := y
  simp only at *
  have hP := fun W (hh : QR B R s τ W) => Lib.hid (rput_any B R s τ ⟨3, v, ⟨#[]⟩, ⟨#[]⟩, 0, 0⟩ W hh (by rw [hns2]; omega))
  go_enter Tryd.func143, Tryd.ntmps143
  go_wp2_with (first
    | (go_at_call 114; refine (hS _).mono ?_; rintro e w0 ⟨rfl, rfl⟩)
    | (go_at_call 67; refine (hOn.out).mono ?_; rintro e w1 ⟨rfl, hp1, hb1⟩)
    | (go_at_call 161; refine ((hV _ hp1).out).mono ?_; rintro e w2 ⟨rfl, hp2, hb2⟩)
    | (go_at_call 115; refine ((hP _ hp2).out).mono ?_; rintro e w3 ⟨rfl, hp3, hb3⟩))
  go_ret
  exact ⟨rfl, hp3, (hb1.trans hb2).trans hb3⟩
set_option maxRecDepth 100000 in
set_option maxHeartbeats 3200000 in
theorem atom_ratio {F : RQ → Int × RQ} {B : Nat} {s : ByteArray} (hs : s.size ≤ 100000) (f R : Nat) (ρ : RQ) (w : World) (h : QR B R s ρ w) (hl : RL s ρ) (hn : (ρ.ns.length : Int) ≤ 2 * ρ.ta) (hb : ρ.bad < 0) (hk : ρ.k = 1) (hx : ρ.x = wRatio) :
    Calls Tryd.prog 143 #[.pointer (some ⟨R, 0, none⟩)] w (QI B R s w (atomF s F (f + 1) ρ).1 (atomF s F (f + 1) ρ).2) := by
  have hno := signR_no 33 (ρ := ρ) (.inr (by omega))
  have hno2 := signR_no 40 (ρ := ρ) (.inr (by omega))
  rw [atomF_s, if_neg (by rw [hno]; decide), if_neg (by rw [hno2]; decide), if_neg (by omega)]
  have hta := hl.ta_le
  have hS := fun c => sign_q h c
  have hOn := Lib.hid (on_q h hl (by omega))
  have hkb : (ρ.k != 1) = false := by simp [hk]
  have hb0 : ¬ (0 : Int) ≤ ρ.bad := by omega
  obtain ⟨c2, c3, c5⟩ : w.cell? ⟨R, 2, none⟩ = some (.int .i64 ρ.k) ∧ w.cell? ⟨R, 3, none⟩ = some (.string ρ.x) ∧ w.cell? ⟨R, 5, none⟩ = some (.int .i64 ρ.bad) := by
    obtain ⟨_, A, c, hR, _, _⟩ := h; exact ⟨hR.c2, hR.c3, hR.c5⟩
  obtain ⟨_, g1, g2, g3⟩ := gr_tok hl (by omega : ρ.k ≠ 0)
  generalize ρ.x = x at *
  have e0 := txt_no tl_wAlways (x := x) (t := wAlways) (by rw [hx]; decide)
  have e1 := txt_no tl_wError (x := x) (t := wError) (by rw [hx]; decide)
  have e2 := txt_no tl_wSlow (x := x) (t := wSlow) (by rw [hx]; decide)
  have e3 := txt_yes tl_wRatio (x := x) (t := wRatio) hx
  have hW : wordR s x (onR s ρ) = putR ⟨6, (numberR s (onR s ρ)).1, ⟨#[]⟩, ⟨#[]⟩, 0, 0⟩ (numberR s (onR s ρ)).2 := by unfold wordR; rw [if_neg (by rw [hx]; decide), if_neg (by rw [hx]; decide), if_neg (by rw [hx]; decide), if_pos hx]
  rw [hW]
  clear hW hx hk hb
  have hV := fun W (hh : QR B R s (onR s ρ) W) => Lib.hid (number_q hh g2 (by omega))
  have hns2 : (numberR s (onR s ρ)).2.ns = ρ.ns := (number_ns s _).trans g3
  generalize numberR s (onR s ρ) = y at *
  obtain ⟨v, τ⟩ := y
  simp only at *
  have hP := fun W (hh : QR B R s τ W) => Lib.hid (rput_any B R s τ ⟨6, v, ⟨#[]⟩, ⟨#[]⟩, 0, 0⟩ W hh (by rw [hns2]; omega))
  go_enter Tryd.func143, Tryd.ntmps143
  go_wp2_with (first
    | (go_at_call 114; refine (hS _).mono ?_; rintro e w0 ⟨rfl, rfl⟩)
    | (go_at_call 67; refine (hOn.out).mono ?_; rintro e w1 ⟨rfl, hp1, hb1⟩)
    | (go_at_call 161; refine ((hV _ hp1).out).mono ?_; rintro e w2 ⟨rfl, hp2, hb2⟩)
    | (go_at_call 115; refine ((hP _ hp2).out).mono ?_; rintro e w3 ⟨rfl, hp3, hb3⟩))
  go_ret
  exact ⟨rfl, hp3, (hb1.trans hb2).trans hb3⟩
set_option maxRecDepth 100000 in
set_option maxHeartbeats 3200000 in
theorem atom_service {F : RQ → Int × RQ} {B : Nat} {s : ByteArray} (hs : s.size ≤ 100000) (f R : Nat) (ρ : RQ) (w : World) (h : QR B R s ρ w) (hl : RL s ρ) (hn : (ρ.ns.length : Int) ≤ 2 * ρ.ta) (hb : ρ.bad < 0) (hk : ρ.k = 1) (hx : ρ.x = wService) :
    Calls Tryd.prog 143 #[.pointer (some ⟨R, 0, none⟩)] w (QI B R s w (atomF s F (f + 1) ρ).1 (atomF s F (f + 1) ρ).2) := by
  have hno := signR_no 33 (ρ := ρ) (.inr (by omega))
  have hno2 := signR_no 40 (ρ := ρ) (.inr (by omega))
  rw [atomF_s, if_neg (by rw [hno]; decide), if_neg (by rw [hno2]; decide), if_neg (by omega)]
  have hta := hl.ta_le
  have hS := fun c => sign_q h c
  have hOn := Lib.hid (on_q h hl (by omega))
  have hkb : (ρ.k != 1) = false := by simp [hk]
  have hb0 : ¬ (0 : Int) ≤ ρ.bad := by omega
  obtain ⟨c2, c3, c5⟩ : w.cell? ⟨R, 2, none⟩ = some (.int .i64 ρ.k) ∧ w.cell? ⟨R, 3, none⟩ = some (.string ρ.x) ∧ w.cell? ⟨R, 5, none⟩ = some (.int .i64 ρ.bad) := by
    obtain ⟨_, A, c, hR, _, _⟩ := h; exact ⟨hR.c2, hR.c3, hR.c5⟩
  obtain ⟨_, g1, g2, g3⟩ := gr_tok hl (by omega : ρ.k ≠ 0)
  generalize ρ.x = x at *
  have e0 := txt_no tl_wAlways (x := x) (t := wAlways) (by rw [hx]; decide)
  have e1 := txt_no tl_wError (x := x) (t := wError) (by rw [hx]; decide)
  have e2 := txt_no tl_wSlow (x := x) (t := wSlow) (by rw [hx]; decide)
  have e3 := txt_no tl_wRatio (x := x) (t := wRatio) (by rw [hx]; decide)
  have e4 := txt_yes tl_wService (x := x) (t := wService) hx
  have hW : wordR s x (onR s ρ) = putR ⟨4, 0, (quotedR s (onR s ρ)).1, ⟨#[]⟩, 0, 0⟩ (quotedR s (onR s ρ)).2 := by unfold wordR; rw [if_neg (by rw [hx]; decide), if_neg (by rw [hx]; decide), if_neg (by rw [hx]; decide), if_neg (by rw [hx]; decide), if_pos hx]
  rw [hW]
  clear hW hx hk hb
  have hV := fun W (hh : QR B R s (onR s ρ) W) => Lib.hid (quoted_q hh g2 (by omega))
  have hns2 : (quotedR s (onR s ρ)).2.ns = ρ.ns := (quoted_ns s _).trans g3
  generalize quotedR s (onR s ρ) = y at *
  obtain ⟨v, τ⟩ := y
  simp only at *
  have hP := fun W (hh : QR B R s τ W) => Lib.hid (rput_any B R s τ ⟨4, 0, v, ⟨#[]⟩, 0, 0⟩ W hh (by rw [hns2]; omega))
  go_enter Tryd.func143, Tryd.ntmps143
  go_wp2_with (first
    | (go_at_call 114; refine (hS _).mono ?_; rintro e w0 ⟨rfl, rfl⟩)
    | (go_at_call 67; refine (hOn.out).mono ?_; rintro e w1 ⟨rfl, hp1, hb1⟩)
    | (go_at_call 162; refine ((hV _ hp1).out).mono ?_; rintro e w2 ⟨rfl, hp2, hb2⟩)
    | (go_at_call 115; refine ((hP _ hp2).out).mono ?_; rintro e w3 ⟨rfl, hp3, hb3⟩))
  go_ret
  exact ⟨rfl, hp3, (hb1.trans hb2).trans hb3⟩
set_option maxRecDepth 100000 in
set_option maxHeartbeats 3200000 in
theorem atom_tag {F : RQ → Int × RQ} {B : Nat} {s : ByteArray} (hs : s.size ≤ 100000) (f R : Nat) (ρ : RQ) (w : World) (h : QR B R s ρ w) (hl : RL s ρ) (hn : (ρ.ns.length : Int) ≤ 2 * ρ.ta) (hb : ρ.bad < 0) (hk : ρ.k = 1) (hx : ρ.x ≠ wAlways ∧ ρ.x ≠ wError ∧ ρ.x ≠ wSlow ∧ ρ.x ≠ wRatio ∧ ρ.x ≠ wService) (hsg : signR 61 (quotedR s (onR s ρ)).2 = true) :
    Calls Tryd.prog 143 #[.pointer (some ⟨R, 0, none⟩)] w (QI B R s w (atomF s F (f + 1) ρ).1 (atomF s F (f + 1) ρ).2) := by
  have hno := signR_no 33 (ρ := ρ) (.inr (by omega))
  have hno2 := signR_no 40 (ρ := ρ) (.inr (by omega))
  rw [atomF_s, if_neg (by rw [hno]; decide), if_neg (by rw [hno2]; decide), if_neg (by omega)]
  have hW : wordR s ρ.x (onR s ρ) = tagR s (onR s ρ) := by unfold wordR; rw [if_neg hx.1, if_neg hx.2.1, if_neg hx.2.2.1, if_neg hx.2.2.2.1, if_neg hx.2.2.2.2]
  rw [hW]
  clear hW
  obtain ⟨hx0, hx1, hx2, hx3, hx4⟩ := hx
  have e0 := txt_no tl_wAlways (x := ρ.x) (t := wAlways) hx0
  have e1 := txt_no tl_wError (x := ρ.x) (t := wError) hx1
  have e2 := txt_no tl_wSlow (x := ρ.x) (t := wSlow) hx2
  have e3 := txt_no tl_wRatio (x := ρ.x) (t := wRatio) hx3
  have e4 := txt_no tl_wService (x := ρ.x) (t := wService) hx4
  clear hx0 hx1 hx2 hx3 hx4
  have hta := hl.ta_le
  have hkb : (ρ.k != 1) = false := by simp [hk]
  have hb0 : ¬ (0 : Int) ≤ ρ.bad := by omega
  have hBw := h.gr
  have hS := fun c => sign_q h c
  obtain ⟨hB, A, c, hR, hown, hne⟩ := h
  have hRl := hR.lt
  have c2 := hR.c2
  have c3 := hR.c3
  have c5 := hR.c5
  obtain ⟨_, g1, g2, g3⟩ := gr_tok hl (by omega : ρ.k ≠ 0)
  have hOn := Lib.hid (on_any R s ρ _ w hR hl.ps (by omega))
  clear hk hb
  generalize onR s ρ = ρ1 at *
  have hV := fun W (hh : RB W R s ρ1 (.slice A ρ.ns.length c)) => Lib.hid (rquoted_any R s ρ1 _ W hh g2.ps (by omega))
  have hg4 := gr_quoted g2
  have hns2 : (quotedR s ρ1).2.ns = ρ.ns := (quoted_ns s ρ1).trans g3
  have hT : tagR s ρ1 = putR ⟨5, 0, (quotedR s ρ1).1, (quotedR s (onR s (quotedR s ρ1).2)).1, 0, 0⟩ (quotedR s (onR s (quotedR s ρ1).2)).2 := by unfold tagR; rw [hsg]; rfl
  rw [hT]
  clear hT
  generalize quotedR s ρ1 = y at *
  obtain ⟨v, ρ2⟩ := y
  simp only at *
  have hS2 := fun W (hh : RB W R s ρ2 (.slice A ρ.ns.length c)) => Lib.hid (rsign_any R s 61 ρ2 _ W hh)
  rw [hsg] at hS2
  obtain ⟨_, j1, j2, j3⟩ := gr_tok hg4.lk (signR_k hsg)
  have hOn2 := fun W (hh : RB W R s ρ2 (.slice A ρ.ns.length c)) => Lib.hid (on_any R s ρ2 _ W hh hg4.lk.ps (by omega))
  have hns3 : (onR s ρ2).ns = ρ.ns := j3.trans hns2
  generalize onR s ρ2 = ρ3 at *
  have hV2 := fun W (hh : RB W R s ρ3 (.slice A ρ.ns.length c)) => Lib.hid (rquoted_any R s ρ3 _ W hh j2.ps (by omega))
  have hns4 : (quotedR s ρ3).2.ns = ρ.ns := (quoted_ns s ρ3).trans hns3
  generalize quotedR s ρ3 = z at *
  obtain ⟨v2, ρ4⟩ := z
  simp only at *
  have hP := fun W (hh : QR B R s ρ4 W) => Lib.hid (rput_any B R s ρ4 ⟨5, 0, v, v2, 0, 0⟩ W hh (by rw [hns4]; omega))
  go_enter Tryd.func143, Tryd.ntmps143
  go_wp2_with (first
    | (go_at_call 115; obtain ⟨hPR, hbl⟩ := QR.qs1 (w' := (w5).setCell ⟨w2.heap.size, 3, none⟩ (.string v2)) hB hown hne (by exact (hR5).far (q := ⟨w2.heap.size, 3, none⟩) (by simp; omega) _) (by exact gb_setN hgb5 hL2 _ _) hns4 hBw; refine ((hP _ hPR).out).mono ?_; rintro e w6 ⟨rfl, hPR3, hb3⟩)
    | (go_at_call 162; have hmk := hgb4; refine ((hV2 _ hR4).out).mono ?_; rintro e w5 ⟨rfl, hR5, hg5⟩; have hN5 := hN4.kept hg5 (by simp; omega); have hgb5 := gb_trans hgb4 hg5; obtain ⟨n0, n1, n2, n3, n4, n5, nf⟩ := hN5.all)
    | (go_at_call 67; have hmk := hN3; refine ((hOn2 _ (by exact hR3)).out).mono ?_; rintro e w4 ⟨rfl, hR4, hg4'⟩; have hN4 := hN3.kept hg4' (by simp; omega); have hgb4 := gb_trans hgb3 hg4')
    | (go_at_call 114; have hmk := hN3; refine ((hS2 _ (by exact hR3)).out).mono ?_; rintro e w3 ⟨rfl, rfl⟩)
    | (go_at_call 162; refine ((hV _ hR1).out).mono ?_; rintro e w2 ⟨rfl, hR2, hg2⟩; have hgb2 := gb_trans hg1 hg2; have hL2 := hgb2.size; have hR2l := hR2.lt; have hN3 : NB (w2.alloc (.cells #[.int .i64 5, .int .i64 0, .string v, .string ⟨#[]⟩, .int .i64 0, .int .i64 0] 64)) w2.heap.size ⟨5, 0, v, ⟨#[]⟩, 0, 0⟩ := heap_alloc_new w2 _; have hR3 := hR2.alloc (.cells #[.int .i64 5, .int .i64 0, .string v, .string ⟨#[]⟩, .int .i64 0, .int .i64 0] 64); have hgb3 := gb_alloc hgb2 (.cells #[.int .i64 5, .int .i64 0, .string v, .string ⟨#[]⟩, .int .i64 0, .int .i64 0] 64))
    | (go_at_call 67; refine (hOn.out).mono ?_; rintro e w1 ⟨rfl, hR1, hg1⟩)
    | (go_at_call 114; refine (hS _).mono ?_; rintro e w0 ⟨rfl, rfl⟩))
  go_ret
  exact ⟨rfl, hPR3, hbl.trans hb3⟩
set_option maxRecDepth 100000 in
set_option maxHeartbeats 3200000 in
theorem atom_tagn {F : RQ → Int × RQ} {B : Nat} {s : ByteArray} (hs : s.size ≤ 100000) (f R : Nat) (ρ : RQ) (w : World) (h : QR B R s ρ w) (hl : RL s ρ) (_hn : (ρ.ns.length : Int) ≤ 2 * ρ.ta) (hb : ρ.bad < 0) (hk : ρ.k = 1) (hx : ρ.x ≠ wAlways ∧ ρ.x ≠ wError ∧ ρ.x ≠ wSlow ∧ ρ.x ≠ wRatio ∧ ρ.x ≠ wService) (hsg : signR 61 (quotedR s (onR s ρ)).2 = false) :
    Calls Tryd.prog 143 #[.pointer (some ⟨R, 0, none⟩)] w (QI B R s w (atomF s F (f + 1) ρ).1 (atomF s F (f + 1) ρ).2) := by
  have hno := signR_no 33 (ρ := ρ) (.inr (by omega))
  have hno2 := signR_no 40 (ρ := ρ) (.inr (by omega))
  rw [atomF_s, if_neg (by rw [hno]; decide), if_neg (by rw [hno2]; decide), if_neg (by omega)]
  have hW : wordR s ρ.x (onR s ρ) = tagR s (onR s ρ) := by unfold wordR; rw [if_neg hx.1, if_neg hx.2.1, if_neg hx.2.2.1, if_neg hx.2.2.2.1, if_neg hx.2.2.2.2]
  rw [hW]
  clear hW
  obtain ⟨hx0, hx1, hx2, hx3, hx4⟩ := hx
  have e0 := txt_no tl_wAlways (x := ρ.x) (t := wAlways) hx0
  have e1 := txt_no tl_wError (x := ρ.x) (t := wError) hx1
  have e2 := txt_no tl_wSlow (x := ρ.x) (t := wSlow) hx2
  have e3 := txt_no tl_wRatio (x := ρ.x) (t := wRatio) hx3
  have e4 := txt_no tl_wService (x := ρ.x) (t := wService) hx4
  clear hx0 hx1 hx2 hx3 hx4
  have hta := hl.ta_le
  have hkb : (ρ.k != 1) = false := by simp [hk]
  have hb0 : ¬ (0 : Int) ≤ ρ.bad := by omega
  have hBw := h.gr
  have hS := fun c => sign_q h c
  obtain ⟨hB, A, c, hR, hown, hne⟩ := h
  have hRl := hR.lt
  have c2 := hR.c2
  have c3 := hR.c3
  have c5 := hR.c5
  obtain ⟨_, g1, g2, g3⟩ := gr_tok hl (by omega : ρ.k ≠ 0)
  have hOn := Lib.hid (on_any R s ρ _ w hR hl.ps (by omega))
  clear hk hb
  generalize onR s ρ = ρ1 at *
  have hV := fun W (hh : RB W R s ρ1 (.slice A ρ.ns.length c)) => Lib.hid (rquoted_any R s ρ1 _ W hh g2.ps (by omega))
  have hg4 := gr_quoted g2
  have hns2 : (quotedR s ρ1).2.ns = ρ.ns := (quoted_ns s ρ1).trans g3
  have hT : tagR s ρ1 = (0, wrongR (quotedR s ρ1).2.ta (quotedR s ρ1).2) := by unfold tagR; rw [hsg]; rfl
  rw [hT]
  clear hT
  generalize quotedR s ρ1 = y at *
  obtain ⟨v, ρ2⟩ := y
  simp only at *
  have hS2 := fun W (hh : RB W R s ρ2 (.slice A ρ.ns.length c)) => Lib.hid (rsign_any R s 61 ρ2 _ W hh)
  rw [hsg] at hS2
  have hWr := fun W (hh : RB W R s ρ2 (.slice A ρ.ns.length c)) => Lib.hid (wrong_any R s ρ2.ta ρ2 _ W hh)
  have hns5 : (wrongR ρ2.ta ρ2).ns = ρ.ns := hns2
  generalize hw5 : wrongR ρ2.ta ρ2 = ρ5 at *
  clear hw5
  go_enter Tryd.func143, Tryd.ntmps143
  go_wp2_with (first
    | (go_at_call 69; refine ((hWr _ (by exact hR3)).out).mono ?_; rintro e w4 ⟨rfl, hR4, hg4'⟩; have hgb4 := gb_trans hgb3 hg4'; obtain ⟨hPR, hbl⟩ := QR.qs1 (w' := w4) hB hown hne hR4 hgb4 hns5 hBw)
    | (go_at_call 114; have hmk := hN3; refine ((hS2 _ (by exact hR3)).out).mono ?_; rintro e w3 ⟨rfl, rfl⟩; have d4 := hR3.c4)
    | (go_at_call 162; refine ((hV _ hR1).out).mono ?_; rintro e w2 ⟨rfl, hR2, hg2⟩; have hgb2 := gb_trans hg1 hg2; have hL2 := hgb2.size; have hR2l := hR2.lt; have hN3 : NB (w2.alloc (.cells #[.int .i64 5, .int .i64 0, .string v, .string ⟨#[]⟩, .int .i64 0, .int .i64 0] 64)) w2.heap.size ⟨5, 0, v, ⟨#[]⟩, 0, 0⟩ := heap_alloc_new w2 _; have hR3 := hR2.alloc (.cells #[.int .i64 5, .int .i64 0, .string v, .string ⟨#[]⟩, .int .i64 0, .int .i64 0] 64); have hgb3 := gb_alloc hgb2 (.cells #[.int .i64 5, .int .i64 0, .string v, .string ⟨#[]⟩, .int .i64 0, .int .i64 0] 64))
    | (go_at_call 67; refine (hOn.out).mono ?_; rintro e w1 ⟨rfl, hR1, hg1⟩)
    | (go_at_call 114; refine (hS _).mono ?_; rintro e w0 ⟨rfl, rfl⟩))
  go_ret
  exact ⟨rfl, hPR, hbl⟩
theorem atom_any {F : RQ → Int × RQ} {B : Nat} {s : ByteArray} (hs : s.size ≤ 100000) (hU : FGr s F) (t0 : Nat) (hF : FQ 68 F B s (t0 + 1)) : ∀ (f t : Nat), t0 ≤ t → s.size < f + t → FQ 143 (atomF s F f) B s t
  | 0, t, _, h => fun R ρ w _ hl _ ht => by have := hl.ta_le; omega
  | f + 1, t, h0, h => by
    intro R ρ w hq hl hn ht
    cases h33 : signR 33 ρ with
    | true => exact atom_bang hs hU f R ρ w hq hl hn (atom_any hs hU t0 hF f (ρ.ta + 1).toNat (by omega) (by have := hl.t0; omega)) h33
    | false =>
      cases h40 : signR 40 ρ with
      | true =>
        have hF' : FQ 68 F B s (ρ.ta + 1).toNat := fun R ρ' w' a b c d => hF R ρ' w' a b c (by have := hl.t0; omega)
        cases h41 : signR 41 (F (onR s ρ)).2 with
        | true => exact atom_parY hs hU f R ρ w hq hl hn hF' h33 h40 h41
        | false => exact atom_parN hs hU f R ρ w hq hl hn hF' h33 h40 h41
      | false =>
        by_cases hb : 0 ≤ ρ.bad ∨ ρ.k ≠ 1
        · exact atom_none f R ρ w hq h33 h40 hb
        have hb1 : ρ.bad < 0 := by omega
        have hk1 : ρ.k = 1 := by omega
        by_cases h1 : ρ.x = wAlways
        · exact atom_always hs f R ρ w hq hl hn hb1 hk1 h1
        by_cases h2 : ρ.x = wError
        · exact atom_error hs f R ρ w hq hl hn hb1 hk1 h2
        by_cases h3 : ρ.x = wSlow
        · exact atom_slow hs f R ρ w hq hl hn hb1 hk1 h3
        by_cases h4 : ρ.x = wRatio
        · exact atom_ratio hs f R ρ w hq hl hn hb1 hk1 h4
        by_cases h5 : ρ.x = wService
        · exact atom_service hs f R ρ w hq hl hn hb1 hk1 h5
        cases h7 : signR 61 (quotedR s (onR s ρ)).2 with
        | true => exact atom_tag hs f R ρ w hq hl hn hb1 hk1 ⟨h1, h2, h3, h4, h5⟩ h7
        | false => exact atom_tagn hs f R ρ w hq hl hn hb1 hk1 ⟨h1, h2, h3, h4, h5⟩ h7
end Go.Proofs.YtnnhkajjifmlfaaDoor.Pl
/-! Policies, the document's reader: & and | are read: the walks. -/
namespace Go.Proofs.YtnnhkajjifmlfaaDoor.Pl
open Go.RowKit Go.Maps

set_option maxHeartbeats 3200000 in
theorem bothW_any {G : RQ → Int × RQ} {B : Nat} {s : ByteArray} (hs : s.size ≤ 100000) (hU : FGr s G) (t : Nat) (hG0 : FQ 143 G B s t) : FQ 113 (fun ρ => manyR s 38 8 G (s.size + 1) (G ρ).1 (G ρ).2) B s t := by
  intro R ρ w h hl hn ht
  have hta := hl.ta_le
  have ht0 := hl.t0
  obtain ⟨res, hres, hE⟩ : ∃ res, manyR s 38 8 G (s.size + 1) (G ρ).1 (G ρ).2 = res ∧ Hid (manyR s 38 8 G (s.size + 1) (G ρ).1 (G ρ).2 = res) := ⟨_, rfl, rfl⟩
  simp only
  rw [hres]
  clear hres
  have hO := Lib.hid (hG0 R ρ w h hl hn ht)
  have hgo := hU ρ hl
  generalize G ρ = y at *
  obtain ⟨v, υ⟩ := y
  simp only at *
  have hlu := hgo.lk
  have hnu : (υ.ns.length : Int) ≤ 1 + 2 * υ.ta := by have := hgo.ns; omega
  have htu : ρ.ta ≤ υ.ta := hgo.ta
  clear hgo
  go_enter Tryd.func113, Tryd.ntmps113
  go_wp2_with (first
    | (go_at_call 143; refine (hO.out).mono ?_; rintro e w1 ⟨rfl, hp1, hb1⟩))
  go_loopg [3] (s.size + 1 - υ.ta.toNat) (fun k u3 wr => ∃ (f : Nat) (a : Int) (τ : RQ), u3 = .int .i64 a ∧ Hid (manyR s 38 8 G f a τ = res) ∧ RL s τ ∧ (τ.ns.length : Int) ≤ 1 + 2 * τ.ta ∧ ρ.ta ≤ τ.ta ∧ (s.size : Int) < f + τ.ta ∧ k = s.size + 1 - τ.ta.toNat ∧ QR B R s τ wr ∧ Below B w wr)
  case atStart => exact ⟨s.size + 1, v, υ, rfl, hE, hlu, hnu, htu, by have := hlu.t0; omega, rfl, hp1, hb1⟩
  case round =>
    clear hp1 hb1 hE hO
    obtain ⟨f, a, τ, rfl, hma, hlk, hns, hj, hf, rfl, hp, hb⟩ := hrel
    have hta2 := hlk.ta_le
    have hta0 := hlk.t0
    have hS := fun c => sign_q hp c
    cases hsg : signR 38 τ with
    | true =>
      obtain ⟨f', rfl⟩ : ∃ f', f = f' + 1 := ⟨f - 1, by omega⟩
      obtain ⟨g0, g1, g2, g3⟩ := gr_tok hlk (signR_k hsg)
      have hma2 : Hid (manyR s 38 8 G f' (putR ⟨8, 0, ⟨#[]⟩, ⟨#[]⟩, a, (G (onR s τ)).1⟩ (G (onR s τ)).2).1 (putR ⟨8, 0, ⟨#[]⟩, ⟨#[]⟩, a, (G (onR s τ)).1⟩ (G (onR s τ)).2).2 = res) := by
        have := hma.out
        rw [manyR, if_pos hsg] at this
        exact this
      have hOn := Lib.hid (on_q hp hlk (by omega))
      have hta3 := g2.ta_le
      have hI := fun W (hh : QR B R s (onR s τ) W) => Lib.hid (hG0 R (onR s τ) W hh g2 (by rw [g3]; omega) (by omega))
      have hgo := hU _ g2
      have hgn := hgo.ns
      rw [g3] at hgn
      have hgt := hgo.ta
      have hgl := hgo.lk
      clear hma hgo
      generalize G (onR s τ) = z at *
      obtain ⟨v2, υ2⟩ := z
      simp only at *
      have hgs := hgl.ta_le
      have hP := fun W (hh : QR B R s υ2 W) => Lib.hid (rput_any B R s υ2 ⟨8, 0, ⟨#[]⟩, ⟨#[]⟩, a, v2⟩ W hh (by omega))
      have hln : (putR ⟨8, 0, ⟨#[]⟩, ⟨#[]⟩, a, v2⟩ υ2).2.ns.length = υ2.ns.length + 1 := by unfold putR; simp
      have hlt : (putR ⟨8, 0, ⟨#[]⟩, ⟨#[]⟩, a, v2⟩ υ2).2.ta = υ2.ta := rfl
      have hll := (gr_put hgl ⟨8, 0, ⟨#[]⟩, ⟨#[]⟩, a, v2⟩).lk
      generalize putR ⟨8, 0, ⟨#[]⟩, ⟨#[]⟩, a, v2⟩ υ2 = z at *
      obtain ⟨a3, τ3⟩ := z
      simp only at *
      go_wp2_with (first
        | (go_at_call 114; refine (hS _).mono ?_; rintro e w2 ⟨rfl, rfl⟩)
        | (go_at_call 67; refine (hOn.out).mono ?_; rintro e w2 ⟨rfl, hp2, hb2⟩)
        | (go_at_call 143; refine ((hI _ hp2).out).mono ?_; rintro e w3 ⟨rfl, hp3, hb3⟩)
        | (go_at_call 115; refine ((hP _ hp3).out).mono ?_; rintro e w4 ⟨rfl, hp4, hb4⟩))
      go_roundg (s.size + 1 - τ3.ta.toNat)
      case measure => omega
      case rel => exact ⟨f', a3, τ3, rfl, hma2, hll, by omega, by omega, by omega, rfl, hp4, ((hb.trans hb2).trans hb3).trans hb4⟩
    | false =>
      have hE2 : Hid (res = (a, τ)) := by
        have := hma.out
        cases f with
        | zero => omega
        | succ f => rw [manyR, hsg] at this; exact this.symm
      clear hma
      go_wp2_with (first
        | (go_at_call 114; refine (hS _).mono ?_; rintro e w2 ⟨rfl, rfl⟩))
      go_ret
      exact ⟨by rw [hE2.out]; rfl, by rw [hE2.out]; exact hp, hb⟩
set_option maxHeartbeats 3200000 in
theorem anyW_any {G : RQ → Int × RQ} {B : Nat} {s : ByteArray} (hs : s.size ≤ 100000) (hU : FGr s G) (t : Nat) (hG0 : FQ 113 G B s t) : FQ 68 (fun ρ => manyR s 124 9 G (s.size + 1) (G ρ).1 (G ρ).2) B s t := by
  intro R ρ w h hl hn ht
  have hta := hl.ta_le
  have ht0 := hl.t0
  obtain ⟨res, hres, hE⟩ : ∃ res, manyR s 124 9 G (s.size + 1) (G ρ).1 (G ρ).2 = res ∧ Hid (manyR s 124 9 G (s.size + 1) (G ρ).1 (G ρ).2 = res) := ⟨_, rfl, rfl⟩
  simp only
  rw [hres]
  clear hres
  have hO := Lib.hid (hG0 R ρ w h hl hn ht)
  have hgo := hU ρ hl
  generalize G ρ = y at *
  obtain ⟨v, υ⟩ := y
  simp only at *
  have hlu := hgo.lk
  have hnu : (υ.ns.length : Int) ≤ 1 + 2 * υ.ta := by have := hgo.ns; omega
  have htu : ρ.ta ≤ υ.ta := hgo.ta
  clear hgo
  go_enter Tryd.func68, Tryd.ntmps68
  go_wp2_with (first
    | (go_at_call 113; refine (hO.out).mono ?_; rintro e w1 ⟨rfl, hp1, hb1⟩))
  go_loopg [3] (s.size + 1 - υ.ta.toNat) (fun k u3 wr => ∃ (f : Nat) (a : Int) (τ : RQ), u3 = .int .i64 a ∧ Hid (manyR s 124 9 G f a τ = res) ∧ RL s τ ∧ (τ.ns.length : Int) ≤ 1 + 2 * τ.ta ∧ ρ.ta ≤ τ.ta ∧ (s.size : Int) < f + τ.ta ∧ k = s.size + 1 - τ.ta.toNat ∧ QR B R s τ wr ∧ Below B w wr)
  case atStart => exact ⟨s.size + 1, v, υ, rfl, hE, hlu, hnu, htu, by have := hlu.t0; omega, rfl, hp1, hb1⟩
  case round =>
    clear hp1 hb1 hE hO
    obtain ⟨f, a, τ, rfl, hma, hlk, hns, hj, hf, rfl, hp, hb⟩ := hrel
    have hta2 := hlk.ta_le
    have hta0 := hlk.t0
    have hS := fun c => sign_q hp c
    cases hsg : signR 124 τ with
    | true =>
      obtain ⟨f', rfl⟩ : ∃ f', f = f' + 1 := ⟨f - 1, by omega⟩
      obtain ⟨g0, g1, g2, g3⟩ := gr_tok hlk (signR_k hsg)
      have hma2 : Hid (manyR s 124 9 G f' (putR ⟨9, 0, ⟨#[]⟩, ⟨#[]⟩, a, (G (onR s τ)).1⟩ (G (onR s τ)).2).1 (putR ⟨9, 0, ⟨#[]⟩, ⟨#[]⟩, a, (G (onR s τ)).1⟩ (G (onR s τ)).2).2 = res) := by
        have := hma.out
        rw [manyR, if_pos hsg] at this
        exact this
      have hOn := Lib.hid (on_q hp hlk (by omega))
      have hta3 := g2.ta_le
      have hI := fun W (hh : QR B R s (onR s τ) W) => Lib.hid (hG0 R (onR s τ) W hh g2 (by rw [g3]; omega) (by omega))
      have hgo := hU _ g2
      have hgn := hgo.ns
      rw [g3] at hgn
      have hgt := hgo.ta
      have hgl := hgo.lk
      clear hma hgo
      generalize G (onR s τ) = z at *
      obtain ⟨v2, υ2⟩ := z
      simp only at *
      have hgs := hgl.ta_le
      have hP := fun W (hh : QR B R s υ2 W) => Lib.hid (rput_any B R s υ2 ⟨9, 0, ⟨#[]⟩, ⟨#[]⟩, a, v2⟩ W hh (by omega))
      have hln : (putR ⟨9, 0, ⟨#[]⟩, ⟨#[]⟩, a, v2⟩ υ2).2.ns.length = υ2.ns.length + 1 := by unfold putR; simp
      have hlt : (putR ⟨9, 0, ⟨#[]⟩, ⟨#[]⟩, a, v2⟩ υ2).2.ta = υ2.ta := rfl
      have hll := (gr_put hgl ⟨9, 0, ⟨#[]⟩, ⟨#[]⟩, a, v2⟩).lk
      generalize putR ⟨9, 0, ⟨#[]⟩, ⟨#[]⟩, a, v2⟩ υ2 = z at *
      obtain ⟨a3, τ3⟩ := z
      simp only at *
      go_wp2_with (first
        | (go_at_call 114; refine (hS _).mono ?_; rintro e w2 ⟨rfl, rfl⟩)
        | (go_at_call 67; refine (hOn.out).mono ?_; rintro e w2 ⟨rfl, hp2, hb2⟩)
        | (go_at_call 113; refine ((hI _ hp2).out).mono ?_; rintro e w3 ⟨rfl, hp3, hb3⟩)
        | (go_at_call 115; refine ((hP _ hp3).out).mono ?_; rintro e w4 ⟨rfl, hp4, hb4⟩))
      go_roundg (s.size + 1 - τ3.ta.toNat)
      case measure => omega
      case rel => exact ⟨f', a3, τ3, rfl, hma2, hll, by omega, by omega, by omega, rfl, hp4, ((hb.trans hb2).trans hb3).trans hb4⟩
    | false =>
      have hE2 : Hid (res = (a, τ)) := by
        have := hma.out
        cases f with
        | zero => omega
        | succ f => rw [manyR, hsg] at this; exact this.symm
      clear hma
      go_wp2_with (first
        | (go_at_call 114; refine (hS _).mono ?_; rintro e w2 ⟨rfl, rfl⟩))
      go_ret
      exact ⟨by rw [hE2.out]; rfl, by rw [hE2.out]; exact hp, hb⟩
theorem anyD_any {B : Nat} {s : ByteArray} (hs : s.size ≤ 100000) : ∀ (d t : Nat), s.size < d + t → FQ 68 (anyD s d) B s t
  | 0, t, h => fun R ρ w _ hl _ ht => by have := hl.ta_le; omega
  | d + 1, t, h => anyW_any hs (gr_both (gr_anyD s d)) t (bothW_any hs (gr_atom (gr_anyD s d) (s.size + 2)) t (atom_any hs (gr_anyD s d) t (anyD_any hs d (t + 1) (by omega)) (s.size + 2) t (Nat.le_refl _) (by omega)))
end Go.Proofs.YtnnhkajjifmlfaaDoor.Pl
