/- Policies: the reader's small methods: the walks. -/
import Derived.Test.YtnnhkajjifmlfaaDoorPf
namespace Go.Proofs.YtnnhkajjifmlfaaDoor.Pl
open Go.RowKit Go.Maps

theorem next_any (R : Nat) (s : ByteArray) (σ : PQ) (nv : Value) (w : World) (h : PB w R s σ nv) (hp : σ.p ≤ s.size) (hs : s.size ≤ 2000000) :
    Calls Tryd.prog 63 #[.pointer (some ⟨R, 0, none⟩)] w (PS1 R s nv w (.tuple #[]) (nextP s σ)) := by
  rcases Nat.lt_or_ge (bsk s σ.p) s.size with h1 | h1
  · cases h2 : inW (chr s (bsk s σ.p)) with
    | true => exact next_word R s σ nv w h hp hs h1 h2
    | false =>
      by_cases h3 : chr s (bsk s σ.p) = 34
      · exact next_quote R s σ nv w h hp hs h1 h3
      · exact next_sign R s σ nv w h hp hs h1 ⟨h2, h3⟩
  · exact next_end R s σ nv w h hp hs h1
theorem ba_beq (a b : ByteArray) : (a.toList == b.toList) = decide (a = b) := by
  rw [Bool.eq_iff_iff, beq_iff_eq, decide_eq_true_eq, Lib.toList_data, Lib.toList_data]
  exact ⟨fun h => ByteArray.ext (Array.toList_inj.1 h), fun h => by rw [h]⟩
def signT (t : ByteArray) (σ : PQ) : Bool := decide (σ.bad < 0) && σ.k == 4 && decide (σ.x = t)
set_option maxHeartbeats 1600000 in
theorem sign_any (R : Nat) (s t : ByteArray) (σ : PQ) (nv : Value) (w : World) (h : PB w R s σ nv) (hp : σ.p ≤ s.size) (hs : s.size ≤ 2000000) :
    Calls Tryd.prog 109 #[.pointer (some ⟨R, 0, none⟩), .string t] w (PS1 R s nv w (.bool (signT t σ)) (if signT t σ then nextP s σ else σ)) := by
  have c2 := h.c2
  have c3 := h.c3
  have c6 := h.c6
  go_enter Tryd.func109, Tryd.ntmps109
  by_cases hb : σ.bad < 0
  · have hbI : ¬ (0 : Int) ≤ σ.bad := by omega
    by_cases hk : σ.k = 4
    · have hkb : (σ.k != 4) = false := by simp [hk]
      by_cases hx : σ.x = t
      · have hT : Hid (signT t σ = true) := by unfold Hid signT; rw [decide_eq_true hb, hk, decide_eq_true hx]; rfl
        have hxb : (σ.x.toList == t.toList) = true := by rw [ba_beq, decide_eq_true hx]
        have hN := fun W (hh : PB W R s σ nv) => Lib.hid (next_any R s σ nv W hh hp hs)
        clear hx hk hb
        rw [hT.out]
        simp only [if_true]
        go_wp2_with (first
          | (go_at_call 63; refine ((hN _ h).out).mono ?_; rintro e w1 ⟨rfl, hR, hg⟩))
        go_ret
        exact ⟨rfl, hR, hg⟩
      · have hT : Hid (signT t σ = false) := by unfold Hid signT; rw [decide_eq_false hx, Bool.and_false]
        have hxb : (σ.x.toList == t.toList) = false := by rw [ba_beq, decide_eq_false hx]
        clear hx hk hb
        rw [hT.out]
        simp only [Bool.false_eq_true, if_false]
        go_wp2_with fail
        go_ret
        exact ⟨rfl, h, gb_refl _ _⟩
    · have hkb : (σ.k != 4) = true := by simpa using hk
      have hT : Hid (signT t σ = false) := by unfold Hid signT; rw [beq_eq_false_iff_ne.2 hk, Bool.and_false, Bool.false_and]
      clear hk hb
      rw [hT.out]
      simp only [Bool.false_eq_true, if_false]
      go_wp2_with fail
      go_ret
      exact ⟨rfl, h, gb_refl _ _⟩
  · have hbI : (0 : Int) ≤ σ.bad := by omega
    have hT : Hid (signT t σ = false) := by unfold Hid signT; rw [decide_eq_false hb]; rfl
    clear hb
    rw [hT.out]
    simp only [Bool.false_eq_true, if_false]
    go_wp2_with fail
    go_ret
    exact ⟨rfl, h, gb_refl _ _⟩
theorem take1_p (k : Int) (σ : PQ) : (takeP1 k σ).p = σ.p := by
  unfold takeP1 faultP
  split
  · rfl
  · split <;> rfl
set_option maxHeartbeats 1600000 in
theorem take_any (R : Nat) (s : ByteArray) (k : Int) (σ : PQ) (nv : Value) (w : World) (h : PB w R s σ nv) (hp : σ.p ≤ s.size) (hs : s.size ≤ 2000000) :
    Calls Tryd.prog 175 #[.pointer (some ⟨R, 0, none⟩), .int .i64 k] w (PS1 R s nv w (.string (takeP s k σ).1) (takeP s k σ).2) := by
  have hF := fun W (hh : PB W R s σ nv) => Lib.hid (fault_any R s σ nv W hh)
  by_cases hk : σ.k = k
  · have e1 : takeP1 k σ = σ := by unfold takeP1; rw [if_pos hk]
    have hkb : (σ.k != k) = false := by simp [hk]
    by_cases hb : 0 ≤ σ.bad
    · have hT : takeP s k σ = (⟨#[]⟩, σ) := by unfold takeP; rw [e1, if_pos hb]
      rw [hT]
      clear hT e1 hk
      have c2 := h.c2
      have c6 := h.c6
      go_enter Tryd.func175, Tryd.ntmps175
      go_wp2_with fail
      go_ret
      exact ⟨rfl, h, gb_refl _ _⟩
    · have hT : takeP s k σ = (σ.x, nextP s σ) := by unfold takeP; rw [e1, if_neg hb]
      rw [hT]
      clear hT e1 hk
      have hbI : ¬ (0 : Int) ≤ σ.bad := hb
      have c2 := h.c2
      have c3 := h.c3
      have c6 := h.c6
      have hN := fun W (hh : PB W R s σ nv) => Lib.hid (next_any R s σ nv W hh hp hs)
      go_enter Tryd.func175, Tryd.ntmps175
      go_wp2_with (first
        | (go_at_call 63; refine ((hN _ h).out).mono ?_; rintro e w1 ⟨rfl, hR, hg⟩))
      go_ret
      exact ⟨rfl, hR, hg⟩
  · have e1 : takeP1 k σ = faultP σ := by unfold takeP1; rw [if_neg hk]
    have hkb : (σ.k != k) = true := by simpa using hk
    have hpp : (faultP σ).p ≤ s.size := by rw [← e1, take1_p]; exact hp
    have hN := fun W (hh : PB W R s (faultP σ) nv) => Lib.hid (next_any R s (faultP σ) nv W hh hpp hs)
    have c2 := h.c2
    by_cases hb : 0 ≤ (faultP σ).bad
    · have hT : takeP s k σ = (⟨#[]⟩, faultP σ) := by unfold takeP; rw [e1, if_pos hb]
      rw [hT]
      clear hT e1 hk
      generalize faultP σ = τ at *
      go_enter Tryd.func175, Tryd.ntmps175
      go_wp2_with (first
        | (go_at_call 65; refine ((hF _ h).out).mono ?_; rintro e w1 ⟨rfl, hR, hg⟩; have d6 := hR.c6))
      go_ret
      exact ⟨rfl, hR, hg⟩
    · have hbb := hb
      exfalso
      unfold faultP at hb
      split at hb
      · simp only at hb; omega
      · omega
end Go.Proofs.YtnnhkajjifmlfaaDoor.Pl
/-! Policies: a number is read, a node is put: the walks. -/
namespace Go.Proofs.YtnnhkajjifmlfaaDoor.Pl
open Go.RowKit Go.Maps

theorem ba_nil' {x : ByteArray} (h : x.size = 0) : x = ⟨#[]⟩ := by
  obtain ⟨⟨l⟩⟩ := x
  have : l = [] := List.eq_nil_of_length_eq_zero h
  subst this; rfl
theorem take_size {s : ByteArray} {σ : PQ} (k : Int) (h : Lk s σ) : (takeP s k σ).1.size ≤ s.size := by
  have h1 := (gn_take1 h k).lk.xs
  unfold takeP
  split
  · exact Nat.zero_le _
  · exact h1
set_option maxHeartbeats 1600000 in
theorem number_any (R : Nat) (s : ByteArray) (σ : PQ) (nv : Value) (w : World) (h : PB w R s σ nv) (hl : Lk s σ) (hs : s.size ≤ 2000000) (hG : Gv w) (hR6 : 6 ≤ R) :
    Calls Tryd.prog 176 #[.pointer (some ⟨R, 0, none⟩)] w (PS1 R s nv w (.int .i64 (numP s σ).1) (numP s σ).2) := by
  have hN : Hid (numP s σ = (PIn (takeP s 2 σ).1.data.toList, { (takeP s 2 σ).2 with gr := (takeP s 2 σ).2.gr || (!PIok (takeP s 2 σ).1.data.toList && decide ((takeP s 2 σ).1.size ≠ 0)) })) := rfl
  rw [hN.out]
  clear hN
  have hT := Lib.hid (take_any R s 2 σ nv w h hl.ps hs)
  have hx := Nat.le_trans (take_size 2 hl) hs
  generalize takeP s 2 σ = y at *
  obtain ⟨x, τ⟩ := y
  simp only at *
  have hOK := fun (W : World) (hG : Gv W) (hk : PIok x.data.toList = true) => Lib.hid (parseInt_ok x W hx hG hk)
  have hBD := fun (W : World) (hG : Gv W) (hk : PIok x.data.toList = false) => Lib.hid (parseInt_bad x W hx hG hk)
  obtain ⟨gg, hgg⟩ : ∃ gg, gg = (τ.gr || (!PIok x.data.toList && decide (x.size ≠ 0))) := ⟨_, rfl⟩
  rw [← hgg]
  go_enter Tryd.func176, Tryd.ntmps176
  cases hk : PIok x.data.toList with
  | true =>
    have hOK2 := fun (W : World) (hG : Gv W) => hOK W hG hk
    clear hOK hBD
    cases hgr : τ.gr with
    | true =>
      have hv : gg = true := by rw [hgg, hgr]; rfl
      clear hgg
      subst hv
      go_wp2_with (first
        | (go_at_call 130; refine ((hOK2 _ (hG.kept hg1 (by simpa using hR6))).out).mono ?_; rintro e w2 ⟨rfl, hg2⟩; have hR2 := hR1.kept hg2 (by simp); have c7 := hR2.c7; have f7 := hR2.f 7; rw [hgr] at c7)
        | (go_at_call 175; refine (hT.out).mono ?_; rintro e w1 ⟨rfl, hR1, hg1⟩))
      go_ret
      exact ⟨rfl, hR2.set7 true, gb_setR (gb_trans hg1 (gb_more (gb_refl _ _) hg2 (by simp))) _ _⟩
    | false =>
      have hv : gg = false := by rw [hgg, hgr, hk]; rfl
      clear hgg
      subst hv
      go_wp2_with (first
        | (go_at_call 130; refine ((hOK2 _ (hG.kept hg1 (by simpa using hR6))).out).mono ?_; rintro e w2 ⟨rfl, hg2⟩; have hR2 := hR1.kept hg2 (by simp); have c7 := hR2.c7; have f7 := hR2.f 7; rw [hgr] at c7)
        | (go_at_call 175; refine (hT.out).mono ?_; rintro e w1 ⟨rfl, hR1, hg1⟩))
      go_ret
      exact ⟨rfl, hR2.set7 false, gb_setR (gb_trans hg1 (gb_more (gb_refl _ _) hg2 (by simp))) _ _⟩
  | false =>
    have hBD2 := fun (W : World) (hG : Gv W) => hBD W hG hk
    clear hOK hBD
    cases hgr : τ.gr with
    | true =>
      have hv : gg = true := by rw [hgg, hgr]; rfl
      clear hgg
      subst hv
      go_wp2_with (first
        | (go_at_call 130; refine ((hBD2 _ (hG.kept hg1 (by simpa using hR6))).out).mono ?_; rintro e w2 ⟨N, rfl, hg2⟩; have hR2 := hR1.kept hg2 (by simp); have c7 := hR2.c7; have f7 := hR2.f 7; rw [hgr] at c7)
        | (go_at_call 175; refine (hT.out).mono ?_; rintro e w1 ⟨rfl, hR1, hg1⟩))
      go_ret
      exact ⟨rfl, hR2.set7 true, gb_setR (gb_trans hg1 (gb_more (gb_refl _ _) hg2 (by simp))) _ _⟩
    | false =>
      by_cases hz : x = ⟨#[]⟩
      · have hz1 : (x.toList == []) = true := by rw [hz, Lib.toList_data]; rfl
        have hz2 : decide (x.size ≠ 0) = false := by subst hz; rfl
        have hv : gg = false := by rw [hgg, hgr, hk, hz2]; rfl
        clear hgg hz hz2
        subst hv
        go_wp2_with (first
          | (go_at_call 130; refine ((hBD2 _ (hG.kept hg1 (by simpa using hR6))).out).mono ?_; rintro e w2 ⟨N, rfl, hg2⟩; have hR2 := hR1.kept hg2 (by simp); have c7 := hR2.c7; have f7 := hR2.f 7; rw [hgr] at c7)
          | (go_at_call 175; refine (hT.out).mono ?_; rintro e w1 ⟨rfl, hR1, hg1⟩))
        go_ret
        exact ⟨rfl, hR2.set7 false, gb_setR (gb_trans hg1 (gb_more (gb_refl _ _) hg2 (by simp))) _ _⟩
      · have hz1 : (x.toList == []) = false := by
          have : (x.toList == (⟨#[]⟩ : ByteArray).toList) = false := by rw [ba_beq, decide_eq_false hz]
          have e : (⟨#[]⟩ : ByteArray).toList = [] := by rw [Lib.toList_data]
          rw [e] at this
          exact this
        have hz2 : decide (x.size ≠ 0) = true := decide_eq_true (fun e => hz (ba_nil' e))
        have hv : gg = true := by rw [hgg, hgr, hk, hz2]; rfl
        clear hgg hz hz2
        subst hv
        go_wp2_with (first
          | (go_at_call 130; refine ((hBD2 _ (hG.kept hg1 (by simpa using hR6))).out).mono ?_; rintro e w2 ⟨N, rfl, hg2⟩; have hR2 := hR1.kept hg2 (by simp); have c7 := hR2.c7; have f7 := hR2.f 7; rw [hgr] at c7)
          | (go_at_call 175; refine (hT.out).mono ?_; rintro e w1 ⟨rfl, hR1, hg1⟩))
        go_ret
        exact ⟨rfl, hR2.set7 true, gb_setR (gb_trans hg1 (gb_more (gb_refl _ _) hg2 (by simp))) _ _⟩
end Go.Proofs.YtnnhkajjifmlfaaDoor.Pl
