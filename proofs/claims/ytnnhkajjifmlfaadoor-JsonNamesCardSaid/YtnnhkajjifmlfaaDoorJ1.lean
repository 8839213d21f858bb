/- The reader's small methods of package json: each computes what its plain function says. -/
import Derived.Test.YtnnhkajjifmlfaaDoorJ0
import Derived.WalkSpells
import Derived.WalkLawsBesides
import Derived.Deep.QuietTactic
import Derived.BigQuiet
import Derived.Lib.Hide
namespace Go.Proofs.YtnnhkajjifmlfaaDoor
open Go.RowKit

theorem fail_yes (R : Nat) (s : ByteArray) (σ : PS) (x q : Int) (w : World) (h : RD w R s σ) (he : (σ.e == 0) = true) :
    Calls Tryd.prog 43 #[.pointer (some ⟨R, 0, none⟩), .int .i64 x, .int .i64 q] w fun e w' => e = .returned (.tuple #[]) ∧ w' = (w.setCell ⟨R, 2, none⟩ (.int .i64 x)).setCell ⟨R, 3, none⟩ (.int .i64 q) := by
  have c2 := h.c2
  have c3 := h.c3
  have f2 := h.f 2
  have f3 := h.f 3
  clear h
  go_enter Tryd.func43, Tryd.ntmps43
  go_wp2
  go_end0
  exact ⟨rfl, rfl⟩
theorem fail_no (R : Nat) (s : ByteArray) (σ : PS) (x q : Int) (w : World) (h : RD w R s σ) (he : (σ.e == 0) = false) :
    Calls Tryd.prog 43 #[.pointer (some ⟨R, 0, none⟩), .int .i64 x, .int .i64 q] w fun e w' => e = .returned (.tuple #[]) ∧ w' = w := by
  have c2 := h.c2
  clear h
  go_enter Tryd.func43, Tryd.ntmps43
  go_wp2
  go_end0
  exact ⟨rfl, rfl⟩
/-- (*reader).fail -/
theorem fail_any (R : Nat) (s : ByteArray) (σ : PS) (x q : Int) (w : World) (h : RD w R s σ) :
    Calls Tryd.prog 43 #[.pointer (some ⟨R, 0, none⟩), .int .i64 x, .int .i64 q] w fun e w' => e = .returned (.tuple #[]) ∧ RD w' R s (failS σ x q) ∧ w.grownBy w' (some R) := by
  by_cases he : σ.e = 0
  · refine (fail_yes R s σ x q w h (by simp [he])).mono ?_
    rintro e w' ⟨rfl, rfl⟩
    have h1 : RD _ R s { σ with e := x, bad := q } := (h.set2 x).set3 q
    exact ⟨rfl, by unfold failS; rw [if_pos he]; exact h1, gb_setR (gb_setR (gb_refl w _) _ _) _ _⟩
  · refine (fail_no R s σ x q w h (by simpa using he)).mono ?_
    rintro e w' ⟨rfl, rfl⟩
    exact ⟨rfl, by unfold failS; rw [if_neg he]; exact h, gb_refl _ _⟩

set_option maxHeartbeats 400000 in
/-- (*reader).next -/
theorem next_any (R : Nat) (s : ByteArray) (σ : PS) (w : World) (h : RD w R s σ) (hp : σ.p ≤ s.size) :
    Calls Tryd.prog 81 #[.pointer (some ⟨R, 0, none⟩)] w fun e w' => e = .returned (.int .u8 (nextS s σ)) ∧ ∃ n, w' = w.drewN n := by
  obtain ⟨p, e, bad, d⟩ := σ
  have c0 := h.c0
  have c1 := h.c1
  have c2 := h.c2
  clear h
  simp only at *
  have HP : nextS s ⟨p, e, bad, d⟩ = if e = 0 then chr s p else 0 := rfl
  rw [HP]; clear HP
  by_cases he : e = 0
  · subst he
    rw [if_pos rfl]
    by_cases hlt : p < s.size
    · have hd : decide ((s.size : Int) ≤ (p : Int)) = false := by simp; omega
      have hi : (p : Int) < (s.size : Int) := by omega
      rw [chr_in hlt]
      go_enter Tryd.func81, Tryd.ntmps81
      go_wp2
      go_quiet (fail)
      go_wp2
      go_quiet (fail)
      go_wp2
      go_ret
      exact ⟨rfl, _, by first | rfl | exact World.drewN_drewN _ _ _⟩
    · have hd : decide ((s.size : Int) ≤ (p : Int)) = true := by simp; omega
      rw [chr_out (by omega)]
      go_enter Tryd.func81, Tryd.ntmps81
      go_wp2
      go_quiet (fail)
      go_wp2
      go_ret
      exact ⟨rfl, _, by first | rfl | exact World.drewN_drewN _ _ _⟩
  · rw [if_neg he]
    have h1 : (e != 0) = true := by simpa using he
    go_enter Tryd.func81, Tryd.ntmps81
    go_wp2
    go_quiet (fail)
    go_wp2
    go_ret
    exact ⟨rfl, _, by first | rfl | exact World.drewN_drewN _ _ _⟩

set_option maxHeartbeats 800000 in
theorem take_raw (R : Nat) (s : ByteArray) (p : Nat) (e bad d c : Int) (w : World) (h : RD w R s ⟨p, e, bad, d⟩) (hp : p ≤ s.size) (hs : s.size ≤ 2000000) :
    Calls Tryd.prog 128 #[.pointer (some ⟨R, 0, none⟩), .int .u8 c] w fun e' w' => e' = .returned (.bool (takeB s ⟨p, e, bad, d⟩ c)) ∧ ∃ n, w' = if takeB s ⟨p, e, bad, d⟩ c then (w.drewN n).setCell ⟨R, 1, none⟩ (.int .i64 ((p + 1 : Nat) : Int)) else w.drewN n := by
  have c0 := h.c0
  have c1 := h.c1
  have c2 := h.c2
  have f1 := h.f 1
  clear h
  simp only at *
  by_cases he : e = 0
  · subst he
    by_cases hlt : p < s.size
    · have hd : decide ((s.size : Int) ≤ (p : Int)) = false := by simp; omega
      have hi : (p : Int) < (s.size : Int) := by omega
      by_cases hc : (s[p].toNat : Int) = c
      · have hcb : takeB s ⟨p, 0, bad, d⟩ c = true := by simp [takeB, hlt, chr_in hlt, hc]
        rw [hcb]
        clear hcb
        subst hc
        go_enter Tryd.func128, Tryd.ntmps128
        go_wp2
        go_quiet (fail)
        go_wp2
        go_ret
        exact ⟨rfl, _, rfl⟩
      · have hcb : takeB s ⟨p, 0, bad, d⟩ c = false := by simp [takeB, hlt, chr_in hlt, hc]
        rw [hcb]
        clear hcb
        have hne : ((s[p].toNat : Int) != c) = true := by simpa using hc
        go_enter Tryd.func128, Tryd.ntmps128
        go_wp2
        go_quiet (fail)
        go_wp2
        go_ret
        exact ⟨rfl, _, rfl⟩
    · have hd : decide ((s.size : Int) ≤ (p : Int)) = true := by simp; omega
      have hcb : takeB s ⟨p, 0, bad, d⟩ c = false := by simp [takeB, hlt]
      rw [hcb]
      clear hcb
      go_enter Tryd.func128, Tryd.ntmps128
      go_wp2
      go_quiet (fail)
      go_wp2
      go_ret
      exact ⟨rfl, _, rfl⟩
  · have hcb : takeB s ⟨p, e, bad, d⟩ c = false := by simp [takeB, he]
    rw [hcb]
    clear hcb
    have h1 : (e != 0) = true := by simpa using he
    go_enter Tryd.func128, Tryd.ntmps128
    go_wp2
    go_quiet (fail)
    go_wp2
    go_ret
    exact ⟨rfl, _, rfl⟩
/-- (*reader).take -/
theorem take_any (R : Nat) (s : ByteArray) (σ : PS) (c : Int) (w : World) (h : RD w R s σ) (hp : σ.p ≤ s.size) (_hs : s.size ≤ 2000000) :
    Calls Tryd.prog 128 #[.pointer (some ⟨R, 0, none⟩), .int .u8 c] w fun e w' => e = .returned (.bool (takeB s σ c)) ∧ RD w' R s (takeS s σ c) ∧ w.grownBy w' (some R) := by
  refine (take_raw R s σ.p σ.e σ.bad σ.d c w h hp _hs).mono ?_
  rintro e w' ⟨rfl, n, rfl⟩
  refine ⟨rfl, ?_⟩
  unfold takeS
  split
  · exact ⟨(h.drewN n).set1 _, gb_setR (gb_drewN (gb_refl w _) n) _ _⟩
  · exact ⟨h.drewN n, gb_drewN (gb_refl w _) n⟩
end Go.Proofs.YtnnhkajjifmlfaaDoor
