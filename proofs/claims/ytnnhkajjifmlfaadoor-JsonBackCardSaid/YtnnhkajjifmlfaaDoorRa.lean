/- The reference's reader of values: words, its small methods. -/
import Derived.Test.YtnnhkajjifmlfaaDoorJa
import Derived.Deep.LoopGhost
import Derived.Deep.RegionHeld3
import Derived.Deep.CutBlock
import Derived.Deep.DeepCutAuto
/-! The reference's reader of values: words, its small methods. -/

namespace Go.Proofs.YtnnhkajjifmlfaaDoor
open Go.RowKit Go.Maps

structure QS where
  p : Nat
  bad : Int
  e : Int
def RQ (w : World) (R : Nat) (s : ByteArray) (q : QS) : Prop :=
  w.heap[R]? = some (.cells #[.string s, .int .i64 q.p, .int .i64 q.bad, .int .i64 q.e] 72 (0, 0))
section
variable {w w' : World} {R : Nat} {s : ByteArray} {q : QS}
theorem RQ.lt (h : RQ w R s q) : R < w.heap.size := (Array.getElem?_eq_some_iff.1 h).1
theorem RQ.c0 (h : RQ w R s q) : w.cell? ⟨R, 0, none⟩ = some (.string s) := by rw [cell_of_row w R 0 _ _ _ h]; rfl
theorem RQ.c1 (h : RQ w R s q) : w.cell? ⟨R, 1, none⟩ = some (.int .i64 q.p) := by rw [cell_of_row w R 1 _ _ _ h]; rfl
theorem RQ.c2 (h : RQ w R s q) : w.cell? ⟨R, 2, none⟩ = some (.int .i64 q.bad) := by rw [cell_of_row w R 2 _ _ _ h]; rfl
theorem RQ.c3 (h : RQ w R s q) : w.cell? ⟨R, 3, none⟩ = some (.int .i64 q.e) := by rw [cell_of_row w R 3 _ _ _ h]; rfl
theorem RQ.f (h : RQ w R s q) (i : Nat) : w.frozen? ⟨R, i, none⟩ = false := by unfold RQ at h; simp [World.frozen?, h]
theorem RQ.set1 (h : RQ w R s q) (x : Nat) : RQ (w.setCell ⟨R, 1, none⟩ (.int .i64 x)) R s { q with p := x } := by
  unfold RQ at h ⊢; simp [World.setCell, Array.getElem?_modify, h]
theorem RQ.set2 (h : RQ w R s q) (x : Int) : RQ (w.setCell ⟨R, 2, none⟩ (.int .i64 x)) R s { q with bad := x } := by
  unfold RQ at h ⊢; simp [World.setCell, Array.getElem?_modify, h]
theorem RQ.set3 (h : RQ w R s q) (x : Int) : RQ (w.setCell ⟨R, 3, none⟩ (.int .i64 x)) R s { q with e := x } := by
  unfold RQ at h ⊢; simp [World.setCell, Array.getElem?_modify, h]
theorem RQ.alloc (h : RQ w R s q) (o : Obj) : RQ (w.alloc o) R s q := (Below.heap_alloc w o R h.lt).trans h
theorem RQ.drewN (h : RQ w R s q) (n : Nat) : RQ (w.drewN n) R s q := h
theorem RQ.drew (h : RQ w R s q) : RQ w.drew R s q := h
theorem RQ.far (h : RQ w R s q) {a : Addr} (hq : R ≠ a.block) (u : Value) : RQ (w.setCell a u) R s q := (Below.heap_setCell w a u R hq).trans h
theorem RQ.kept (h : RQ w R s q) {row : Option Nat} (hg : w.grownBy w' row) (hne : some R ≠ row) : RQ w' R s q := (hg.block R h.lt hne).trans h
theorem RQ.put5 {B : Nat} (h : RQ w R s q) (hne : R ≠ B) (a b c d e : Value) : RQ (YtnnhkajjifmlfaaDoor.put5 w B a b c d e) R s q :=
  ((((h.far (a := ⟨B, 0, none⟩) hne a).far (a := ⟨B, 1, none⟩) hne b).far (a := ⟨B, 2, none⟩) hne c).far (a := ⟨B, 3, none⟩) hne d).far (a := ⟨B, 4, none⟩) hne e
end
def failQ (q : QS) (pos en : Int) : QS := if q.bad < 0 then { q with bad := pos, e := en } else q
def blanksQ (s : ByteArray) (q : QS) : QS := { q with p := skip s q.p }
def stepQ (q : QS) : QS := { q with p := q.p + 1 }
def mustQ (s : ByteArray) : List Nat → QS → QS
  | [], q => q
  | c :: r, q => if q.bad < 0 then (if chr s q.p = c then mustQ s r (stepQ q) else failQ q q.p 4) else q

theorem failQ_p (q : QS) (x y : Int) : (failQ q x y).p = q.p := by unfold failQ; split <;> rfl
theorem mustQ_le {s : ByteArray} : ∀ (t : List Nat) {q : QS}, (∀ c ∈ t, c ≠ 0) → q.p ≤ s.size → (mustQ s t q).p ≤ s.size
  | [], _, _, h => h
  | c :: r, q, hz, h => by
    unfold mustQ; split
    · split
      · rename_i hc
        have hlt : q.p < s.size := by
          rcases Nat.lt_or_ge q.p s.size with h1 | h1
          · exact h1
          · rw [chr_out h1] at hc; exact absurd hc.symm (hz c (by simp))
        exact mustQ_le r (fun c hc => hz c (by simp [hc])) (by simp only [stepQ]; omega)
      · rw [failQ_p]; exact h
    · exact h

theorem failQ_any (R : Nat) (s : ByteArray) (q : QS) (x y : Int) (w : World) (h : RQ w R s q) :
    Calls Tryd.prog 45 #[.pointer (some ⟨R, 0, none⟩), .int .i64 x, .int .i64 y] w fun e w' => e = .returned (.tuple #[]) ∧ RQ w' R s (failQ q x y) ∧ w.grownBy w' (some R) := by
  have c2 := h.c2
  have c3 := h.c3
  have f2 := h.f 2
  have f3 := h.f 3
  by_cases hb : q.bad < 0
  · have hQ : Hid (failQ q x y = { q with bad := x, e := y }) := by unfold Hid failQ; rw [if_pos hb]
    go_enter Tryd.func45, Tryd.ntmps45
    go_wp2
    go_end0
    rw [hQ.out]
    exact ⟨rfl, (h.set2 x).set3 y, gb_setR (gb_setR (gb_refl w _) _ _) _ _⟩
  · have hQ : Hid (failQ q x y = q) := by unfold Hid failQ; rw [if_neg hb]
    go_enter Tryd.func45, Tryd.ntmps45
    go_wp2
    go_end0
    rw [hQ.out]
    exact ⟨rfl, h, gb_refl w _⟩
set_option maxHeartbeats 400000 in
theorem here_any (R : Nat) (s : ByteArray) (q : QS) (w : World) (h : RQ w R s q) (hp : q.p ≤ s.size) :
    Calls Tryd.prog 88 #[.pointer (some ⟨R, 0, none⟩)] w fun e w' => e = .returned (.int .u8 (chr s q.p)) ∧ ∃ n, w' = w.drewN n := by
  obtain ⟨p, bad, e⟩ := q
  have c0 := h.c0
  have c1 := h.c1
  clear h
  simp only at *
  by_cases hlt : p < s.size
  · have hi : (p : Int) < (s.size : Int) := by omega
    rw [chr_in hlt]
    go_enter Tryd.func88, Tryd.ntmps88
    go_wp2
    go_quiet (fail)
    go_wp2
    go_quiet (fail)
    go_wp2
    go_ret
    exact ⟨rfl, _, by first | rfl | exact World.drewN_drewN _ _ _⟩
  · have hi : ¬ (p : Int) < (s.size : Int) := by omega
    rw [chr_out (by omega)]
    go_enter Tryd.func88, Tryd.ntmps88
    go_wp2
    go_quiet (fail)
    go_wp2
    go_ret
    exact ⟨rfl, _, by first | rfl | exact World.drewN_drewN _ _ _⟩
set_option maxHeartbeats 1600000 in
theorem blanksQ_any (R : Nat) (s : ByteArray) (q : QS) (w : World) (h : RQ w R s q) (hp : q.p ≤ s.size) (hs : s.size ≤ 2000000) :
    Calls Tryd.prog 87 #[.pointer (some ⟨R, 0, none⟩)] w fun e w' => e = .returned (.tuple #[]) ∧ RQ w' R s (blanksQ s q) ∧ w.grownBy w' (some R) := by
  go_enter Tryd.func87, Tryd.ntmps87
  go_wp2_with fail
  go_loopg [] (s.size - q.p) (fun k wr => ∃ i, i ≤ s.size ∧ Hid (skip s i = skip s q.p) ∧ k = s.size - i ∧ RQ wr R s { q with p := i } ∧ w.grownBy wr (some R))
  case atStart => exact ⟨q.p, hp, rfl, rfl, h, gb_refl _ _⟩
  case round =>
    obtain ⟨i, hi, hsk, rfl, hR, hg⟩ := hrel
    clear h
    have hc := chr_lt s i
    by_cases hb : blank (chr s i) = true
    · have hql := blank_chr hb
      have Hst := Lib.hid ((skip_step hb).symm.trans hsk.out)
      have hb4 : chr s i = 32 ∨ chr s i = 9 ∨ chr s i = 10 ∨ chr s i = 13 := by
        unfold blank at hb; simp only [Bool.or_eq_true, beq_iff_eq] at hb; omega
      clear hb
      have c1 := hR.c1
      have f1 := hR.f 1
      have Hh := fun (W : World) (hh : RQ W R s { q with p := i }) => Lib.hid (here_any R s { q with p := i } W hh hi)
      generalize chr s i = c at *
      rcases hb4 with rfl | rfl | rfl | rfl
      all_goals
        go_wp2_with (first
          | (go_at_call 88; refine ((Hh _ (by exact hR)).out).mono ?_; rintro e w1 ⟨rfl, n, rfl⟩))
        go_roundg (s.size - (i + 1))
        case measure => omega
        case rel => exact ⟨i + 1, hql, Hst, rfl, (by exact (hR.drewN _).set1 (i + 1)), (by exact gb_setR (gb_drewN hg _) _ _)⟩
    · have hb' : blank (chr s i) = false := by simpa using hb
      have Hst : Hid (skip s q.p = i) := hsk.out.symm.trans (skip_stop hb')
      unfold blank at hb'; simp only [Bool.or_eq_false_iff, beq_eq_false_iff_ne] at hb'
      obtain ⟨⟨⟨h1, h2⟩, h3⟩, h4⟩ := hb'
      have b1 : ((chr s i : Int) == 32) = false := by simp; omega
      have b2 : ((chr s i : Int) == 9) = false := by simp; omega
      have b3 : ((chr s i : Int) == 10) = false := by simp; omega
      have b4 : ((chr s i : Int) == 13) = false := by simp; omega
      clear hb h1 h2 h3 h4 hsk
      go_wp2_with (first
        | (go_at_call 88; refine (here_any R s { q with p := i } _ (by exact hR) hi).mono ?_; rintro e w1 ⟨rfl, n, rfl⟩))
      go_end0
      exact ⟨rfl, by unfold blanksQ; rw [Hst.out]; exact hR.drewN _, gb_drewN hg _⟩
end Go.Proofs.YtnnhkajjifmlfaaDoor

/-! The reference's reader: must, hexOf. -/

namespace Go.Proofs.YtnnhkajjifmlfaaDoor
open Go.RowKit Go.Maps

theorem nats_mem {t : ByteArray} {k : Nat} (hk : k < t.size) : t[k].toNat ∈ nats t := by
  have := nats_drop hk
  have h2 : t[k].toNat ∈ (nats t).drop k := by rw [this]; simp
  exact List.mem_of_mem_drop h2

set_option maxHeartbeats 1600000 in
/-- (*reader).must -/
theorem mustQ_any (R : Nat) (s t : ByteArray) (q : QS) (w : World) (h : RQ w R s q) (hp : q.p ≤ s.size) (hs : s.size ≤ 2000000) (ht : t.size ≤ 2000000) (hz : ∀ c ∈ nats t, c ≠ 0) :
    Calls Tryd.prog 89 #[.pointer (some ⟨R, 0, none⟩), .string t] w fun e w' => e = .returned (.tuple #[]) ∧ RQ w' R s (mustQ s (nats t) q) ∧ w.grownBy w' (some R) := by
  go_enter Tryd.func89, Tryd.ntmps89
  go_wp2_with fail
  go_loopg [4] t.size (fun n i wr => ∃ (k : Nat) (τ : QS), k ≤ t.size ∧ n = t.size - k ∧ i = .int .i64 k ∧ τ.p ≤ s.size ∧ Hid (mustQ s ((nats t).drop k) τ = mustQ s (nats t) q) ∧ RQ wr R s τ ∧ w.grownBy wr (some R))
  case atStart => exact ⟨0, q, Nat.zero_le _, rfl, rfl, hp, rfl, h, gb_refl _ _⟩
  case round =>
    obtain ⟨k, τ, hk, rfl, rfl, hτ, Hn, hR, hg⟩ := hrel
    clear h hp
    have c2 := hR.c2
    by_cases hlt : k < t.size
    · have hki : (k : Int) < (t.size : Int) := by omega
      have Hd := Lib.hid (nats_drop hlt)
      have hnz := hz _ (nats_mem hlt)
      by_cases hb : τ.bad < 0
      · have Hh := fun (W : World) (hh : RQ W R s τ) => Lib.hid (here_any R s τ W hh hτ)
        by_cases hc : chr s τ.p = t[k].toNat
        · have hin : τ.p < s.size := by
            rcases Nat.lt_or_ge τ.p s.size with h1 | h1
            · exact h1
            · rw [chr_out h1] at hc; exact absurd hc.symm hnz
          have Hn2 : Hid (mustQ s ((nats t).drop (k + 1)) (stepQ τ) = mustQ s (nats t) q) := by
            have := Hn.out; rw [Hd.out, mustQ, if_pos hb, if_pos hc] at this; exact this
          rw [hc] at Hh
          have c1 := hR.c1
          have f1 := hR.f 1
          clear hc Hn Hd hnz
          go_wp2_with fail
          go_quiet ((go_at_call 88; exact Calls.quiet_of ((Hh _ (by exact hR)).out)))
          go_wp2_with fail
          go_roundg (t.size - (k + 1))
          case measure => omega
          case rel => exact ⟨k + 1, stepQ τ, hlt, rfl, by go_num, hin, Hn2, (hR.drewN _).set1 _, gb_setR (gb_drewN hg _) _ _⟩
        · have Hn2 : Hid (mustQ s (nats t) q = failQ τ τ.p 4) := by
            have := Hn.out; rw [Hd.out, mustQ, if_pos hb, if_neg hc] at this; exact this.symm
          have hcb : ((chr s τ.p : Int) != (t[k].toNat : Int)) = true := by simp; omega
          have c1 := hR.c1
          clear hc Hn Hd hnz
          go_wp2_with fail
          go_quiet ((go_at_call 88; exact Calls.quiet_of ((Hh _ (by exact hR)).out)))
          go_wp2_with (first
            | (go_at_call 45; refine (failQ_any R s τ _ _ _ (by exact hR)).mono ?_; rintro e w2 ⟨rfl, hR2, hg2⟩))
          refine bodyPost_ret (results_none rfl _ _ _) rfl ?_
          exact ⟨rfl, by rw [Hn2.out]; exact hR2, gb_trans (gb_drewN hg _) hg2⟩
      · have Hn2 : Hid (mustQ s (nats t) q = τ) := by
          have := Hn.out; rw [Hd.out, mustQ, if_neg hb] at this; exact this.symm
        clear Hn Hd hnz
        go_wp2_with fail
        go_end0
        exact ⟨rfl, by rw [Hn2.out]; exact hR, hg⟩
    · obtain rfl : k = t.size := by omega
      have Hn3 : Hid (mustQ s (nats t) q = τ) := by
        have := Hn.out; rw [List.drop_of_length_le (by simp [nats])] at this; exact this.symm
      clear Hn
      go_wp2_with fail
      go_end0
      exact ⟨rfl, by rw [Hn3.out]; exact hR, hg⟩

def hexQ (c : Int) : Int := if 48 ≤ c ∧ c ≤ 57 then c - 48 else if 97 ≤ c ∧ c ≤ 102 then c - 87 else if 65 ≤ c ∧ c ≤ 70 then c - 55 else -1
theorem hexQ_bd (c : Int) : -1 ≤ hexQ c ∧ hexQ c ≤ 15 := by
  unfold hexQ; split
  · omega
  · split
    · omega
    · split <;> omega
set_option maxHeartbeats 800000 in
/-- hexOf -/
theorem hexQ_any (c : Nat) (hc : c < 256) (w : World) :
    Calls Tryd.prog 153 #[.int .u8 c] w fun e w' => e = .returned (.int .i64 (hexQ c)) ∧ w = w' := by
  by_cases h1 : 48 ≤ c ∧ c ≤ 57
  · have e : hexQ c = (c : Int) - 48 := by unfold hexQ; rw [if_pos (by omega)]
    rw [e]; clear e
    obtain ⟨h1, h2⟩ := h1
    go_enter Tryd.func153, Tryd.ntmps153
    go_wp2
    go_ret
    exact ⟨rfl, rfl⟩
  · by_cases h2 : 97 ≤ c ∧ c ≤ 102
    · have e : hexQ c = (c : Int) - 97 + 10 := by unfold hexQ; rw [if_neg (by omega), if_pos (by omega)]; omega
      rw [e]; clear e
      obtain ⟨h3, h4⟩ := h2
      go_enter Tryd.func153, Tryd.ntmps153
      go_wp2
      go_ret
      exact ⟨rfl, rfl⟩
    · by_cases h3 : 65 ≤ c ∧ c ≤ 70
      · have e : hexQ c = (c : Int) - 65 + 10 := by unfold hexQ; rw [if_neg (by omega), if_neg (by omega), if_pos (by omega)]; omega
        rw [e]; clear e
        obtain ⟨h3, h4⟩ := h3
        go_enter Tryd.func153, Tryd.ntmps153
        go_wp2
        go_ret
        exact ⟨rfl, rfl⟩
      · have e : hexQ c = -1 := by unfold hexQ; rw [if_neg (by omega), if_neg (by omega), if_neg (by omega)]
        rw [e]; clear e
        go_enter Tryd.func153, Tryd.ntmps153
        go_wp2
        all_goals
          first
          | (exfalso; omega)
          | (go_ret; exact ⟨rfl, rfl⟩)

def frT (i : Nat) : Int := [34, 92, 47, 98, 102, 110, 114, 116].getD i 0
def toT (i : Nat) : Int := [34, 92, 47, 8, 12, 10, 13, 9].getD i 0
def unescQ (c : Int) : Int := if c = 34 then 34 else if c = 92 then 92 else if c = 47 then 47 else if c = 98 then 8 else if c = 102 then 12 else if c = 110 then 10 else if c = 114 then 13 else if c = 116 then 9 else -1
theorem unescQ_hit : ∀ i : Fin 8, unescQ (frT i) = toT i ∧ 0 ≤ toT i ∧ toT i < 256 ∧ frT i ≠ 0 := by decide
theorem unescQ_no (c : Int) (h : ∀ j, j < 8 → frT j ≠ c) : unescQ c = -1 := by
  have h0 := h 0 (by decide)
  have h1 := h 1 (by decide)
  have h2 := h 2 (by decide)
  have h3 := h 3 (by decide)
  have h4 := h 4 (by decide)
  have h5 := h 5 (by decide)
  have h6 := h 6 (by decide)
  have h7 := h 7 (by decide)
  simp only [frT, List.getD_cons_zero, List.getD_cons_succ] at h0 h1 h2 h3 h4 h5 h6 h7
  unfold unescQ
  simp only [Ne.symm h0, Ne.symm h1, Ne.symm h2, Ne.symm h3, Ne.symm h4, Ne.symm h5, Ne.symm h6, Ne.symm h7, if_false]
def digQ (s : ByteArray) (q : QS) : Int × QS :=
  if hexQ (chr s q.p) < 0 then (0, failQ q q.p 4)
  else if hexQ (chr s (stepQ q).p) < 0 then (0, failQ (stepQ q) (stepQ q).p 4)
  else (16 * hexQ (chr s q.p) + hexQ (chr s (stepQ q).p), stepQ (stepQ q))
def escQ (s : ByteArray) (q : QS) : Int × QS :=
  if 0 ≤ unescQ (chr s q.p) then (unescQ (chr s q.p), stepQ q)
  else if (mustQ s (nats ⟨#[117, 48, 48]⟩) q).bad < 0 then digQ s (mustQ s (nats ⟨#[117, 48, 48]⟩) q)
  else (0, mustQ s (nats ⟨#[117, 48, 48]⟩) q)
end Go.Proofs.YtnnhkajjifmlfaaDoor

/-! The reference's reader: escape. -/

namespace Go.Proofs.YtnnhkajjifmlfaaDoor
open Go.RowKit Go.Maps

theorem fr_0 (w : World) : (Instr.index 9 (.string ⟨#[34, 92, 47, 98, 102, 110, 114, 116]⟩) (.int .i64 0)).run Tryd.prog w = .ok (.int .u8 34) w := by kernel_rfl
theorem fr_1 (w : World) : (Instr.index 9 (.string ⟨#[34, 92, 47, 98, 102, 110, 114, 116]⟩) (.int .i64 1)).run Tryd.prog w = .ok (.int .u8 92) w := by kernel_rfl
theorem fr_2 (w : World) : (Instr.index 9 (.string ⟨#[34, 92, 47, 98, 102, 110, 114, 116]⟩) (.int .i64 2)).run Tryd.prog w = .ok (.int .u8 47) w := by kernel_rfl
theorem fr_3 (w : World) : (Instr.index 9 (.string ⟨#[34, 92, 47, 98, 102, 110, 114, 116]⟩) (.int .i64 3)).run Tryd.prog w = .ok (.int .u8 98) w := by kernel_rfl
theorem fr_4 (w : World) : (Instr.index 9 (.string ⟨#[34, 92, 47, 98, 102, 110, 114, 116]⟩) (.int .i64 4)).run Tryd.prog w = .ok (.int .u8 102) w := by kernel_rfl
theorem fr_5 (w : World) : (Instr.index 9 (.string ⟨#[34, 92, 47, 98, 102, 110, 114, 116]⟩) (.int .i64 5)).run Tryd.prog w = .ok (.int .u8 110) w := by kernel_rfl
theorem fr_6 (w : World) : (Instr.index 9 (.string ⟨#[34, 92, 47, 98, 102, 110, 114, 116]⟩) (.int .i64 6)).run Tryd.prog w = .ok (.int .u8 114) w := by kernel_rfl
theorem fr_7 (w : World) : (Instr.index 9 (.string ⟨#[34, 92, 47, 98, 102, 110, 114, 116]⟩) (.int .i64 7)).run Tryd.prog w = .ok (.int .u8 116) w := by kernel_rfl
theorem fr_run (i : Nat) (hi : i < 8) (w : World) : (Instr.index 9 (.string ⟨#[34, 92, 47, 98, 102, 110, 114, 116]⟩) (.int .i64 i)).run Tryd.prog w = .ok (.int .u8 (frT i)) w := by
  have h8 : i = 0 ∨ i = 1 ∨ i = 2 ∨ i = 3 ∨ i = 4 ∨ i = 5 ∨ i = 6 ∨ i = 7 := by omega
  rcases h8 with rfl | rfl | rfl | rfl | rfl | rfl | rfl | rfl
  · exact fr_0 w
  · exact fr_1 w
  · exact fr_2 w
  · exact fr_3 w
  · exact fr_4 w
  · exact fr_5 w
  · exact fr_6 w
  · exact fr_7 w
theorem to_0 (w : World) : (Instr.index 9 (.string ⟨#[34, 92, 47, 8, 12, 10, 13, 9]⟩) (.int .i64 0)).run Tryd.prog w = .ok (.int .u8 34) w := by kernel_rfl
theorem to_1 (w : World) : (Instr.index 9 (.string ⟨#[34, 92, 47, 8, 12, 10, 13, 9]⟩) (.int .i64 1)).run Tryd.prog w = .ok (.int .u8 92) w := by kernel_rfl
theorem to_2 (w : World) : (Instr.index 9 (.string ⟨#[34, 92, 47, 8, 12, 10, 13, 9]⟩) (.int .i64 2)).run Tryd.prog w = .ok (.int .u8 47) w := by kernel_rfl
theorem to_3 (w : World) : (Instr.index 9 (.string ⟨#[34, 92, 47, 8, 12, 10, 13, 9]⟩) (.int .i64 3)).run Tryd.prog w = .ok (.int .u8 8) w := by kernel_rfl
theorem to_4 (w : World) : (Instr.index 9 (.string ⟨#[34, 92, 47, 8, 12, 10, 13, 9]⟩) (.int .i64 4)).run Tryd.prog w = .ok (.int .u8 12) w := by kernel_rfl
theorem to_5 (w : World) : (Instr.index 9 (.string ⟨#[34, 92, 47, 8, 12, 10, 13, 9]⟩) (.int .i64 5)).run Tryd.prog w = .ok (.int .u8 10) w := by kernel_rfl
theorem to_6 (w : World) : (Instr.index 9 (.string ⟨#[34, 92, 47, 8, 12, 10, 13, 9]⟩) (.int .i64 6)).run Tryd.prog w = .ok (.int .u8 13) w := by kernel_rfl
theorem to_7 (w : World) : (Instr.index 9 (.string ⟨#[34, 92, 47, 8, 12, 10, 13, 9]⟩) (.int .i64 7)).run Tryd.prog w = .ok (.int .u8 9) w := by kernel_rfl
theorem to_run (i : Nat) (hi : i < 8) (w : World) : (Instr.index 9 (.string ⟨#[34, 92, 47, 8, 12, 10, 13, 9]⟩) (.int .i64 i)).run Tryd.prog w = .ok (.int .u8 (toT i)) w := by
  have h8 : i = 0 ∨ i = 1 ∨ i = 2 ∨ i = 3 ∨ i = 4 ∨ i = 5 ∨ i = 6 ∨ i = 7 := by omega
  rcases h8 with rfl | rfl | rfl | rfl | rfl | rfl | rfl | rfl
  · exact to_0 w
  · exact to_1 w
  · exact to_2 w
  · exact to_3 w
  · exact to_4 w
  · exact to_5 w
  · exact to_6 w
  · exact to_7 w

set_option maxRecDepth 100000 in
set_option maxHeartbeats 1600000 in
theorem escQ_any (R : Nat) (s : ByteArray) (q : QS) (w : World) (h : RQ w R s q) (hp : q.p ≤ s.size) (hs : s.size ≤ 2000000) :
    Calls Tryd.prog 133 #[.pointer (some ⟨R, 0, none⟩)] w fun e w' => e = .returned (.int .u8 (escQ s q).1) ∧ RQ w' R s (escQ s q).2 ∧ w.grownBy w' (some R) := by
  have Hh := fun (W : World) (hh : RQ W R s q) => Lib.hid (here_any R s q W hh hp)
  go_enter Tryd.func133, Tryd.ntmps133
  go_wp2_with fail
  go_loopg [5] 8 (fun n u wr => ∃ (i : Nat), i ≤ 8 ∧ n = 8 - i ∧ u = .int .i64 i ∧ Hid (∀ j, j < i → frT j ≠ (chr s q.p : Int)) ∧ RQ wr R s q ∧ w.grownBy wr (some R))
  case atStart => exact ⟨0, by omega, rfl, rfl, fun j hj => absurd hj (by omega), h, gb_refl _ _⟩
  case round =>
    obtain ⟨i, hi, rfl, rfl, Hn, hR, hg⟩ := hrel
    clear h
    by_cases hlt : i < 8
    · have hiI : (i : Int) < 8 := by omega
      have hfr := fr_run i hlt
      have hto := to_run i hlt
      by_cases hc : (chr s q.p : Int) = frT i
      · have hu := unescQ_hit ⟨i, hlt⟩
        simp only at hu
        have HE : Hid (escQ s q = (toT i, stepQ q)) := by unfold Hid escQ; rw [hc, hu.1, if_pos hu.2.1]
        have hin : q.p < s.size := by
          rcases Nat.lt_or_ge q.p s.size with h1 | h1
          · exact h1
          · rw [chr_out h1] at hc; exact absurd hc.symm hu.2.2.2
        have hcb : ((chr s q.p : Int) == frT i) = true := by simpa using hc
        have c1 := hR.c1
        have f1 := hR.f 1
        clear hu hc Hn
        go_wp2_with fail
        go_quiet ((go_at_call 88; exact Calls.quiet_of ((Hh _ (by exact hR)).out)))
        go_wp2_with fail
        go_ret
        rw [HE.out]
        exact ⟨rfl, (hR.drewN _).set1 _, gb_setR (gb_drewN hg _) _ _⟩
      · have hcb : ((chr s q.p : Int) == frT i) = false := by simpa using hc
        have Hn2 : Hid (∀ j, j < i + 1 → frT j ≠ (chr s q.p : Int)) := fun j hj => by
          rcases Nat.lt_or_ge j i with h1 | h1
          · exact Hn.out j h1
          · have : j = i := by omega
            subst this; exact Ne.symm hc
        clear hc hto Hn
        go_wp2_with fail
        go_quiet ((go_at_call 88; exact Calls.quiet_of ((Hh _ (by exact hR)).out)))
        go_wp2_with fail
        go_roundg (8 - (i + 1))
        case measure => omega
        case rel => exact ⟨i + 1, by omega, rfl, by go_num, Hn2, hR.drewN _, gb_drewN hg _⟩
    · have hu : unescQ (chr s q.p) = -1 := unescQ_no _ (fun j hj => Hn.out j (by omega))
      have HE0 : Hid (escQ s q = if (mustQ s (nats ⟨#[117, 48, 48]⟩) q).bad < 0 then digQ s (mustQ s (nats ⟨#[117, 48, 48]⟩) q) else (0, mustQ s (nats ⟨#[117, 48, 48]⟩) q)) := by
        unfold Hid; conv => lhs; unfold escQ
        rw [hu]; rfl
      have hi8 : i = 8 := by omega
      subst hi8
      have hpm := mustQ_le (s := s) (nats ⟨#[117, 48, 48]⟩) (by decide) hp
      have HM := fun (W : World) (hh : RQ W R s q) => Lib.hid (mustQ_any R s ⟨#[117, 48, 48]⟩ q W hh hp hs (by decide) (by decide))
      clear hu Hn Hh
      generalize mustQ s (nats ⟨#[117, 48, 48]⟩) q = τ at *
      go_wp2_with (first
        | (go_at_call 89; refine ((HM _ hR).out).mono ?_; rintro e w2 ⟨rfl, hR2, hg2⟩))
      refine wp_loop_rounds 3 ?_; rw [rounds_succ]
      have c2 := hR2.c2
      have c1 := hR2.c1
      have f1 := hR2.f 1
      by_cases hb : τ.bad < 0
      · have HE1 : Hid (escQ s q = digQ s τ) := by rw [HE0.out, if_pos hb]; rfl
        clear HE0
        have hx := hexQ_bd (chr s τ.p)
        have hc256 := chr_lt s τ.p
        by_cases hd : hexQ (chr s τ.p) < 0
        · have HE : Hid (escQ s q = (0, failQ τ τ.p 4)) := by rw [HE1.out, digQ, if_pos hd]; rfl
          clear HE1
          go_wp2_with (first
            | (go_at_call 88; refine (here_any R s τ _ (by exact hR2) hpm).mono ?_; rintro e w3 ⟨rfl, n3, rfl⟩)
            | (go_at_call 153; refine (hexQ_any _ hc256 _).mono ?_; rintro e w4 ⟨rfl, rfl⟩)
            | (go_at_call 45; refine (failQ_any R s τ _ _ _ (by exact hR2)).mono ?_; rintro e w5 ⟨rfl, hR5, hg5⟩))
          go_ret
          rw [HE.out]
          exact ⟨rfl, hR5, gb_trans (gb_drewN (gb_trans hg hg2) _) hg5⟩
        · have hin : τ.p < s.size := by
            rcases Nat.lt_or_ge τ.p s.size with h1 | h1
            · exact h1
            · rw [chr_out h1] at hd; exact absurd (by decide) hd
          generalize hgx : hexQ (chr s τ.p) = x at *
          have Hgx := Lib.hid hgx; clear hgx
          go_wp2_with (first
            | (go_at_call 88; refine (here_any R s τ _ (by exact hR2) hpm).mono ?_; rintro e w3 ⟨rfl, n3, rfl⟩)
            | (go_at_call 153; refine (hexQ_any _ hc256 _).mono ?_; rintro e w4 ⟨rfl, rfl⟩; rw [Hgx.out]))
          rw [rounds_succ]
          have hR3 : RQ _ R s (stepQ τ) := (hR2.drewN n3).set1 (τ.p + 1)
          have c13 := hR3.c1
          have c23 := hR3.c2
          have f13 := hR3.f 1
          have hx2 := hexQ_bd (chr s (stepQ τ).p)
          have hc2 := chr_lt s (stepQ τ).p
          by_cases hd2 : hexQ (chr s (stepQ τ).p) < 0
          · have HE : Hid (escQ s q = (0, failQ (stepQ τ) (stepQ τ).p 4)) := by rw [HE1.out, digQ, if_neg (by rw [Hgx.out]; omega), if_pos hd2]; rfl
            clear HE1
            go_wp2_with (first
              | (go_at_call 88; refine (here_any R s (stepQ τ) _ (by exact hR3) hin).mono ?_; rintro e w5 ⟨rfl, n5, rfl⟩)
              | (go_at_call 153; refine (hexQ_any _ hc2 _).mono ?_; rintro e w6 ⟨rfl, rfl⟩)
              | (go_at_call 45; refine (failQ_any R s (stepQ τ) _ _ _ (by exact hR3)).mono ?_; rintro e w7 ⟨rfl, hR7, hg7⟩))
            go_ret
            rw [HE.out]
            exact ⟨rfl, hR7, gb_trans (gb_drewN (gb_setR (gb_drewN (gb_trans hg hg2) _) _ _) _) hg7⟩
          · have hin2 : (stepQ τ).p < s.size := by
              rcases Nat.lt_or_ge (stepQ τ).p s.size with h1 | h1
              · exact h1
              · rw [chr_out h1] at hd2; exact absurd (by decide) hd2
            have HE : Hid (escQ s q = (16 * x + hexQ (chr s (stepQ τ).p), stepQ (stepQ τ))) := by rw [HE1.out, digQ, if_neg (by rw [Hgx.out]; omega), if_neg hd2, Hgx.out]; rfl
            clear HE1
            generalize hgy : hexQ (chr s (stepQ τ).p) = y at *
            have Hgy := Lib.hid hgy; clear hgy
            go_wp2_with (first
              | (go_at_call 88; refine (here_any R s (stepQ τ) _ (by exact hR3) hin).mono ?_; rintro e w5 ⟨rfl, n5, rfl⟩)
              | (go_at_call 153; refine (hexQ_any _ hc2 _).mono ?_; rintro e w6 ⟨rfl, rfl⟩; rw [Hgy.out]))
            rw [rounds_succ]
            go_wp2_with fail
            go_ret
            rw [HE.out]
            refine ⟨ret_int ?_, (hR3.drewN n5).set1 ((stepQ τ).p + 1), gb_setR (gb_drewN (gb_setR (gb_drewN (gb_trans hg hg2) _) _ _) _) _ _⟩
            rfl
      · have HE : Hid (escQ s q = (0, τ)) := by rw [HE0.out, if_neg hb]; rfl
        clear HE0
        go_wp2_with fail
        go_ret
        rw [HE.out]
        exact ⟨rfl, hR2, gb_trans hg hg2⟩
end Go.Proofs.YtnnhkajjifmlfaaDoor

/-! The reference's reader: quotedText. -/

namespace Go.Proofs.YtnnhkajjifmlfaaDoor
open Go.RowKit Go.Maps

def qtF (s : ByteArray) : Nat → List UInt8 → QS → List UInt8 × QS
  | 0, _, q => ([], q)
  | n + 1, acc, q =>
    if q.bad < 0 then
      if q.p = s.size ∨ chr s q.p < 32 then ([], failQ q q.p 4)
      else if chr s q.p = 34 then (acc, stepQ q)
      else if chr s q.p = 92 then qtF s n (acc ++ [toB (escQ s (stepQ q)).1]) (escQ s (stepQ q)).2
      else qtF s n (acc ++ [toB (chr s q.p)]) (stepQ q)
    else ([], q)
def qtQ (s : ByteArray) (q : QS) : List UInt8 × QS := qtF s (s.size + 2) [] (mustQ s (nats ⟨#[34]⟩) q)

theorem escQ_p {s : ByteArray} {q : QS} (hp : q.p ≤ s.size) : q.p ≤ (escQ s q).2.p ∧ (escQ s q).2.p ≤ s.size ∧ 0 ≤ (escQ s q).1 ∧ (escQ s q).1 < 256 := by
  have hin : ∀ {r : QS}, 0 ≤ hexQ (chr s r.p) → r.p < s.size := fun {r} h => by
    rcases Nat.lt_or_ge r.p s.size with h1 | h1
    · exact h1
    · rw [chr_out h1] at h; exact absurd h (by decide)
  have hdig : ∀ {r : QS}, r.p ≤ s.size → r.p ≤ (digQ s r).2.p ∧ (digQ s r).2.p ≤ s.size ∧ 0 ≤ (digQ s r).1 ∧ (digQ s r).1 < 256 := fun {r} h => by
    have b1 := hexQ_bd (chr s r.p)
    have b2 := hexQ_bd (chr s (stepQ r).p)
    unfold digQ
    split
    · simp [failQ_p]; omega
    · have h1 := hin (r := r) (by omega)
      split
      · simp [failQ_p, stepQ]; omega
      · have h2 := hin (r := stepQ r) (by omega)
        simp only [stepQ] at *; omega
  have hm := mustQ_le (s := s) (nats ⟨#[117, 48, 48]⟩) (by decide) hp
  have hmg : ∀ (t : List Nat) {r : QS}, r.p ≤ (mustQ s t r).p := by
    intro t
    induction t with
    | nil => exact Nat.le_refl _
    | cons c t ih =>
      intro r; unfold mustQ; split
      · split
        · have := ih (r := stepQ r); simp only [stepQ] at this ⊢; omega
        · rw [failQ_p]; exact Nat.le_refl _
      · exact Nat.le_refl _
  unfold escQ
  split
  · rename_i h
    have hb : unescQ (chr s q.p) < 256 := by
      unfold unescQ; repeat' split
      all_goals omega
    have hlt : q.p < s.size := by
      rcases Nat.lt_or_ge q.p s.size with h1 | h1
      · exact h1
      · rw [chr_out h1] at h; exact absurd h (by decide)
    simp only [stepQ]; omega
  · have hg := hmg (nats ⟨#[117, 48, 48]⟩) (r := q)
    split
    · have := hdig hm; omega
    · simp only; omega
def muQ (s : ByteArray) (q : QS) : Nat := if q.bad < 0 then s.size - q.p + 1 else 0
theorem muQ_lt {s : ByteArray} {q r : QS} (hb : q.bad < 0) (hp : q.p < r.p) (hl : r.p ≤ s.size) : muQ s r < muQ s q := by
  unfold muQ; rw [if_pos hb]; split <;> omega

set_option maxRecDepth 100000 in
set_option maxHeartbeats 3200000 in
/-- (*reader).quotedText -/
theorem qt_any (R : Nat) (s : ByteArray) (q : QS) (w : World) (h : RQ w R s q) (hp : q.p ≤ s.size) (hs : s.size ≤ 2000000) :
    Calls Tryd.prog 90 #[.pointer (some ⟨R, 0, none⟩)] w fun e w' => e = .returned (.string ⟨(qtQ s q).1.toArray⟩) ∧ RQ w' R s (qtQ s q).2 ∧ w.grownBy w' (some R) := by
  obtain ⟨i0, hi0, hz0, hz1, hz2⟩ := info_parts info5
  have hRl := h.lt
  have hp1 := mustQ_le (s := s) (nats ⟨#[34]⟩) (by decide) hp
  have Hneed := Lib.hid (mustQ_any R s ⟨#[34]⟩ q w h hp hs (by decide) (by decide))
  have hmu : muQ s (mustQ s (nats ⟨#[34]⟩) q) < s.size + 2 := by unfold muQ; split <;> omega
  unfold qtQ
  generalize mustQ s (nats ⟨#[34]⟩) q = τ0 at *
  go_enter Tryd.func90, Tryd.ntmps90
  go_wp2_with (first
    | (go_at_call 89; refine (Hneed.out).mono ?_; rintro e w1 ⟨rfl, hR1, hg1⟩))
  go_loopg [3] (s.size + 2) (fun n v wr => ∃ (acc : List UInt8) (τ : QS), τ.p ≤ s.size ∧ muQ s τ < n ∧ acc.length + n ≤ s.size + 2 ∧ Hid (qtF s n acc τ = qtF s (s.size + 2) [] τ0) ∧
      RQ wr R s τ ∧ wr.ownsRow w.heap.size 5 1 v acc.length (Lib.byteCells acc) ∧ w.grownBy wr (some R))
  case atStart => exact ⟨[], τ0, hp1, hmu, by simp, rfl, hR1, World.ownsRow_nil _ _ _ _, hg1⟩
  case round =>
    obtain ⟨acc, τ, hτ, hm, hal, HF, hR, hown, hg⟩ := hrel
    clear hR1 hg1 h hp hp1 hmu
    obtain ⟨k, rfl⟩ : ∃ k, gk = k + 1 := ⟨gk - 1, by omega⟩
    have c2 := hR.c2
    have Ho := Lib.hid hown
    clear hown
    by_cases hb : τ.bad < 0
    · have Hh := fun (W : World) (hh : RQ W R s τ) => Lib.hid (here_any R s τ W hh hτ)
      have c0 := hR.c0
      have c1 := hR.c1
      have f1 := hR.f 1
      have hc256 := chr_lt s τ.p
      by_cases hend : τ.p = s.size ∨ chr s τ.p < 32
      · have HF1 : Hid (qtF s (s.size + 2) [] τ0 = ([], failQ τ τ.p 4)) := by
          rw [← HF.out, qtF, if_pos hb, if_pos hend]; rfl
        clear HF
        by_cases hpe : τ.p = s.size
        · have hpb : ((τ.p : Int) == (s.size : Int)) = true := by simp; omega
          clear hend hpe
          go_wp2_with (first
            | (go_at_call 88; refine ((Hh _ (by exact hR)).out).mono ?_; rintro e w2 ⟨rfl, n2, rfl⟩))
          go_quiet (fail)
          go_wp2_with (first
            | (go_at_call 45; refine (failQ_any R s τ _ _ _ (by exact hR)).mono ?_; rintro e w3 ⟨rfl, hR3, hg3⟩))
          go_ret
          rw [HF1.out]
          exact ⟨rfl, hR3, gb_trans (gb_drewN hg _) hg3⟩
        · have hpb : ((τ.p : Int) == (s.size : Int)) = false := by simp; omega
          have hlow : (chr s τ.p : Int) < 32 := by omega
          clear hend hpe
          go_wp2_with (first
            | (go_at_call 88; refine ((Hh _ (by exact hR)).out).mono ?_; rintro e w2 ⟨rfl, n2, rfl⟩))
          go_quiet (fail)
          go_wp2_with (first
            | (go_at_call 45; refine (failQ_any R s τ _ _ _ (by exact hR)).mono ?_; rintro e w3 ⟨rfl, hR3, hg3⟩))
          go_ret
          rw [HF1.out]
          exact ⟨rfl, hR3, gb_trans (gb_drewN hg _) hg3⟩
      · have hin : τ.p < s.size := by omega
        have hpb : ((τ.p : Int) == (s.size : Int)) = false := by simp; omega
        have hlow : ¬ (chr s τ.p : Int) < 32 := by omega
        have hlowb : decide ((chr s τ.p : Int) < 32) = false := by simp; omega
        by_cases hq : chr s τ.p = 34
        · have HF1 : Hid (qtF s (s.size + 2) [] τ0 = (acc, stepQ τ)) := by
            rw [← HF.out, qtF, if_pos hb, if_neg hend, if_pos hq]; rfl
          have hcb : ((chr s τ.p : Int) == 34) = true := by simp; omega
          clear HF hend hq
          have hcv := fun n => conv_own (P := Tryd.prog) 78 9 5 acc Tryd.underlying78 Tryd.underlying5 Tryd.underlying9 (own_keptR Ho.out (gb_setR (gb_drewN (gb_refl wr (some R)) n) 1 (.int .i64 ((τ.p : Int) + 1))) hRl)
          go_wp2_with (first
            | (go_at_call 88; refine ((Hh _ (by exact hR)).out).mono ?_; rintro e w2 ⟨rfl, n2, rfl⟩))
          go_quiet (fail)
          go_wp2_with fail
          go_ret
          rw [HF1.out]
          exact ⟨rfl, (hR.drewN _).set1 _, gb_setR (gb_drewN hg _) _ _⟩
        · by_cases hbs : chr s τ.p = 92
          · have hpe : (stepQ τ).p ≤ s.size := hin
            have hep := escQ_p hpe
            have hm2 : muQ s (escQ s (stepQ τ)).2 < muQ s τ := muQ_lt hb (by have := hep.1; simp only [stepQ] at this ⊢; omega) hep.2.1
            have HF1 : Hid (qtF s k (acc ++ [toB (escQ s (stepQ τ)).1]) (escQ s (stepQ τ)).2 = qtF s (s.size + 2) [] τ0) := by
              rw [← HF.out, qtF, if_pos hb, if_neg hend, if_neg hq, if_pos hbs]; rfl
            have Hcell := Lib.hid (u8_cell hep.2.2.1 hep.2.2.2)
            have hp4 := hep.2.1
            have hcq : ((chr s τ.p : Int) == 34) = false := by simp; omega
            have hcb : ((chr s τ.p : Int) == 92) = true := by simp; omega
            clear HF hend hq hbs hep
            have Hesc := fun (w : World) (hh : RQ w R s (stepQ τ)) => Lib.hid (escQ_any R s (stepQ τ) w hh hpe hs)
            generalize hes : escQ s (stepQ τ) = es at *
            clear hes
            obtain ⟨x, τ2⟩ := es
            simp only at *
            go_wp2_with (first
              | (go_at_call 88; refine ((Hh _ (by exact hR)).out).mono ?_; rintro e w2 ⟨rfl, n2, rfl⟩))
            go_quiet (fail)
            go_wp2_with (first
              | (go_at_call 133; refine ((Hesc _ (by exact (hR.drewN _).set1 (τ.p + 1))).out).mono ?_; rintro e w5 ⟨rfl, hR5, hg5⟩; have hs5 := gb_trans (gb_setR (gb_drewN hg _) _ _) hg5; have hsz5 := hs5.size; have Ho5 := Lib.hid (own_keptR (own_keptR Ho.out (gb_setR (gb_drewN (gb_refl _ _) _) _ _) hRl) hg5 hRl))
              | (at_builtin; refine wpList_append_own_at _ rfl _ _ 78 rfl w.heap.size 5 i0 (.int .u8 0) 1 1 Tryd.underlying78 hi0 hz0 hz1 hz2 rfl (by decide) u3 acc.length _ rfl (Ho5.out.alloc _) ⟨w5.heap.size, 0, none⟩ 1 1 [.int .u8 x] rfl rfl (cell_one_new _ _ _) (by simp [Value.oneCell']) (by unfold maxLen; omega) (by omega) (by simp; omega) ?_; intro v6 w6 hown6 hg6 _ hat6))
            go_roundg k
            case measure => omega
            case rel =>
              refine ⟨acc ++ [toB x], τ2, hp4, by omega, by simp; omega, HF1, ?_, ?_, ?_⟩
              · exact (hR5.alloc _).kept hg6 (by
                  rcases hv : u3.ownBlock with _ | g
                  · simp
                  · have := (Ho.out.lt g hv).1
                    simp; omega)
              · rw [Lib.byteCells_append, Hcell.out, List.length_append]; exact hown6
              · exact gb_own (gb_alloc hs5 _) hg6 (Ho5.out.alloc _) (Nat.le_refl _)
          · have HF1 : Hid (qtF s k (acc ++ [toB (chr s τ.p)]) (stepQ τ) = qtF s (s.size + 2) [] τ0) := by
              rw [← HF.out, qtF, if_pos hb, if_neg hend, if_neg hq, if_neg hbs]; rfl
            have Hcell := Lib.hid (u8_cell (x := (chr s τ.p : Int)) (by omega) (by omega))
            have hm2 : muQ s (stepQ τ) < muQ s τ := muQ_lt hb (by simp [stepQ]) hin
            have hp3 : (stepQ τ).p ≤ s.size := hin
            have hcq : ((chr s τ.p : Int) == 34) = false := by simp; omega
            have hcb : ((chr s τ.p : Int) == 92) = false := by simp; omega
            clear HF hend hq hbs
            have hR5 := fun n => (hR.drewN n).set1 (τ.p + 1)
            have hs4 := fun n => gb_setR (gb_drewN hg n) 1 (.int .i64 ((τ.p : Int) + 1))
            have hsz4 := hg.size
            have Ho4 := fun n => Lib.hid (own_keptR Ho.out (gb_setR (gb_drewN (gb_refl _ _) n) 1 (.int .i64 ((τ.p : Int) + 1))) hRl)
            go_wp2_with (first
              | (go_at_call 88; refine ((Hh _ (by exact hR)).out).mono ?_; rintro e w2 ⟨rfl, n2, rfl⟩))
            go_quiet (fail)
            go_wp2_with (first
              | (at_builtin; refine wpList_append_own_at _ rfl _ _ 78 rfl w.heap.size 5 i0 (.int .u8 0) 1 1 Tryd.underlying78 hi0 hz0 hz1 hz2 rfl (by decide) u3 acc.length _ rfl ((Ho4 _).out.alloc _) ⟨wr.heap.size, 0, none⟩ 1 1 [.int .u8 (chr s τ.p)] rfl rfl (one_new _ _ (by simp)) (by simp [Value.oneCell']) (by unfold maxLen; omega) (by omega) (by simp; omega) ?_; intro v6 w6 hown6 hg6 _ hat6))
            go_roundg k
            case measure => omega
            case rel =>
              refine ⟨acc ++ [toB (chr s τ.p)], stepQ τ, hp3, by omega, by simp; omega, HF1, ?_, ?_, ?_⟩
              · exact ((hR5 _).alloc _).kept hg6 (by
                  rcases hv : u3.ownBlock with _ | g
                  · simp
                  · have := (Ho.out.lt g hv).1
                    simp; omega)
              · rw [Lib.byteCells_append, Hcell.out, List.length_append]; exact hown6
              · exact gb_own (gb_alloc (hs4 _) _) hg6 ((Ho4 _).out.alloc _) (Nat.le_refl _)
    · have HF1 : Hid (qtF s (s.size + 2) [] τ0 = ([], τ)) := by
        rw [← HF.out, qtF, if_neg hb]; rfl
      clear HF
      go_wp2_with fail
      go_ret
      rw [HF1.out]
      exact ⟨rfl, hR, hg⟩
end Go.Proofs.YtnnhkajjifmlfaaDoor

/-! The reference's reader: number, to the loop's end. -/

namespace Go.Proofs.YtnnhkajjifmlfaaDoor
open Go.RowKit Go.Maps

def nst (n d : Int) : Int := wrap64 (wrap64 (10 * n) - d)
def gst (n d : Int) : Bool := decide (n < (-9223372036854775808 + d).tdiv 10)
def numF (s : ByteArray) : Nat → Int → Bool → Nat → Int × Bool × Nat
  | 0, n, g, i => (n, g, i)
  | k + 1, n, g, i => if isDig (chr s i) then numF s k (nst n (chr s i - 48)) (g || gst n (chr s i - 48)) (i + 1) else (n, g, i)
def num3 (s : ByteArray) (i : Nat) (n : Int) (g : Bool) : Int × Bool × Nat := numF s (s.size - i) n g i
theorem num3_step {s : ByteArray} {i : Nat} (n : Int) (g : Bool) (h : isDig (chr s i) = true) : num3 s i n g = num3 s (i + 1) (nst n (chr s i - 48)) (g || gst n (chr s i - 48)) := by
  have hi := dig_chr h
  unfold num3
  rw [show s.size - i = (s.size - (i + 1)) + 1 from by omega, numF, if_pos h]
theorem num3_stop {s : ByteArray} {i : Nat} (n : Int) (g : Bool) (h : isDig (chr s i) = false) : num3 s i n g = (n, g, i) := by
  unfold num3
  cases s.size - i with
  | zero => rfl
  | succ k => rw [numF, if_neg (by simp [h])]
theorem wrap64_bd (x : Int) : -9223372036854775808 ≤ wrap64 x ∧ wrap64 x ≤ 9223372036854775807 := by
  unfold wrap64; omega
theorem num3_at {s : ByteArray} : ∀ (k i : Nat) (n : Int) (g : Bool), s.size - i = k → i ≤ s.size → (num3 s i n g).2.2 = dsk s i
  | 0, i, n, g, hk, hi => by
    have h : isDig (chr s i) = false := by
      cases h : isDig (chr s i) with
      | false => rfl
      | true => have := dig_chr h; omega
    rw [num3_stop n g h, dsk_stop h]
  | k + 1, i, n, g, hk, hi => by
    cases h : isDig (chr s i) with
    | false => rw [num3_stop n g h, dsk_stop h]
    | true =>
      have := dig_chr h
      rw [num3_step n g h, dsk_step h]
      exact num3_at k (i + 1) _ _ (by omega) (by omega)
def negQ (s : ByteArray) (q : QS) : Bool := chr s q.p == 45
def sgnQ (s : ByteArray) (q : QS) : QS := if negQ s q then stepQ q else q
def zeroQ (s : ByteArray) (neg : Bool) (d j : Nat) : Bool := chr s d == 48 && (decide (d + 1 < j) || neg)
def numQ (s : ByteArray) (q : QS) : Int × QS :=
  let d := (sgnQ s q).p
  let x := num3 s d 0 false
  let r : QS := { q with p := x.2.2 }
  if x.2.2 = d then (0, failQ r x.2.2 4)
  else if x.2.1 || zeroQ s (negQ s q) d x.2.2 || (!negQ s q && x.1 == -9223372036854775808) then (0, failQ r q.p 4)
  else (if negQ s q then x.1 else wrap64 (-x.1), r)
end Go.Proofs.YtnnhkajjifmlfaaDoor

/-! The reference's reader: number. -/

namespace Go.Proofs.YtnnhkajjifmlfaaDoor
open Go.RowKit Go.Maps

def condQ (neg g zb jb mb : Bool) : Bool := g || (zb && (jb || neg)) || (!neg && mb)

set_option maxRecDepth 100000 in
set_option maxHeartbeats 6400000 in
theorem numQ_pos (R : Nat) (s : ByteArray) (q : QS) (w : World) (h : RQ w R s q) (hp : q.p ≤ s.size) (hs : s.size ≤ 2000000) (hneg : chr s q.p ≠ 45) :
    Calls Tryd.prog 92 #[.pointer (some ⟨R, 0, none⟩)] w fun e w' => e = .returned (.int .i64 (numQ s q).1) ∧ RQ w' R s (numQ s q).2 ∧ w.grownBy w' (some R) := by
  have hnq : negQ s q = false := by simp [negQ, hneg]
  have hdq : (sgnQ s q).p = q.p := by unfold sgnQ; rw [hnq]; rfl
  have hnb : ((chr s q.p : Int) == 45) = false := by first | (rw [hneg]; rfl) | (simp; omega)
  have hdl : q.p ≤ s.size := by
    exact hp
  obtain ⟨d, Hd⟩ : ∃ d, Hid (d = q.p) := ⟨_, rfl⟩
  have HN : Hid (numQ s q = if (num3 s d 0 false).2.2 = d then (0, failQ { q with p := (num3 s d 0 false).2.2 } (num3 s d 0 false).2.2 4)
      else if condQ false (num3 s d 0 false).2.1 (chr s d == 48) (decide (d + 1 < (num3 s d 0 false).2.2)) ((num3 s d 0 false).1 == -9223372036854775808) then (0, failQ { q with p := (num3 s d 0 false).2.2 } q.p 4)
      else (wrap64 (-(num3 s d 0 false).1), { q with p := (num3 s d 0 false).2.2 })) := by
    unfold Hid numQ; simp only [hdq, hnq, ← Hd.out]; rfl
  have Hat : Hid ((num3 s d 0 false).2.2 = dsk s d) := num3_at _ d 0 false rfl (by rw [Hd.out]; exact hdl)
  have hbd := dsk_bd (s := s) (i := d) (by rw [Hd.out]; exact hdl)
  have hdl' : d ≤ s.size := by rw [Hd.out]; exact hdl
  have c1 := h.c1
  have f1 := h.f 1
  clear hnq hdq hneg
  go_enter Tryd.func92, Tryd.ntmps92
  go_upto_block 0 with (first
    | (go_at_call 88; refine (here_any R s q _ (by exact h) hp).mono ?_; rintro e w1 ⟨rfl, n1, rfl⟩))
  have hR0 : RQ _ R s { q with p := q.p } := h.drewN n1
  have hd5 : Hid (Value.int .i64 (q.p : Int) = .int .i64 (d : Int)) := by unfold Hid; rw [Hd.out]
  go_cut [5, 6, 7] (fun u5 u6 u7 wx => u5 = .int .i64 (d : Int) ∧ u6 = .int .i64 (num3 s d 0 false).1 ∧ u7 = .bool (num3 s d 0 false).2.1 ∧ RQ wx R s { q with p := (num3 s d 0 false).2.2 } ∧ w.grownBy wx (some R))
  case first =>
    go_wp2_with fail
    go_loopg [6, 7] (s.size - d) (fun k u6 u7 wr => ∃ (i : Nat) (n : Int) (g : Bool), i ≤ s.size ∧ k = s.size - i ∧ u6 = .int .i64 n ∧ u7 = .bool g ∧ -9223372036854775808 ≤ n ∧ n ≤ 9223372036854775807 ∧ Hid (num3 s i n g = num3 s d 0 false) ∧ RQ wr R s { q with p := i } ∧ w.grownBy wr (some R))
    case atStart => exact ⟨d, 0, false, hdl', rfl, rfl, rfl, by omega, by omega, rfl, (by rw [Hd.out]; exact hR0), gb_drewN (gb_refl _ _) _⟩
    case round =>
      obtain ⟨i, n, g, hi2, rfl, rfl, rfl, hn1, hn2, Hn, hR, hg⟩ := hrel
      clear c1 f1
      have c1 := hR.c1
      have f1 := hR.f 1
      have hc2 := chr_lt s i
      by_cases hd : isDig (chr s i) = true
      · have hlt := dig_chr hd
        have Hn2 := Lib.hid ((num3_step n g hd).symm.trans Hn.out)
        have hd2 : 48 ≤ chr s i ∧ chr s i ≤ 57 := by simpa [isDig] using hd
        obtain ⟨hd3, hd4⟩ := hd2
        have hbw := wrap64_bd (wrap64 (10 * n) - (chr s i - 48))
        obtain ⟨hbw1, hbw2⟩ := hbw
        clear hd
        cases g
        · go_wp2_with (first
            | (go_at_call 88; refine (here_any R s { q with p := i } _ (by exact hR) hi2).mono ?_; rintro e w1 ⟨rfl, n1, rfl⟩))
          go_roundg (s.size - (i + 1))
          case measure => omega
          case rel => exact ⟨i + 1, _, _, hlt, rfl, rfl, rfl, hbw1, hbw2, Hn2, (hR.drewN _).set1 (i + 1), gb_setR (gb_drewN hg _) _ _⟩
        · go_wp2_with (first
            | (go_at_call 88; refine (here_any R s { q with p := i } _ (by exact hR) hi2).mono ?_; rintro e w1 ⟨rfl, n1, rfl⟩))
          go_roundg (s.size - (i + 1))
          case measure => omega
          case rel => exact ⟨i + 1, _, _, hlt, rfl, rfl, rfl, hbw1, hbw2, Hn2, (hR.drewN _).set1 (i + 1), gb_setR (gb_drewN hg _) _ _⟩
      · have hd1 : isDig (chr s i) = false := by simpa using hd
        have Hst : Hid (num3 s d 0 false = (n, g, i)) := Hn.out.symm.trans (num3_stop n g hd1)
        have hd2 : chr s i < 48 ∨ 57 < chr s i := by simp [isDig] at hd1; omega
        clear hd hd1
        rcases hd2 with hd2 | hd2
        all_goals
          go_wp2_with (first
            | (go_at_call 88; refine (here_any R s { q with p := i } _ (by exact hR) hi2).mono ?_; rintro e w1 ⟨rfl, n1, rfl⟩))
          go_meet
          rw [Hst.out]
          exact ⟨hd5.out, rfl, rfl, hR.drewN _, gb_drewN hg _⟩
  case rest =>
    obtain ⟨rfl, rfl, rfl, hR, hg⟩ := hcut
    obtain ⟨hb1, hb2⟩ := hbd
    rw [← Hat.out] at hb1 hb2
    clear Hat hR0 c1 f1 hd5 h
    generalize num3 s d 0 false = x at *
    obtain ⟨n, g, j⟩ := x
    simp only at *
    have c0 := hR.c0
    have c1 := hR.c1
    by_cases hE : j = d
    · have HE : Hid (numQ s q = (0, failQ { q with p := j } j 4)) := by rw [HN.out, if_pos hE]; rfl
      have hEb : ((j : Int) == (d : Int)) = true := by simp; omega
      clear HN hE
      go_wp2_with (first
        | (go_at_call 45; refine (failQ_any R s _ _ _ _ (by exact hR)).mono ?_; rintro e w7 ⟨rfl, hR7, hg7⟩))
      go_ret
      rw [HE.out]
      exact ⟨rfl, hR7, gb_trans hg hg7⟩
    · have hEb : ((j : Int) == (d : Int)) = false := by simp; omega
      have hdj : d < s.size := by omega
      have hdI : (d : Int) < (s.size : Int) := by omega
      have hj9 : (d : Int) + 1 ≤ 9223372036854775807 := by omega
      have hx0 := chr_in hdj
      have Hx0 : Hid (((s[d].toNat : Int) == 48) = (chr s d == 48)) := by rw [hx0]; unfold Hid; rw [Bool.eq_iff_iff]; simp; omega
      have Hjb : Hid (decide ((d : Int) + 1 < (j : Int)) = decide (d + 1 < j)) := by unfold Hid; rw [Bool.eq_iff_iff]; simp; omega
      clear hx0
      have HN2 := Lib.hid (HN.out.trans (if_neg hE))
      clear HN hE
      generalize (chr s d == 48) = zb at *
      generalize decide (d + 1 < j) = jb at *
      obtain ⟨mb, hmb⟩ : ∃ mb, mb = (n == -9223372036854775808) := ⟨_, rfl⟩
      rw [← hmb] at HN2
      have hx1 := Hx0.out
      have hjb1 := Hjb.out
      have hmb1 := hmb.symm
      clear hmb Hx0 Hjb
      cases zb <;> cases jb <;> cases g <;> cases mb
      all_goals
        go_wp2_with (first
          | (go_at_call 45; refine (failQ_any R s _ _ _ _ (by exact hR)).mono ?_; rintro e w7 ⟨rfl, hR7, hg7⟩))
        go_ret
        first
          | (rw [HN2.out, if_pos (by decide)]; exact ⟨rfl, hR7, gb_trans hg hg7⟩)
          | (rw [HN2.out, if_neg (by decide)]; exact ⟨rfl, hR, hg⟩)

set_option maxRecDepth 100000 in
set_option maxHeartbeats 6400000 in
theorem numQ_neg (R : Nat) (s : ByteArray) (q : QS) (w : World) (h : RQ w R s q) (hp : q.p ≤ s.size) (hs : s.size ≤ 2000000) (hneg : chr s q.p = 45) :
    Calls Tryd.prog 92 #[.pointer (some ⟨R, 0, none⟩)] w fun e w' => e = .returned (.int .i64 (numQ s q).1) ∧ RQ w' R s (numQ s q).2 ∧ w.grownBy w' (some R) := by
  have hnq : negQ s q = true := by simp [negQ, hneg]
  have hdq : (sgnQ s q).p = q.p + 1 := by unfold sgnQ; rw [hnq]; rfl
  have hnb : ((chr s q.p : Int) == 45) = true := by first | (rw [hneg]; rfl) | (simp; omega)
  have hdl : q.p + 1 ≤ s.size := by
    exact (Nat.lt_or_ge q.p s.size).elim (fun h1 => h1) (fun h1 => absurd hneg (by rw [chr_out h1]; decide))
  obtain ⟨d, Hd⟩ : ∃ d, Hid (d = q.p + 1) := ⟨_, rfl⟩
  have HN : Hid (numQ s q = if (num3 s d 0 false).2.2 = d then (0, failQ { q with p := (num3 s d 0 false).2.2 } (num3 s d 0 false).2.2 4)
      else if condQ true (num3 s d 0 false).2.1 (chr s d == 48) (decide (d + 1 < (num3 s d 0 false).2.2)) ((num3 s d 0 false).1 == -9223372036854775808) then (0, failQ { q with p := (num3 s d 0 false).2.2 } q.p 4)
      else ((num3 s d 0 false).1, { q with p := (num3 s d 0 false).2.2 })) := by
    unfold Hid numQ; simp only [hdq, hnq, ← Hd.out]; rfl
  have Hat : Hid ((num3 s d 0 false).2.2 = dsk s d) := num3_at _ d 0 false rfl (by rw [Hd.out]; exact hdl)
  have hbd := dsk_bd (s := s) (i := d) (by rw [Hd.out]; exact hdl)
  have hdl' : d ≤ s.size := by rw [Hd.out]; exact hdl
  have c1 := h.c1
  have f1 := h.f 1
  clear hnq hdq hneg
  go_enter Tryd.func92, Tryd.ntmps92
  go_upto_block 0 with (first
    | (go_at_call 88; refine (here_any R s q _ (by exact h) hp).mono ?_; rintro e w1 ⟨rfl, n1, rfl⟩))
  have hR0 : RQ _ R s { q with p := q.p + 1 } := (h.drewN n1).set1 (q.p + 1)
  have hd5 : Hid (Value.int .i64 ((q.p : Int) + 1) = .int .i64 (d : Int)) := by unfold Hid; rw [Hd.out]; rfl
  go_cut [5, 6, 7] (fun u5 u6 u7 wx => u5 = .int .i64 (d : Int) ∧ u6 = .int .i64 (num3 s d 0 false).1 ∧ u7 = .bool (num3 s d 0 false).2.1 ∧ RQ wx R s { q with p := (num3 s d 0 false).2.2 } ∧ w.grownBy wx (some R))
  case first =>
    go_wp2_with fail
    go_loopg [6, 7] (s.size - d) (fun k u6 u7 wr => ∃ (i : Nat) (n : Int) (g : Bool), i ≤ s.size ∧ k = s.size - i ∧ u6 = .int .i64 n ∧ u7 = .bool g ∧ -9223372036854775808 ≤ n ∧ n ≤ 9223372036854775807 ∧ Hid (num3 s i n g = num3 s d 0 false) ∧ RQ wr R s { q with p := i } ∧ w.grownBy wr (some R))
    case atStart => exact ⟨d, 0, false, hdl', rfl, rfl, rfl, by omega, by omega, rfl, (by rw [Hd.out]; exact hR0), gb_setR (gb_drewN (gb_refl _ _) _) _ _⟩
    case round =>
      obtain ⟨i, n, g, hi2, rfl, rfl, rfl, hn1, hn2, Hn, hR, hg⟩ := hrel
      clear c1 f1
      have c1 := hR.c1
      have f1 := hR.f 1
      have hc2 := chr_lt s i
      by_cases hd : isDig (chr s i) = true
      · have hlt := dig_chr hd
        have Hn2 := Lib.hid ((num3_step n g hd).symm.trans Hn.out)
        have hd2 : 48 ≤ chr s i ∧ chr s i ≤ 57 := by simpa [isDig] using hd
        obtain ⟨hd3, hd4⟩ := hd2
        have hbw := wrap64_bd (wrap64 (10 * n) - (chr s i - 48))
        obtain ⟨hbw1, hbw2⟩ := hbw
        clear hd
        cases g
        · go_wp2_with (first
            | (go_at_call 88; refine (here_any R s { q with p := i } _ (by exact hR) hi2).mono ?_; rintro e w1 ⟨rfl, n1, rfl⟩))
          go_roundg (s.size - (i + 1))
          case measure => omega
          case rel => exact ⟨i + 1, _, _, hlt, rfl, rfl, rfl, hbw1, hbw2, Hn2, (hR.drewN _).set1 (i + 1), gb_setR (gb_drewN hg _) _ _⟩
        · go_wp2_with (first
            | (go_at_call 88; refine (here_any R s { q with p := i } _ (by exact hR) hi2).mono ?_; rintro e w1 ⟨rfl, n1, rfl⟩))
          go_roundg (s.size - (i + 1))
          case measure => omega
          case rel => exact ⟨i + 1, _, _, hlt, rfl, rfl, rfl, hbw1, hbw2, Hn2, (hR.drewN _).set1 (i + 1), gb_setR (gb_drewN hg _) _ _⟩
      · have hd1 : isDig (chr s i) = false := by simpa using hd
        have Hst : Hid (num3 s d 0 false = (n, g, i)) := Hn.out.symm.trans (num3_stop n g hd1)
        have hd2 : chr s i < 48 ∨ 57 < chr s i := by simp [isDig] at hd1; omega
        clear hd hd1
        rcases hd2 with hd2 | hd2
        all_goals
          go_wp2_with (first
            | (go_at_call 88; refine (here_any R s { q with p := i } _ (by exact hR) hi2).mono ?_; rintro e w1 ⟨rfl, n1, rfl⟩))
          go_meet
          rw [Hst.out]
          exact ⟨hd5.out, rfl, rfl, hR.drewN _, gb_drewN hg _⟩
  case rest =>
    obtain ⟨rfl, rfl, rfl, hR, hg⟩ := hcut
    obtain ⟨hb1, hb2⟩ := hbd
    rw [← Hat.out] at hb1 hb2
    clear Hat hR0 c1 f1 hd5 h
    generalize num3 s d 0 false = x at *
    obtain ⟨n, g, j⟩ := x
    simp only at *
    have c0 := hR.c0
    have c1 := hR.c1
    by_cases hE : j = d
    · have HE : Hid (numQ s q = (0, failQ { q with p := j } j 4)) := by rw [HN.out, if_pos hE]; rfl
      have hEb : ((j : Int) == (d : Int)) = true := by simp; omega
      clear HN hE
      go_wp2_with (first
        | (go_at_call 45; refine (failQ_any R s _ _ _ _ (by exact hR)).mono ?_; rintro e w7 ⟨rfl, hR7, hg7⟩))
      go_ret
      rw [HE.out]
      exact ⟨rfl, hR7, gb_trans hg hg7⟩
    · have hEb : ((j : Int) == (d : Int)) = false := by simp; omega
      have hdj : d < s.size := by omega
      have hdI : (d : Int) < (s.size : Int) := by omega
      have hj9 : (d : Int) + 1 ≤ 9223372036854775807 := by omega
      have hx0 := chr_in hdj
      have Hx0 : Hid (((s[d].toNat : Int) == 48) = (chr s d == 48)) := by rw [hx0]; unfold Hid; rw [Bool.eq_iff_iff]; simp; omega
      have Hjb : Hid (decide ((d : Int) + 1 < (j : Int)) = decide (d + 1 < j)) := by unfold Hid; rw [Bool.eq_iff_iff]; simp; omega
      clear hx0
      have HN2 := Lib.hid (HN.out.trans (if_neg hE))
      clear HN hE
      generalize (chr s d == 48) = zb at *
      generalize decide (d + 1 < j) = jb at *
      obtain ⟨mb, hmb⟩ : ∃ mb, mb = (n == -9223372036854775808) := ⟨_, rfl⟩
      rw [← hmb] at HN2
      have hx1 := Hx0.out
      have hjb1 := Hjb.out
      have hmb1 := hmb.symm
      clear hmb Hx0 Hjb
      cases zb <;> cases jb <;> cases g <;> cases mb
      all_goals
        go_wp2_with (first
          | (go_at_call 45; refine (failQ_any R s _ _ _ _ (by exact hR)).mono ?_; rintro e w7 ⟨rfl, hR7, hg7⟩))
        go_ret
        first
          | (rw [HN2.out, if_pos (by decide)]; exact ⟨rfl, hR7, gb_trans hg hg7⟩)
          | (rw [HN2.out, if_neg (by decide)]; exact ⟨rfl, hR, hg⟩)

/-- (*reader).number -/
theorem numQ_any (R : Nat) (s : ByteArray) (q : QS) (w : World) (h : RQ w R s q) (hp : q.p ≤ s.size) (hs : s.size ≤ 2000000) :
    Calls Tryd.prog 92 #[.pointer (some ⟨R, 0, none⟩)] w fun e w' => e = .returned (.int .i64 (numQ s q).1) ∧ RQ w' R s (numQ s q).2 ∧ w.grownBy w' (some R) := by
  by_cases hneg : chr s q.p = 45
  · exact numQ_neg R s q w h hp hs hneg
  · exact numQ_pos R s q w h hp hs hneg
end Go.Proofs.YtnnhkajjifmlfaaDoor
