/- Policies, the document's reader: its block, its small methods. -/
import Derived.Test.YtnnhkajjifmlfaaDoorPq
import Derived.Test.YtnnhkajjifmlfaaDoorP2
namespace Go.Proofs.YtnnhkajjifmlfaaDoor.Pl
open Go.RowKit Go.Maps

/-- the document's reader's block -/
def RB (w : World) (R : Nat) (s : ByteArray) (ρ : RQ) (nv : Value) : Prop :=
  w.heap[R]? = some (.cells #[.string s, .int .i64 ρ.p, .int .i64 ρ.k, .string ρ.x, .int .i64 ρ.ta, .int .i64 ρ.bad, .bool ρ.lg, nv] 101 (0, 0))
section
variable {w w' : World} {R : Nat} {s : ByteArray} {ρ : RQ} {nv : Value}
theorem RB.lt (h : RB w R s ρ nv) : R < w.heap.size := (Array.getElem?_eq_some_iff.1 h).1
theorem RB.c0 (h : RB w R s ρ nv) : w.cell? ⟨R, 0, none⟩ = some (.string s) := by rw [cell_of_row w R 0 _ _ _ h]; rfl
theorem RB.c1 (h : RB w R s ρ nv) : w.cell? ⟨R, 1, none⟩ = some (.int .i64 ρ.p) := by rw [cell_of_row w R 1 _ _ _ h]; rfl
theorem RB.c2 (h : RB w R s ρ nv) : w.cell? ⟨R, 2, none⟩ = some (.int .i64 ρ.k) := by rw [cell_of_row w R 2 _ _ _ h]; rfl
theorem RB.c3 (h : RB w R s ρ nv) : w.cell? ⟨R, 3, none⟩ = some (.string ρ.x) := by rw [cell_of_row w R 3 _ _ _ h]; rfl
theorem RB.c4 (h : RB w R s ρ nv) : w.cell? ⟨R, 4, none⟩ = some (.int .i64 ρ.ta) := by rw [cell_of_row w R 4 _ _ _ h]; rfl
theorem RB.c5 (h : RB w R s ρ nv) : w.cell? ⟨R, 5, none⟩ = some (.int .i64 ρ.bad) := by rw [cell_of_row w R 5 _ _ _ h]; rfl
theorem RB.c6 (h : RB w R s ρ nv) : w.cell? ⟨R, 6, none⟩ = some (.bool ρ.lg) := by rw [cell_of_row w R 6 _ _ _ h]; rfl
theorem RB.c7 (h : RB w R s ρ nv) : w.cell? ⟨R, 7, none⟩ = some nv := by rw [cell_of_row w R 7 _ _ _ h]; rfl
theorem RB.f (h : RB w R s ρ nv) (i : Nat) : w.frozen? ⟨R, i, none⟩ = false := by unfold RB at h; simp [World.frozen?, h]
theorem RB.set1 (h : RB w R s ρ nv) (q : Nat) : RB (w.setCell ⟨R, 1, none⟩ (.int .i64 q)) R s { ρ with p := q } nv := by
  unfold RB at h ⊢; simp [World.setCell, Array.getElem?_modify, h]
theorem RB.set2 (h : RB w R s ρ nv) (q : Int) : RB (w.setCell ⟨R, 2, none⟩ (.int .i64 q)) R s { ρ with k := q } nv := by
  unfold RB at h ⊢; simp [World.setCell, Array.getElem?_modify, h]
theorem RB.set3 (h : RB w R s ρ nv) (q : ByteArray) : RB (w.setCell ⟨R, 3, none⟩ (.string q)) R s { ρ with x := q } nv := by
  unfold RB at h ⊢; simp [World.setCell, Array.getElem?_modify, h]
theorem RB.set4 (h : RB w R s ρ nv) (q : Int) : RB (w.setCell ⟨R, 4, none⟩ (.int .i64 q)) R s { ρ with ta := q } nv := by
  unfold RB at h ⊢; simp [World.setCell, Array.getElem?_modify, h]
theorem RB.set5 (h : RB w R s ρ nv) (q : Int) : RB (w.setCell ⟨R, 5, none⟩ (.int .i64 q)) R s { ρ with bad := q } nv := by
  unfold RB at h ⊢; simp [World.setCell, Array.getElem?_modify, h]
theorem RB.set6 (h : RB w R s ρ nv) (q : Bool) : RB (w.setCell ⟨R, 6, none⟩ (.bool q)) R s { ρ with lg := q } nv := by
  unfold RB at h ⊢; simp [World.setCell, Array.getElem?_modify, h]
theorem RB.set7 (h : RB w R s ρ nv) (q : Value) : RB (w.setCell ⟨R, 7, none⟩ q) R s ρ q := by
  unfold RB at h ⊢; simp [World.setCell, Array.getElem?_modify, h]
theorem RB.alloc (h : RB w R s ρ nv) (o : Obj) : RB (w.alloc o) R s ρ nv := (Below.heap_alloc w o R h.lt).trans h
theorem RB.drewN (h : RB w R s ρ nv) (n : Nat) : RB (w.drewN n) R s ρ nv := h
theorem RB.drew (h : RB w R s ρ nv) : RB w.drew R s ρ nv := h
theorem RB.far (h : RB w R s ρ nv) {q : Addr} (hq : R ≠ q.block) (u : Value) : RB (w.setCell q u) R s ρ nv := (Below.heap_setCell w q u R hq).trans h
theorem RB.kept (h : RB w R s ρ nv) {row : Option Nat} (hg : w.grownBy w' row) (hne : some R ≠ row) : RB w' R s ρ nv := (hg.block R h.lt hne).trans h
theorem RB.ns (h : RB w R s ρ nv) (l : List PN) : RB w R s { ρ with ns := l } nv := h
end
/-- what a method leaves that turns the reader's block alone -/
abbrev QS1 (R : Nat) (s : ByteArray) (nv : Value) (w : World) (v : Value) (τ : RQ) (e : Ending) (w' : World) : Prop :=
  e = .returned v ∧ RB w' R s τ nv ∧ w.grownBy w' (some R)
theorem wrong_any (R : Nat) (s : ByteArray) (a : Int) (ρ : RQ) (nv : Value) (w : World) (h : RB w R s ρ nv) :
    Calls Tryd.prog 69 #[.pointer (some ⟨R, 0, none⟩), .int .i64 a] w (QS1 R s nv w (.tuple #[]) (wrongR a ρ)) := by
  have c2 := h.c2
  have c3 := h.c3
  have c4 := h.c4
  have c5 := h.c5
  have f2 := h.f 2
  have f3 := h.f 3
  have f4 := h.f 4
  have f5 := h.f 5
  go_enter Tryd.func69, Tryd.ntmps69
  by_cases hb : ρ.bad < 0
  · have e : wrongR a ρ = { ρ with bad := a, k := 0, x := ⟨#[]⟩, ta := a } := by unfold wrongR; rw [if_pos hb]
    rw [e]
    go_wp2_with fail
    go_end0
    exact ⟨rfl, (((h.set5 a).set2 0).set3 ⟨#[]⟩).set4 a, gb_setR (gb_setR (gb_setR (gb_setR (gb_refl _ _) _ _) _ _) _ _) _ _⟩
  · have e : wrongR a ρ = { ρ with k := 0, x := ⟨#[]⟩, ta := a } := by unfold wrongR; rw [if_neg hb]
    rw [e]
    go_wp2_with fail
    go_end0
    exact ⟨rfl, ((h.set2 0).set3 ⟨#[]⟩).set4 a, gb_setR (gb_setR (gb_setR (gb_refl _ _) _ _) _ _) _ _⟩
set_option maxHeartbeats 1600000 in
theorem rsign_any (R : Nat) (s : ByteArray) (c : UInt8) (ρ : RQ) (nv : Value) (w : World) (h : RB w R s ρ nv) :
    Calls Tryd.prog 114 #[.pointer (some ⟨R, 0, none⟩), .string ⟨#[c]⟩] w fun e w' => e = .returned (.bool (signR c ρ)) ∧ w' = w := by
  have c2 := h.c2
  have c3 := h.c3
  have c5 := h.c5
  obtain ⟨t, ht⟩ : ∃ t : ByteArray, t = ⟨#[c]⟩ := ⟨_, rfl⟩
  have hT : Hid (signR c ρ = (decide (ρ.bad < 0) && ρ.k == 2 && decide (ρ.x = t))) := by unfold Hid signR; rw [ht]
  rw [← ht]
  clear ht
  go_enter Tryd.func114, Tryd.ntmps114
  by_cases hb : ρ.bad < 0
  · by_cases hk : ρ.k = 2
    · have hkb : (ρ.k == 2) = true := by simp [hk]
      have hxb : (ρ.x.toList == t.toList) = decide (ρ.x = t) := ba_beq _ _
      have hT2 : Hid (signR c ρ = decide (ρ.x = t)) := by unfold Hid; rw [hT.out, decide_eq_true hb, hkb]; rfl
      clear hk
      go_wp2_with fail
      go_ret
      exact ⟨by rw [hT2.out]; rfl, rfl⟩
    · have hkb : (ρ.k == 2) = false := by simpa using hk
      have hT2 : Hid (signR c ρ = false) := by unfold Hid; rw [hT.out, hkb, Bool.and_false]; rfl
      clear hk
      go_wp2_with fail
      go_ret
      exact ⟨by rw [hT2.out]; rfl, rfl⟩
  · have hT2 : Hid (signR c ρ = false) := by unfold Hid; rw [hT.out, decide_eq_false hb]; rfl
    go_wp2_with fail
    go_ret
    exact ⟨by rw [hT2.out]; rfl, rfl⟩
end Go.Proofs.YtnnhkajjifmlfaaDoor.Pl
/-! Policies, the document's reader: the words. -/
namespace Go.Proofs.YtnnhkajjifmlfaaDoor.Pl
open Go.RowKit Go.Maps

def wl : Nat → ByteArray
  | 0 => wAlways
  | 1 => wError
  | 2 => wSlow
  | 3 => wService
  | 4 => wTag
  | _ => wRatio
theorem wordB_yes {x : ByteArray} {k : Nat} (h : x = wl k) : wordB x = true := by
  subst h
  unfold wordB
  rw [decide_eq_true_eq]
  match k with
  | 0 => exact .inl rfl
  | 1 => exact .inr (.inl rfl)
  | 2 => exact .inr (.inr (.inl rfl))
  | 3 => exact .inr (.inr (.inr (.inl rfl)))
  | 4 => exact .inr (.inr (.inr (.inr (.inl rfl))))
  | k + 5 => exact .inr (.inr (.inr (.inr (.inr rfl))))
theorem wordB_no {x : ByteArray} (h : ∀ k, k < 6 → x ≠ wl k) : wordB x = false := by
  unfold wordB
  rw [decide_eq_false_iff_not]
  rintro (e | e | e | e | e | e)
  · exact h 0 (by omega) e
  · exact h 1 (by omega) e
  · exact h 2 (by omega) e
  · exact h 3 (by omega) e
  · exact h 4 (by omega) e
  · exact h 5 (by omega) e
set_option maxRecDepth 100000 in
set_option maxHeartbeats 3200000 in
theorem word_any (x : ByteArray) (w : World) : Calls Tryd.prog 142 #[.string x] w fun e w' => e = .returned (.bool (wordB x)) ∧ w.grownBy w' none := by
  go_enter Tryd.func142, Tryd.ntmps142
  go_wp2_with fail
  have hC : ∀ k, k < 6 → (w.alloc (.cells #[.string ⟨#[97, 108, 119, 97, 121, 115]⟩, .string ⟨#[101, 114, 114, 111, 114]⟩, .string ⟨#[115, 108, 111, 119]⟩, .string ⟨#[115, 101, 114, 118, 105, 99, 101]⟩, .string ⟨#[116, 97, 103]⟩, .string ⟨#[114, 97, 116, 105, 111]⟩] 9)).cell? ⟨w.heap.size, k, none⟩ = some (.string (wl k)) := by
    intro k hk
    rw [cell_of_row _ _ k _ _ _ (heap_alloc_new w _)]
    match k, hk with
    | 0, _ => rfl
    | 1, _ => rfl
    | 2, _ => rfl
    | 3, _ => rfl
    | 4, _ => rfl
    | 5, _ => rfl
  have hg0 := gb_alloc (gb_refl w none) (.cells #[.string ⟨#[97, 108, 119, 97, 121, 115]⟩, .string ⟨#[101, 114, 114, 111, 114]⟩, .string ⟨#[115, 108, 111, 119]⟩, .string ⟨#[115, 101, 114, 118, 105, 99, 101]⟩, .string ⟨#[116, 97, 103]⟩, .string ⟨#[114, 97, 116, 105, 111]⟩] 9)
  generalize w.alloc (.cells #[.string ⟨#[97, 108, 119, 97, 121, 115]⟩, .string ⟨#[101, 114, 114, 111, 114]⟩, .string ⟨#[115, 108, 111, 119]⟩, .string ⟨#[115, 101, 114, 118, 105, 99, 101]⟩, .string ⟨#[116, 97, 103]⟩, .string ⟨#[114, 97, 116, 105, 111]⟩] 9) = W at *
  generalize w.heap.size = B at *
  go_loopg [4] 6 (fun z u4 wr => ∃ k : Nat, k ≤ 6 ∧ z = 6 - k ∧ u4 = .int .i64 k ∧ Hid (∀ j, j < k → x ≠ wl j) ∧ wr = W)
  case atStart => exact ⟨0, by omega, rfl, rfl, Lib.hid (fun j hj => by omega), rfl⟩
  case round =>
    obtain ⟨k, hk, rfl, rfl, hp, rfl⟩ := hrel
    by_cases hlt : k < 6
    · have hki : (k : Int) < 6 := by omega
      have hc := hC k hlt
      have hq1 := Lib.hid (show wrap64 ((k : Int) + 1) = ((k + 1 : Nat) : Int) from (wrap64_id (by omega) (by omega)).trans (by omega))
      have hxb : ((wl k).toList == x.toList) = decide (wl k = x) := ba_beq _ _
      have hyes : Hid (x = wl k → wordB x = true) := wordB_yes
      have hstep : Hid (x ≠ wl k → ∀ j, j < k + 1 → x ≠ wl j) := fun h j hj => by
        rcases Nat.lt_succ_iff_lt_or_eq.1 hj with h1 | h1
        · exact hp.out j h1
        · subst h1; exact h
      generalize wl k = y at *
      clear hC hp
      by_cases he : y = x
      · have hT : Hid (wordB x = true) := hyes.out he.symm
        rw [decide_eq_true he] at hxb
        clear he hyes hstep
        go_wp2_with fail
        go_ret
        exact ⟨by rw [hT.out]; rfl, hg0⟩
      · have hs2 := Lib.hid (hstep.out (fun h => he h.symm))
        rw [decide_eq_false he] at hxb
        clear he hyes hstep
        go_wp2_with fail
        go_roundg (6 - (k + 1))
        case measure => omega
        case rel => exact ⟨k + 1, hlt, rfl, by first | rw [hq1.out] | go_num, hs2, rfl⟩
    · obtain rfl : k = 6 := by omega
      have hT : Hid (wordB x = false) := wordB_no hp.out
      clear hp hC
      go_wp2_with fail
      go_ret
      exact ⟨by rw [hT.out]; rfl, hg0⟩
end Go.Proofs.YtnnhkajjifmlfaaDoor.Pl
