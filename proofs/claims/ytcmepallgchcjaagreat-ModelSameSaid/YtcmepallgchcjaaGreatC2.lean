/- slices.CompareFunc over tags; span.Compare; span.Same. -/
import Derived.Test.YtcmepallgchcjaaGreatC1
namespace Go.Proofs.YtcmepallgchcjaaGreat
open Go.RowKit

abbrev Tg := ByteArray × ByteArray
def tagC (a b : Tg) : Int := orL [cmpS a.1 b.1, cmpS a.2 b.2]
theorem tagC_zero {a b : Tg} : tagC a b = 0 ↔ a = b := by
  unfold tagC; rw [orL_zero]
  constructor
  · intro h
    exact Prod.ext (cmpS_zero.1 (h _ (by simp))) (cmpS_zero.1 (h _ (by simp)))
  · rintro rfl x hx
    simp only [List.mem_cons, List.not_mem_nil, or_false] at hx
    rcases hx with rfl | rfl <;> exact cmpS_zero.2 rfl
def cmpL : List Tg → List Tg → Int
  | [], [] => 0
  | [], _ :: _ => -1
  | _ :: _, [] => 1
  | a :: r, b :: s => if tagC a b = 0 then cmpL r s else tagC a b
theorem cmpL_zero : ∀ {l m : List Tg}, cmpL l m = 0 ↔ l = m
  | [], [] => by simp [cmpL]
  | [], _ :: _ => by simp [cmpL]
  | _ :: _, [] => by simp [cmpL]
  | a :: r, b :: s => by
    rw [cmpL]
    by_cases h : tagC a b = 0
    · rw [if_pos h, cmpL_zero, List.cons.injEq]
      exact ⟨fun e => ⟨tagC_zero.1 h, e⟩, fun e => e.2⟩
    · rw [if_neg h, List.cons.injEq]
      exact ⟨fun e => absurd e h, fun e => absurd (tagC_zero.2 e.1) h⟩
/-- tags in memory -/
def TAt (w : World) (S : Nat → Prop) (l : List Tg) (v : Value) : Prop :=
  ∃ (A : Option Addr) (c b o : Nat), v = .slice A l.length c ∧ (0 < l.length → A = some ⟨b, o, none⟩ ∧ S b) ∧
    ∀ i (h : i < l.length), w.cell? ⟨b, o + i * 2, none⟩ = some (.string l[i].1) ∧ w.cell? ⟨b, o + i * 2 + 1, none⟩ = some (.string l[i].2)
theorem TAt.grown {w w' : World} {S : Nat → Prop} {l : List Tg} {v : Value} (h : TAt w S l v) (hg : w.grownBy w' none) : TAt w' S l v := by
  obtain ⟨A, c, b, o, e, ha, hc⟩ := h
  exact ⟨A, c, b, o, e, ha, fun i hi => ⟨cell_grown (hc i hi).1 hg (by simp), cell_grown (hc i hi).2 hg (by simp)⟩⟩
set_option maxRecDepth 100000 in
set_option maxHeartbeats 1600000 in
theorem compareFunc_any (l m : List Tg) (S : Nat → Prop) (u v : Value) (w : World) (hl : l.length ≤ 140737488355328) (_hm : m.length ≤ 140737488355328) (hu : TAt w S l u) (hv : TAt w S m v) :
    Calls Tryz.prog 149 #[u, v, .func (.func 150) #[] #[]] w fun e w' => e = .returned (.int .i64 (cmpL l m)) ∧ w.grownBy w' none := by
  obtain ⟨A, c, b, o, rfl, hA, hcl⟩ := hu
  obtain ⟨X, d, y, p, rfl, hX, hdl⟩ := hv
  have hl' := Lib.hid hl
  clear hl
  go_enter Tryz.func149, Tryz.ntmps149
  go_wp2_with fail
  go_loopg [13] l.length (fun z u13 wr => ∃ k : Nat, k ≤ l.length ∧ k ≤ m.length ∧ z = l.length - k ∧ u13 = .int .i64 k ∧ Hid (cmpL (l.drop k) (m.drop k) = cmpL l m) ∧ w.grownBy wr none)
  case atStart => exact ⟨0, Nat.zero_le _, Nat.zero_le _, rfl, rfl, rfl, gb_refl _ _⟩
  case round =>
    obtain ⟨k, hk, hkm, rfl, rfl, ho, hg⟩ := hrel
    by_cases hlt : k < l.length
    · obtain ⟨rfl, hSb⟩ := hA (by omega)
      have hki : (k : Int) < (l.length : Int) := by omega
      have c0 := cell_grown (hcl k hlt).1 hg (by simp)
      have c1 := cell_grown (hcl k hlt).2 hg (by simp)
      by_cases hlm : k < m.length
      · obtain ⟨rfl, hSy⟩ := hX (by omega)
        have hkj : (k : Int) < (m.length : Int) := by omega
        have hkj2 : ¬ (m.length : Int) ≤ (k : Int) := by omega
        have d0 := fun ob => cell_grown (hdl k hlm).1 (gb_alloc hg ob) (by simp)
        have d1 := fun ob => cell_grown (hdl k hlm).2 (gb_alloc hg ob) (by simp)
        have hst : Hid (cmpL l m = if tagC l[k] m[k] = 0 then cmpL (l.drop (k + 1)) (m.drop (k + 1)) else tagC l[k] m[k]) := by
          unfold Hid; rw [← ho.out, List.drop_eq_getElem_cons hlt, List.drop_eq_getElem_cons hlm]; rfl
        have hq1 := Lib.hid (show wrap64 ((k : Int) + 1) = ((k + 1 : Nat) : Int) from (wrap64_id (by omega) (by have := hl'.out; omega)).trans (by omega))
        have HT := fun W => Lib.hid (tags_any l[k].1 l[k].2 m[k].1 m[k].2 W)
        rw [show orL [cmpS l[k].1 m[k].1, cmpS l[k].2 m[k].2] = tagC l[k] m[k] from rfl] at HT
        clear hcl hdl hA hX ho
        generalize tagC l[k] m[k] = t at *
        generalize l[k].1 = s1 at *
        generalize l[k].2 = s2 at *
        generalize m[k].1 = s3 at *
        generalize m[k].2 = s4 at *
        by_cases ht : t = 0
        · subst ht
          have hst2 : Hid (cmpL (l.drop (k + 1)) (m.drop (k + 1)) = cmpL l m) := by unfold Hid; rw [hst.out, if_pos rfl]
          go_wp2_with (first | (go_at_call 150; refine ((HT _).out).mono ?_; rintro e w2 ⟨rfl, hg2⟩))
          go_roundg (l.length - (k + 1))
          case measure => omega
          case rel => exact ⟨k + 1, hlt, hlm, rfl, by first | rw [hq1.out] | go_num, hst2, gb_trans (gb_alloc (gb_alloc (by exact hg) _) _) hg2⟩
        · have hst2 : Hid (cmpL l m = t) := by unfold Hid; rw [hst.out, if_neg ht]
          have htb : (t != 0) = true := by simpa using ht
          clear hst
          go_wp2_with (first | (go_at_call 150; refine ((HT _).out).mono ?_; rintro e w2 ⟨rfl, hg2⟩))
          go_ret
          exact ⟨by rw [hst2.out]; rfl, gb_trans (gb_alloc (gb_alloc (by exact hg) _) _) hg2⟩
      · have hkj2 : (m.length : Int) ≤ (k : Int) := by omega
        have hst2 : Hid (cmpL l m = 1) := by
          unfold Hid; rw [← ho.out, List.drop_eq_getElem_cons hlt, List.drop_of_length_le (l := m) (by omega)]; rfl
        clear hcl hdl hA hX ho
        generalize l[k].1 = s1 at *
        generalize l[k].2 = s2 at *
        go_wp2_with fail
        go_ret
        exact ⟨by rw [hst2.out]; rfl, gb_alloc (by exact hg) _⟩
    · obtain rfl : k = l.length := by omega
      clear hcl hdl hA hX
      by_cases hlm : l.length < m.length
      · have hst2 : Hid (cmpL l m = -1) := by
          unfold Hid; rw [← ho.out, List.drop_of_length_le (Nat.le_refl _), List.drop_eq_getElem_cons hlm]; rfl
        have hI : (l.length : Int) < (m.length : Int) := by omega
        go_wp2_with fail
        go_ret
        exact ⟨by rw [hst2.out]; rfl, hg⟩
      · have hst2 : Hid (cmpL l m = 0) := by
          unfold Hid; rw [← ho.out, List.drop_of_length_le (Nat.le_refl _), List.drop_of_length_le (l := m) (by omega)]; rfl
        have hI : ¬ (l.length : Int) < (m.length : Int) := by omega
        go_wp2_with fail
        go_ret
        exact ⟨by rw [hst2.out]; rfl, hg⟩
end Go.Proofs.YtcmepallgchcjaaGreat
