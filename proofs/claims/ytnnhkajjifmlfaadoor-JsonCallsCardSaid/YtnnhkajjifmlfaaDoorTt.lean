/- json.same (function 58): names by slices.Equal, lists by slices.EqualFunc. -/
import Derived.Test.YtnnhkajjifmlfaaDoorTqr
namespace Go.Proofs.YtnnhkajjifmlfaaDoor
open Go.RowKit Go.Maps
theorem getD_strs {l : List ByteArray} {j : Nat} (h : j < l.length) : l.getD j ByteArray.empty = l[j] := by simp [h]
/-- slices.Equal over names -/
theorem names_equal (names names' : List ByteArray) (S : Nat → Prop) (u v : Value) (w : World) (hl : names.length ≤ 140737488355328) (hl' : names'.length ≤ 140737488355328) (hu : StrsAt w S u names) (hv : StrsAt w S v names') :
    Calls Tryd.prog 102 #[u, v] w fun e w' => e = .returned (.bool (decide (names = names'))) ∧ w.grownBy w' none := by
  obtain ⟨A, c, rfl, hc, hA⟩ := hu
  obtain ⟨X, d, rfl, hd, hX⟩ := hv
  by_cases hne : names.length = names'.length
  · by_cases h0 : names.length = 0
    · have e1 : names = [] := List.length_eq_zero_iff.1 h0
      have e2 : names' = [] := List.length_eq_zero_iff.1 (by omega)
      subst e1; subst e2
      refine (Tryd.slices_Equal_string_empty A X c 0 d w (by omega)).mono ?_
      rintro e w' ⟨rfl, rfl⟩
      exact ⟨by simp, gb_refl _ _⟩
    · obtain ⟨b, o, rfl, _, hcA⟩ := hA (by omega)
      obtain ⟨y, p, rfl, _, hcX⟩ := hX (by omega)
      refine (Tryd.slices_Equal_string b o names.length c y p names'.length d names names' w (Nat.le_refl _) (Nat.le_refl _) (by omega) (by omega) (fun j hj => by rw [getD_strs hj]; exact hcA j hj) (fun j hj => by rw [getD_strs hj]; exact hcX j hj)).mono ?_
      rintro e w' ⟨rfl, q, rfl⟩
      exact ⟨by rw [List.take_of_length_le (Nat.le_refl _), List.take_of_length_le (Nat.le_refl _)], gb_drewN (gb_refl _ _) _⟩
  · refine (Tryd.slices_Equal_string_lens A X names.length c names'.length d w hne).mono ?_
    rintro e w' ⟨rfl, rfl⟩
    exact ⟨by rw [decide_eq_false (fun h => hne (by rw [h]))], gb_refl _ _⟩
/-- what function 58 (the program's same) is to answer -/
def PSameC (a : J) : Prop := ∀ (b : J) (S : Nat → Prop) (u v : Value) (w : World), JBd b → (∀ x, S x → x < w.heap.size) → JAt w S a u → JAt w S b v →
    Calls Tryd.prog 58 #[u, v] w fun e w' => e = .returned (.bool (eqJ a b)) ∧ w.grownBy w' none
theorem eqJs_take : ∀ (l m : List J) (q : Nat) (h1 : q < l.length) (h2 : q < m.length), eqJs (l.take (q + 1)) (m.take (q + 1)) = (eqJs (l.take q) (m.take q) && eqJ l[q] m[q])
  | a :: r, b :: s, 0, _, _ => by simp [eqJs]
  | a :: r, b :: s, q + 1, h1, h2 => by
    have := eqJs_take r s q (by simpa using h1) (by simpa using h2)
    simp only [List.take_succ_cons, List.getElem_cons_succ]
    rw [eqJs, eqJs, this, Bool.and_assoc]
set_option maxRecDepth 100000 in
set_option maxHeartbeats 3200000 in
theorem eqf_any (list list' : List J) (S : Nat → Prop) (u v : Value) (w : World) (hll : list.length ≤ 140737488355328) (hS : ∀ x, S x → x < w.heap.size) (hb : ∀ j ∈ list', JBd j) (ih : ∀ j ∈ list, PSameC j)
    (hu : LAt w S list u) (hv : LAt w S list' v) :
    Calls Tryd.prog 103 #[u, v, .func (.func 58) #[] #[]] w fun e w' => e = .returned (.bool (eqJs list list')) ∧ w.grownBy w' none := by
  obtain ⟨A', c', b', o', V', rfl, hc', hA', hcl', hrc'⟩ := hu
  obtain ⟨X', d', y', p', W', rfl, hd', hX', hdl', hrd'⟩ := hv
  go_enter Tryd.func103, Tryd.ntmps103
  by_cases hne : list.length = list'.length
  · have hbf : ((list.length : Int) != (list'.length : Int)) = false := by simp [hne]
    have hll' := Lib.hid hll
    have hneH := Lib.hid hne
    clear hll hne
    go_wp2_with fail
    go_loopg [17] list.length (fun z u17 wr => ∃ q : Nat, q ≤ list.length ∧ z = list.length - q ∧ u17 = .int .i64 q ∧ Hid (eqJs (list.take q) (list'.take q) = true) ∧ w.grownBy wr none)
    case atStart => exact ⟨0, Nat.zero_le _, rfl, rfl, by unfold Hid; simp [eqJs], gb_refl _ _⟩
    case round =>
      obtain ⟨q, hq, rfl, rfl, hno, hg⟩ := hrel
      by_cases hlt : q < list.length
      · have hlt' : q < list'.length := by have := hneH.out; omega
        obtain ⟨rfl, hSb⟩ := hA' (by omega)
        obtain ⟨rfl, hSy⟩ := hX' (by omega)
        have hqi : (q : Int) < (list.length : Int) := by omega
        have hqj : (q : Int) < (list'.length : Int) := by omega
        obtain ⟨a0, a1, a2, a3, a4, hV, c0, c1, c2, c3, c4⟩ := hcl' q hlt
        obtain ⟨e0, e1, e2, e3, e4, hW, f0, f1, f2, f3, f4⟩ := hdl' q hlt'
        have hrq := hrc' q hlt
        rw [hV] at hrq
        have hrp := hrd' q hlt'
        rw [hW] at hrp
        obtain ⟨xk, xn, xt, X1, x1, y1, X2, x2, y2, rfl, rfl, rfl, rfl, rfl⟩ := hrq.shape
        obtain ⟨zk, zn, zt, Z1, z1, z1', Z2, z2, z2', rfl, rfl, rfl, rfl, rfl⟩ := hrp.shape
        have g0 := cell_grown c0 hg (by simp)
        have g1 := cell_grown c1 hg (by simp)
        have g2 := cell_grown c2 hg (by simp)
        have g3 := cell_grown c3 hg (by simp)
        have g4 := cell_grown c4 hg (by simp)
        have k0 := fun o => cell_grown f0 (gb_alloc hg o) (by simp)
        have k1 := fun o => cell_grown f1 (gb_alloc hg o) (by simp)
        have k2 := fun o => cell_grown f2 (gb_alloc hg o) (by simp)
        have k3 := fun o => cell_grown f3 (gb_alloc hg o) (by simp)
        have k4 := fun o => cell_grown f4 (gb_alloc hg o) (by simp)
        have hq1 := Lib.hid (show wrap64 ((q : Int) + 1) = ((q + 1 : Nat) : Int) from (wrap64_id (by omega) (by have := hll'.out; omega)).trans (by omega))
        have HX := fun (W : World) (hgW : w.grownBy W none) => Lib.hid (ih list[q] (List.getElem_mem hlt) list'[q] S _ _ W (hb _ (List.getElem_mem hlt')) (fun x hx => Nat.lt_of_lt_of_le (hS x hx) hgW.size) (hrq.keep (fun x hx => hgW.block x (hS x hx) (by simp)) (fun _ => id)) (hrp.keep (fun x hx => hgW.block x (hS x hx) (by simp)) (fun _ => id)))
        have hst := Lib.hid (eqJs_take list list' q hlt hlt')
        have hat := Lib.hid (fun h => eqJs_at list list' q hlt hlt' h)
        clear ih hcl' hrc' hdl' hrd' c0 c1 c2 c3 c4 f0 f1 f2 f3 f4 hA' hX' hrq hrp hb
        generalize eqJ list[q] list'[q] = y at *
        cases y with
        | true =>
          go_wp2_with (first
            | (go_at_call 58; refine ((HX _ (gb_alloc (gb_alloc (by exact hg) _) _)).out).mono ?_; rintro e w4 ⟨rfl, hg4⟩))
          go_roundg (list.length - (q + 1))
          case measure => omega
          case rel => exact ⟨q + 1, hlt, rfl, by first | rw [hq1.out] | go_num, by unfold Hid; rw [hst.out, hno.out]; rfl, gb_trans (gb_alloc (gb_alloc (by exact hg) _) _) hg4⟩
        | false =>
          go_wp2_with (first
            | (go_at_call 58; refine ((HX _ (gb_alloc (gb_alloc (by exact hg) _) _)).out).mono ?_; rintro e w4 ⟨rfl, hg4⟩))
          go_ret
          exact ⟨by rw [hat.out (by first | rfl | trivial)]; rfl, gb_trans (gb_alloc (gb_alloc (by exact hg) _) _) hg4⟩
      · obtain rfl : q = list.length := by omega
        have hfin := hno.out
        rw [List.take_of_length_le (Nat.le_refl _), List.take_of_length_le (by have := hneH.out; omega)] at hfin
        have hfin' := Lib.hid hfin
        clear hfin hno ih hcl' hrc' hdl' hrd' hA' hX'
        go_wp2_with fail
        go_ret
        exact ⟨by rw [hfin'.out]; rfl, hg⟩
  · have hE : Hid (eqJs list list' = false) := by
      unfold Hid
      cases hq : eqJs list list'
      · rfl
      · exact absurd (eqJs_len _ _ hq) hne
    have hneI : ((list.length : Int) != (list'.length : Int)) = true := by simp; omega
    clear hA' hX' hcl' hrc' hdl' hrd'
    go_wp2_with fail
    go_ret
    exact ⟨by rw [hE.out]; rfl, gb_refl _ _⟩
end Go.Proofs.YtnnhkajjifmlfaaDoor
