/- The document's same (function 59): where two values' heads are the same. -/
import Derived.Test.YtnnhkajjifmlfaaDoorTt
namespace Go.Proofs.YtnnhkajjifmlfaaDoor
open Go.RowKit Go.Maps
theorem eqJ_same_head {k n : Int} {t : ByteArray} {names names' : List ByteArray} {list list' : List J} : eqJ (.mk k n t names list) (.mk k n t names' list') = (decide (names = names') && eqJs list list') := by
  rw [eqJ]; simp
theorem names_at {l m : List ByteArray} {q : Nat} (h1 : q < l.length) (h2 : q < m.length) (h : l[q] ≠ m[q]) : l ≠ m := fun e => h (by subst e; rfl)
set_option maxRecDepth 100000 in
set_option maxHeartbeats 3200000 in
theorem rsame_same (k n : Int) (t : ByteArray) (names : List ByteArray) (list : List J) (names' : List ByteArray) (list' : List J) (S : Nat → Prop) (u v : Value) (w : World)
    (hn : names'.length = names.length) (hl : list'.length = list.length) (hnl : names.length ≤ 140737488355328) (hll : list.length ≤ 140737488355328) (hb : ∀ j ∈ list', JBd j) (ih : ∀ j ∈ list, RSameC j)
    (hS : ∀ x, S x → x < w.heap.size) (hu : JAt w S (.mk k n t names list) u) (hv : JAt w S (.mk k n t names' list') v) :
    Calls Tryd.prog 59 #[u, v] w fun e w' => e = .returned (.bool (eqJ (.mk k n t names list) (.mk k n t names' list'))) ∧ w.grownBy w' none := by
  obtain ⟨nv, lv, rfl, hN, hL⟩ := hu.parts
  obtain ⟨A, c, rfl, hc, hA⟩ := hN
  obtain ⟨A', c', b', o', V', rfl, hc', hA', hcl', hrc'⟩ := hL
  obtain ⟨nv2, lv2, rfl, hN2, hL2⟩ := hv.parts
  obtain ⟨X, d, rfl, hd, hX⟩ := hN2
  obtain ⟨X', d', y', p', W', rfl, hd', hX', hdl', hrd'⟩ := hL2
  have hE0 := Lib.hid (eqJ_same_head (k := k) (n := n) (t := t) (names := names) (names' := names') (list := list) (list' := list'))
  have J0 := JB.new w (.int .i64 k) (.int .i64 n) (.string t) (.slice A names.length c) (.slice A' list.length c')
  have JA := J0.alloc (.cells #[.int .i64 k, .int .i64 n, .string t, .slice X names'.length d, .slice X' list'.length d'] 26)
  have JZ := JB.new (w.alloc (.cells #[.int .i64 k, .int .i64 n, .string t, .slice A names.length c, .slice A' list.length c'] 26)) (.int .i64 k) (.int .i64 n) (.string t) (.slice X names'.length d) (.slice X' list'.length d')
  rw [hn, hl] at JA JZ ⊢
  rw [show (w.alloc (.cells #[.int .i64 k, .int .i64 n, .string t, .slice A names.length c, .slice A' list.length c'] 26)).heap.size = w.heap.size + 1 from by simp] at JZ
  have hnl' := Lib.hid hnl
  have hll' := Lib.hid hll
  obtain ⟨d0, d1, d2, d3, d4, df⟩ := JA.all
  obtain ⟨z0, z1, z2, z3, z4, zf⟩ := JZ.all
  clear hu hv hnl hll
  go_enter Tryd.func59, Tryd.ntmps59
  go_wp2_with fail
  have hgw0 : w.grownBy ((w.alloc (.cells #[.int .i64 k, .int .i64 n, .string t, .slice A names.length c, .slice A' list.length c'] 26)).alloc (.cells #[.int .i64 k, .int .i64 n, .string t, .slice X names.length d, .slice X' list.length d'] 26)) none := gb_alloc (gb_alloc (gb_refl w none) _) _
  generalize hw' : World.alloc (w.alloc _) _ = w' at *
  go_loopg [5] names.length (fun z u5 wr => ∃ q : Nat, q ≤ names.length ∧ z = names.length - q ∧ u5 = .int .i64 q ∧ Hid (names.take q = names'.take q) ∧ w'.grownBy wr none)
  case atStart => exact ⟨0, Nat.zero_le _, rfl, rfl, by show List.take 0 names = List.take 0 names'; rfl, gb_refl _ _⟩
  case round =>
    obtain ⟨q, hq, rfl, rfl, htk, hgr⟩ := hrel
    have JA2 := JA.kept hgr (by simp)
    have JZ2 := JZ.kept hgr (by simp)
    clear d0 d1 d2 d3 d4 df z0 z1 z2 z3 z4 zf
    obtain ⟨d0, d1, d2, d3, d4, df⟩ := JA2.all
    obtain ⟨z0, z1, z2, z3, z4, zf⟩ := JZ2.all
    have hgw : w.grownBy wr none := gb_trans hgw0 hgr
    by_cases hlt : q < names.length
    · clear ih hcl' hrc' hdl' hrd' hA' hX'
      have hqi : (q : Int) < (names.length : Int) := by omega
      have hlt' : q < names'.length := by omega
      obtain ⟨bn, on, rfl, hSn, hcn⟩ := hA (by omega)
      obtain ⟨bx, ox, rfl, hSx, hcx⟩ := hX (by omega)
      have n1 := cell_grown (hcn q hlt) hgw (by simp)
      have x1 := cell_grown (hcx q hlt') hgw (by simp)
      clear hcn hcx hA hX
      by_cases he : names[q] = names'[q]
      · rw [← he] at x1
        have hen := Lib.hid (show names.take (q + 1) = names'.take (q + 1) by rw [List.take_add_one, List.take_add_one, htk.out, List.getElem?_eq_getElem hlt, List.getElem?_eq_getElem hlt', he])
        clear he
        have hq1 := Lib.hid (show wrap64 ((q : Int) + 1) = ((q + 1 : Nat) : Int) from (wrap64_id (by omega) (by have := hnl'.out; omega)).trans (by omega))
        generalize names[q] = Y at *
        go_wp2_with fail
        go_region
        all_goals go_wp2_with fail
        all_goals go_roundg (names.length - (q + 1))
        all_goals first
          | omega
          | exact ⟨q + 1, hlt, rfl, by first | rw [hq1.out] | go_num, hen, gb_trans hgr (gb_drew (gb_refl _ _))⟩
      · have hE : Hid (eqJ (.mk k n t names list) (.mk k n t names' list') = false) := by
          unfold Hid; rw [hE0.out, decide_eq_false (names_at hlt hlt' he)]; rfl
        have hts := str_ne he
        generalize names[q] = Y at *
        generalize names'[q] = Z at *
        go_wp2_with fail
        go_region
        all_goals go_wp2_with fail
        all_goals go_ret
        all_goals exact ⟨by rw [hE.out]; rfl, gb_trans hgw (gb_drew (gb_refl _ _))⟩
    · obtain rfl : q = names.length := by omega
      have hnn : names = names' := by
        have := htk.out
        rwa [List.take_of_length_le (Nat.le_refl _), List.take_of_length_le (by omega)] at this
      have hE1 : Hid (eqJ (.mk k n t names list) (.mk k n t names' list') = eqJs list list') := by
        unfold Hid; rw [hE0.out, decide_eq_true hnn]; rfl
      clear htk hE0 hnn hA hX hgr
      go_wp2_with fail
      generalize wr = w9 at *
      go_loopg [6] list.length (fun z u6 wr => ∃ q : Nat, q ≤ list.length ∧ z = list.length - q ∧ u6 = .int .i64 q ∧ Hid (eqJs (list.take q) (list'.take q) = true) ∧ w9.grownBy wr none)
      case atStart => exact ⟨0, Nat.zero_le _, rfl, rfl, by unfold Hid; simp [eqJs], gb_refl _ _⟩
      case round =>
        obtain ⟨q, hq, rfl, rfl, hno, hgr⟩ := hrel
        have JA3 := JA2.kept hgr (by simp)
        have JZ3 := JZ2.kept hgr (by simp)
        clear d0 d1 d2 d3 d4 df z0 z1 z2 z3 z4 zf
        obtain ⟨d0, d1, d2, d3, d4, df⟩ := JA3.all
        obtain ⟨z0, z1, z2, z3, z4, zf⟩ := JZ3.all
        have hg : w.grownBy wr none := gb_trans hgw hgr
        by_cases hlt : q < list.length
        · obtain ⟨rfl, hSb⟩ := hA' (by omega)
          obtain ⟨rfl, hSy⟩ := hX' (by omega)
          have hlt' : q < list'.length := by omega
          have hqi : (q : Int) < (list.length : Int) := by omega
          obtain ⟨a0, a1, a2, a3, a4, hV, c0, c1, c2, c3, c4⟩ := hcl' q hlt
          obtain ⟨e0, e1, e2, e3, e4, hW, f0, f1, f2, f3, f4⟩ := hdl' q hlt'
          have hrq := hrc' q hlt
          rw [hV] at hrq
          have hrp := hrd' q hlt'
          rw [hW] at hrp
          have g0 := cell_grown c0 hg (by simp)
          have g1 := cell_grown c1 hg (by simp)
          have g2 := cell_grown c2 hg (by simp)
          have g3 := cell_grown c3 hg (by simp)
          have g4 := cell_grown c4 hg (by simp)
          have k0 := cell_grown f0 hg (by simp)
          have k1 := cell_grown f1 hg (by simp)
          have k2 := cell_grown f2 hg (by simp)
          have k3 := cell_grown f3 hg (by simp)
          have k4 := cell_grown f4 hg (by simp)
          have hq1 := Lib.hid (show wrap64 ((q : Int) + 1) = ((q + 1 : Nat) : Int) from (wrap64_id (by omega) (by have := hll'.out; omega)).trans (by omega))
          have HX := fun (W : World) (hgW : w.grownBy W none) => Lib.hid (ih list[q] (List.getElem_mem hlt) list'[q] S _ _ W (hb _ (List.getElem_mem hlt')) (fun x hx => Nat.lt_of_lt_of_le (hS x hx) hgW.size) (hrq.keep (fun x hx => hgW.block x (hS x hx) (by simp)) (fun _ => id)) (hrp.keep (fun x hx => hgW.block x (hS x hx) (by simp)) (fun _ => id)))
          have hst := Lib.hid (eqJs_take list list' q hlt hlt')
          have hat := Lib.hid (fun h => eqJs_at list list' q hlt hlt' h)
          clear ih hcl' hrc' hdl' hrd' c0 c1 c2 c3 c4 f0 f1 f2 f3 f4 hA' hX' hrq hrp hb
          generalize eqJ list[q] list'[q] = y at *
          cases y with
          | true =>
            go_wp2_with fail
            go_region_law (first
              | (go_simp; go_at_call 59; refine ((HX _ (by exact gb_drew hg)).out).mono ?_; rintro e w4 ⟨rfl, hg4⟩))
            all_goals go_wp2_with fail
            all_goals go_roundg (list.length - (q + 1))
            all_goals first
              | omega
              | exact ⟨q + 1, hlt, rfl, by first | rw [hq1.out] | go_num, by unfold Hid; rw [hst.out, hno.out]; rfl, gb_trans (gb_drew hgr) (by exact hg4)⟩
          | false =>
            go_wp2_with fail
            go_region_law (first
              | (go_simp; go_at_call 59; refine ((HX _ (by exact gb_drew hg)).out).mono ?_; rintro e w4 ⟨rfl, hg4⟩))
            all_goals go_wp2_with fail
            all_goals go_ret
            all_goals exact ⟨by rw [hE1.out, hat.out (by first | rfl | trivial)]; rfl, gb_trans (gb_drew hg) (by exact hg4)⟩
        · obtain rfl : q = list.length := by omega
          have hfin := hno.out
          rw [List.take_of_length_le (Nat.le_refl _), List.take_of_length_le (by omega)] at hfin
          have hfin' := Lib.hid hfin
          clear hfin hno ih hcl' hrc' hdl' hrd' hA' hX'
          go_wp2_with fail
          go_ret
          exact ⟨by rw [hE1.out, hfin'.out]; rfl, hg⟩
theorem rsame_any {j : J} (hj : JBd j) : RSameC j := by
  induction hj with
  | @mk k n t names list h0 h1 ht hnl hll hs hr ih =>
    intro b S u v w hb hS hu hv
    obtain @⟨k', n', t', names', list', h0', h1', ht', hnl', hll', hs', hr'⟩ := hb
    by_cases h : k ≠ k' ∨ n ≠ n' ∨ t ≠ t' ∨ names.length ≠ names'.length ∨ list.length ≠ list'.length
    · exact rsame_head k n k' n' t t' names list names' list' S u v w h hu hv
    · have e1 : k = k' := Decidable.byContradiction fun e => h (.inl e)
      have e2 : n = n' := Decidable.byContradiction fun e => h (.inr (.inl e))
      have e3 : t = t' := Decidable.byContradiction fun e => h (.inr (.inr (.inl e)))
      subst e1; subst e2; subst e3
      exact rsame_same k n t names list names' list' S u v w (by omega) (by omega) hnl hll hr' ih hS hu hv
end Go.Proofs.YtnnhkajjifmlfaaDoor
