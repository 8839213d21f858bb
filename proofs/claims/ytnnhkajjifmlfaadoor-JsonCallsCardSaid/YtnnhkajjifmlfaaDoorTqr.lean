/- Two values, the same: the plain function. -/
import Derived.Test.YtnnhkajjifmlfaaDoorTno
import Derived.RegionTactic
namespace Go.Proofs.YtnnhkajjifmlfaaDoor
open Go.RowKit Go.Maps

mutual
/-- are two values the same? -/
def eqJ : J → J → Bool
  | .mk k n t names list, .mk k' n' t' names' list' => decide (k = k') && decide (n = n') && decide (t = t') && decide (names = names') && eqJs list list'
def eqJs : List J → List J → Bool
  | [], [] => true
  | [], _ :: _ => false
  | _ :: _, [] => false
  | a :: r, b :: s => eqJ a b && eqJs r s
end
theorem eqJs_len : ∀ (l m : List J), eqJs l m = true → l.length = m.length
  | [], [], _ => rfl
  | [], _ :: _, h => by rw [eqJs] at h; cases h
  | _ :: _, [], h => by rw [eqJs] at h; cases h
  | a :: r, b :: s, h => by
    rw [eqJs, Bool.and_eq_true] at h
    simp [eqJs_len r s h.2]
/-- a differing part makes lists differ -/
theorem eqJs_at : ∀ (l m : List J) (q : Nat) (h1 : q < l.length) (h2 : q < m.length), eqJ l[q] m[q] = false → eqJs l m = false
  | [], _, q, h1, _, _ => absurd h1 (Nat.not_lt_zero q)
  | _ :: _, [], q, _, h2, _ => absurd h2 (Nat.not_lt_zero q)
  | a :: r, b :: s, 0, _, _, h => by
    rw [eqJs]
    have : eqJ a b = false := h
    rw [this]; rfl
  | a :: r, b :: s, q + 1, h1, h2, h => by
    rw [eqJs, eqJs_at r s q (by simpa using h1) (by simpa using h2) (by simpa using h)]
    simp
/-- what function 59 (the document's same) is to answer -/
def RSameC (a : J) : Prop := ∀ (b : J) (S : Nat → Prop) (u v : Value) (w : World), JBd b → (∀ x, S x → x < w.heap.size) → JAt w S a u → JAt w S b v →
    Calls Tryd.prog 59 #[u, v] w fun e w' => e = .returned (.bool (eqJ a b)) ∧ w.grownBy w' none
end Go.Proofs.YtnnhkajjifmlfaaDoor
/-! The document's same (function 59): where two values' heads differ. -/
namespace Go.Proofs.YtnnhkajjifmlfaaDoor
open Go.RowKit Go.Maps
theorem str_ne {a b : ByteArray} (h : a ≠ b) : (a.toList == b.toList) = false := by
  rw [ByteArray.toList_eq, ByteArray.toList_eq]
  refine beq_false_of_ne fun e => h ?_
  obtain ⟨⟨x⟩⟩ := a
  obtain ⟨⟨y⟩⟩ := b
  simpa using e
/-- heads that differ -/
theorem eqJ_head {k n k' n' : Int} {t t' : ByteArray} {names names' : List ByteArray} {list list' : List J}
    (h : k ≠ k' ∨ n ≠ n' ∨ t ≠ t' ∨ names.length ≠ names'.length ∨ list.length ≠ list'.length) : eqJ (.mk k n t names list) (.mk k' n' t' names' list') = false := by
  rw [eqJ]
  rcases h with h | h | h | h | h
  · simp [h]
  · simp [h]
  · simp [h]
  · rw [decide_eq_false (p := names = names') (fun e => h (by rw [e]))]; simp
  · have : eqJs list list' = false := by
      cases hq : eqJs list list'
      · rfl
      · exact absurd (eqJs_len _ _ hq) h
    rw [this]; simp
set_option maxRecDepth 100000 in
set_option maxHeartbeats 3200000 in
theorem rsame_head (k n k' n' : Int) (t t' : ByteArray) (names : List ByteArray) (list : List J) (names' : List ByteArray) (list' : List J) (S : Nat → Prop) (u v : Value) (w : World)
    (h : k ≠ k' ∨ n ≠ n' ∨ t ≠ t' ∨ names.length ≠ names'.length ∨ list.length ≠ list'.length) (hu : JAt w S (.mk k n t names list) u) (hv : JAt w S (.mk k' n' t' names' list') v) :
    Calls Tryd.prog 59 #[u, v] w fun e w' => e = .returned (.bool (eqJ (.mk k n t names list) (.mk k' n' t' names' list'))) ∧ w.grownBy w' none := by
  have hE := Lib.hid (eqJ_head h)
  obtain ⟨nv, lv, rfl, hN, hL⟩ := hu.parts
  obtain ⟨A, c, rfl, hc, hA⟩ := hN
  obtain ⟨A', c', b', o', V', rfl, hc', hA', hcl', hrc'⟩ := hL
  obtain ⟨nv2, lv2, rfl, hN2, hL2⟩ := hv.parts
  obtain ⟨X, d, rfl, hd, hX⟩ := hN2
  obtain ⟨X', d', y', p', W', rfl, hd', hX', hdl', hrd'⟩ := hL2
  have J0 := JB.new w (.int .i64 k) (.int .i64 n) (.string t) (.slice A names.length c) (.slice A' list.length c')
  have JA := J0.alloc (.cells #[.int .i64 k', .int .i64 n', .string t', .slice X names'.length d, .slice X' list'.length d'] 26)
  have JZ := JB.new (w.alloc (.cells #[.int .i64 k, .int .i64 n, .string t, .slice A names.length c, .slice A' list.length c'] 26)) (.int .i64 k') (.int .i64 n') (.string t') (.slice X names'.length d) (.slice X' list'.length d')
  have hgw : w.grownBy ((w.alloc (.cells #[.int .i64 k, .int .i64 n, .string t, .slice A names.length c, .slice A' list.length c'] 26)).alloc (.cells #[.int .i64 k', .int .i64 n', .string t', .slice X names'.length d, .slice X' list'.length d'] 26)) none := gb_alloc (gb_alloc (gb_refl w none) _) _
  rw [show (w.alloc (.cells #[.int .i64 k, .int .i64 n, .string t, .slice A names.length c, .slice A' list.length c'] 26)).heap.size = w.heap.size + 1 from by simp] at JZ
  obtain ⟨d0, d1, d2, d3, d4, df⟩ := JA.all
  obtain ⟨z0, z1, z2, z3, z4, zf⟩ := JZ.all
  clear hA hX hA' hX' hcl' hrc' hdl' hrd' hu hv
  go_enter Tryd.func59, Tryd.ntmps59
  by_cases hk : k = k'
  · subst hk
    by_cases hn : n = n'
    · subst hn
      by_cases ht : t = t'
      · subst ht
        by_cases hl : names.length = names'.length
        · have hl2 : ¬ ((list.length : Int) = (list'.length : Int)) := by
            simp [hl] at h
            omega
          rw [hl] at hgw
          rw [hl] at *
          clear h
          go_wp2_with fail
          all_goals go_ret
          all_goals exact ⟨by rw [hE.out]; rfl, hgw⟩
        · have hl2 : ¬ ((names.length : Int) = (names'.length : Int)) := by omega
          clear h
          go_wp2_with fail
          all_goals go_ret
          all_goals exact ⟨by rw [hE.out]; rfl, hgw⟩
      · have hts := str_ne ht
        clear h
        go_wp2_with fail
        all_goals go_ret
        all_goals exact ⟨by rw [hE.out]; rfl, hgw⟩
    · clear h
      go_wp2_with fail
      all_goals go_ret
      all_goals exact ⟨by rw [hE.out]; rfl, hgw⟩
  · clear h
    go_wp2_with fail
    all_goals go_ret
    all_goals exact ⟨by rw [hE.out]; rfl, hgw⟩
end Go.Proofs.YtnnhkajjifmlfaaDoor
