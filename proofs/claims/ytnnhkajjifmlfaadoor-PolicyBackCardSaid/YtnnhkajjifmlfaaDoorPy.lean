/- Policies: Text: the walk; what the law's answer hangs on. -/
import Derived.Test.YtnnhkajjifmlfaaDoorPxa
import Derived.Test.YtnnhkajjifmlfaaDoorPxb
namespace Go.Proofs.YtnnhkajjifmlfaaDoor.Pl
open Go.RowKit Go.Maps

theorem tell_any {l : List PN} (hlen : l.length ≤ 1000000) : ∀ (t : PT) (lo : Nat), t.ok = true → Stands l lo t → TellT l lo t
  | .leaf x, lo, h, hs => leaf_any x h hlen hs
  | .not t, lo, h, hs => tell_not (tell_any hlen t lo h hs.not) h (by have := hs.len; simp only [PT.size] at this; omega) hlen hs
  | .bin k t u, lo, h, hs => by
    have hl := hs.len
    simp only [PT.size] at hl
    simp only [PT.ok, Bool.and_eq_true, Bool.or_eq_true, beq_iff_eq] at h
    have h1 := tell_any hlen t lo h.1.2 hs.left
    have h2 := tell_any hlen u (lo + t.size) h.2 hs.right
    rcases h.1.1 with rfl | rfl
    · exact tell_bin8 h1 h2 h.1.2 h.2 (by omega) hlen hs
    · exact tell_bin9 h1 h2 h.1.2 h.2 (by omega) hlen hs
noncomputable def treeOf (l : List PN) (h : checkN l = 0) : PT := (tree_of_check h).choose
theorem treeOf_spec (l : List PN) (h : checkN l = 0) : (treeOf l h).ok = true ∧ (treeOf l h).flat 0 = l ∧ (treeOf l h).size ≤ 64 := (tree_of_check h).choose_spec
open Classical in
/-- what Text hands back: the text, the error -/
noncomputable def textP (l : List PN) : List UInt8 × Int := if h : checkN l = 0 then ((treeOf l h).tx, 0) else ([], checkN l)
theorem textP_ok {l : List PN} (h : checkN l = 0) : textP l = ((treeOf l h).tx, 0) := by unfold textP; rw [dif_pos h]
theorem textP_no {l : List PN} (h : checkN l ≠ 0) : textP l = ([], checkN l) := by unfold textP; rw [dif_neg h]
theorem textP_len (l : List PN) : (textP l).1.length ≤ 30000 := by
  by_cases h : checkN l = 0
  · rw [textP_ok h]
    obtain ⟨h1, _, h3⟩ := treeOf_spec l h
    have := tx_len _ h1
    simp only
    omega
  · rw [textP_no h]; simp
/-- what is told is read again -/
theorem parse_textP {l : List PN} (h : (textP l).2 = 0) (hl : (textP l).1.length ≤ 8192) : parseP (bs (textP l).1) = (l, 0, 0) ∧ checkN l = 0 := by
  by_cases hc : checkN l = 0
  · rw [textP_ok hc] at hl ⊢
    obtain ⟨h1, h2, _⟩ := treeOf_spec l hc
    have := parse_back h1 (by rw [h2]; exact hc) hl
    rw [h2] at this
    exact ⟨this, hc⟩
  · rw [textP_no hc] at h
    exact absurd h hc
theorem parseP_ok {s : ByteArray} (h : (parseP s).2.2 = 0) : checkN (parseP s).1 = 0 := by
  unfold parseP at h ⊢
  split at h
  · simp at h
  · rename_i h1
    rw [if_neg h1]
    split at h
    · simp at h
    · rename_i h2
      rw [if_neg h2]
      split at h
      · simp at h
      · rename_i h3
        rw [if_neg h3]
        split at h
        · rename_i h4; exact absurd h h4
        · rename_i h4
          rw [if_neg h4]
          exact Decidable.of_not_not h4
theorem parseP_len (s : ByteArray) (h : (parseP s).2.2 ≠ 0) : (parseP s).1 = [] := by
  unfold parseP at h ⊢
  split
  · rfl
  · rename_i h1
    rw [if_neg h1] at h
    split
    · rfl
    · rename_i h2
      rw [if_neg h2] at h
      split
      · rfl
      · rename_i h3
        rw [if_neg h3] at h
        split
        · rfl
        · rename_i h4
          rw [if_neg h4] at h
          exact absurd rfl h
theorem parseP_64 (s : ByteArray) : (parseP s).1.length ≤ 64 := by
  by_cases h : (parseP s).2.2 = 0
  · have := parseP_ok h
    unfold checkN at this
    split at this
    · omega
    · rename_i h1
      simp only [Bool.or_eq_true, decide_eq_true_eq, not_or] at h1
      omega
  · rw [parseP_len s h]; simp
set_option maxRecDepth 100000 in
set_option maxHeartbeats 3200000 in
theorem text_any (l : List PN) (S : Nat → Prop) (v : Value) (w : World) (hlen : l.length ≤ 1000000) (h : NodesAt w S v l) (hS : ∀ b, S b → b < w.heap.size) (hP : PTw w) :
    Calls Tryd.prog 34 #[.agg #[v]] w fun e w' => e = .returned (.tuple #[.string (bs (textP l).1), .int .i64 (textP l).2]) ∧ w.grownBy w' none := by
  have hK : ∀ (W : World), w.grownBy W none → NodesAt W S v l ∧ ∀ b, S b → b < W.heap.size := fun W hg => ⟨h.grown hg (fun b hb => ⟨hS b hb, by simp⟩), fun b hb => Nat.lt_of_lt_of_le (hS b hb) hg.size⟩
  have hC := fun (W : World) (hg : w.grownBy W none) => Lib.hid (check_any l S v W hlen (hK W hg).1 (hK W hg).2)
  by_cases hc : checkN l = 0
  · have hE := Lib.hid (textP_ok hc)
    obtain ⟨t1, t2, t3⟩ := treeOf_spec l hc
    have hst : Stands l 0 (treeOf l hc) := ⟨[], [], by rw [t2]; simp, rfl⟩
    have hlt : l.length = (treeOf l hc).size := by rw [← PT.flat_len (treeOf l hc) 0, t2]
    have hT := fun (W : World) (hg : w.grownBy W none) => Lib.hid (tell_any hlen (treeOf l hc) 0 t1 hst S v W (hK W hg).1 (hK W hg).2 (hP.to hg))
    rw [Nat.zero_add, ← hlt] at hT
    rw [hE.out]
    simp only
    have hpos := (treeOf l hc).pos
    rw [← hlt] at hpos
    obtain ⟨A, c, rfl, hA⟩ := h
    rw [hc] at hC
    generalize bs (treeOf l hc).tx = Z at *
    clear hK hE t1 t2 t3 hst hlt hA
    generalize l.length = n at *
    obtain ⟨j, hj⟩ : ∃ j : Int, j = (n : Int) - 1 := ⟨_, rfl⟩
    rw [← hj] at hT
    have hnI : (n : Int) ≤ 1000000 := by omega
    have hn1 : (1 : Int) ≤ (n : Int) := by omega
    subst hj
    go_enter Tryd.func34, Tryd.ntmps34
    go_wp2_with (first
      | (go_at_call 39; refine ((hC _ (gb_alloc (gb_refl _ _) _)).out).mono ?_; rintro e w1 ⟨rfl, hg1⟩; have d0 := cell_grown (w' := w1) (box_c0 w (.slice A n c)) hg1 (by simp))
      | (go_at_call 66; refine ((hT _ (gb_trans (gb_alloc (gb_refl _ _) _) hg1)).out).mono ?_; rintro e w2 ⟨rfl, hg2⟩))
    go_ret2
    exact ⟨rfl, gb_trans (gb_trans (gb_alloc (gb_refl _ _) _) hg1) hg2⟩
  · have hE := Lib.hid (textP_no hc)
    rw [hE.out]
    simp only
    obtain ⟨A, c, rfl, _⟩ := h
    have hcb : (checkN l != 0) = true := by simpa using hc
    have hz : bs [] = ⟨#[]⟩ := rfl
    rw [hz]
    clear hK hE hc hz
    generalize checkN l = E at *
    go_enter Tryd.func34, Tryd.ntmps34
    go_wp2_with (first
      | (go_at_call 39; refine ((hC _ (gb_alloc (gb_refl _ _) _)).out).mono ?_; rintro e w1 ⟨rfl, hg1⟩))
    go_ret2
    exact ⟨rfl, gb_trans (gb_alloc (gb_refl _ _) _) hg1⟩
end Go.Proofs.YtnnhkajjifmlfaaDoor.Pl
