/- JsonBack: the walk. -/
import Derived.Test.YtnnhkajjifmlfaaDoorTb
import Derived.RegionTactic
namespace Go.Proofs.YtnnhkajjifmlfaaDoor
open Go.RowKit Go.Maps

theorem JLen.of {j : J} (hj : JBd j) : szJ j ≤ 1000000 → JLen 1000000 j := by
  induction hj with
  | @mk k n t names list h0 h1 ht hnl hll hs hr ih =>
    intro h
    rw [szJ] at h
    have hN : ∀ l : List ByteArray, l.length ≤ szN l := by
      intro l
      induction l with
      | nil => exact Nat.le_refl _
      | cons a r ih => simp only [List.length_cons, szN]; omega
    have hL : ∀ l : List J, l.length ≤ szJs l := by
      intro l
      induction l with
      | nil => exact Nat.zero_le _
      | cons a r ih => have := szJ_pos a; simp only [List.length_cons, szJs]; omega
    have hM : ∀ (l : List J) (x : J), x ∈ l → szJ x ≤ szJs l := by
      intro l
      induction l with
      | nil => intro x hx; cases hx
      | cons a r ih =>
        intro x hx
        rw [szJs]
        rcases List.mem_cons.1 hx with rfl | hx
        · omega
        · have := ih x hx; omega
    have a1 := hN names
    have a2 := hL list
    exact .mk (by omega) (by omega) fun x hx => ih x hx (by have := hM list x hx; omega)
/-- a value that may be is told in at least as many bytes as it has parts -/
theorem sz_text {j : J} (hj : JBd j) : fineP j = true → szJ j ≤ (textJ j).length := by
  induction hj with
  | @mk k n t names list h0 h1 ht hnl hll hs hr ih =>
    intro hf
    have hi : ∀ (l : List J) (nm : List ByteArray) (first : Bool), (∀ x ∈ l, szJ x ≤ (textJ x).length) → (k = 6 → nm.length = l.length) → (k ≠ 6 → nm = []) → szN nm + szJs l ≤ (itemsJ k first nm l).length := by
      intro l
      induction l with
      | nil =>
        intro nm first _ h6 h5
        have : nm = [] := by
          by_cases e : k = 6
          · exact List.eq_nil_of_length_eq_zero (h6 e)
          · exact h5 e
        subst this
        rw [items_nil]; simp [szN, szJs]
      | cons x r ih2 =>
        intro nm first hx h6 h5
        have b1 := hx x (by simp)
        rw [itemsJ, szJs]
        by_cases e : k = 6
        · cases nm with
          | nil => have := h6 e; simp at this
          | cons a ns =>
            have b2 := ih2 ns false (fun y hy => hx y (by simp [hy])) (fun e => by have := h6 e; simpa using this) (fun e' => absurd e e')
            have b3 : 1 + a.size ≤ (nameL k (a :: ns)).length := by
              unfold nameL
              rw [if_pos e]
              have := qlist_ge a.data.toList
              have e3 : a.data.toList.length = a.size := by rw [Array.length_toList]; rfl
              unfold quoteL
              simp only [List.headD_cons, List.length_append, List.length_cons, List.length_nil]
              omega
            simp only [List.length_append, szN, List.tail_cons]
            omega
        · have h5' := h5 e
          subst h5'
          have b2 := ih2 [] false (fun y hy => hx y (by simp [hy])) (fun e' => absurd e' e) (fun _ => rfl)
          simp only [List.length_append, szN, List.tail_nil] at b2 ⊢
          omega
    rw [szJ, textJ]
    rw [fineP] at hf
    by_cases k1 : k = 1
    · rw [if_pos k1] at hf ⊢
      simp only [Bool.and_eq_true, decide_eq_true_eq] at hf
      obtain ⟨⟨⟨a1, a2⟩, a3⟩, a4⟩ := hf
      have b3 := List.eq_nil_of_length_eq_zero a3
      have b4 := List.eq_nil_of_length_eq_zero a4
      subst b3 b4
      simp [szN, szJs, a2]
    rw [if_neg k1] at hf ⊢
    by_cases k2 : k = 2
    · rw [if_pos k2] at hf ⊢
      simp only [Bool.and_eq_true, decide_eq_true_eq] at hf
      obtain ⟨⟨⟨a1, a2⟩, a3⟩, a4⟩ := hf
      have b3 := List.eq_nil_of_length_eq_zero a3
      have b4 := List.eq_nil_of_length_eq_zero a4
      subst b3 b4
      split <;> simp [szN, szJs, a2]
    rw [if_neg k2] at hf ⊢
    by_cases k3 : k = 3
    · rw [if_pos k3] at hf ⊢
      simp only [Bool.and_eq_true, decide_eq_true_eq] at hf
      obtain ⟨⟨a2, a3⟩, a4⟩ := hf
      have b3 := List.eq_nil_of_length_eq_zero a3
      have b4 := List.eq_nil_of_length_eq_zero a4
      subst b3 b4
      have : 1 ≤ (Lib.itoa n).length := by
        unfold Lib.itoa
        split
        · simp
        · have := dec_ne n.toNat
          cases h : Lib.decDigits n.toNat with
          | nil => exact absurd h this
          | cons a b => simp
      simp only [szN, szJs, a2]; omega
    rw [if_neg k3] at hf ⊢
    by_cases k4 : k = 4
    · rw [if_pos k4] at hf ⊢
      simp only [Bool.and_eq_true, decide_eq_true_eq] at hf
      obtain ⟨⟨a1, a3⟩, a4⟩ := hf
      have b3 := List.eq_nil_of_length_eq_zero a3
      have b4 := List.eq_nil_of_length_eq_zero a4
      subst b3 b4
      have h1 := qlist_ge t.data.toList
      have e3 : t.data.toList.length = t.size := by rw [Array.length_toList]; rfl
      unfold quoteL
      simp only [szN, szJs, List.length_cons, List.length_append, List.length_nil]; omega
    rw [if_neg k4] at hf ⊢
    by_cases k5 : k = 5
    · rw [if_pos k5] at hf
      simp only [Bool.and_eq_true, decide_eq_true_eq] at hf
      obtain ⟨⟨⟨a1, a2⟩, a3⟩, a4⟩ := hf
      have := hi list names true (fun x hx => ih x hx (finePs_mem a4 x hx)) (fun e => absurd (k5.symm.trans e) (by decide)) (fun _ => List.eq_nil_of_length_eq_zero a3)
      simp only [List.length_cons, List.length_append, List.length_nil]; omega
    rw [if_neg k5] at hf
    by_cases k6 : k = 6
    · rw [if_pos k6] at hf
      simp only [Bool.and_eq_true, decide_eq_true_eq] at hf
      obtain ⟨⟨⟨a1, a2⟩, a3⟩, a4⟩ := hf
      have := hi list names true (fun x hx => ih x hx (finePs_mem a4 x hx)) (fun _ => a3) (fun e => absurd k6 e)
      simp only [List.length_cons, List.length_append, List.length_nil]; omega
    rw [if_neg k6] at hf
    cases hf
end Go.Proofs.YtnnhkajjifmlfaaDoor
