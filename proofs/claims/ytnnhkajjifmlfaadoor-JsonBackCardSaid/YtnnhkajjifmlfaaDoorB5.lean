/- JsonQuote: the walk. -/
import Derived.Test.YtnnhkajjifmlfaaDoorB4
namespace Go.Proofs.YtnnhkajjifmlfaaDoor
open Go.RowKit Go.Maps

theorem qch_ok (c x : UInt8) (h : x ∈ qch c) : 32 ≤ x.toNat ∧ x.toNat ≤ 126 := by
  have hc := UInt8.toNat_lt c
  unfold qch at h
  by_cases h1 : 0 ≤ shc c.toNat
  · rw [if_pos h1] at h
    simp only [List.mem_cons, List.not_mem_nil, or_false] at h
    rcases h with rfl | rfl
    · decide
    · rcases shc_cases h1 with ⟨_, b⟩ | ⟨_, b⟩ | ⟨_, b⟩ | ⟨_, b⟩ | ⟨_, b⟩ | ⟨_, b⟩ | ⟨_, b⟩ <;> rw [b] <;> decide
  · rw [if_neg h1] at h
    by_cases h2 : 32 ≤ c.toNat ∧ c.toNat ≤ 126
    · rw [if_pos h2] at h
      rw [List.mem_singleton.1 h]; exact h2
    · rw [if_neg h2] at h
      have hx : ∀ i : Fin 16, 32 ≤ (hxd i).toUInt8.toNat ∧ (hxd i).toUInt8.toNat ≤ 126 := by decide
      simp only [List.mem_cons, List.not_mem_nil, or_false] at h
      rcases h with rfl | rfl | rfl | rfl | rfl | rfl
      · decide
      · decide
      · decide
      · decide
      · exact hx ⟨c.toNat / 16, by omega⟩
      · exact hx ⟨c.toNat % 16, by omega⟩
theorem qlist_ok (l : List UInt8) (x : UInt8) (h : x ∈ qlist l) : 32 ≤ x.toNat ∧ x.toNat ≤ 126 := by
  unfold qlist at h
  obtain ⟨c, _, h2⟩ := List.mem_flatMap.1 h
  exact qch_ok c x h2
theorem quoteB_ok (s : ByteArray) (i : Nat) (h : i < (quoteB s).size) : 32 ≤ (quoteB s)[i].toNat ∧ (quoteB s)[i].toNat ≤ 126 := by
  have hm : (quoteB s)[i] ∈ 34 :: (qlist s.data.toList ++ [34]) := by
    have : (quoteB s).data.toList = 34 :: (qlist s.data.toList ++ [34]) := by unfold quoteB; simp
    rw [← this]
    have h' : i < (quoteB s).data.toList.length := by rw [Array.length_toList]; exact h
    have e : (quoteB s)[i] = (quoteB s).data.toList[i] := by simp; rfl
    rw [e]
    exact List.getElem_mem h'
  rcases List.mem_cons.1 hm with e | e
  · rw [e]; decide
  · rcases List.mem_append.1 e with e | e
    · exact qlist_ok _ _ e
    · rw [List.mem_singleton.1 e]; decide
theorem quoteB_first (s : ByteArray) (h : 0 < (quoteB s).size) : (quoteB s)[0] = 34 := by
  show (quoteB s).data[0] = 34
  unfold quoteB
  rfl
theorem quoteB_last (s : ByteArray) (i : Nat) (h : i < (quoteB s).size) (hi : i + 1 = (quoteB s).size) : (quoteB s)[i] = 34 := by
  have hq := quoteB_size s
  have h' : i < (34 :: (qlist s.data.toList ++ [34])).length := by simp; omega
  have e : (quoteB s)[i] = (34 :: (qlist s.data.toList ++ [34]))[i] := by
    show (quoteB s).data[i] = _
    unfold quoteB
    simp
  refine Eq.trans e ?_
  have hi2 : i = (qlist s.data.toList).length + 1 := by omega
  subst hi2
  simp
set_option maxHeartbeats 800000 in
theorem textJ_any (s : ByteArray) (w : World) : Calls Tryd.prog 19 #[.string s] w fun e w' => e = .returned (.agg #[.int .i64 4, .int .i64 0, .string s, .slice none 0 0, .slice none 0 0]) ∧ w.grownBy w' none := by
  have hJ := JB.new w (.int .i64 4) (.int .i64 0) (.string s) (.slice none 0 0) (.slice none 0 0)
  obtain ⟨q0, q1, q2, q3, q4, qf⟩ := hJ.all
  go_enter Tryd.func19, Tryd.ntmps19
  go_wp2_with fail
  refine bodyPost_ret (v := .agg #[.int .i64 4, .int .i64 0, .string s, .slice none 0 0, .slice none 0 0]) (by simp [results, Tryd.results19, go_sem, q0, q1, q2, q3, q4]) rfl ?_
  exact ⟨rfl, gb_alloc (gb_refl w none) _⟩
end Go.Proofs.YtnnhkajjifmlfaaDoor
