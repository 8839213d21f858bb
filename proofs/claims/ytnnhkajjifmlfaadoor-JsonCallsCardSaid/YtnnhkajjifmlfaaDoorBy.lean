/- What quote tells is read as the text: the plain law. -/
import Derived.Test.YtnnhkajjifmlfaaDoorB1
import Derived.Test.YtnnhkajjifmlfaaDoorJc
import Derived.Test.YtnnhkajjifmlfaaDoorB2
import Derived.Test.YtnnhkajjifmlfaaDoorShelfB
namespace Go.Proofs.YtnnhkajjifmlfaaDoor
open Go.RowKit Go.Maps

section
variable {q : ByteArray}
/-- from a place on the bytes are these -/
def From (q : ByteArray) (p : Nat) (l : List UInt8) : Prop := q.data.toList.drop p = l
theorem From.chr {p : Nat} {c : UInt8} {l : List UInt8} (h : From q p (c :: l)) : Go.Proofs.YtnnhkajjifmlfaaDoor.chr q p = c.toNat ∧ p < q.size := by
  unfold From at h
  have hlt : p < q.data.toList.length := by
    rcases Nat.lt_or_ge p q.data.toList.length with h1 | h1
    · exact h1
    · rw [List.drop_of_length_le h1] at h; cases h
  have hlt' : p < q.size := by rw [Array.length_toList] at hlt; exact hlt
  rw [List.drop_eq_getElem_cons hlt] at h
  injection h with h1 h2
  rw [chr_in hlt']
  refine ⟨?_, hlt'⟩
  rw [← h1]; rfl
theorem From.tail {p : Nat} {c : UInt8} {l : List UInt8} (h : From q p (c :: l)) : From q (p + 1) l := by
  unfold From at h ⊢
  rw [← List.drop_drop, h]; rfl
theorem From.nil {p : Nat} (h : From q p []) : q.size ≤ p := by
  unfold From at h
  have := congrArg List.length h
  rw [List.length_drop, Array.length_toList] at this
  simp only [List.length_nil] at this
  have e : q.data.size = q.size := rfl
  omega
end
def quoteB (s : ByteArray) : ByteArray := ⟨(34 :: (qlist s.data.toList ++ [34])).toArray⟩
end Go.Proofs.YtnnhkajjifmlfaaDoor
/-! json.Quote: it computes quoteB. -/
namespace Go.Proofs.YtnnhkajjifmlfaaDoor
open Go.RowKit Go.Maps

theorem bt_fresh (w : World) : BT w.heap.size w.heap.size [] (w.alloc (.cells #[.pointer none, .slice none 0 0] 80)) := Lib.IsBuilderF.of (Lib.fresh_isBuilder 80 5 w)
set_option maxRecDepth 100000 in
set_option maxHeartbeats 800000 in
theorem Quote_any (s : ByteArray) (w : World) (hs : s.size ≤ 100000) : Calls Tryd.prog 18 #[.string s] w fun e w' => e = .returned (.string (quoteB s)) ∧ w.grownBy w' none := by
  have hbt := bt_fresh w
  have hg1 : w.grownBy (w.alloc (.cells #[.pointer none, .slice none 0 0] 80)) none := gb_alloc (gb_refl w none) _
  have H1 := Lib.hid (quote_any w.heap.size w.heap.size [] s _ hbt (by simp; omega) (by simp) (by simp))
  have hnil : 34 :: (qlist s.data.toList ++ [34]) ≠ [] := by simp
  go_enter Tryd.func18, Tryd.ntmps18
  go_wp2_with (first
    | (go_at_call 50; refine (Tryd.Builder_String_k w.heap.size w.heap.size (34 :: (qlist s.data.toList ++ [34])) _ (by simpa [BT] using hb2) hnil).mono ?_; rintro e w3 ⟨rfl, hb3, hl3, ho3⟩)
    | (go_at_call 51; refine (H1.out).mono ?_; rintro e w2 ⟨rfl, hb2, hl2, ho2⟩))
  go_ret
  exact ⟨rfl, gb_of_below ((below_gb' hg1 (Nat.le_refl _)).trans (hl2.trans hl3))⟩
end Go.Proofs.YtnnhkajjifmlfaaDoor
