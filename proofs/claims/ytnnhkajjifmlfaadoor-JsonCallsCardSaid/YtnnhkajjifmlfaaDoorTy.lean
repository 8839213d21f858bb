/- JsonBack: the walk. -/
import Derived.Test.YtnnhkajjifmlfaaDoorTb
import Derived.RegionTactic
namespace Go.Proofs.YtnnhkajjifmlfaaDoor
open Go.RowKit Go.Maps

theorem JLen.of {j : J} (hj : JBd j) : szJ j ≤ 1000000 → JLen 1000000 j := by
  induction hj with
  | @mk k n t names list h0 h1 ht hnl hll hs hr ih =>
    intro h
    rw [szJ] at h
    have hN : ∀ l : List ByteArray, l.length ≤ szN l := by
      intro l
      induction l with
      | nil => exact Nat.le_refl _
      | cons a r ih => simp only [List.length_cons, szN]; omega
    have hL : ∀ l : List J, l.length ≤ szJs l := by
      intro l
      induction l with
      | nil => exact Nat.zero_le _
      | cons a r ih => have := szJ_pos a; simp only [List.length_cons, szJs]; omega
    have hM : ∀ (l : List J) (x : J), x ∈ l → szJ x ≤ szJs l := by
      intro l
      induction l with
      | nil => intro x hx; cases hx
      | cons a r ih =>
        intro x hx
        rw [szJs]
        rcases List.mem_cons.1 hx with rfl | hx
        · omega
        · have := ih x hx; omega
    have a1 := hN names
    have a2 := hL list
    exact .mk (by omega) (by omega) fun x hx => ih x hx (by have := hM list x hx; omega)
end Go.Proofs.YtnnhkajjifmlfaaDoor
/-! JsonBack: the walk. -/
namespace Go.Proofs.YtnnhkajjifmlfaaDoor
open Go.RowKit Go.Maps

theorem JAt.same {w : World} {S : Nat → Prop} {j : J} {v : Value} (h : JAt w S j v) : ∃ nv lv, v = .agg #[.int .i64 j.k, .int .i64 j.n, .string j.t, nv, lv] := by
  obtain ⟨k, n, t, names, list⟩ := j
  obtain ⟨nv, lv, e, _⟩ := h.parts
  exact ⟨nv, lv, e⟩
/-- two texts put together -/
theorem run_add_text {a b : ByteArray} (ha : a.size ≤ 10000) (hb : b.size ≤ 10000) {w : World} : (Op.stringOp .add a b).run Tryd.prog w = .ok (.string (a ++ b)) w :=
  run_string_add_sum w a b (by omega)
theorem sizeT (l : List UInt8) : (⟨l.toArray⟩ : ByteArray).size = l.length := by show l.toArray.size = _; simp

section
variable {w : World} (hG : Gv w) (hw6 : 6 ≤ w.heap.size) (hPT : ∀ W, w.grownBy W none → PT W)
include hPT in
theorem pb_of {W : World} (hg : w.grownBy W none) : PB W.heap.size W := fun W' h => hPT W' (gb_trans hg (gb_of_below h))

end
end Go.Proofs.YtnnhkajjifmlfaaDoor
