/- The document's text: the short kinds. -/
import Derived.Test.YtnnhkajjifmlfaaDoorTi
import Derived.Test.YtnnhkajjifmlfaaDoorTb
import Derived.Lib.AppendStr
namespace Go.Proofs.YtnnhkajjifmlfaaDoor
open Go.RowKit Go.Maps

/-- bytes appended, told so that it chains -/
structure AQ (B : Nat) (w : World) (acc : List UInt8) (v' : Value) (w' : World) : Prop where
  own : OB B acc v' w'
  bel : Below B w w'
  oth : Lib.OthersKept 5 none w w'
theorem own_block {B g : Nat} {w : World} {v : Value} {acc : List UInt8} (h : OB B acc v w) (e : v.ownBlock = some g) : ∃ cs fz, w.heap[g]? = some (.cells cs 5 fz) := by
  rcases h.2 with ⟨rfl, _⟩ | ⟨g', cap, cur, rfl, _, hh, _⟩
  · simp [Value.ownBlock] at e
  · injection e with e; subst e; exact ⟨cur, (0, 0), hh⟩
theorem oth_gb {B : Nat} {w w' : World} {v : Value} {acc : List UInt8} (h : OB B acc v w) (hg : w.grownBy w' v.ownBlock) : Lib.OthersKept 5 none w w' := fun k o hk _ hne => by
  have hlt : k < w.heap.size := (Array.getElem?_eq_some_iff.1 hk).1
  rw [hg.block k hlt ?_]
  · exact hk
  · intro e
    obtain ⟨cs, fz, hc⟩ := own_block h e.symm
    rw [hc] at hk
    injection hk with hk
    exact hne cs fz hk.symm
theorem AQ.of_gb {B : Nat} {w w' : World} {v v' : Value} {acc acc' : List UInt8} (h : OB B acc v w) (hB : B ≤ w.heap.size) (hg : w.grownBy w' v.ownBlock) (h' : OB B acc' v' w') : AQ B w acc' v' w' :=
  ⟨h', below_gb hg hB (fun g hg' => (h.lt g hg').1), oth_gb h hg⟩
theorem AQ.trans {B : Nat} {w w1 w2 : World} {v1 v2 : Value} {acc1 acc2 : List UInt8} (h : AQ B w acc1 v1 w1) (k : AQ B w1 acc2 v2 w2) : AQ B w acc2 v2 w2 := ⟨k.own, h.bel.trans k.bel, h.oth.trans k.oth⟩
theorem AP.aq {B : Nat} {w w' : World} {v v' : Value} {acc acc' : List UInt8} (h : AP B w v acc' v' w') (ho : OB B acc v w) (hB : B ≤ w.heap.size) : AQ B w acc' v' w' := AQ.of_gb ho hB h.gb h.own
theorem OB.str {B : Nat} {w : World} {v : Value} {acc : List UInt8} {s : ByteArray} (h : w.ownsRow B 5 1 v (acc.length + s.size) (Lib.byteCells acc ++ Lib.strCells s)) : OB B (acc ++ s.data.toList) v w := by
  show w.ownsRow B 5 1 v (acc ++ s.data.toList).length (Lib.byteCells (acc ++ s.data.toList))
  have e : Lib.byteCells (acc ++ s.data.toList) = Lib.byteCells acc ++ Lib.strCells s := by simp [Lib.byteCells, Lib.strCells]
  rw [e, List.length_append, Array.length_toList]
  exact h
theorem gb_row {w w' : World} {row : Option Nat} (h : w.grownBy w' none) : w.grownBy w' row := ⟨h.os, h.tape, h.output, h.size, fun i hi _ => h.block i hi (by simp)⟩
theorem OB.still {B : Nat} {w w' : World} {v : Value} {acc : List UInt8} (h : OB B acc v w) (hg : w.grownBy w' none) : OB B acc v w' := World.ownsRow.kept h hg (by cases e : v.ownBlock <;> simp)
/-- what the document's text does: the value's text behind what there was -/
def DocC (j : J) : Prop := ∀ (B : Nat) (acc : List UInt8) (S : Nat → Prop) (ov v : Value) (w : World), OB B acc ov w → acc.length + 30 * szJ j ≤ 900000000 → B ≤ w.heap.size → (∀ x, S x → x < B) → JAt w S j v → fineP j = true →
    Calls Tryd.prog 53 #[ov, v] w fun e w' => ∃ v', e = .returned v' ∧ AQ B w (acc ++ textJ j) v' w'
set_option maxRecDepth 100000 in
set_option maxHeartbeats 3200000 in
theorem doc_1 (n : Int) (t : ByteArray) (names : List ByteArray) (list : List J) : DocC (.mk 1 n t names list) := by
  intro B acc S ov v w hb hl hB hS hv hf
  obtain ⟨i0, hi0, hz0, hz1, hz2⟩ := info_parts info5
  obtain ⟨nv, lv, rfl, hN, hL⟩ := hv.parts
  have hg1 : w.grownBy (w.alloc (.cells #[.int .i64 1, .int .i64 n, .string t, nv, lv] 26)) ov.ownBlock := gb_alloc (gb_refl w _) _
  have J0 := JB.new w (.int .i64 1) (.int .i64 n) (.string t) nv lv
  obtain ⟨d0, d1, d2, d3, d4, df⟩ := J0.all
  have hT : Hid (textJ (.mk 1 n t names list) = (⟨#[110, 117, 108, 108]⟩ : ByteArray).data.toList) := by unfold Hid; rw [textJ]; rfl
  have h4 : (⟨#[110, 117, 108, 108]⟩ : ByteArray).size = 4 := rfl
  clear hv hN hL hf
  go_enter Tryd.func53, Tryd.ntmps53
  go_wp2_with (first
    | (at_builtin; refine Lib.wpList_append_own_string _ rfl _ _ 78 _ rfl B 5 i0 Tryd.underlying78 Tryd.underlying9 hi0 hz0 hz1 hz2 ov acc.length _ rfl (hb.alloc _) ⟨#[110, 117, 108, 108]⟩ rfl (by unfold maxLen; omega) (by omega) (by simp; omega) ?_; intro v1 w1 hown1 hg2 _))
  go_ret
  exact ⟨_, rfl, by rw [hT.out]; exact AQ.of_gb hb hB (gb_trans hg1 hg2) (OB.str hown1)⟩
set_option maxRecDepth 100000 in
set_option maxHeartbeats 3200000 in
theorem doc_2 (n : Int) (t : ByteArray) (names : List ByteArray) (list : List J) : DocC (.mk 2 n t names list) := by
  intro B acc S ov v w hb hl hB hS hv hf
  obtain ⟨i0, hi0, hz0, hz1, hz2⟩ := info_parts info5
  obtain ⟨nv, lv, rfl, hN, hL⟩ := hv.parts
  have hg1 : w.grownBy (w.alloc (.cells #[.int .i64 2, .int .i64 n, .string t, nv, lv] 26)) ov.ownBlock := gb_alloc (gb_refl w _) _
  have J0 := JB.new w (.int .i64 2) (.int .i64 n) (.string t) nv lv
  obtain ⟨d0, d1, d2, d3, d4, df⟩ := J0.all
  have hn : n = 0 ∨ n = 1 := by
    rw [fineP] at hf
    simp at hf
    exact hf.1.1.1
  have h4 : (⟨#[102, 97, 108, 115, 101]⟩ : ByteArray).size = 5 := rfl
  have h5 : (⟨#[116, 114, 117, 101]⟩ : ByteArray).size = 4 := rfl
  clear hv hN hL hf
  rcases hn with rfl | rfl
  · have hT : Hid (textJ (.mk 2 0 t names list) = (⟨#[102, 97, 108, 115, 101]⟩ : ByteArray).data.toList) := by unfold Hid; rw [textJ]; rfl
    go_enter Tryd.func53, Tryd.ntmps53
    go_wp2_with (first
      | (at_builtin; refine Lib.wpList_append_own_string _ rfl _ _ 78 _ rfl B 5 i0 Tryd.underlying78 Tryd.underlying9 hi0 hz0 hz1 hz2 ov acc.length _ rfl (hb.alloc _) ⟨#[102, 97, 108, 115, 101]⟩ rfl (by unfold maxLen; omega) (by omega) (by simp; omega) ?_; intro v1 w1 hown1 hg2 _))
    go_ret
    exact ⟨_, rfl, by rw [hT.out]; exact AQ.of_gb hb hB (gb_trans hg1 hg2) (OB.str hown1)⟩
  · have hT : Hid (textJ (.mk 2 1 t names list) = (⟨#[116, 114, 117, 101]⟩ : ByteArray).data.toList) := by unfold Hid; rw [textJ]; rfl
    go_enter Tryd.func53, Tryd.ntmps53
    go_wp2_with (first
      | (at_builtin; refine Lib.wpList_append_own_string _ rfl _ _ 78 _ rfl B 5 i0 Tryd.underlying78 Tryd.underlying9 hi0 hz0 hz1 hz2 ov acc.length _ rfl (hb.alloc _) ⟨#[116, 114, 117, 101]⟩ rfl (by unfold maxLen; omega) (by omega) (by simp; omega) ?_; intro v1 w1 hown1 hg2 _))
    go_ret
    exact ⟨_, rfl, by rw [hT.out]; exact AQ.of_gb hb hB (gb_trans hg1 hg2) (OB.str hown1)⟩
set_option maxRecDepth 100000 in
set_option maxHeartbeats 3200000 in
theorem doc_3 (n : Int) (t : ByteArray) (names : List ByteArray) (list : List J) (h0 : -9223372036854775808 ≤ n) (h1 : n ≤ 9223372036854775807) : DocC (.mk 3 n t names list) := by
  intro B acc S ov v w hb hl hB hS hv hf
  obtain ⟨i0, hi0, hz0, hz1, hz2⟩ := info_parts info5
  obtain ⟨nv, lv, rfl, hN, hL⟩ := hv.parts
  have hg1 : w.grownBy (w.alloc (.cells #[.int .i64 3, .int .i64 n, .string t, nv, lv] 26)) ov.ownBlock := gb_alloc (gb_refl w _) _
  have J0 := JB.new w (.int .i64 3) (.int .i64 n) (.string t) nv lv
  obtain ⟨d0, d1, d2, d3, d4, df⟩ := J0.all
  have hT : Hid (textJ (.mk 3 n t names list) = (⟨(Lib.itoa n).toArray⟩ : ByteArray).data.toList) := by unfold Hid; rw [textJ]; rfl
  have h4 : (⟨(Lib.itoa n).toArray⟩ : ByteArray).size ≤ 25 := by
    have := Lib.itoa_length_le n h0 h1
    rw [sizeT]; omega
  have hlb : acc.length + (⟨(Lib.itoa n).toArray⟩ : ByteArray).size ≤ 900000000 := by
    rw [szJ] at hl
    omega
  have HD := fun (W : World) => Lib.hid (digits_any (n.natAbs + 1) n (by omega) h0 h1 W)
  generalize (⟨(Lib.itoa n).toArray⟩ : ByteArray) = X at *
  clear hv hN hL hf hl h4 h0 h1
  go_enter Tryd.func53, Tryd.ntmps53
  go_wp2_with (first
    | (go_at_call 98; refine ((HD _).out).mono ?_; rintro e w3 ⟨rfl, hg3⟩; have hgA := gb_trans hg1 (gb_row hg3); have hbA := (hb.alloc (.cells #[.int .i64 3, .int .i64 n, .string t, nv, lv] 26)).still hg3)
    | (at_builtin; refine Lib.wpList_append_own_string _ rfl _ _ 78 _ rfl B 5 i0 Tryd.underlying78 Tryd.underlying9 hi0 hz0 hz1 hz2 ov acc.length _ rfl hbA X rfl (by unfold maxLen; omega) (by omega) (by have := hg3.size; simp at this ⊢; omega) ?_; intro v1 w1 hown1 hg2 _))
  go_ret
  exact ⟨_, rfl, by rw [hT.out]; exact AQ.of_gb hb hB (gb_trans hgA hg2) (OB.str hown1)⟩
set_option maxRecDepth 100000 in
set_option maxHeartbeats 3200000 in
theorem doc_4 (n : Int) (t : ByteArray) (names : List ByteArray) (list : List J) : DocC (.mk 4 n t names list) := by
  intro B acc S ov v w hb hl hB hS hv hf
  obtain ⟨nv, lv, rfl, hN, hL⟩ := hv.parts
  have hg1 : w.grownBy (w.alloc (.cells #[.int .i64 4, .int .i64 n, .string t, nv, lv] 26)) ov.ownBlock := gb_alloc (gb_refl w _) _
  have J0 := JB.new w (.int .i64 4) (.int .i64 n) (.string t) nv lv
  obtain ⟨d0, d1, d2, d3, d4, df⟩ := J0.all
  have hT : Hid (textJ (.mk 4 n t names list) = quoteL t) := by unfold Hid; rw [textJ]; rfl
  have hlb : acc.length + 6 * t.size + 2 ≤ 1000000000 := by
    rw [szJ] at hl
    omega
  clear hv hN hL hf hl
  go_enter Tryd.func53, Tryd.ntmps53
  go_wp2_with (first
    | (go_at_call 60; refine (quoted_any B acc ov t _ (hb.alloc _) hlb (by simp; omega)).mono ?_; rintro e w3 ⟨v3, rfl, hA3⟩))
  go_ret
  exact ⟨_, rfl, by rw [hT.out]; exact AQ.of_gb hb hB (gb_trans hg1 hA3.gb) hA3.own⟩
end Go.Proofs.YtnnhkajjifmlfaaDoor
