/- Policies: one thing is read: the walks. -/
import Derived.Test.YtnnhkajjifmlfaaDoorPi
namespace Go.Proofs.YtnnhkajjifmlfaaDoor.Pl
open Go.RowKit Go.Maps

theorem sign_yes (R : Nat) (s : ByteArray) (c : UInt8) (σ : PQ) (nv : Value) (w : World) (h : PB w R s σ nv) (hp : σ.p ≤ s.size) (hs : s.size ≤ 2000000) (hc : signB c σ = true) :
    Calls Tryd.prog 109 #[.pointer (some ⟨R, 0, none⟩), .string ⟨#[c]⟩] w (PS1 R s nv w (.bool true) (nextP s σ)) := by
  have := sign_any R s ⟨#[c]⟩ σ nv w h hp hs
  rw [if_pos (show signT ⟨#[c]⟩ σ = true from hc), show signT ⟨#[c]⟩ σ = true from hc] at this
  exact this
theorem sign_no (R : Nat) (s : ByteArray) (c : UInt8) (σ : PQ) (nv : Value) (w : World) (h : PB w R s σ nv) (hp : σ.p ≤ s.size) (hs : s.size ≤ 2000000) (hc : signB c σ = false) :
    Calls Tryd.prog 109 #[.pointer (some ⟨R, 0, none⟩), .string ⟨#[c]⟩] w (PS1 R s nv w (.bool false) σ) := by
  have := sign_any R s ⟨#[c]⟩ σ nv w h hp hs
  have e : signT ⟨#[c]⟩ σ = false := hc
  rw [if_neg (by rw [e]; decide), e] at this
  exact this
/-- a block that holds a node -/
def NB (w : World) (L : Nat) (x : PN) : Prop := w.heap[L]? = some (.cells #[.int .i64 x.k, .int .i64 x.n, .string x.a, .string x.b, .int .i64 x.l, .int .i64 x.r] 64 (0, 0))
section
variable {w w' : World} {L : Nat} {x : PN}
theorem NB.lt (h : NB w L x) : L < w.heap.size := (Array.getElem?_eq_some_iff.1 h).1
theorem NB.all (h : NB w L x) : w.cell? ⟨L, 0, none⟩ = some (.int .i64 x.k) ∧ w.cell? ⟨L, 1, none⟩ = some (.int .i64 x.n) ∧ w.cell? ⟨L, 2, none⟩ = some (.string x.a) ∧ w.cell? ⟨L, 3, none⟩ = some (.string x.b) ∧ w.cell? ⟨L, 4, none⟩ = some (.int .i64 x.l) ∧ w.cell? ⟨L, 5, none⟩ = some (.int .i64 x.r) ∧ ∀ i, w.frozen? ⟨L, i, none⟩ = false := by
  unfold NB at h
  refine ⟨?_, ?_, ?_, ?_, ?_, ?_, fun i => by simp [World.frozen?, h]⟩
  · rw [cell_of_row w L 0 _ _ _ h]; rfl
  · rw [cell_of_row w L 1 _ _ _ h]; rfl
  · rw [cell_of_row w L 2 _ _ _ h]; rfl
  · rw [cell_of_row w L 3 _ _ _ h]; rfl
  · rw [cell_of_row w L 4 _ _ _ h]; rfl
  · rw [cell_of_row w L 5 _ _ _ h]; rfl
theorem NB.kept (h : NB w L x) {row : Option Nat} (hg : w.grownBy w' row) (hne : some L ≠ row) : NB w' L x := (hg.block L h.lt hne).trans h
theorem NB.set0 (h : NB w L x) (q : Int) : NB (w.setCell ⟨L, 0, none⟩ (.int .i64 q)) L { x with k := q } := by
  unfold NB at h ⊢; simp [World.setCell, Array.getElem?_modify, h]
theorem NB.set2 (h : NB w L x) (q : ByteArray) : NB (w.setCell ⟨L, 2, none⟩ (.string q)) L { x with a := q } := by
  unfold NB at h ⊢; simp [World.setCell, Array.getElem?_modify, h]
theorem NB.new (w : World) : NB (w.alloc (.cells #[.int .i64 0, .int .i64 0, .string ⟨#[]⟩, .string ⟨#[]⟩, .int .i64 0, .int .i64 0] 64)) w.heap.size ⟨0, 0, ⟨#[]⟩, ⟨#[]⟩, 0, 0⟩ := heap_alloc_new w _
end
/-- a store into new memory is no turn of what was -/
theorem gb_setN {a w : World} {row : Option Nat} {L : Nat} (h : a.grownBy w row) (hL : a.heap.size ≤ L) (i : Nat) (u : Value) : a.grownBy (w.setCell ⟨L, i, none⟩ u) row :=
  ⟨h.os, h.tape, h.output, by simpa [World.setCell] using h.size, fun j hj hne => (Below.heap_setCell _ ⟨L, i, none⟩ u j (by simp; omega)).trans (h.block j hj hne)⟩
/-! nothing is put on the way -/
section
variable {s : ByteArray}
theorem fault_ns (σ : PQ) : (faultP σ).ns = σ.ns := by unfold faultP; split <;> rfl
theorem take_ns (k : Int) (σ : PQ) : (takeP s k σ).2.ns = σ.ns := by
  have h1 : (takeP1 k σ).ns = σ.ns := by unfold takeP1; split; rfl; exact fault_ns σ
  unfold takeP
  split
  · exact h1
  · exact (next_gr s _).2.trans h1
theorem need_ns (c : UInt8) (σ : PQ) : (needP s c σ).ns = σ.ns := by
  unfold needP; split; exact (next_gr s σ).2; exact fault_ns σ
theorem num_ns (σ : PQ) : (numP s σ).2.ns = σ.ns := take_ns 2 σ
end
theorem txt_yes {x t : ByteArray} {l : List UInt8} (ht : t.toList = l) (h : x = t) : (x.toList == l) = true := by rw [← ht, ba_beq, decide_eq_true h]
theorem txt_no {x t : ByteArray} {l : List UInt8} (ht : t.toList = l) (h : x ≠ t) : (x.toList == l) = false := by rw [← ht, ba_beq, decide_eq_false h]
theorem tl_wAlways : (wAlways).toList = [97, 108, 119, 97, 121, 115] := by rw [Lib.toList_data]; rfl
theorem tl_wError : (wError).toList = [101, 114, 114, 111, 114] := by rw [Lib.toList_data]; rfl
theorem tl_wSlow : (wSlow).toList = [115, 108, 111, 119] := by rw [Lib.toList_data]; rfl
theorem tl_wRatio : (wRatio).toList = [114, 97, 116, 105, 111] := by rw [Lib.toList_data]; rfl
theorem tl_wService : (wService).toList = [115, 101, 114, 118, 105, 99, 101] := by rw [Lib.toList_data]; rfl
theorem tl_wTag : (wTag).toList = [116, 97, 103] := by rw [Lib.toList_data]; rfl
set_option maxRecDepth 100000 in
set_option maxHeartbeats 3200000 in
theorem one_always (B R : Nat) (s : ByteArray) (F : PQ → Int × PQ) (σ : PQ) (w : World) (h : PR B R s σ w) (hl : Lk s σ) (hn : σ.ns.length ≤ 1000000) (hs : s.size ≤ 2000000) (_hG : Gv w) (_hB6 : 6 ≤ B) (hsg : signB 40 σ = false) (hx : (takeP s 1 σ).1 = wAlways) :
    Calls Tryd.prog 159 #[.pointer (some ⟨R, 0, none⟩)] w (RI B R s w (oneP s F σ).1 (oneP s F σ).2) := by
  have hE : oneP s F σ = putP (wordP s (takeP s 1 σ).1 (takeP s 1 σ).2).1 (wordP s (takeP s 1 σ).1 (takeP s 1 σ).2).2 := by unfold oneP; rw [hsg]; rfl
  rw [hE]
  clear hE
  have hBw := h.gr
  obtain ⟨hB, A, c, hR, hown, hne⟩ := h
  have hRl := hR.lt
  have hS := Lib.hid (sign_no R s 40 σ _ w hR hl.ps hs hsg)
  have hT := fun W (hh : PB W R s σ (.slice A σ.ns.length c)) => Lib.hid (take_any R s 1 σ _ W hh hl.ps hs)
  have hlk1 := (gn_take hl 1).lk
  have hns1 : (takeP s 1 σ).2.ns = σ.ns := take_ns 1 σ
  generalize takeP s 1 σ = y at *
  obtain ⟨x, τ⟩ := y
  simp only at *
  have e0 := txt_yes tl_wAlways (x := x) (t := wAlways) hx
  have hW : wordP s x τ = (⟨1, 0, ⟨#[]⟩, ⟨#[]⟩, 0, 0⟩, τ) := by unfold wordP; rw [if_pos hx]
  rw [hW]
  clear hW hx
  have hP := fun W (hh : PR B R s τ W) => Lib.hid (put_any B R s τ ⟨1, 0, ⟨#[]⟩, ⟨#[]⟩, 0, 0⟩ W hh (by rw [hns1]; exact hn))
  go_enter Tryd.func159, Tryd.ntmps159
  go_wp2_with (first
    | (go_at_call 109; refine (hS.out).mono ?_; rintro e w1 ⟨rfl, hR1, hg1⟩; have hN1 := NB.new w1; have hRA := hR1.alloc (.cells #[.int .i64 0, .int .i64 0, .string ⟨#[]⟩, .string ⟨#[]⟩, .int .i64 0, .int .i64 0] 64); have hR1l := hR1.lt)
    | (go_at_call 175; refine ((hT _ (by exact hRA)).out).mono ?_; rintro e w2 ⟨rfl, hR2, hg2⟩; have hN2 := hN1.kept hg2 (by simp; omega); have hgb2 : w.grownBy w2 (some R) := gb_trans (gb_alloc hg1 _) hg2; have hL2 : w.heap.size ≤ w1.heap.size := hg1.size; obtain ⟨m0, m1, m2, m3, m4, m5, mf⟩ := hN2.all)
    | (go_at_call 110; obtain ⟨hPR, hbl⟩ := PR.ps1 (w' := (w2).setCell ⟨w1.heap.size, 0, none⟩ (.int .i64 1)) hB hown hne (by exact (hR2).far (q := ⟨w1.heap.size, 0, none⟩) (by simp; omega) _) (by exact gb_setN (hgb2) hL2 _ _) hns1 hBw; refine ((hP _ hPR).out).mono ?_; rintro e w5 ⟨rfl, hPR3, hb3⟩))
  go_ret
  exact ⟨rfl, hPR3, hbl.trans hb3⟩
set_option maxRecDepth 100000 in
set_option maxHeartbeats 3200000 in
theorem one_error (B R : Nat) (s : ByteArray) (F : PQ → Int × PQ) (σ : PQ) (w : World) (h : PR B R s σ w) (hl : Lk s σ) (hn : σ.ns.length ≤ 1000000) (hs : s.size ≤ 2000000) (_hG : Gv w) (_hB6 : 6 ≤ B) (hsg : signB 40 σ = false) (hx : (takeP s 1 σ).1 = wError) :
    Calls Tryd.prog 159 #[.pointer (some ⟨R, 0, none⟩)] w (RI B R s w (oneP s F σ).1 (oneP s F σ).2) := by
  have hE : oneP s F σ = putP (wordP s (takeP s 1 σ).1 (takeP s 1 σ).2).1 (wordP s (takeP s 1 σ).1 (takeP s 1 σ).2).2 := by unfold oneP; rw [hsg]; rfl
  rw [hE]
  clear hE
  have hBw := h.gr
  obtain ⟨hB, A, c, hR, hown, hne⟩ := h
  have hRl := hR.lt
  have hS := Lib.hid (sign_no R s 40 σ _ w hR hl.ps hs hsg)
  have hT := fun W (hh : PB W R s σ (.slice A σ.ns.length c)) => Lib.hid (take_any R s 1 σ _ W hh hl.ps hs)
  have hlk1 := (gn_take hl 1).lk
  have hns1 : (takeP s 1 σ).2.ns = σ.ns := take_ns 1 σ
  generalize takeP s 1 σ = y at *
  obtain ⟨x, τ⟩ := y
  simp only at *
  have e0 := txt_no tl_wAlways (x := x) (t := wAlways) (by rw [hx]; decide)
  have e1 := txt_yes tl_wError (x := x) (t := wError) hx
  have hW : wordP s x τ = (⟨2, 0, ⟨#[]⟩, ⟨#[]⟩, 0, 0⟩, τ) := by unfold wordP; rw [if_neg (by rw [hx]; decide), if_pos hx]
  rw [hW]
  clear hW hx
  have hP := fun W (hh : PR B R s τ W) => Lib.hid (put_any B R s τ ⟨2, 0, ⟨#[]⟩, ⟨#[]⟩, 0, 0⟩ W hh (by rw [hns1]; exact hn))
  go_enter Tryd.func159, Tryd.ntmps159
  go_wp2_with (first
    | (go_at_call 109; refine (hS.out).mono ?_; rintro e w1 ⟨rfl, hR1, hg1⟩; have hN1 := NB.new w1; have hRA := hR1.alloc (.cells #[.int .i64 0, .int .i64 0, .string ⟨#[]⟩, .string ⟨#[]⟩, .int .i64 0, .int .i64 0] 64); have hR1l := hR1.lt)
    | (go_at_call 175; refine ((hT _ (by exact hRA)).out).mono ?_; rintro e w2 ⟨rfl, hR2, hg2⟩; have hN2 := hN1.kept hg2 (by simp; omega); have hgb2 : w.grownBy w2 (some R) := gb_trans (gb_alloc hg1 _) hg2; have hL2 : w.heap.size ≤ w1.heap.size := hg1.size; obtain ⟨m0, m1, m2, m3, m4, m5, mf⟩ := hN2.all)
    | (go_at_call 110; obtain ⟨hPR, hbl⟩ := PR.ps1 (w' := (w2).setCell ⟨w1.heap.size, 0, none⟩ (.int .i64 2)) hB hown hne (by exact (hR2).far (q := ⟨w1.heap.size, 0, none⟩) (by simp; omega) _) (by exact gb_setN (hgb2) hL2 _ _) hns1 hBw; refine ((hP _ hPR).out).mono ?_; rintro e w5 ⟨rfl, hPR3, hb3⟩))
  go_ret
  exact ⟨rfl, hPR3, hbl.trans hb3⟩
set_option maxRecDepth 100000 in
set_option maxHeartbeats 3200000 in
theorem one_slow (B R : Nat) (s : ByteArray) (F : PQ → Int × PQ) (σ : PQ) (w : World) (h : PR B R s σ w) (hl : Lk s σ) (hn : σ.ns.length ≤ 1000000) (hs : s.size ≤ 2000000) (hG : Gv w) (hB6 : 6 ≤ B) (hsg : signB 40 σ = false) (hx : (takeP s 1 σ).1 = wSlow) :
    Calls Tryd.prog 159 #[.pointer (some ⟨R, 0, none⟩)] w (RI B R s w (oneP s F σ).1 (oneP s F σ).2) := by
  have hE : oneP s F σ = putP (wordP s (takeP s 1 σ).1 (takeP s 1 σ).2).1 (wordP s (takeP s 1 σ).1 (takeP s 1 σ).2).2 := by unfold oneP; rw [hsg]; rfl
  rw [hE]
  clear hE
  have hBw := h.gr
  obtain ⟨hB, A, c, hR, hown, hne⟩ := h
  have hRl := hR.lt
  have hS := Lib.hid (sign_no R s 40 σ _ w hR hl.ps hs hsg)
  have hT := fun W (hh : PB W R s σ (.slice A σ.ns.length c)) => Lib.hid (take_any R s 1 σ _ W hh hl.ps hs)
  have hlk1 := (gn_take hl 1).lk
  have hns1 : (takeP s 1 σ).2.ns = σ.ns := take_ns 1 σ
  generalize takeP s 1 σ = y at *
  obtain ⟨x, τ⟩ := y
  simp only at *
  have e0 := txt_no tl_wAlways (x := x) (t := wAlways) (by rw [hx]; decide)
  have e1 := txt_no tl_wError (x := x) (t := wError) (by rw [hx]; decide)
  have e2 := txt_yes tl_wSlow (x := x) (t := wSlow) hx
  have hW : wordP s x τ = (⟨3, (numP s τ).1, ⟨#[]⟩, ⟨#[]⟩, 0, 0⟩, (numP s τ).2) := by unfold wordP; rw [if_neg (by rw [hx]; decide), if_neg (by rw [hx]; decide), if_pos hx]
  rw [hW]
  clear hW hx
  have hNu := fun W (hh : PB W R s τ (.slice A σ.ns.length c)) (hGW : Gv W) => Lib.hid (number_any R s τ _ W hh hlk1 hs hGW (by omega))
  have hns2 : (numP s τ).2.ns = σ.ns := (num_ns τ).trans hns1
  generalize numP s τ = z at *
  obtain ⟨v, τ2⟩ := z
  simp only at *
  have hP := fun W (hh : PR B R s τ2 W) => Lib.hid (put_any B R s τ2 ⟨3, v, ⟨#[]⟩, ⟨#[]⟩, 0, 0⟩ W hh (by rw [hns2]; exact hn))
  go_enter Tryd.func159, Tryd.ntmps159
  go_wp2_with (first
    | (go_at_call 110; obtain ⟨hPR, hbl⟩ := PR.ps1 (w' := ((w4).setCell ⟨w1.heap.size, 0, none⟩ (.int .i64 3)).setCell ⟨w1.heap.size, 1, none⟩ (.int .i64 v)) hB hown hne (by exact ((hR4).far (q := ⟨w1.heap.size, 0, none⟩) (by simp; omega) _).far (q := ⟨w1.heap.size, 1, none⟩) (by simp; omega) _) (by exact gb_setN (gb_setN (gb_trans hgb2 hg4) hL2 _ _) hL2 _ _) hns2 hBw; refine ((hP _ hPR).out).mono ?_; rintro e w5 ⟨rfl, hPR3, hb3⟩)
    | (go_at_call 176; refine ((hNu _ (by exact hR2) (hG.kept hgb2 (by rintro g e; cases e; omega))).out).mono ?_; rintro e w4 ⟨rfl, hR4, hg4⟩; have hN4 := hN2.kept hg4 (by simp; omega); clear m0 m1 m2 m3 m4 m5 mf; obtain ⟨m0, m1, m2, m3, m4, m5, mf⟩ := hN4.all)
    | (go_at_call 109; refine (hS.out).mono ?_; rintro e w1 ⟨rfl, hR1, hg1⟩; have hN1 := NB.new w1; have hRA := hR1.alloc (.cells #[.int .i64 0, .int .i64 0, .string ⟨#[]⟩, .string ⟨#[]⟩, .int .i64 0, .int .i64 0] 64); have hR1l := hR1.lt)
    | (go_at_call 175; refine ((hT _ (by exact hRA)).out).mono ?_; rintro e w2 ⟨rfl, hR2, hg2⟩; have hN2 := hN1.kept hg2 (by simp; omega); have hgb2 : w.grownBy w2 (some R) := gb_trans (gb_alloc hg1 _) hg2; have hL2 : w.heap.size ≤ w1.heap.size := hg1.size; obtain ⟨m0, m1, m2, m3, m4, m5, mf⟩ := hN2.all))
  go_ret
  exact ⟨rfl, hPR3, hbl.trans hb3⟩
set_option maxRecDepth 100000 in
set_option maxHeartbeats 3200000 in
theorem one_ratio (B R : Nat) (s : ByteArray) (F : PQ → Int × PQ) (σ : PQ) (w : World) (h : PR B R s σ w) (hl : Lk s σ) (hn : σ.ns.length ≤ 1000000) (hs : s.size ≤ 2000000) (hG : Gv w) (hB6 : 6 ≤ B) (hsg : signB 40 σ = false) (hx : (takeP s 1 σ).1 = wRatio) :
    Calls Tryd.prog 159 #[.pointer (some ⟨R, 0, none⟩)] w (RI B R s w (oneP s F σ).1 (oneP s F σ).2) := by
  have hE : oneP s F σ = putP (wordP s (takeP s 1 σ).1 (takeP s 1 σ).2).1 (wordP s (takeP s 1 σ).1 (takeP s 1 σ).2).2 := by unfold oneP; rw [hsg]; rfl
  rw [hE]
  clear hE
  have hBw := h.gr
  obtain ⟨hB, A, c, hR, hown, hne⟩ := h
  have hRl := hR.lt
  have hS := Lib.hid (sign_no R s 40 σ _ w hR hl.ps hs hsg)
  have hT := fun W (hh : PB W R s σ (.slice A σ.ns.length c)) => Lib.hid (take_any R s 1 σ _ W hh hl.ps hs)
  have hlk1 := (gn_take hl 1).lk
  have hns1 : (takeP s 1 σ).2.ns = σ.ns := take_ns 1 σ
  generalize takeP s 1 σ = y at *
  obtain ⟨x, τ⟩ := y
  simp only at *
  have e0 := txt_no tl_wAlways (x := x) (t := wAlways) (by rw [hx]; decide)
  have e1 := txt_no tl_wError (x := x) (t := wError) (by rw [hx]; decide)
  have e2 := txt_no tl_wSlow (x := x) (t := wSlow) (by rw [hx]; decide)
  have e3 := txt_yes tl_wRatio (x := x) (t := wRatio) hx
  have hW : wordP s x τ = (⟨6, (numP s τ).1, ⟨#[]⟩, ⟨#[]⟩, 0, 0⟩, (numP s τ).2) := by unfold wordP; rw [if_neg (by rw [hx]; decide), if_neg (by rw [hx]; decide), if_neg (by rw [hx]; decide), if_pos hx]
  rw [hW]
  clear hW hx
  have hNu := fun W (hh : PB W R s τ (.slice A σ.ns.length c)) (hGW : Gv W) => Lib.hid (number_any R s τ _ W hh hlk1 hs hGW (by omega))
  have hns2 : (numP s τ).2.ns = σ.ns := (num_ns τ).trans hns1
  generalize numP s τ = z at *
  obtain ⟨v, τ2⟩ := z
  simp only at *
  have hP := fun W (hh : PR B R s τ2 W) => Lib.hid (put_any B R s τ2 ⟨6, v, ⟨#[]⟩, ⟨#[]⟩, 0, 0⟩ W hh (by rw [hns2]; exact hn))
  go_enter Tryd.func159, Tryd.ntmps159
  go_wp2_with (first
    | (go_at_call 110; obtain ⟨hPR, hbl⟩ := PR.ps1 (w' := ((w4).setCell ⟨w1.heap.size, 0, none⟩ (.int .i64 6)).setCell ⟨w1.heap.size, 1, none⟩ (.int .i64 v)) hB hown hne (by exact ((hR4).far (q := ⟨w1.heap.size, 0, none⟩) (by simp; omega) _).far (q := ⟨w1.heap.size, 1, none⟩) (by simp; omega) _) (by exact gb_setN (gb_setN (gb_trans hgb2 hg4) hL2 _ _) hL2 _ _) hns2 hBw; refine ((hP _ hPR).out).mono ?_; rintro e w5 ⟨rfl, hPR3, hb3⟩)
    | (go_at_call 176; refine ((hNu _ (by exact hR2) (hG.kept hgb2 (by rintro g e; cases e; omega))).out).mono ?_; rintro e w4 ⟨rfl, hR4, hg4⟩; have hN4 := hN2.kept hg4 (by simp; omega); clear m0 m1 m2 m3 m4 m5 mf; obtain ⟨m0, m1, m2, m3, m4, m5, mf⟩ := hN4.all)
    | (go_at_call 109; refine (hS.out).mono ?_; rintro e w1 ⟨rfl, hR1, hg1⟩; have hN1 := NB.new w1; have hRA := hR1.alloc (.cells #[.int .i64 0, .int .i64 0, .string ⟨#[]⟩, .string ⟨#[]⟩, .int .i64 0, .int .i64 0] 64); have hR1l := hR1.lt)
    | (go_at_call 175; refine ((hT _ (by exact hRA)).out).mono ?_; rintro e w2 ⟨rfl, hR2, hg2⟩; have hN2 := hN1.kept hg2 (by simp; omega); have hgb2 : w.grownBy w2 (some R) := gb_trans (gb_alloc hg1 _) hg2; have hL2 : w.heap.size ≤ w1.heap.size := hg1.size; obtain ⟨m0, m1, m2, m3, m4, m5, mf⟩ := hN2.all))
  go_ret
  exact ⟨rfl, hPR3, hbl.trans hb3⟩
set_option maxRecDepth 100000 in
set_option maxHeartbeats 3200000 in
theorem one_service (B R : Nat) (s : ByteArray) (F : PQ → Int × PQ) (σ : PQ) (w : World) (h : PR B R s σ w) (hl : Lk s σ) (hn : σ.ns.length ≤ 1000000) (hs : s.size ≤ 2000000) (_hG : Gv w) (_hB6 : 6 ≤ B) (hsg : signB 40 σ = false) (hx : (takeP s 1 σ).1 = wService) :
    Calls Tryd.prog 159 #[.pointer (some ⟨R, 0, none⟩)] w (RI B R s w (oneP s F σ).1 (oneP s F σ).2) := by
  have hE : oneP s F σ = putP (wordP s (takeP s 1 σ).1 (takeP s 1 σ).2).1 (wordP s (takeP s 1 σ).1 (takeP s 1 σ).2).2 := by unfold oneP; rw [hsg]; rfl
  rw [hE]
  clear hE
  have hBw := h.gr
  obtain ⟨hB, A, c, hR, hown, hne⟩ := h
  have hRl := hR.lt
  have hS := Lib.hid (sign_no R s 40 σ _ w hR hl.ps hs hsg)
  have hT := fun W (hh : PB W R s σ (.slice A σ.ns.length c)) => Lib.hid (take_any R s 1 σ _ W hh hl.ps hs)
  have hlk1 := (gn_take hl 1).lk
  have hns1 : (takeP s 1 σ).2.ns = σ.ns := take_ns 1 σ
  generalize takeP s 1 σ = y at *
  obtain ⟨x, τ⟩ := y
  simp only at *
  have e0 := txt_no tl_wAlways (x := x) (t := wAlways) (by rw [hx]; decide)
  have e1 := txt_no tl_wError (x := x) (t := wError) (by rw [hx]; decide)
  have e2 := txt_no tl_wSlow (x := x) (t := wSlow) (by rw [hx]; decide)
  have e3 := txt_no tl_wRatio (x := x) (t := wRatio) (by rw [hx]; decide)
  have e4 := txt_yes tl_wService (x := x) (t := wService) hx
  have hW : wordP s x τ = (⟨4, 0, (takeP s 3 τ).1, ⟨#[]⟩, 0, 0⟩, (takeP s 3 τ).2) := by unfold wordP; rw [if_neg (by rw [hx]; decide), if_neg (by rw [hx]; decide), if_neg (by rw [hx]; decide), if_neg (by rw [hx]; decide), if_pos hx]
  rw [hW]
  clear hW hx
  have hT2 := fun W (hh : PB W R s τ (.slice A σ.ns.length c)) => Lib.hid (take_any R s 3 τ _ W hh hlk1.ps hs)
  have hns2 : (takeP s 3 τ).2.ns = σ.ns := (take_ns 3 τ).trans hns1
  generalize takeP s 3 τ = z at *
  obtain ⟨v, τ2⟩ := z
  simp only at *
  have hP := fun W (hh : PR B R s τ2 W) => Lib.hid (put_any B R s τ2 ⟨4, 0, v, ⟨#[]⟩, 0, 0⟩ W hh (by rw [hns2]; exact hn))
  go_enter Tryd.func159, Tryd.ntmps159
  go_wp2_with (first
    | (go_at_call 110; obtain ⟨hPR, hbl⟩ := PR.ps1 (w' := ((w4).setCell ⟨w1.heap.size, 0, none⟩ (.int .i64 4)).setCell ⟨w1.heap.size, 2, none⟩ (.string v)) hB hown hne (by exact ((hR4).far (q := ⟨w1.heap.size, 0, none⟩) (by simp; omega) _).far (q := ⟨w1.heap.size, 2, none⟩) (by simp; omega) _) (by exact gb_setN (gb_setN (gb_trans hgb2 hg4) hL2 _ _) hL2 _ _) hns2 hBw; refine ((hP _ hPR).out).mono ?_; rintro e w5 ⟨rfl, hPR3, hb3⟩)
    | (go_at_call 175; have hmk := hgb2; refine ((hT2 _ (by exact hR2)).out).mono ?_; rintro e w4 ⟨rfl, hR4, hg4⟩; have hN4 := hN2.kept hg4 (by simp; omega); clear m0 m1 m2 m3 m4 m5 mf; obtain ⟨m0, m1, m2, m3, m4, m5, mf⟩ := hN4.all)
    | (go_at_call 109; refine (hS.out).mono ?_; rintro e w1 ⟨rfl, hR1, hg1⟩; have hN1 := NB.new w1; have hRA := hR1.alloc (.cells #[.int .i64 0, .int .i64 0, .string ⟨#[]⟩, .string ⟨#[]⟩, .int .i64 0, .int .i64 0] 64); have hR1l := hR1.lt)
    | (go_at_call 175; refine ((hT _ (by exact hRA)).out).mono ?_; rintro e w2 ⟨rfl, hR2, hg2⟩; have hN2 := hN1.kept hg2 (by simp; omega); have hgb2 : w.grownBy w2 (some R) := gb_trans (gb_alloc hg1 _) hg2; have hL2 : w.heap.size ≤ w1.heap.size := hg1.size; obtain ⟨m0, m1, m2, m3, m4, m5, mf⟩ := hN2.all))
  go_ret
  exact ⟨rfl, hPR3, hbl.trans hb3⟩
set_option maxRecDepth 100000 in
set_option maxHeartbeats 3200000 in
theorem one_tag (B R : Nat) (s : ByteArray) (F : PQ → Int × PQ) (σ : PQ) (w : World) (h : PR B R s σ w) (hl : Lk s σ) (hn : σ.ns.length ≤ 1000000) (hs : s.size ≤ 2000000) (_hG : Gv w) (_hB6 : 6 ≤ B) (hsg : signB 40 σ = false) (hx : (takeP s 1 σ).1 = wTag) (hsg2 : signB 61 (takeP s 3 (takeP s 1 σ).2).2 = true) :
    Calls Tryd.prog 159 #[.pointer (some ⟨R, 0, none⟩)] w (RI B R s w (oneP s F σ).1 (oneP s F σ).2) := by
  have hE : oneP s F σ = putP (wordP s (takeP s 1 σ).1 (takeP s 1 σ).2).1 (wordP s (takeP s 1 σ).1 (takeP s 1 σ).2).2 := by unfold oneP; rw [hsg]; rfl
  rw [hE]
  clear hE
  have hBw := h.gr
  obtain ⟨hB, A, c, hR, hown, hne⟩ := h
  have hRl := hR.lt
  have hS := Lib.hid (sign_no R s 40 σ _ w hR hl.ps hs hsg)
  have hT := fun W (hh : PB W R s σ (.slice A σ.ns.length c)) => Lib.hid (take_any R s 1 σ _ W hh hl.ps hs)
  have hlk1 := (gn_take hl 1).lk
  have hns1 : (takeP s 1 σ).2.ns = σ.ns := take_ns 1 σ
  generalize takeP s 1 σ = y at *
  obtain ⟨x, τ⟩ := y
  simp only at *
  have e0 := txt_no tl_wAlways (x := x) (t := wAlways) (by rw [hx]; decide)
  have e1 := txt_no tl_wError (x := x) (t := wError) (by rw [hx]; decide)
  have e2 := txt_no tl_wSlow (x := x) (t := wSlow) (by rw [hx]; decide)
  have e3 := txt_no tl_wRatio (x := x) (t := wRatio) (by rw [hx]; decide)
  have e4 := txt_no tl_wService (x := x) (t := wService) (by rw [hx]; decide)
  have e5 := txt_yes tl_wTag (x := x) (t := wTag) hx
  have hW : wordP s x τ = (⟨5, 0, (takeP s 3 τ).1, (takeP s 3 (needP s 61 (takeP s 3 τ).2)).1, 0, 0⟩, (takeP s 3 (needP s 61 (takeP s 3 τ).2)).2) := by unfold wordP; rw [if_neg (by rw [hx]; decide), if_neg (by rw [hx]; decide), if_neg (by rw [hx]; decide), if_neg (by rw [hx]; decide), if_neg (by rw [hx]; decide), if_pos hx]; rfl
  rw [hW]
  clear hW hx
  have hT2 := fun W (hh : PB W R s τ (.slice A σ.ns.length c)) => Lib.hid (take_any R s 3 τ _ W hh hlk1.ps hs)
  have hns2 : (takeP s 3 τ).2.ns = σ.ns := (take_ns 3 τ).trans hns1
  have hlk2 := (gn_take hlk1 3).lk
  generalize takeP s 3 τ = z at *
  obtain ⟨v, τ2⟩ := z
  simp only at *
  have hS2 := fun W (hh : PB W R s τ2 (.slice A σ.ns.length c)) => Lib.hid (sign_yes R s 61 τ2 _ W hh hlk2.ps hs hsg2)
  have hns3 : (needP s 61 τ2).ns = σ.ns := (need_ns 61 τ2).trans hns2
  have hlk3 := (gn_need hlk2 61).lk
  have hE3 : needP s 61 τ2 = nextP s τ2 := by unfold needP; rw [hsg2]; rfl
  rw [hE3] at hns3 hlk3 ⊢
  clear hE3
  generalize nextP s τ2 = τ3 at *
  have hT3 := fun W (hh : PB W R s τ3 (.slice A σ.ns.length c)) => Lib.hid (take_any R s 3 τ3 _ W hh hlk3.ps hs)
  have hns4 : (takeP s 3 τ3).2.ns = σ.ns := (take_ns 3 τ3).trans hns3
  generalize takeP s 3 τ3 = z at *
  obtain ⟨v2, τ4⟩ := z
  simp only at *
  have hP := fun W (hh : PR B R s τ4 W) => Lib.hid (put_any B R s τ4 ⟨5, 0, v, v2, 0, 0⟩ W hh (by rw [hns4]; exact hn))
  go_enter Tryd.func159, Tryd.ntmps159
  go_wp2_with (first
    | (go_at_call 110; obtain ⟨hPR, hbl⟩ := PR.ps1 (w' := (w8).setCell ⟨w1.heap.size, 3, none⟩ (.string v2)) hB hown hne (by exact (hR8).far (q := ⟨w1.heap.size, 3, none⟩) (by simp; omega) _) (by exact gb_setN (hgb8) hL2 _ _) hns4 hBw; refine ((hP _ hPR).out).mono ?_; rintro e w5 ⟨rfl, hPR3, hb3⟩)
    | (go_at_call 175; have hmk := hgb7; refine ((hT3 _ (by exact hR7)).out).mono ?_; rintro e w8 ⟨rfl, hR8, hg8⟩; have hN8 := hN7.kept hg8 (by simp; omega); have hgb8 : w.grownBy w8 (some R) := gb_trans hgb7 hg8; clear n0 n1 n2 n3 n4 n5 nf; obtain ⟨n0, n1, n2, n3, n4, n5, nf⟩ := hN8.all)
    | (go_at_call 109; have hmk := hgb4; refine ((hS2 _ (by exact hR5)).out).mono ?_; rintro e w7 ⟨rfl, hR7, hg7⟩; have hN7 := NB.kept (by exact hN5) hg7 (by simp; omega); have hgb7 : w.grownBy w7 (some R) := gb_trans (by exact hgb5) hg7; obtain ⟨n0, n1, n2, n3, n4, n5, nf⟩ := hN7.all)
    | (go_at_call 175; have hmk := hgb2; refine ((hT2 _ (by exact hR2)).out).mono ?_; rintro e w4 ⟨rfl, hR4, hg4⟩; have hN4 := hN2.kept hg4 (by simp; omega); have hgb4 : w.grownBy w4 (some R) := gb_trans hgb2 hg4; have hR5 := ((hR4.far (q := ⟨w1.heap.size, 0, none⟩) (by simp; omega) (.int .i64 5)).far (q := ⟨w1.heap.size, 2, none⟩) (by simp; omega) (.string v)); have hgb5 := gb_setN (gb_setN hgb4 hL2 0 (.int .i64 5)) hL2 2 (.string v); have hN5 := (hN4.set0 5).set2 v; clear m0 m1 m2 m3 m4 m5 mf; obtain ⟨m0, m1, m2, m3, m4, m5, mf⟩ := hN4.all)
    | (go_at_call 109; refine (hS.out).mono ?_; rintro e w1 ⟨rfl, hR1, hg1⟩; have hN1 := NB.new w1; have hRA := hR1.alloc (.cells #[.int .i64 0, .int .i64 0, .string ⟨#[]⟩, .string ⟨#[]⟩, .int .i64 0, .int .i64 0] 64); have hR1l := hR1.lt)
    | (go_at_call 175; refine ((hT _ (by exact hRA)).out).mono ?_; rintro e w2 ⟨rfl, hR2, hg2⟩; have hN2 := hN1.kept hg2 (by simp; omega); have hgb2 : w.grownBy w2 (some R) := gb_trans (gb_alloc hg1 _) hg2; have hL2 : w.heap.size ≤ w1.heap.size := hg1.size; obtain ⟨m0, m1, m2, m3, m4, m5, mf⟩ := hN2.all))
  go_ret
  exact ⟨rfl, hPR3, hbl.trans hb3⟩
set_option maxRecDepth 100000 in
set_option maxHeartbeats 3200000 in
theorem one_tagn (B R : Nat) (s : ByteArray) (F : PQ → Int × PQ) (σ : PQ) (w : World) (h : PR B R s σ w) (hl : Lk s σ) (hn : σ.ns.length ≤ 1000000) (hs : s.size ≤ 2000000) (_hG : Gv w) (_hB6 : 6 ≤ B) (hsg : signB 40 σ = false) (hx : (takeP s 1 σ).1 = wTag) (hsg2 : signB 61 (takeP s 3 (takeP s 1 σ).2).2 = false) :
    Calls Tryd.prog 159 #[.pointer (some ⟨R, 0, none⟩)] w (RI B R s w (oneP s F σ).1 (oneP s F σ).2) := by
  have hE : oneP s F σ = putP (wordP s (takeP s 1 σ).1 (takeP s 1 σ).2).1 (wordP s (takeP s 1 σ).1 (takeP s 1 σ).2).2 := by unfold oneP; rw [hsg]; rfl
  rw [hE]
  clear hE
  have hBw := h.gr
  obtain ⟨hB, A, c, hR, hown, hne⟩ := h
  have hRl := hR.lt
  have hS := Lib.hid (sign_no R s 40 σ _ w hR hl.ps hs hsg)
  have hT := fun W (hh : PB W R s σ (.slice A σ.ns.length c)) => Lib.hid (take_any R s 1 σ _ W hh hl.ps hs)
  have hlk1 := (gn_take hl 1).lk
  have hns1 : (takeP s 1 σ).2.ns = σ.ns := take_ns 1 σ
  generalize takeP s 1 σ = y at *
  obtain ⟨x, τ⟩ := y
  simp only at *
  have e0 := txt_no tl_wAlways (x := x) (t := wAlways) (by rw [hx]; decide)
  have e1 := txt_no tl_wError (x := x) (t := wError) (by rw [hx]; decide)
  have e2 := txt_no tl_wSlow (x := x) (t := wSlow) (by rw [hx]; decide)
  have e3 := txt_no tl_wRatio (x := x) (t := wRatio) (by rw [hx]; decide)
  have e4 := txt_no tl_wService (x := x) (t := wService) (by rw [hx]; decide)
  have e5 := txt_yes tl_wTag (x := x) (t := wTag) hx
  have hW : wordP s x τ = (⟨5, 0, (takeP s 3 τ).1, (takeP s 3 (needP s 61 (takeP s 3 τ).2)).1, 0, 0⟩, (takeP s 3 (needP s 61 (takeP s 3 τ).2)).2) := by unfold wordP; rw [if_neg (by rw [hx]; decide), if_neg (by rw [hx]; decide), if_neg (by rw [hx]; decide), if_neg (by rw [hx]; decide), if_neg (by rw [hx]; decide), if_pos hx]; rfl
  rw [hW]
  clear hW hx
  have hT2 := fun W (hh : PB W R s τ (.slice A σ.ns.length c)) => Lib.hid (take_any R s 3 τ _ W hh hlk1.ps hs)
  have hns2 : (takeP s 3 τ).2.ns = σ.ns := (take_ns 3 τ).trans hns1
  have hlk2 := (gn_take hlk1 3).lk
  generalize takeP s 3 τ = z at *
  obtain ⟨v, τ2⟩ := z
  simp only at *
  have hS2 := fun W (hh : PB W R s τ2 (.slice A σ.ns.length c)) => Lib.hid (sign_no R s 61 τ2 _ W hh hlk2.ps hs hsg2)
  have hns3 : (needP s 61 τ2).ns = σ.ns := (need_ns 61 τ2).trans hns2
  have hlk3 := (gn_need hlk2 61).lk
  have hE3 : needP s 61 τ2 = faultP τ2 := by unfold needP; rw [hsg2]; rfl
  rw [hE3] at hns3 hlk3 ⊢
  clear hE3
  have hF := fun W (hh : PB W R s τ2 (.slice A σ.ns.length c)) => Lib.hid (fault_any R s τ2 _ W hh)
  generalize faultP τ2 = τ3 at *
  have hT3 := fun W (hh : PB W R s τ3 (.slice A σ.ns.length c)) => Lib.hid (take_any R s 3 τ3 _ W hh hlk3.ps hs)
  have hns4 : (takeP s 3 τ3).2.ns = σ.ns := (take_ns 3 τ3).trans hns3
  generalize takeP s 3 τ3 = z at *
  obtain ⟨v2, τ4⟩ := z
  simp only at *
  have hP := fun W (hh : PR B R s τ4 W) => Lib.hid (put_any B R s τ4 ⟨5, 0, v, v2, 0, 0⟩ W hh (by rw [hns4]; exact hn))
  go_enter Tryd.func159, Tryd.ntmps159
  go_wp2_with (first
    | (go_at_call 110; obtain ⟨hPR, hbl⟩ := PR.ps1 (w' := (w8).setCell ⟨w1.heap.size, 3, none⟩ (.string v2)) hB hown hne (by exact (hR8).far (q := ⟨w1.heap.size, 3, none⟩) (by simp; omega) _) (by exact gb_setN (hgb8) hL2 _ _) hns4 hBw; refine ((hP _ hPR).out).mono ?_; rintro e w5 ⟨rfl, hPR3, hb3⟩)
    | (go_at_call 175; have hmk := hgb7; refine ((hT3 _ (by exact hR7)).out).mono ?_; rintro e w8 ⟨rfl, hR8, hg8⟩; have hN8 := hN7.kept hg8 (by simp; omega); have hgb8 : w.grownBy w8 (some R) := gb_trans hgb7 hg8; clear n0 n1 n2 n3 n4 n5 nf; obtain ⟨n0, n1, n2, n3, n4, n5, nf⟩ := hN8.all)
    | (go_at_call 65; refine ((hF _ (by exact hR6)).out).mono ?_; rintro e w7 ⟨rfl, hR7, hg7⟩; have hN7 := NB.kept (by exact hN6) hg7 (by simp; omega); have hgb7 : w.grownBy w7 (some R) := gb_trans (by exact hgb6) hg7; obtain ⟨n0, n1, n2, n3, n4, n5, nf⟩ := hN7.all)
    | (go_at_call 109; have hmk := hgb4; refine ((hS2 _ (by exact hR5)).out).mono ?_; rintro e w6 ⟨rfl, hR6, hg6⟩; have hN6 := NB.kept (by exact hN5) hg6 (by simp; omega); have hgb6 : w.grownBy w6 (some R) := gb_trans (by exact hgb5) hg6)
    | (go_at_call 175; have hmk := hgb2; refine ((hT2 _ (by exact hR2)).out).mono ?_; rintro e w4 ⟨rfl, hR4, hg4⟩; have hN4 := hN2.kept hg4 (by simp; omega); have hgb4 : w.grownBy w4 (some R) := gb_trans hgb2 hg4; have hR5 := ((hR4.far (q := ⟨w1.heap.size, 0, none⟩) (by simp; omega) (.int .i64 5)).far (q := ⟨w1.heap.size, 2, none⟩) (by simp; omega) (.string v)); have hgb5 := gb_setN (gb_setN hgb4 hL2 0 (.int .i64 5)) hL2 2 (.string v); have hN5 := (hN4.set0 5).set2 v; clear m0 m1 m2 m3 m4 m5 mf; obtain ⟨m0, m1, m2, m3, m4, m5, mf⟩ := hN4.all)
    | (go_at_call 109; refine (hS.out).mono ?_; rintro e w1 ⟨rfl, hR1, hg1⟩; have hN1 := NB.new w1; have hRA := hR1.alloc (.cells #[.int .i64 0, .int .i64 0, .string ⟨#[]⟩, .string ⟨#[]⟩, .int .i64 0, .int .i64 0] 64); have hR1l := hR1.lt)
    | (go_at_call 175; refine ((hT _ (by exact hRA)).out).mono ?_; rintro e w2 ⟨rfl, hR2, hg2⟩; have hN2 := hN1.kept hg2 (by simp; omega); have hgb2 : w.grownBy w2 (some R) := gb_trans (gb_alloc hg1 _) hg2; have hL2 : w.heap.size ≤ w1.heap.size := hg1.size; obtain ⟨m0, m1, m2, m3, m4, m5, mf⟩ := hN2.all))
  go_ret
  exact ⟨rfl, hPR3, hbl.trans hb3⟩
set_option maxRecDepth 100000 in
set_option maxHeartbeats 3200000 in
theorem one_none (B R : Nat) (s : ByteArray) (F : PQ → Int × PQ) (σ : PQ) (w : World) (h : PR B R s σ w) (hl : Lk s σ) (hn : σ.ns.length ≤ 1000000) (hs : s.size ≤ 2000000) (_hG : Gv w) (_hB6 : 6 ≤ B) (hsg : signB 40 σ = false) (hx : (takeP s 1 σ).1 ≠ wAlways ∧ (takeP s 1 σ).1 ≠ wError ∧ (takeP s 1 σ).1 ≠ wSlow ∧ (takeP s 1 σ).1 ≠ wRatio ∧ (takeP s 1 σ).1 ≠ wService ∧ (takeP s 1 σ).1 ≠ wTag) :
    Calls Tryd.prog 159 #[.pointer (some ⟨R, 0, none⟩)] w (RI B R s w (oneP s F σ).1 (oneP s F σ).2) := by
  have hE : oneP s F σ = putP (wordP s (takeP s 1 σ).1 (takeP s 1 σ).2).1 (wordP s (takeP s 1 σ).1 (takeP s 1 σ).2).2 := by unfold oneP; rw [hsg]; rfl
  rw [hE]
  clear hE
  have hBw := h.gr
  obtain ⟨hB, A, c, hR, hown, hne⟩ := h
  have hRl := hR.lt
  have hS := Lib.hid (sign_no R s 40 σ _ w hR hl.ps hs hsg)
  have hT := fun W (hh : PB W R s σ (.slice A σ.ns.length c)) => Lib.hid (take_any R s 1 σ _ W hh hl.ps hs)
  have hlk1 := (gn_take hl 1).lk
  have hns1 : (takeP s 1 σ).2.ns = σ.ns := take_ns 1 σ
  generalize takeP s 1 σ = y at *
  obtain ⟨x, τ⟩ := y
  simp only at *
  have e0 := txt_no tl_wAlways (x := x) (t := wAlways) (by exact hx.1)
  have e1 := txt_no tl_wError (x := x) (t := wError) (by exact hx.2.1)
  have e2 := txt_no tl_wSlow (x := x) (t := wSlow) (by exact hx.2.2.1)
  have e3 := txt_no tl_wRatio (x := x) (t := wRatio) (by exact hx.2.2.2.1)
  have e4 := txt_no tl_wService (x := x) (t := wService) (by exact hx.2.2.2.2.1)
  have e5 := txt_no tl_wTag (x := x) (t := wTag) (by exact hx.2.2.2.2.2)
  have hW : wordP s x τ = (⟨0, 0, ⟨#[]⟩, ⟨#[]⟩, 0, 0⟩, τ) := by unfold wordP; rw [if_neg hx.1, if_neg hx.2.1, if_neg hx.2.2.1, if_neg hx.2.2.2.1, if_neg hx.2.2.2.2.1, if_neg hx.2.2.2.2.2]
  rw [hW]
  clear hW hx
  have hP := fun W (hh : PR B R s τ W) => Lib.hid (put_any B R s τ ⟨0, 0, ⟨#[]⟩, ⟨#[]⟩, 0, 0⟩ W hh (by rw [hns1]; exact hn))
  go_enter Tryd.func159, Tryd.ntmps159
  go_wp2_with (first
    | (go_at_call 109; refine (hS.out).mono ?_; rintro e w1 ⟨rfl, hR1, hg1⟩; have hN1 := NB.new w1; have hRA := hR1.alloc (.cells #[.int .i64 0, .int .i64 0, .string ⟨#[]⟩, .string ⟨#[]⟩, .int .i64 0, .int .i64 0] 64); have hR1l := hR1.lt)
    | (go_at_call 175; refine ((hT _ (by exact hRA)).out).mono ?_; rintro e w2 ⟨rfl, hR2, hg2⟩; have hN2 := hN1.kept hg2 (by simp; omega); have hgb2 : w.grownBy w2 (some R) := gb_trans (gb_alloc hg1 _) hg2; have hL2 : w.heap.size ≤ w1.heap.size := hg1.size; obtain ⟨m0, m1, m2, m3, m4, m5, mf⟩ := hN2.all)
    | (go_at_call 110; obtain ⟨hPR, hbl⟩ := PR.ps1 (w' := w2) hB hown hne (by exact hR2) (by exact hgb2) hns1 hBw; refine ((hP _ hPR).out).mono ?_; rintro e w5 ⟨rfl, hPR3, hb3⟩))
  go_ret
  exact ⟨rfl, hPR3, hbl.trans hb3⟩
end Go.Proofs.YtnnhkajjifmlfaaDoor.Pl
