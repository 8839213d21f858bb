/- Policies, the document's reader: the next token: the walk. -/
import Derived.Test.YtnnhkajjifmlfaaDoorDb
namespace Go.Proofs.YtnnhkajjifmlfaaDoor.Pl
open Go.RowKit Go.Maps

/-- a token's block -/
def TB (w : World) (B : Nat) (k : Int) (x : ByteArray) (a : Int) : Prop :=
  w.heap[B]? = some (.cells #[.int .i64 k, .string x, .int .i64 a] 99 (0, 0))
section
variable {w w' : World} {B : Nat} {k a : Int} {x : ByteArray}
theorem TB.lt (h : TB w B k x a) : B < w.heap.size := (Array.getElem?_eq_some_iff.1 h).1
theorem TB.c0 (h : TB w B k x a) : w.cell? ⟨B, 0, none⟩ = some (.int .i64 k) := by rw [cell_of_row w B 0 _ _ _ h]; rfl
theorem TB.c1 (h : TB w B k x a) : w.cell? ⟨B, 1, none⟩ = some (.string x) := by rw [cell_of_row w B 1 _ _ _ h]; rfl
theorem TB.c2 (h : TB w B k x a) : w.cell? ⟨B, 2, none⟩ = some (.int .i64 a) := by rw [cell_of_row w B 2 _ _ _ h]; rfl
theorem TB.f (h : TB w B k x a) (i : Nat) : w.frozen? ⟨B, i, none⟩ = false := by unfold TB at h; simp [World.frozen?, h]
theorem TB.new (w : World) (k : Int) (x : ByteArray) (a : Int) : TB (w.alloc (.cells #[.int .i64 k, .string x, .int .i64 a] 99)) w.heap.size k x a := heap_alloc_new w _
theorem TB.set0 (h : TB w B k x a) (q : Int) : TB (w.setCell ⟨B, 0, none⟩ (.int .i64 q)) B q x a := by
  unfold TB at h ⊢; simp [World.setCell, Array.getElem?_modify, h]
theorem TB.set1 (h : TB w B k x a) (q : ByteArray) : TB (w.setCell ⟨B, 1, none⟩ (.string q)) B k q a := by
  unfold TB at h ⊢; simp [World.setCell, Array.getElem?_modify, h]
theorem TB.set2 (h : TB w B k x a) (q : Int) : TB (w.setCell ⟨B, 2, none⟩ (.int .i64 q)) B k x q := by
  unfold TB at h ⊢; simp [World.setCell, Array.getElem?_modify, h]
theorem TB.kept (h : TB w B k x a) {row : Option Nat} (hg : w.grownBy w' row) (hne : some B ≠ row) : TB w' B k x a := (hg.block B h.lt hne).trans h
end
/-- what a call of next leaves -/
abbrev TK (s : ByteArray) (p : Nat) (w : World) (e : Ending) (w' : World) : Prop :=
  e = .returned (.tuple #[.agg #[.int .i64 (lexR s (bsk s p)).1, .string (lexR s (bsk s p)).2.1, .int .i64 (bsk s p)], .int .i64 (lexR s (bsk s p)).2.2.1, .bool (lexR s (bsk s p)).2.2.2]) ∧ w.grownBy w' none
set_option maxRecDepth 100000 in
set_option maxHeartbeats 6400000 in
theorem rnext_end (s : ByteArray) (p : Nat) (w : World) (hp : p ≤ s.size) (hs : s.size ≤ 2000000) (hc : s.size ≤ bsk s p) :
    Calls Tryd.prog 112 #[.string s, .int .i64 p] w (TK s p w) := by
  have hT : Hid (lexR s (bsk s p) = (0, ⟨#[]⟩, s.size, true)) := by
    unfold Hid lexR; rw [if_pos hc]
    have := (bsk_bd hp).2
    rw [show bsk s p = s.size by omega]
  have hi : Hid (bsk s p = s.size) := by have := (bsk_bd hp).2; unfold Hid; omega
  have hg0 := gb_alloc (gb_refl w none) (.cells #[.int .i64 0, .string ⟨#[]⟩, .int .i64 0] 99)
  have hB0 := TB.new w 0 ⟨#[]⟩ 0
  go_enter Tryd.func112, Tryd.ntmps112
  go_wp2_with fail
  generalize w.alloc (.cells #[.int .i64 0, .string ⟨#[]⟩, .int .i64 0] 99) = W at *
  obtain ⟨B, hE, hBl⟩ : ∃ B, B = w.heap.size ∧ Hid (w.heap.size ≤ B) := ⟨_, rfl, Nat.le_refl _⟩
  rw [← hE] at hB0 ⊢
  clear hE
  go_loopg [1] (s.size - p) (fun z u1 wr => ∃ q : Nat, q ≤ s.size ∧ z = s.size - q ∧ u1 = .int .i64 q ∧ Hid (bsk s q = bsk s p) ∧ wr = W)
  case atStart => exact ⟨p, hp, rfl, rfl, rfl, rfl⟩
  case round =>
    obtain ⟨q, hq, rfl, rfl, hsk, rfl⟩ := hrel
    have c0 := hB0.c0
    have c1 := hB0.c1
    have c2 := hB0.c2
    have f0 := hB0.f 0
    have f1 := hB0.f 1
    have f2 := hB0.f 2
    by_cases hlt : q < s.size
    · have hltI : (q : Int) < (s.size : Int) := by omega
      by_cases hb : chr s q = 32
      · have Hst := Lib.hid (bsk_step hb)
        rw [chr_in hlt] at hb
        have hbb : ((s[q].toNat : Int) == 32) = true := by simp; omega
        have hq1 := Lib.hid (show wrap64 ((q : Int) + 1) = ((q + 1 : Nat) : Int) from (wrap64_id (by omega) (by omega)).trans (by omega))
        clear hb
        go_wp2_with fail
        go_roundg (s.size - (q + 1))
        case measure => omega
        case rel => exact ⟨q + 1, hlt, rfl, by first | rw [hq1.out] | go_num, Lib.hid (Hst.out.symm.trans hsk.out), rfl⟩
      · exfalso
        have := hsk.out
        rw [bsk_stop hb] at this
        omega
    · obtain rfl : q = s.size := by omega
      have hltd : decide ((s.size : Int) < (s.size : Int)) = false := by simp
      clear hsk
      go_wp2_with fail
      refine bodyPost_ret (v := .tuple #[.agg #[.int .i64 0, .string ⟨#[]⟩, .int .i64 s.size], .int .i64 s.size, .bool true]) (by simp [results, Tryd.results112, go_sem, c0, c1, c2]) rfl ?_
      exact ⟨by rw [hT.out, hi.out], gb_setN (gb_setN (gb_setN hg0 hBl.out _ _) hBl.out _ _) hBl.out _ _⟩
end Go.Proofs.YtnnhkajjifmlfaaDoor.Pl
