/- HTTP: a connection's block; New, none, Over, Left, Feed. -/
import Derived.Test.YtdfgnoflohfnmaaGreatDoorH9
namespace Go.Proofs.YtdfgnoflohfnmaaGreatDoor.Hx
open Go.RowKit Go.Maps

/-- a connection's block -/
def CB (w : World) (C : Nat) (bw : Value) (ov : Bool) : Prop := w.heap[C]? = some (.cells #[.bool true, bw, .bool ov] 62 (0, 0))
section
variable {w w' : World} {C : Nat} {bw : Value} {ov : Bool}
theorem CB.lt (h : CB w C bw ov) : C < w.heap.size := (Array.getElem?_eq_some_iff.1 h).1
theorem CB.c0 (h : CB w C bw ov) : w.cell? ⟨C, 0, none⟩ = some (.bool true) := by rw [cell_of_row w C 0 _ _ _ h]; rfl
theorem CB.c1 (h : CB w C bw ov) : w.cell? ⟨C, 1, none⟩ = some bw := by rw [cell_of_row w C 1 _ _ _ h]; rfl
theorem CB.c2 (h : CB w C bw ov) : w.cell? ⟨C, 2, none⟩ = some (.bool ov) := by rw [cell_of_row w C 2 _ _ _ h]; rfl
theorem CB.f (h : CB w C bw ov) (i : Nat) : w.frozen? ⟨C, i, none⟩ = false := by unfold CB at h; simp [World.frozen?, h]
theorem CB.set1 (h : CB w C bw ov) (q : Value) : CB (w.setCell ⟨C, 1, none⟩ q) C q ov := by unfold CB at h ⊢; simp [World.setCell, Array.getElem?_modify, h]
theorem CB.set2 (h : CB w C bw ov) (q : Bool) : CB (w.setCell ⟨C, 2, none⟩ (.bool q)) C bw q := by unfold CB at h ⊢; simp [World.setCell, Array.getElem?_modify, h]
theorem CB.drewN (h : CB w C bw ov) (n : Nat) : CB (w.drewN n) C bw ov := h
theorem CB.kept (h : CB w C bw ov) {row : Option Nat} (hg : w.grownBy w' row) (hne : some C ≠ row) : CB w' C bw ov := (hg.block C h.lt hne).trans h
theorem CB.gt (h : CB w C bw ov) {T : Nat → Prop} (hg : GT w w' T) (hne : ¬ T C) : CB w' C bw ov := (hg.block C h.lt hne).trans h
theorem CB.alloc (h : CB w C bw ov) (o : Obj) : CB (w.alloc o) C bw ov := (Below.heap_alloc w o C h.lt).trans h
end
theorem none_any (C : Nat) (bw : Value) (ov : Bool) (w : World) (h : CB w C bw ov) : Calls Tryz.prog 34 #[.pointer (some ⟨C, 0, none⟩)] w fun e w' => e = .returned (.bool false) ∧ w' = w := by
  have c0 := h.c0
  go_enter Tryz.func34, Tryz.ntmps34
  go_wp2_with fail
  go_ret
  exact ⟨rfl, rfl⟩
theorem over_any (C : Nat) (bw : Value) (ov : Bool) (w : World) (h : CB w C bw ov) : Calls Tryz.prog 11 #[.pointer (some ⟨C, 0, none⟩)] w fun e w' => e = .returned (.bool ov) ∧ w' = w := by
  have c2 := h.c2
  have hn := fun W (hW : W = w) => Lib.hid (none_any C bw ov W (hW ▸ h))
  go_enter Tryz.func11, Tryz.ntmps11
  go_wp2_with (first
    | (go_at_call 34; refine ((hn _ rfl).out).mono ?_; rintro e w1 ⟨rfl, rfl⟩))
  go_ret
  exact ⟨rfl, rfl⟩
/-- what Feed leaves -/
def FeK (C : Nat) (b : Nat) (_bw : Value) (ov : Bool) (bs news : Bs) (w : World) (e : Ending) (w' : World) : Prop :=
  if ov then e = .returned (.int .i64 10) ∧ w' = w
  else if 1048576 < bs.length + news.length then e = .returned (.int .i64 3) ∧ w' = w
  else e = .returned (.int .i64 0) ∧ ∃ v b', CB w' C v false ∧ BF w' v b' (bs ++ news) ∧ GT w w' (fun x => x = C ∨ x = b) ∧ (b' = b ∨ w.heap.size ≤ b')
theorem feed_nums {n m : Nat} (hn : n ≤ 1048576) (_hm : m ≤ 1000000) : wrap64 ((1048576 : Int) - (n : Int)) = 1048576 - (n : Int) := wrap64_id (by omega) (by omega)
set_option maxHeartbeats 3200000 in
theorem feed_any (C b : Nat) (bw : Value) (ov : Bool) (bs news : Bs) (x : Value) (w : World) (h : CB w C bw ov) (hB : BF w bw b bs) (hbC : b ≠ C) (hx : BV w x news) (hn : bs.length ≤ 1048576) (hm : news.length ≤ 1000000) :
    Calls Tryz.prog 9 #[.pointer (some ⟨C, 0, none⟩), x] w (FeK C b bw ov bs news w) := by
  obtain ⟨A, c, rfl, hc⟩ := hB.shape
  obtain ⟨X, xc, rfl, hxc, hx'⟩ := hx
  have hx : BV w (.slice X news.length xc) news := ⟨X, xc, rfl, hxc, hx'⟩
  clear hx'
  have c1 := h.c1
  have f1 := h.f 1
  have c2 := h.c2
  have hno := fun W (hW : W = w) => Lib.hid (none_any C _ ov W (hW ▸ h))
  have hw := feed_nums hn hm
  have hCl := h.lt
  cases ov with
  | true =>
    go_enter Tryz.func9, Tryz.ntmps9
    go_wp2_with (first
      | (go_at_call 34; refine ((hno _ rfl).out).mono ?_; rintro e w1 ⟨rfl, rfl⟩))
    go_ret
    unfold FeK
    rw [if_pos rfl]
    exact ⟨rfl, rfl⟩
  | false =>
    by_cases hbig : 1048576 < bs.length + news.length
    · have hb1 : (1048576 : Int) - (bs.length : Int) < (news.length : Int) := by omega
      have hbh := Lib.hid hbig
      go_enter Tryz.func9, Tryz.ntmps9
      go_wp2_with (first
        | (go_at_call 34; refine ((hno _ rfl).out).mono ?_; rintro e w1 ⟨rfl, rfl⟩))
      go_ret
      unfold FeK
      rw [if_neg (show ¬ false = true from by decide), if_pos hbh.out]
      exact ⟨rfl, rfl⟩
    · have hb1 : ¬ (1048576 : Int) - (bs.length : Int) < (news.length : Int) := by omega
      have hbh := Lib.hid hbig
      have hsm : bs.length + news.length ≤ 1000000000 := by omega
      clear hbig
      go_enter Tryz.func9, Tryz.ntmps9
      go_wp2_with (first
        | (go_at_call 34; refine ((hno _ rfl).out).mono ?_; rintro e w0 ⟨rfl, hw0⟩; rw [hw0]; clear hw0)
        | (refine wpList_append_bf rfl _ _ rfl rfl rfl hB hx hsm ?_; intro v w1 b1 h1 g1 hb1; obtain ⟨A1, k1, rfl, hk1⟩ := h1.shape; have hla := @List.length_append _ bs news; have h2 := h.kept g1 (by simpa using hbC.symm); have f1' := h2.f 1; have c1' := h2.c1))
      go_ret
      have hb1C : b1 ≠ C := by
        rcases hb1 with e | e
        · rw [e]; exact hbC
        · omega
      unfold FeK
      rw [if_neg (show ¬ false = true from by decide), if_neg hbh.out]
      refine ⟨rfl, _, b1, h2.set1 _, ?_, (GT.of_some g1 (.inr rfl)).gb (gb_setR (gb_refl _ _) _ _) (fun x _ e => .inl (Option.some.inj e).symm), hb1⟩
      rw [← hla]
      exact h1.grown (gb_setR (gb_refl _ _) _ _) (by simpa using hb1C)
end Go.Proofs.YtdfgnoflohfnmaaGreatDoor.Hx
