/- HTTP, the document's side: a connection's block; New, none, Over, Left, Feed. -/
import Derived.Test.YtdfgnoflohfnmaaGreatDoorHr
namespace Go.Proofs.YtdfgnoflohfnmaaGreatDoor.Hx
open Go.RowKit Go.Maps

def RCB (w : World) (C : Nat) (bw : Value) (ov : Bool) : Prop := w.heap[C]? = some (.cells #[.bool true, bw, .bool ov] 69 (0, 0))
section
variable {w w' : World} {C : Nat} {bw : Value} {ov : Bool}
theorem RCB.lt (h : RCB w C bw ov) : C < w.heap.size := (Array.getElem?_eq_some_iff.1 h).1
theorem RCB.c0 (h : RCB w C bw ov) : w.cell? ⟨C, 0, none⟩ = some (.bool true) := by rw [cell_of_row w C 0 _ _ _ h]; rfl
theorem RCB.c1 (h : RCB w C bw ov) : w.cell? ⟨C, 1, none⟩ = some bw := by rw [cell_of_row w C 1 _ _ _ h]; rfl
theorem RCB.c2 (h : RCB w C bw ov) : w.cell? ⟨C, 2, none⟩ = some (.bool ov) := by rw [cell_of_row w C 2 _ _ _ h]; rfl
theorem RCB.f (h : RCB w C bw ov) (i : Nat) : w.frozen? ⟨C, i, none⟩ = false := by unfold RCB at h; simp [World.frozen?, h]
theorem RCB.set1 (h : RCB w C bw ov) (q : Value) : RCB (w.setCell ⟨C, 1, none⟩ q) C q ov := by unfold RCB at h ⊢; simp [World.setCell, Array.getElem?_modify, h]
theorem RCB.set2 (h : RCB w C bw ov) (q : Bool) : RCB (w.setCell ⟨C, 2, none⟩ (.bool q)) C bw q := by unfold RCB at h ⊢; simp [World.setCell, Array.getElem?_modify, h]
theorem RCB.drewN (h : RCB w C bw ov) (n : Nat) : RCB (w.drewN n) C bw ov := h
theorem RCB.kept (h : RCB w C bw ov) {row : Option Nat} (hg : w.grownBy w' row) (hne : some C ≠ row) : RCB w' C bw ov := (hg.block C h.lt hne).trans h
theorem RCB.gt (h : RCB w C bw ov) {T : Nat → Prop} (hg : GT w w' T) (hne : ¬ T C) : RCB w' C bw ov := (hg.block C h.lt hne).trans h
theorem RCB.alloc (h : RCB w C bw ov) (o : Obj) : RCB (w.alloc o) C bw ov := (Below.heap_alloc w o C h.lt).trans h
end
theorem rnone_any (C : Nat) (bw : Value) (ov : Bool) (w : World) (h : RCB w C bw ov) : Calls Tryz.prog 36 #[.pointer (some ⟨C, 0, none⟩)] w fun e w' => e = .returned (.bool false) ∧ w' = w := by
  have c0 := h.c0
  go_enter Tryz.func36, Tryz.ntmps36
  go_wp2_with fail
  go_ret
  exact ⟨rfl, rfl⟩
theorem rover_any (C : Nat) (bw : Value) (ov : Bool) (w : World) (h : RCB w C bw ov) : Calls Tryz.prog 17 #[.pointer (some ⟨C, 0, none⟩)] w fun e w' => e = .returned (.bool ov) ∧ w' = w := by
  have c2 := h.c2
  have hn := fun W (hW : W = w) => Lib.hid (rnone_any C bw ov W (hW ▸ h))
  go_enter Tryz.func17, Tryz.ntmps17
  go_wp2_with (first
    | (go_at_call 36; refine ((hn _ rfl).out).mono ?_; rintro e w1 ⟨rfl, rfl⟩))
  go_ret
  exact ⟨rfl, rfl⟩
theorem rleft_any (C : Nat) (bw : Value) (ov : Bool) (bs : Bs) (A : Option Addr) (c : Nat) (w : World) (h : RCB w C bw ov) (hb : bw = .slice A bs.length c) : Calls Tryz.prog 19 #[.pointer (some ⟨C, 0, none⟩)] w fun e w' => e = .returned (.int .i64 (bs.length : Int)) ∧ w' = w := by
  subst hb
  have c1 := h.c1
  have hn := fun W (hW : W = w) => Lib.hid (rnone_any C _ ov W (hW ▸ h))
  go_enter Tryz.func19, Tryz.ntmps19
  go_wp2_with (first
    | (go_at_call 36; refine ((hn _ rfl).out).mono ?_; rintro e w1 ⟨rfl, rfl⟩))
  go_ret
  exact ⟨rfl, rfl⟩
def RFeK (C : Nat) (b : Nat) (_bw : Value) (ov : Bool) (bs news : Bs) (w : World) (e : Ending) (w' : World) : Prop :=
  if ov then e = .returned (.int .i64 10) ∧ w' = w
  else if 1048576 < bs.length + news.length then e = .returned (.int .i64 3) ∧ w' = w
  else e = .returned (.int .i64 0) ∧ ∃ v b', RCB w' C v false ∧ BF w' v b' (bs ++ news) ∧ GT w w' (fun x => x = C ∨ x = b) ∧ (b' = b ∨ w.heap.size ≤ b')
set_option maxHeartbeats 3200000 in
theorem rfeed_any (C b : Nat) (bw : Value) (ov : Bool) (bs news : Bs) (x : Value) (w : World) (h : RCB w C bw ov) (hB : BF w bw b bs) (hbC : b ≠ C) (hx : BV w x news) (hn : bs.length ≤ 1048576) (hm : news.length ≤ 1000000) :
    Calls Tryz.prog 15 #[.pointer (some ⟨C, 0, none⟩), x] w (RFeK C b bw ov bs news w) := by
  obtain ⟨A, c, rfl, hc⟩ := hB.shape
  obtain ⟨X, xc, rfl, hxc, hx'⟩ := hx
  have hx : BV w (.slice X news.length xc) news := ⟨X, xc, rfl, hxc, hx'⟩
  clear hx'
  have c1 := h.c1
  have f1 := h.f 1
  have c2 := h.c2
  have hno := fun W (hW : W = w) => Lib.hid (rnone_any C _ ov W (hW ▸ h))
  have hw := feed_nums hn hm
  have hCl := h.lt
  cases ov with
  | true =>
    go_enter Tryz.func15, Tryz.ntmps15
    go_wp2_with (first
      | (go_at_call 36; refine ((hno _ rfl).out).mono ?_; rintro e w1 ⟨rfl, rfl⟩))
    go_ret
    unfold RFeK
    rw [if_pos rfl]
    exact ⟨rfl, rfl⟩
  | false =>
    by_cases hbig : 1048576 < bs.length + news.length
    · have hb1 : (1048576 : Int) - (bs.length : Int) < (news.length : Int) := by omega
      have hbh := Lib.hid hbig
      go_enter Tryz.func15, Tryz.ntmps15
      go_wp2_with (first
        | (go_at_call 36; refine ((hno _ rfl).out).mono ?_; rintro e w1 ⟨rfl, rfl⟩))
      go_ret
      unfold RFeK
      rw [if_neg (show ¬ false = true from by decide), if_pos hbh.out]
      exact ⟨rfl, rfl⟩
    · have hb1 : ¬ (1048576 : Int) - (bs.length : Int) < (news.length : Int) := by omega
      have hbh := Lib.hid hbig
      have hsm : bs.length + news.length ≤ 1000000000 := by omega
      clear hbig
      go_enter Tryz.func15, Tryz.ntmps15
      go_wp2_with (first
        | (go_at_call 36; refine ((hno _ rfl).out).mono ?_; rintro e w0 ⟨rfl, hw0⟩; rw [hw0]; clear hw0)
        | (refine wpList_append_bf rfl _ _ rfl rfl rfl hB hx hsm ?_; intro v w1 b1 h1 g1 hb1; obtain ⟨A1, k1, rfl, hk1⟩ := h1.shape; have hla := @List.length_append _ bs news; have h2 := h.kept g1 (by simpa using hbC.symm); have f1' := h2.f 1; have c1' := h2.c1))
      go_ret
      have hb1C : b1 ≠ C := by
        rcases hb1 with e | e
        · rw [e]; exact hbC
        · omega
      unfold RFeK
      rw [if_neg (show ¬ false = true from by decide), if_neg hbh.out]
      refine ⟨rfl, _, b1, h2.set1 _, ?_, (GT.of_some g1 (.inr rfl)).gb (gb_setR (gb_refl _ _) _ _) (fun x _ e => .inl (Option.some.inj e).symm), hb1⟩
      rw [← hla]
      exact h1.grown (gb_setR (gb_refl _ _) _ _) (by simpa using hb1C)
def RN (w : World) (C : Nat) (bo : Option Nat) (bs : Bs) (ov : Bool) : Prop := ∃ bw, RCB w C bw ov ∧ BW w bw bo bs ∧ bo ≠ some C
section
variable {w w' : World} {C : Nat} {bo : Option Nat} {bs : Bs} {ov : Bool} {T : Nat → Prop}
theorem RN.lt (h : RN w C bo bs ov) : C < w.heap.size := by obtain ⟨bw, h, _⟩ := h; exact h.lt
theorem RN.blt (h : RN w C bo bs ov) {b : Nat} (hb : bo = some b) : b < w.heap.size := by
  obtain ⟨bw, _, h | ⟨b', e, hl, _⟩, _⟩ := h
  · rw [h.2.2] at hb; cases hb
  · rw [e] at hb; cases hb; exact hl
theorem RN.gt (h : RN w C bo bs ov) (hg : GT w w' T) (hC : ¬ T C) (hb : ∀ b, bo = some b → ¬ T b) : RN w' C bo bs ov := by
  obtain ⟨bw, h1, h2, h3⟩ := h
  refine ⟨bw, h1.gt hg hC, h2.imp id ?_, h3⟩
  rintro ⟨b, e, hl, hf⟩
  exact ⟨b, e, Nat.lt_of_lt_of_le hl hg.size, hf.gt hg (hb b e)⟩
theorem RN.grown (h : RN w C bo bs ov) (hg : w.grownBy w' none) : RN w' C bo bs ov := h.gt (T := fun _ => False) (.of_none hg) (fun h => h) (fun _ _ h => h)
end
theorem rnew_cn (w : World) : Calls Tryz.prog 14 #[] w fun e w' => e = .returned (.pointer (some ⟨w.heap.size, 0, none⟩)) ∧ RN w' w.heap.size none [] false ∧ w.grownBy w' none ∧ w'.heap.size = w.heap.size + 1 := by
  go_enter Tryz.func14, Tryz.ntmps14
  go_wp2_with fail
  go_ret
  exact ⟨rfl, ⟨_, heap_alloc_new _ _, .inl ⟨rfl, rfl, rfl⟩, by simp⟩, gb_alloc (gb_refl _ _) _, by simp⟩
def RFcK (C : Nat) (bo : Option Nat) (bs news : Bs) (ov : Bool) (w : World) (e : Ending) (w' : World) : Prop :=
  if ov then e = .returned (.int .i64 10) ∧ w' = w
  else if 1048576 < bs.length + news.length then e = .returned (.int .i64 3) ∧ w' = w
  else e = .returned (.int .i64 0) ∧ ∃ bo', RN w' C bo' (bs ++ news) false ∧ GT w w' (fun k => k = C ∨ bo = some k) ∧ (bo' = none ∨ bo' = bo ∨ ∃ k, bo' = some k ∧ w.heap.size ≤ k)
theorem rfeed_cn (C : Nat) (bo : Option Nat) (bs news : Bs) (ov : Bool) (x : Value) (w : World) (h : RN w C bo bs ov) (hx : BV w x news) (hn : bs.length ≤ 1048576) (hm : news.length ≤ 1000000) :
    Calls Tryz.prog 15 #[.pointer (some ⟨C, 0, none⟩), x] w (RFcK C bo bs news ov w) := by
  have hC := h.lt
  obtain ⟨bw, h1, h2, h3⟩ := h
  rcases h2 with ⟨rfl, rfl, rfl⟩ | ⟨b, rfl, hl, hf⟩
  · refine (rfeed_any C w.heap.size _ ov [] news x w h1 (BF.nil _ _) (by omega) hx hn hm).mono ?_
    intro e w' hk
    unfold RFeK at hk
    unfold RFcK
    split
    · next ho => rw [if_pos ho] at hk; exact hk
    · next ho =>
      rw [if_neg ho] at hk
      split
      · next hb => rw [if_pos hb] at hk; exact hk
      · next hb =>
        rw [if_neg hb] at hk
        obtain ⟨rfl, v, b', hc, hf, hg, hb'⟩ := hk
        have hge : w.heap.size ≤ b' := by rcases hb' with rfl | h; exact Nat.le_refl _; exact h
        obtain ⟨bo', hw, ho'⟩ := hf.bw
        refine ⟨rfl, bo', ⟨v, hc, hw, ?_⟩, hg.mono (fun k hk e => by rcases e with e | e; exact .inl e; omega), ?_⟩
        · rcases ho' with rfl | rfl
          · simp
          · intro e; have := Option.some.inj e; omega
        · rcases ho' with rfl | rfl
          · exact .inl rfl
          · exact .inr (.inr ⟨b', rfl, hge⟩)
  · have hbC : b ≠ C := fun e => h3 (by rw [e])
    refine (rfeed_any C b _ ov bs news x w h1 hf hbC hx hn hm).mono ?_
    intro e w' hk
    unfold RFeK at hk
    unfold RFcK
    split
    · next ho => rw [if_pos ho] at hk; exact hk
    · next ho =>
      rw [if_neg ho] at hk
      split
      · next hb => rw [if_pos hb] at hk; exact hk
      · next hb =>
        rw [if_neg hb] at hk
        obtain ⟨rfl, v, b', hc, hf, hg, hb'⟩ := hk
        obtain ⟨bo', hw, ho'⟩ := hf.bw
        refine ⟨rfl, bo', ⟨v, hc, hw, ?_⟩, hg.mono (fun k hk e => by rcases e with e | e; exact .inl e; exact .inr (by rw [e])), ?_⟩
        · rcases ho' with rfl | rfl
          · simp
          · intro e
            have e := Option.some.inj e
            rcases hb' with h | h
            · exact hbC (h ▸ e)
            · omega
        · rcases ho' with rfl | rfl
          · exact .inl rfl
          · rcases hb' with rfl | h
            · exact .inr (.inl rfl)
            · exact .inr (.inr ⟨b', rfl, h⟩)
theorem rover_cn (C : Nat) (bo : Option Nat) (bs : Bs) (ov : Bool) (w : World) (h : RN w C bo bs ov) : Calls Tryz.prog 17 #[.pointer (some ⟨C, 0, none⟩)] w fun e w' => e = .returned (.bool ov) ∧ w' = w := by
  obtain ⟨bw, h1, _⟩ := h
  exact rover_any C bw ov w h1

end Go.Proofs.YtdfgnoflohfnmaaGreatDoor.Hx
