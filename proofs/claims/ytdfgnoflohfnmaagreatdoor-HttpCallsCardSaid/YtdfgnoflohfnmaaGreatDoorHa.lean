/- HTTP: a line of what waits: (*reader).line, walked. -/
import Derived.Test.YtdfgnoflohfnmaaGreatDoorH9
import Derived.Lib.SmallJoins
namespace Go.Proofs.YtdfgnoflohfnmaaGreatDoor.Hx
open Go.RowKit Go.Maps

abbrev crO (fr : Nat × Nat) : Obj := .cells #[.int .u8 13, .int .u8 10] 5 fr
theorem conv_crlf (w : World) (q : Nat) : (convert 22 22 (.slice (some ⟨w.heap.size, 0, none⟩) 2 2)).run Tryz.prog ((w.drewN q).alloc (crO (0, 0))) = .ok (.slice (some ⟨w.heap.size, 0, none⟩) 2 2) ((w.drewN q).alloc (crO (2, 3))) :=
  Joins.run_convert_bytes_const_at (w.drewN q) 22 5 #[.int .u8 13, .int .u8 10] 2 2 w.heap.size rfl Tryz.underlying22 Tryz.underlying5
theorem bytesOf_bs (l : Bs) : Lib.bytesOf (l.map fun c => (c.toNat : Int)) = l := by
  unfold Lib.bytesOf
  rw [List.map_map]
  conv => rhs; rw [← List.map_id l]
  congr 1
  funext c
  simp
/-- bytes.Index of the line's end -/
theorem index_crlf (b o g c : Nat) (l : Bs) (n : Nat) (m : Int) (w : World) (hn : l.length = n) (hc : n ≤ c) (hl : n ≤ 2000000) (hb : BA w b o l) (hg : w.heap[g]? = some (crO (2, 3))) (hm : MX w m) :
    Calls Tryz.prog 88 #[.slice (some ⟨b, o, none⟩) n c, .slice (some ⟨g, 0, none⟩) 2 2] w fun e w' => e = .returned (.int .i64 (Lib.index l crlf)) ∧ ∃ q, w' = w.drewN q := by
  have := Tryz.bytes_Index_at ⟨b, o, none⟩ ⟨g, 0, none⟩ n c 2 2 (l.map fun c => (c.toNat : Int)) [13, 10] m w (by simpa using hn) rfl
    (fun x hx => by obtain ⟨y, _, rfl⟩ := List.mem_map.mp hx; have := UInt8.toNat_lt y; omega) (by decide)
    (fun i hi => by
      rw [add_lit, hb i (by omega)]
      have hi' : i < l.length := by omega
      simp [hi'])
    (fun i hi => by
      rw [add_lit, Nat.zero_add, cell_of_row w g i _ _ _ hg]
      rcases (by omega : i = 0 ∨ i = 1) with rfl | rfl <;> rfl) hc (by omega) (by omega) hm
  rw [bytesOf_bs] at this
  exact this
theorem index_crlf_nil (g : Nat) (w : World) : Calls Tryz.prog 88 #[.slice none 0 0, .slice (some ⟨g, 0, none⟩) 2 2] w fun e w' => e = .returned (.int .i64 (-1)) ∧ w' = w :=
  Tryz.bytes_Index_nil (some ⟨g, 0, none⟩) 2 2 w (by omega) (fun h => absurd h (by decide))
/-- what a line leaves -/
def LK (R : Nat) (bw : Value) (w : World) (bs : Bs) (σ : RS) (e : Ending) (w' : World) : Prop :=
  match lineP (bs.drop σ.i) with
  | .more => QS1 R bw w (.tuple #[.string ⟨#[]⟩, .bool false]) σ e w'
  | .bad => ∃ i, QS1 R bw w (.tuple #[.string ⟨#[]⟩, .bool false]) { σ with i := i, st := 400 } e w'
  | .got s n => QS1 R bw w (.tuple #[.string ⟨s.toArray⟩, .bool true]) { σ with i := σ.i + n } e w'
theorem LK.of_more {R : Nat} {bw : Value} {w : World} {bs : Bs} {σ : RS} {e : Ending} {w' : World} (h : lineP (bs.drop σ.i) = .more) (k : QS1 R bw w (.tuple #[.string ⟨#[]⟩, .bool false]) σ e w') : LK R bw w bs σ e w' := by
  unfold LK; rw [h]; exact k
theorem LK.of_bad {R : Nat} {bw : Value} {w : World} {bs : Bs} {σ : RS} {e : Ending} {w' : World} (h : lineP (bs.drop σ.i) = .bad) (i : Nat) (k : QS1 R bw w (.tuple #[.string ⟨#[]⟩, .bool false]) { σ with i := i, st := 400 } e w') : LK R bw w bs σ e w' := by
  unfold LK; rw [h]; exact ⟨i, k⟩
theorem LK.of_got {R : Nat} {bw : Value} {w : World} {bs : Bs} {σ : RS} {e : Ending} {w' : World} {s : Bs} {n : Nat} (h : lineP (bs.drop σ.i) = .got s n) (k : QS1 R bw w (.tuple #[.string ⟨s.toArray⟩, .bool true]) { σ with i := σ.i + n } e w') : LK R bw w bs σ e w' := by
  unfold LK; rw [h]; exact k
theorem line_nil : lineP [] = .more := rfl
set_option maxRecDepth 100000 in
set_option maxHeartbeats 6400000 in
theorem line_full (R : Nat) (b o c : Nat) (bs : Bs) (σ : RS) (m : Int) (w : World) (h : RB w R (.slice (some ⟨b, o, none⟩) bs.length c) σ) (hc : bs.length ≤ c) (hm : MX w m) (hi : σ.i ≤ bs.length) (hl : bs.length ≤ 2000000) (hci : c = σ.i) :
    Calls Tryz.prog 63 #[.pointer (some ⟨R, 0, none⟩)] w (LK R (.slice (some ⟨b, o, none⟩) bs.length c) w bs σ) := by
  have c0 := h.c0
  have c1 := h.c1
  have i0 : (0 : Int) ≤ (σ.i : Int) := by omega
  have i1 : (σ.i : Int) ≤ (bs.length : Int) := by omega
  have hz : bs.drop σ.i = [] := List.drop_eq_nil_of_le (by omega)
  have hmore := Lib.hid (show lineP (bs.drop σ.i) = .more from by rw [hz]; exact line_nil)
  have hn0 : bs.length - σ.i = 0 := by omega
  have HI := fun (W : World) (g q : Nat) (hW : W = (w.drewN q).alloc (crO (2, 3))) (hg : g = w.heap.size) => Lib.hid (show Calls Tryz.prog 88 #[.slice (some ⟨b, o, none⟩) 0 0, .slice (some ⟨g, 0, none⟩) 2 2] W fun e w' => e = .returned (.int .i64 (-1)) ∧ ∃ q, w' = W.drewN q from by
    subst hW hg
    exact index_crlf b o _ 0 [] 0 m _ rfl (Nat.le_refl _) (by omega) (fun i hi => by simp at hi) (heap_alloc_new _ _) (hm.grown (gb_alloc (gb_drewN (gb_refl _ none) _) _) (by simp)))
  have hcs := fun q => conv_crlf w q
  subst hci
  have hn1 : bs.length = σ.i := by omega
  go_enter Tryz.func63, Tryz.ntmps63
  go_wp2_with fail
  go_quiet (fail)
  go_wp2_with (first
    | (go_at_call 88; refine ((HI _ _ _ rfl rfl).out).mono ?_; rintro e w1 ⟨rfl, q1, rfl⟩))
  refine bodyPost_ret (v := .tuple #[.string ⟨#[]⟩, .bool false]) (by simp [results, Tryz.results63, go_sem]) rfl ?_
  exact LK.of_more hmore.out ⟨rfl, RB.drewN (RB.alloc (RB.drewN h _) _) _, gb_drewN (gb_alloc (gb_drewN (gb_refl _ _) _) _) _⟩
theorem w64_two {j : Nat} (h : j ≤ 2000000) : wrap64 ((j : Int) + 2) = (j : Int) + 2 := wrap64_id (by omega) (by omega)
theorem w64_sum {i j : Nat} (h : i ≤ 2000000) (h2 : j ≤ 2000000) : wrap64 ((i : Int) + ((j : Int) + 2)) = ((i + (j + 2) : Nat) : Int) := (wrap64_id (by omega) (by omega)).trans (by omega)
theorem line_idx {l : Bs} {k : Int} (h : Lib.index l crlf = k) : lineP l = if 4096 < k ∨ (k < 0 ∧ 4098 ≤ l.length) then .bad else if k < 0 then .more else if (l.take k.toNat).all lnB then .got (l.take k.toNat) (k.toNat + 2) else .bad := by
  unfold lineP; rw [h]
set_option maxRecDepth 100000 in
set_option maxHeartbeats 6400000 in
theorem line_room (R : Nat) (b o c : Nat) (bs : Bs) (σ : RS) (m : Int) (w : World) (h : RB w R (.slice (some ⟨b, o, none⟩) bs.length c) σ) (hb : BA w b o bs) (hc : bs.length ≤ c) (hm : MX w m) (hi : σ.i ≤ bs.length) (hl : bs.length ≤ 2000000) (hci : c ≠ σ.i) :
    Calls Tryz.prog 63 #[.pointer (some ⟨R, 0, none⟩)] w (LK R (.slice (some ⟨b, o, none⟩) bs.length c) w bs σ) := by
  have c0 := h.c0
  have c1 := h.c1
  have i0 : (0 : Int) ≤ (σ.i : Int) := by omega
  have i1 : (σ.i : Int) ≤ (bs.length : Int) := by omega
  have i2 : (σ.i : Int) ≤ (c : Int) := by omega
  have i3 : ¬ c = σ.i := hci
  obtain ⟨n, hn⟩ : ∃ n, bs.length - σ.i = n := ⟨_, rfl⟩
  obtain ⟨cc, hcc⟩ : ∃ cc, c - σ.i = cc := ⟨_, rfl⟩
  have hncc : n ≤ cc := by omega
  obtain ⟨l, hL⟩ : ∃ l, bs.drop σ.i = l := ⟨_, rfl⟩
  have hln : l.length = n := by rw [← hL, List.length_drop]; exact hn
  have hbl : BA w b (o + σ.i) l := by rw [← hL]; exact hb.drop σ.i
  have hbw : l ≠ [] → b < w.heap.size := fun h0 => hbl.lt h0
  obtain ⟨k, hk⟩ : ∃ k, Lib.index l crlf = k := ⟨_, rfl⟩
  have hP := line_idx hk
  rw [← hL] at hP
  have hkge := Lib.index_ge l crlf
  rw [hk] at hkge
  have hkr : 0 ≤ k → k + 2 ≤ l.length := fun h0 => by have := Lib.index_room l crlf (by omega); rw [hk] at this; exact this
  have HI := fun (W : World) (g q : Nat) (hW : W = (w.drewN q).alloc (crO (2, 3))) (hg : g = w.heap.size) => Lib.hid (show Calls Tryz.prog 88 #[.slice (some ⟨b, o + σ.i, none⟩) n cc, .slice (some ⟨g, 0, none⟩) 2 2] W fun e w' => e = .returned (.int .i64 k) ∧ ∃ q, w' = W.drewN q from by
    subst hW hg
    rw [← hk]
    exact index_crlf b (o + σ.i) _ cc l n m _ hln hncc (by omega) (hbl.grown (gb_alloc (gb_drewN (gb_refl _ none) _) _) (by simp)) (heap_alloc_new _ _) (hm.grown (gb_alloc (gb_drewN (gb_refl _ none) _) _) (by simp)))
  have hcs := fun q => conv_crlf w q
  have hnl : n ≤ 2000000 := by omega
  clear hm hb hk
  rw [hL] at hP
  have hPh := Lib.hid hP
  clear hP
  go_enter Tryz.func63, Tryz.ntmps63
  go_wp2_with fail
  go_quiet (fail)
  clear i3 hci hc hcc i0 i1 i2 hn c0 c1 hbw
  by_cases hbad : 4096 < k ∨ (k < 0 ∧ 4098 ≤ n)
  · have hB := Lib.hid (show lineP (bs.drop σ.i) = .bad from by rw [hL, hPh.out, if_pos (by rw [hln]; exact hbad)])
    clear hPh hkr
    by_cases hk1 : 4096 < k
    · go_wp2_with (first
        | (go_at_call 88; refine ((HI _ _ _ rfl rfl).out).mono ?_; rintro e w1 ⟨rfl, q1, hw1⟩; have hg1 : w.grownBy w1 none := (by rw [hw1]; exact gb_drewN (gb_alloc (gb_drewN (gb_refl _ _) _) _) _); clear hw1; have h1 := h.kept hg1 (by simp); have c9 := h1.c9; have f9 := h1.f 9))
      refine bodyPost_ret (v := .tuple #[.string ⟨#[]⟩, .bool false]) (by simp [results, Tryz.results63, go_sem]) rfl ?_
      exact LK.of_bad hB.out σ.i ⟨rfl, h1.set9 400, gb_setR (gb_row hg1 _) _ _⟩
    · have hk2 : k < 0 := by omega
      have hn2 : (4098 : Int) ≤ (n : Int) := by omega
      go_wp2_with (first
        | (go_at_call 88; refine ((HI _ _ _ rfl rfl).out).mono ?_; rintro e w1 ⟨rfl, q1, hw1⟩; have hg1 : w.grownBy w1 none := (by rw [hw1]; exact gb_drewN (gb_alloc (gb_drewN (gb_refl _ _) _) _) _); clear hw1; have h1 := h.kept hg1 (by simp); have c9 := h1.c9; have f9 := h1.f 9))
      refine bodyPost_ret (v := .tuple #[.string ⟨#[]⟩, .bool false]) (by simp [results, Tryz.results63, go_sem]) rfl ?_
      exact LK.of_bad hB.out σ.i ⟨rfl, h1.set9 400, gb_setR (gb_row hg1 _) _ _⟩
  · by_cases hk0 : k < 0
    · have hM := Lib.hid (show lineP (bs.drop σ.i) = .more from by rw [hL, hPh.out, if_neg (by rw [hln]; exact hbad), if_pos hk0])
      have hk1 : ¬ (4096 : Int) < k := by omega
      have hn2 : ¬ (4098 : Int) ≤ (n : Int) := by omega
      clear hPh hkr hbad
      go_wp2_with (first
        | (go_at_call 88; refine ((HI _ _ _ rfl rfl).out).mono ?_; rintro e w1 ⟨rfl, q1, hw1⟩; have hg1 : w.grownBy w1 none := (by rw [hw1]; exact gb_drewN (gb_alloc (gb_drewN (gb_refl _ _) _) _) _); clear hw1; have h1 := h.kept hg1 (by simp)))
      refine bodyPost_ret (v := .tuple #[.string ⟨#[]⟩, .bool false]) (by simp [results, Tryz.results63, go_sem]) rfl ?_
      exact LK.of_more hM.out ⟨rfl, h1, gb_row hg1 _⟩
    · obtain ⟨j, rfl⟩ : ∃ j : Nat, k = j := ⟨k.toNat, by omega⟩
      have hjr := hkr (by omega)
      have hG := Lib.hid (show lineP (bs.drop σ.i) = if (l.take j).all lnB then .got (l.take j) (j + 2) else .bad from by rw [hL, hPh.out, if_neg (by rw [hln]; exact hbad), if_neg hk0, Int.toNat_natCast])
      have hk1 : ¬ (4096 : Int) < (j : Int) := by omega
      have j1 : (j : Int) ≤ (n : Int) := by omega
      have j2 : (j : Int) ≤ (cc : Int) := by omega
      have hlt : (l.take j).length = j := by rw [List.length_take]; omega
      have hal := fun W => Lib.hid (all_ln ⟨(l.take j).toArray⟩ W (by show (l.take j).toArray.size ≤ _; simp; omega))
      have jb : j ≤ 2000000 := Nat.le_trans (by exact_mod_cast j1) hnl
      have hw2 := w64_two jb
      have hw3 := w64_sum (i := σ.i) (Nat.le_trans hi hl) jb
      have hbR' : some b ≠ (none : Option Nat) := by simp
      clear hPh hkr hbad hk0
      dsimp only at hal
      obtain ⟨S, hS⟩ : ∃ S : ByteArray, S = ⟨(l.take j).toArray⟩ := ⟨_, rfl⟩
      rw [← hS] at hal
      have hSl : Hid (S.data.toList = l.take j) := by unfold Hid; rw [hS]
      have hSe := Lib.hid hS
      have hcvT := fun W (hg : w.grownBy W none) => Lib.hid (show (convert 22 9 (.slice (some ⟨b, o + σ.i, none⟩) j cc)).run Tryz.prog W = .ok (.string S) W from by
        have := BA.str ((hbl.grown hg hbR').take j) cc
        rw [hlt, ← hS] at this
        exact this)
      clear hS
      generalize hy : (l.take j).all lnB = y at *
      have hya : Hid (S.data.toList.all lnB = y) := by unfold Hid; rw [hSl.out]; exact hy
      have hal2 : ∀ W : World, Hid (Calls Tryz.prog 38 #[.string S, .func (.func 89) #[] #[]] W fun e w' => e = .returned (.bool y) ∧ w' = W) := fun W => by
        have := (hal W).out
        first
          | exact this
          | (rw [hya.out] at this; exact this)
      clear hal hya
      cases y with
      | true =>
        have hG2 := Lib.hid (show lineP (bs.drop σ.i) = .got (l.take j) (j + 2) from by rw [hG.out, if_pos rfl])
        clear hG hy
        go_wp2_with (first
          | (go_at_call 38; refine ((hal2 _).out).mono ?_; rintro e w2 ⟨rfl, rfl⟩)
          | (go_at_call 88; refine ((HI _ _ _ rfl rfl).out).mono ?_; rintro e w1 ⟨rfl, q1, hw1⟩; have hg1 : w.grownBy w1 none := (by rw [hw1]; exact gb_drewN (gb_alloc (gb_drewN (gb_refl _ _) _) _) _); clear hw1; have h1 := h.kept hg1 (by simp); have c1' := h1.c1; have f1' := h1.f 1; have hcv := (hcvT w1 hg1).out))
        refine bodyPost_ret (v := .tuple #[.string S, .bool true]) (by simp [results, Tryz.results63, go_sem]) rfl ?_
        refine LK.of_got hG2.out ⟨by rw [hSe.out], ?_, gb_setR (gb_row hg1 _) _ _⟩
        rw [show (σ.i : Int) + ((j : Int) + 2) = ((σ.i + (j + 2) : Nat) : Int) from by push_cast; rfl]
        exact h1.set1 (σ.i + (j + 2))
      | false =>
        have hG2 := Lib.hid (show lineP (bs.drop σ.i) = .bad from by rw [hG.out, if_neg (by decide)])
        clear hG hy
        go_wp2_with (first
          | (go_at_call 38; refine ((hal2 _).out).mono ?_; rintro e w2 ⟨rfl, rfl⟩)
          | (go_at_call 88; refine ((HI _ _ _ rfl rfl).out).mono ?_; rintro e w1 ⟨rfl, q1, hw1⟩; have hg1 : w.grownBy w1 none := (by rw [hw1]; exact gb_drewN (gb_alloc (gb_drewN (gb_refl _ _) _) _) _); clear hw1; have h1 := h.kept hg1 (by simp); have c1' := h1.c1; have f1' := h1.f 1; have hcv := (hcvT w1 hg1).out; have c9' := h1.c9; have f9' := h1.f 9))
        refine bodyPost_ret (v := .tuple #[.string ⟨#[]⟩, .bool false]) (by simp [results, Tryz.results63, go_sem]) rfl ?_
        refine LK.of_bad hG2.out (σ.i + (j + 2)) ⟨rfl, ?_, gb_setR (gb_setR (gb_row hg1 _) _ _) _ _⟩
        rw [show (σ.i : Int) + ((j : Int) + 2) = ((σ.i + (j + 2) : Nat) : Int) from by push_cast; rfl]
        exact (h1.set1 (σ.i + (j + 2))).set9 400
set_option maxRecDepth 100000 in
set_option maxHeartbeats 6400000 in
theorem line_none (R : Nat) (σ : RS) (w : World) (h : RB w R (.slice none 0 0) σ) (hi : σ.i = 0) :
    Calls Tryz.prog 63 #[.pointer (some ⟨R, 0, none⟩)] w (LK R (.slice none 0 0) w [] σ) := by
  have c0 := h.c0
  have c1 := h.c1
  have hmore := Lib.hid (show lineP (([] : Bs).drop σ.i) = .more from by rw [hi]; exact line_nil)
  have HI := fun (W : World) (g : Nat) => Lib.hid (index_crlf_nil g W)
  have hcs := fun q => conv_crlf w q
  rw [hi] at c1
  go_enter Tryz.func63, Tryz.ntmps63
  go_wp2_with fail
  go_quiet (fail)
  go_wp2_with (first
    | (go_at_call 88; refine ((HI _ _).out).mono ?_; rintro e w1 ⟨rfl, rfl⟩))
  refine bodyPost_ret (v := .tuple #[.string ⟨#[]⟩, .bool false]) (by simp [results, Tryz.results63, go_sem]) rfl ?_
  exact LK.of_more hmore.out ⟨rfl, RB.alloc (RB.drewN h _) _, gb_alloc (gb_drewN (gb_refl _ _) _) _⟩
/-- a line of what waits -/
theorem line_any (R : Nat) (bw : Value) (bs : Bs) (σ : RS) (m : Int) (w : World) (h : RB w R bw σ) (hB : RV w R bw bs) (hm : MX w m) (hi : σ.i ≤ bs.length) (hl : bs.length ≤ 2000000) :
    Calls Tryz.prog 63 #[.pointer (some ⟨R, 0, none⟩)] w (LK R bw w bs σ) := by
  rcases hB with ⟨rfl, rfl⟩ | ⟨b, o, c, rfl, hc, hb, ha⟩
  · exact line_none R σ w h (by simpa using hi)
  · by_cases hci : c = σ.i
    · exact line_full R b o c bs σ m w h hc hm hi hl hci
    · exact line_room R b o c bs σ m w h ha hc hm hi hl hci
end Go.Proofs.YtdfgnoflohfnmaaGreatDoor.Hx
