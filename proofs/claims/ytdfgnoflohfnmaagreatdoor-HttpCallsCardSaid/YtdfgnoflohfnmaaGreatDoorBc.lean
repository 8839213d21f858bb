/- HTTP: a response is written: the program's Append, walked. -/
import Derived.Test.YtdfgnoflohfnmaaGreatDoorBb
import Derived.Test.YtdfgnoflohfnmaaGreatDoorHd
namespace Go.Proofs.YtdfgnoflohfnmaaGreatDoor.Hx
open Go.RowKit Go.Maps

/-- a response's block -/
def PF (w : World) (X : Nat) (st : Int) (ty : ByteArray) (cl : Bool) (bv : Value) : Prop := w.heap[X]? = some (.cells #[.int .i64 st, .string ty, .bool cl, bv] 44 (0, 0))
section
variable {w w' : World} {X : Nat} {st : Int} {ty : ByteArray} {cl : Bool} {bv : Value}
theorem PF.c0 (h : PF w X st ty cl bv) : w.cell? ⟨X, 0, none⟩ = some (.int .i64 st) := by rw [cell_of_row w X 0 _ _ _ h]; rfl
theorem PF.c1 (h : PF w X st ty cl bv) : w.cell? ⟨X, 1, none⟩ = some (.string ty) := by rw [cell_of_row w X 1 _ _ _ h]; rfl
theorem PF.c2 (h : PF w X st ty cl bv) : w.cell? ⟨X, 2, none⟩ = some (.bool cl) := by rw [cell_of_row w X 2 _ _ _ h]; rfl
theorem PF.c3 (h : PF w X st ty cl bv) : w.cell? ⟨X, 3, none⟩ = some bv := by rw [cell_of_row w X 3 _ _ _ h]; rfl
theorem PF.kept (h : PF w X st ty cl bv) {row : Option Nat} (hg : w.grownBy w' row) (hne : some X ≠ row) : PF w' X st ty cl bv := (hg.block X (Array.getElem?_eq_some_iff.1 h).1 hne).trans h
end
theorem ba_beq_nil (T : ByteArray) : (T.toList == []) = (T.data.toList == []) := by rw [Lib.toList_data]
theorem app_out0c (bs : Bs) (st : Int) (ty body : Bs) (h : ty = []) : (((((bs ++ (sVers ++ Lib.itoa st ++ [32] ++ reasonP st ++ crlf)) ++ (sLen ++ Lib.itoa (body.length : Nat) ++ crlf)) ++ sClose) ++ crlf) ++ body) = bs ++ outP ⟨st, ty, true, body⟩ := by
  unfold outP
  dsimp only
  rw [if_pos h]
  simp
theorem app_out0o (bs : Bs) (st : Int) (ty body : Bs) (h : ty = []) : ((((bs ++ (sVers ++ Lib.itoa st ++ [32] ++ reasonP st ++ crlf)) ++ (sLen ++ Lib.itoa (body.length : Nat) ++ crlf)) ++ crlf) ++ body) = bs ++ outP ⟨st, ty, false, body⟩ := by
  unfold outP
  dsimp only
  rw [if_pos h]
  simp
theorem app_out1c (bs : Bs) (st : Int) (ty body : Bs) (h : ty ≠ []) : ((((((bs ++ (sVers ++ Lib.itoa st ++ [32] ++ reasonP st ++ crlf)) ++ (sType ++ ty ++ crlf)) ++ (sLen ++ Lib.itoa (body.length : Nat) ++ crlf)) ++ sClose) ++ crlf) ++ body) = bs ++ outP ⟨st, ty, true, body⟩ := by
  unfold outP
  dsimp only
  rw [if_neg h]
  simp
theorem app_out1o (bs : Bs) (st : Int) (ty body : Bs) (h : ty ≠ []) : (((((bs ++ (sVers ++ Lib.itoa st ++ [32] ++ reasonP st ++ crlf)) ++ (sType ++ ty ++ crlf)) ++ (sLen ++ Lib.itoa (body.length : Nat) ++ crlf)) ++ crlf) ++ body) = bs ++ outP ⟨st, ty, false, body⟩ := by
  unfold outP
  dsimp only
  rw [if_neg h]
  simp
/-- what Append leaves -/
def ApK (bs : Bs) (r : Rs) (w : World) (e : Ending) (w' : World) : Prop :=
  if mayR r = 0 then ∃ v b', e = .returned (.tuple #[v, .int .i64 0]) ∧ BF w' v b' (bs ++ outP r) ∧ w.heap.size ≤ b' ∧ w.grownBy w' none
  else e = .returned (.tuple #[.slice none 0 0, .int .i64 (mayR r)]) ∧ w.grownBy w' none
set_option maxRecDepth 100000 in
set_option maxHeartbeats 1600000 in
theorem app_long (x : Value) (bs : Bs) (r : Rs) (T : ByteArray) (bv : Value) (w : World) (hT : T.data.toList = r.ty) (hbv : BV w bv r.body) (htl : r.ty.length ≤ 1000000) (hbl : r.body.length ≤ 1000000) (hb : 4096 < r.ty.length) :
    Calls Tryz.prog 23 #[x, .agg #[.int .i64 r.st, .string T, .bool r.cl, bv]] w (ApK bs r w) := by
  obtain ⟨st, ty, cl, body⟩ := r
  dsimp only at *
  have hTs : T.size = ty.length := by rw [ba_size, hT]
  obtain ⟨Ab, cb, rfl, hbx⟩ : ∃ Ab cb, bv = .slice Ab body.length cb ∧ BV w (.slice Ab body.length cb) body := by obtain ⟨A, c, e, h1, h2⟩ := hbv; subst e; exact ⟨A, c, rfl, A, c, rfl, h1, h2⟩
  have hP : PF (w.alloc (.cells #[.int .i64 st, .string T, .bool cl, .slice Ab body.length cb] 44)) w.heap.size st T cl (.slice Ab body.length cb) := heap_alloc_new _ _
  have g0 : w.grownBy (w.alloc (.cells #[.int .i64 st, .string T, .bool cl, .slice Ab body.length cb] 44)) none := gb_alloc (gb_refl _ _) _
  obtain ⟨w1, hw1⟩ : ∃ W, w.alloc (.cells #[.int .i64 st, .string T, .bool cl, .slice Ab body.length cb] 44) = W := ⟨_, rfl⟩
  have hs1 : w1.heap.size = w.heap.size + 1 := by rw [← hw1]; simp
  rw [hw1] at hP g0
  obtain ⟨L, hL⟩ : ∃ L : Nat, T.size = L := ⟨_, rfl⟩
  have x0 := hP.c0
  have x1 := hP.c1
  have x2 := hP.c2
  have x3 := hP.c3
  have hal := fun W => Lib.hid (all_pr T W (by omega))
  have hb1 : (4096 : Int) < (L : Int) := by omega
  have hbh := Lib.hid hb
  replace g0 := Lib.hid g0
  clear hb hbx hal hP hs1
  go_enter Tryz.func23, Tryz.ntmps23
  try rw [hw1]
  go_wp2_with fail
  refine bodyPost_ret (v := .tuple #[.slice none 0 0, .int .i64 3]) (by simp [results, Tryz.results23, go_sem]) rfl ?_
  unfold ApK
  rw [show mayR ⟨st, ty, cl, body⟩ = 3 from if_pos (.inl hbh.out), if_neg (by decide)]
  exact ⟨rfl, g0.out⟩
set_option maxRecDepth 100000 in
set_option maxHeartbeats 1600000 in
theorem app_low (x : Value) (bs : Bs) (r : Rs) (T : ByteArray) (bv : Value) (w : World) (hT : T.data.toList = r.ty) (hbv : BV w bv r.body) (htl : r.ty.length ≤ 1000000) (hbl : r.body.length ≤ 1000000) (hb : ¬ 4096 < r.ty.length) (hs : r.st < 100) :
    Calls Tryz.prog 23 #[x, .agg #[.int .i64 r.st, .string T, .bool r.cl, bv]] w (ApK bs r w) := by
  obtain ⟨st, ty, cl, body⟩ := r
  dsimp only at *
  have hTs : T.size = ty.length := by rw [ba_size, hT]
  obtain ⟨Ab, cb, rfl, hbx⟩ : ∃ Ab cb, bv = .slice Ab body.length cb ∧ BV w (.slice Ab body.length cb) body := by obtain ⟨A, c, e, h1, h2⟩ := hbv; subst e; exact ⟨A, c, rfl, A, c, rfl, h1, h2⟩
  have hP : PF (w.alloc (.cells #[.int .i64 st, .string T, .bool cl, .slice Ab body.length cb] 44)) w.heap.size st T cl (.slice Ab body.length cb) := heap_alloc_new _ _
  have g0 : w.grownBy (w.alloc (.cells #[.int .i64 st, .string T, .bool cl, .slice Ab body.length cb] 44)) none := gb_alloc (gb_refl _ _) _
  obtain ⟨w1, hw1⟩ : ∃ W, w.alloc (.cells #[.int .i64 st, .string T, .bool cl, .slice Ab body.length cb] 44) = W := ⟨_, rfl⟩
  have hs1 : w1.heap.size = w.heap.size + 1 := by rw [← hw1]; simp
  rw [hw1] at hP g0
  obtain ⟨L, hL⟩ : ∃ L : Nat, T.size = L := ⟨_, rfl⟩
  have x0 := hP.c0
  have x1 := hP.c1
  have x2 := hP.c2
  have x3 := hP.c3
  have hal := fun W => Lib.hid (all_pr T W (by omega))
  have hb0 : ¬ (4096 : Int) < (L : Int) := by omega
  have hb2 : ¬ (1048576 : Int) < (body.length : Int) := by omega
  have hbh := Lib.hid hb
  replace g0 := Lib.hid g0
  have hsh := Lib.hid hs
  clear hb hbx hal hP hs1
  go_enter Tryz.func23, Tryz.ntmps23
  try rw [hw1]
  go_wp2_with fail
  refine bodyPost_ret (v := .tuple #[.slice none 0 0, .int .i64 2]) (by simp [results, Tryz.results23, go_sem]) rfl ?_
  unfold ApK
  rw [show mayR ⟨st, ty, cl, body⟩ = 2 from by have := hbh.out; have := hsh.out; unfold mayR; dsimp only; rw [if_neg (by omega), if_pos (.inl hsh.out)], if_neg (by decide)]
  exact ⟨rfl, g0.out⟩
set_option maxRecDepth 100000 in
set_option maxHeartbeats 1600000 in
theorem app_high (x : Value) (bs : Bs) (r : Rs) (T : ByteArray) (bv : Value) (w : World) (hT : T.data.toList = r.ty) (hbv : BV w bv r.body) (htl : r.ty.length ≤ 1000000) (hbl : r.body.length ≤ 1000000) (hb : ¬ 4096 < r.ty.length) (hs : 599 < r.st) :
    Calls Tryz.prog 23 #[x, .agg #[.int .i64 r.st, .string T, .bool r.cl, bv]] w (ApK bs r w) := by
  obtain ⟨st, ty, cl, body⟩ := r
  dsimp only at *
  have hTs : T.size = ty.length := by rw [ba_size, hT]
  obtain ⟨Ab, cb, rfl, hbx⟩ : ∃ Ab cb, bv = .slice Ab body.length cb ∧ BV w (.slice Ab body.length cb) body := by obtain ⟨A, c, e, h1, h2⟩ := hbv; subst e; exact ⟨A, c, rfl, A, c, rfl, h1, h2⟩
  have hP : PF (w.alloc (.cells #[.int .i64 st, .string T, .bool cl, .slice Ab body.length cb] 44)) w.heap.size st T cl (.slice Ab body.length cb) := heap_alloc_new _ _
  have g0 : w.grownBy (w.alloc (.cells #[.int .i64 st, .string T, .bool cl, .slice Ab body.length cb] 44)) none := gb_alloc (gb_refl _ _) _
  obtain ⟨w1, hw1⟩ : ∃ W, w.alloc (.cells #[.int .i64 st, .string T, .bool cl, .slice Ab body.length cb] 44) = W := ⟨_, rfl⟩
  have hs1 : w1.heap.size = w.heap.size + 1 := by rw [← hw1]; simp
  rw [hw1] at hP g0
  obtain ⟨L, hL⟩ : ∃ L : Nat, T.size = L := ⟨_, rfl⟩
  have x0 := hP.c0
  have x1 := hP.c1
  have x2 := hP.c2
  have x3 := hP.c3
  have hal := fun W => Lib.hid (all_pr T W (by omega))
  have hb0 : ¬ (4096 : Int) < (L : Int) := by omega
  have hb2 : ¬ (1048576 : Int) < (body.length : Int) := by omega
  have hbh := Lib.hid hb
  replace g0 := Lib.hid g0
  have hsh := Lib.hid hs
  have hs0 : ¬ st < 100 := by omega
  clear hb hbx hal hP hs1
  go_enter Tryz.func23, Tryz.ntmps23
  try rw [hw1]
  go_wp2_with fail
  refine bodyPost_ret (v := .tuple #[.slice none 0 0, .int .i64 2]) (by simp [results, Tryz.results23, go_sem]) rfl ?_
  unfold ApK
  rw [show mayR ⟨st, ty, cl, body⟩ = 2 from by have := hbh.out; have := hsh.out; unfold mayR; dsimp only; rw [if_neg (by omega), if_pos (.inr (.inl hsh.out))], if_neg (by decide)]
  exact ⟨rfl, g0.out⟩
set_option maxRecDepth 100000 in
set_option maxHeartbeats 1600000 in
theorem app_sign (x : Value) (bs : Bs) (r : Rs) (T : ByteArray) (bv : Value) (w : World) (hT : T.data.toList = r.ty) (hbv : BV w bv r.body) (htl : r.ty.length ≤ 1000000) (hbl : r.body.length ≤ 1000000) (hb : ¬ 4096 < r.ty.length) (hs0 : ¬ r.st < 100) (hs1 : ¬ 599 < r.st) (ha : r.ty.all prB = false) :
    Calls Tryz.prog 23 #[x, .agg #[.int .i64 r.st, .string T, .bool r.cl, bv]] w (ApK bs r w) := by
  obtain ⟨st, ty, cl, body⟩ := r
  dsimp only at *
  have hTs : T.size = ty.length := by rw [ba_size, hT]
  obtain ⟨Ab, cb, rfl, hbx⟩ : ∃ Ab cb, bv = .slice Ab body.length cb ∧ BV w (.slice Ab body.length cb) body := by obtain ⟨A, c, e, h1, h2⟩ := hbv; subst e; exact ⟨A, c, rfl, A, c, rfl, h1, h2⟩
  have hP : PF (w.alloc (.cells #[.int .i64 st, .string T, .bool cl, .slice Ab body.length cb] 44)) w.heap.size st T cl (.slice Ab body.length cb) := heap_alloc_new _ _
  have g0 : w.grownBy (w.alloc (.cells #[.int .i64 st, .string T, .bool cl, .slice Ab body.length cb] 44)) none := gb_alloc (gb_refl _ _) _
  obtain ⟨w1, hw1⟩ : ∃ W, w.alloc (.cells #[.int .i64 st, .string T, .bool cl, .slice Ab body.length cb] 44) = W := ⟨_, rfl⟩
  have hs1 : w1.heap.size = w.heap.size + 1 := by rw [← hw1]; simp
  rw [hw1] at hP g0
  obtain ⟨L, hL⟩ : ∃ L : Nat, T.size = L := ⟨_, rfl⟩
  have x0 := hP.c0
  have x1 := hP.c1
  have x2 := hP.c2
  have x3 := hP.c3
  have hal := fun W => Lib.hid (all_pr T W (by omega))
  have hb0 : ¬ (4096 : Int) < (L : Int) := by omega
  have hb2 : ¬ (1048576 : Int) < (body.length : Int) := by omega
  have hbh := Lib.hid hb
  replace g0 := Lib.hid g0
  have hah := Lib.hid ha
  have hss := Lib.hid (And.intro hs0 hs1)
  rw [hT, ha] at hal
  clear hb hbx hP ha
  go_enter Tryz.func23, Tryz.ntmps23
  try rw [hw1]
  go_wp2_with (first
    | (go_at_call 38; refine ((hal _).out).mono ?_; rintro e w2 ⟨rfl, hw2⟩; rw [hw2]; clear hw2))
  refine bodyPost_ret (v := .tuple #[.slice none 0 0, .int .i64 2]) (by simp [results, Tryz.results23, go_sem]) rfl ?_
  unfold ApK
  rw [show mayR ⟨st, ty, cl, body⟩ = 2 from by have := hbh.out; have := hss.out; unfold mayR; dsimp only; rw [if_neg (by omega), if_pos (.inr (.inr hah.out))], if_neg (by decide)]
  exact ⟨rfl, g0.out⟩
set_option maxRecDepth 100000 in
set_option maxHeartbeats 1600000 in
theorem app_good (x : Value) (bs : Bs) (r : Rs) (T : ByteArray) (bv : Value) (w : World) (hx : BV w x bs) (hT : T.data.toList = r.ty) (hbv : BV w bv r.body) (hl : bs.length ≤ 1000000) (htl : r.ty.length ≤ 1000000) (hbl : r.body.length ≤ 1000000) (hPT : PTw w) (hb : ¬ 4096 < r.ty.length) (hs0 : ¬ r.st < 100) (hs1 : ¬ 599 < r.st) (ha : r.ty.all prB = true) :
    Calls Tryz.prog 23 #[x, .agg #[.int .i64 r.st, .string T, .bool r.cl, bv]] w (ApK bs r w) := by
  obtain ⟨st, ty, cl, body⟩ := r
  dsimp only at *
  have hTs : T.size = ty.length := by rw [ba_size, hT]
  obtain ⟨Ab, cb, rfl, hbx⟩ : ∃ Ab cb, bv = .slice Ab body.length cb ∧ BV w (.slice Ab body.length cb) body := by obtain ⟨A, c, e, h1, h2⟩ := hbv; subst e; exact ⟨A, c, rfl, A, c, rfl, h1, h2⟩
  have hP : PF (w.alloc (.cells #[.int .i64 st, .string T, .bool cl, .slice Ab body.length cb] 44)) w.heap.size st T cl (.slice Ab body.length cb) := heap_alloc_new _ _
  have g0 : w.grownBy (w.alloc (.cells #[.int .i64 st, .string T, .bool cl, .slice Ab body.length cb] 44)) none := gb_alloc (gb_refl _ _) _
  obtain ⟨w1, hw1⟩ : ∃ W, w.alloc (.cells #[.int .i64 st, .string T, .bool cl, .slice Ab body.length cb] 44) = W := ⟨_, rfl⟩
  have hz1 : w1.heap.size = w.heap.size + 1 := by rw [← hw1]; simp
  rw [hw1] at hP g0
  obtain ⟨L, hL⟩ : ∃ L : Nat, T.size = L := ⟨_, rfl⟩
  have x0 := hP.c0
  have x1 := hP.c1
  have x2 := hP.c2
  have x3 := hP.c3
  have hal := fun W => Lib.hid (all_pr T W (by omega))
  have hb0 : ¬ (4096 : Int) < (L : Int) := by omega
  have hb2 : ¬ (1048576 : Int) < (body.length : Int) := by omega
  have hbh := Lib.hid hb
  replace g0 := Lib.hid g0
  have hah := Lib.hid ha
  have hss := Lib.hid (And.intro hs0 hs1)
  rw [hT, ha] at hal
  have hx1 := Lib.hid (hx.kp g0.out)
  have hcl := Lib.hid (clone_any x bs w1 hx1.out (by omega))
  have hPT1 := Lib.hid (hPT.grown g0.out)
  have hPh := Lib.hid hP
  have hzh := Lib.hid hz1
  have hllh := Lib.hid hl
  clear hb hx hP ha hz1 hPT
  go_enter Tryz.func23, Tryz.ntmps23
  try rw [hw1]
  go_upto_region 6 with (first
    | (go_at_call 38; refine ((hal _).out).mono ?_; rintro e w2 ⟨rfl, hw2⟩; rw [hw2]; clear hw2)
    | (go_at_call 47; refine (hcl.out).mono ?_; rintro e w2 ⟨v, b0, rfl, hv, hb0, g2⟩; obtain ⟨Av, cv, rfl, _⟩ := hv.shape; have hB2 := Lib.hid (show BG w1 1000000 w2 (.slice Av bs.length cv) bs from ⟨⟨b0, hv, hb0⟩, g2, hllh.out⟩)))
  clear hcl hal
  have g2h := Lib.hid g2
  have hXl : w.heap.size < w1.heap.size := by rw [hzh.out]; omega
  have kP : ∀ W, w1.grownBy W none → PF W w.heap.size st T cl (.slice Ab body.length cb) := fun W hW => hPh.out.kept hW (by simp)
  have kS1 : ∀ W, w1.grownBy W none → W.cell? ⟨w.heap.size, 0, none⟩ = some (.int .i64 st) := fun W hW => (kP W hW).c0
  obtain ⟨I, hI⟩ : ∃ I, btx (Lib.itoa st) = I := ⟨_, rfl⟩
  obtain ⟨R, hR⟩ : ∃ R : ByteArray, ⟨(reasonP st).toArray⟩ = R := ⟨_, rfl⟩
  have hIs : I.size ≤ 10 := by rw [← hI, btx_size]; exact itoa_len st (by omega) (by omega)
  have hRs : R.size ≤ 30 := by rw [← hR]; exact reason_len st
  have hit : ∀ W, w2.grownBy W none → Hid (Calls Tryz.prog 48 #[.int .i64 st] W fun e w' => e = .returned (.string I) ∧ w2.grownBy w' none ∧ w1.grownBy w' none) := fun W hW => Lib.hid ((itoa_w st (by omega) (by omega) W (hPT1.out.grown (gb_trans g2h.out hW))).mono (fun e w' ⟨h1, h2⟩ => ⟨by rw [← hI]; exact h1, gb_trans hW h2, gb_trans g2h.out (gb_trans hW h2)⟩))
  have hre : ∀ W, w2.grownBy W none → Hid (Calls Tryz.prog 30 #[.int .i64 st] W fun e w' => e = .returned (.string R) ∧ w2.grownBy w' none ∧ w1.grownBy w' none) := fun W hW => Lib.hid ((reason_any st W).mono (fun e w' ⟨h1, h2⟩ => ⟨by rw [← hR]; exact h1, gb_trans hW h2, gb_trans g2h.out (gb_trans hW h2)⟩))
  have q1 := fun W => add_any ⟨#[72, 84, 84, 80, 47, 49, 46, 49, 32]⟩ I (by decide) (by omega) W
  obtain ⟨S1, hS1⟩ : ∃ S, (⟨#[72, 84, 84, 80, 47, 49, 46, 49, 32]⟩ : ByteArray) ++ I = S := ⟨_, rfl⟩
  have z1 : S1.size ≤ 19 := by rw [← hS1, app_size]; have : (⟨#[72, 84, 84, 80, 47, 49, 46, 49, 32]⟩ : ByteArray).size = 9 := rfl; omega
  rw [hS1] at q1
  have q2 := fun W => add_any S1 ⟨#[32]⟩ (by omega) (by decide) W
  obtain ⟨S2, hS2⟩ : ∃ S, S1 ++ (⟨#[32]⟩ : ByteArray) = S := ⟨_, rfl⟩
  have z2 : S2.size ≤ 20 := by rw [← hS2, app_size]; have : (⟨#[32]⟩ : ByteArray).size = 1 := rfl; omega
  rw [hS2] at q2
  have q3 := fun W => add_any S2 R (by omega) (by omega) W
  obtain ⟨S3, hS3⟩ : ∃ S, S2 ++ R = S := ⟨_, rfl⟩
  have z3 : S3.size ≤ 50 := by rw [← hS3, app_size]; omega
  rw [hS3] at q3
  have q4 := fun W => add_any S3 ⟨#[13, 10]⟩ (by omega) (by decide) W
  obtain ⟨S4, hS4⟩ : ∃ S, S3 ++ (⟨#[13, 10]⟩ : ByteArray) = S := ⟨_, rfl⟩
  have z4 : S4.size ≤ 52 := by rw [← hS4, app_size]; have : (⟨#[13, 10]⟩ : ByteArray).size = 2 := rfl; omega
  rw [hS4] at q4
  have hN1 := Lib.hid (show S4.data.toList.length ≤ 1000000 from by rw [← ba_size]; omega)
  have hN1e := Lib.hid (show S4.data.toList = sVers ++ Lib.itoa st ++ [32] ++ reasonP st ++ crlf from by rw [← hS4, app_list, ← hS3, app_list, ← hS2, app_list, ← hS1, app_list, ← hI, btx_list, ← hR]; rfl)
  clear hI hR hS1 hS2 hS3 hS4 hIs hRs z1 z2 z3 z4 g2
  have kPh := fun W hW => Lib.hid (kP W hW)
  clear kP x0 x1 x2 x3 hXl
  go_cut [6] from 35 to 46 (fun u6 wx => ∃ A6 N6 c6, u6 = .slice A6 N6 c6 ∧ BG w1 2000000 wx (.slice A6 N6 c6) (bs ++ S4.data.toList))
  case first =>
    have g2a := g2h.out
    go_region_held3 (fun W' => W'.cell? ⟨w.heap.size, 0, none⟩ = some (.int .i64 st)) (exact kS1 _ (by repeat (first | assumption | (with_reducible exact gb_refl _ _) | (with_reducible refine gb_drew ?_))))
      (first
        | (go_at_call 48; refine ((hit _ (by repeat (first | assumption | (with_reducible exact gb_refl _ _) | (with_reducible refine gb_drew ?_)))).out).mono ?_; rintro e w3 ⟨rfl, g3, g3a⟩)
        | (go_at_call 30; refine ((hre _ (by repeat (first | assumption | (with_reducible exact gb_refl _ _) | (with_reducible refine gb_drew ?_)))).out).mono ?_; rintro e w4 ⟨rfl, g4, g4a⟩)
        | (refine step_append_bg rfl _ _ _ (by rfl) (by rfl) (by rfl) (hB2.out.grown (by repeat (first | assumption | (with_reducible exact gb_refl _ _) | (with_reducible refine gb_drew ?_)))) (str_src _ _) hN1.out (by decide) ?_; intro A6 N6 c6 w6 hB6; have g6 := hB6.gb))
    all_goals
      go_wp2_with fail
      go_meet
      exact ⟨_, _, _, rfl, hB6⟩
  case rest =>
    obtain ⟨A6, N6, c6, rfl, hB6⟩ := hcut
    have hcur := Lib.hid hB6
    have x1 := (kPh _ hB6.gb).out.c1
    have x2 := (kPh _ hB6.gb).out.c2
    have x3 := (kPh _ hB6.gb).out.c3
    clear hB6 hit hre q1 q2 q3 q4 kS1
    have kS3 : ∀ W, w1.grownBy W none → W.cell? ⟨w.heap.size, 3, none⟩ = some (.slice Ab body.length cb) := fun W hW => (kPh W hW).out.c3
    obtain ⟨J, hJ⟩ : ∃ J, btx (Lib.itoa (body.length : Nat)) = J := ⟨_, rfl⟩
    have hJs : J.size ≤ 10 := by rw [← hJ, btx_size]; exact itoa_len _ (by omega) (by omega)
    have hil : ∀ W, w1.grownBy W none → Hid (Calls Tryz.prog 48 #[.int .i64 (body.length : Nat)] W fun e w' => e = .returned (.string J) ∧ W.grownBy w' none) := fun W hW => Lib.hid ((itoa_w (body.length : Nat) (by omega) (by omega) W (hPT1.out.grown hW)).mono (fun e w' ⟨h1, h2⟩ => ⟨by rw [← hJ]; exact h1, h2⟩))
    have p1 := fun W => add_any ⟨#[67, 111, 110, 116, 101, 110, 116, 45, 76, 101, 110, 103, 116, 104, 58, 32]⟩ J (by decide) (by omega) W
    obtain ⟨P1, hP1⟩ : ∃ S, (⟨#[67, 111, 110, 116, 101, 110, 116, 45, 76, 101, 110, 103, 116, 104, 58, 32]⟩ : ByteArray) ++ J = S := ⟨_, rfl⟩
    have y1 : P1.size ≤ 26 := by rw [← hP1, app_size]; have : (⟨#[67, 111, 110, 116, 101, 110, 116, 45, 76, 101, 110, 103, 116, 104, 58, 32]⟩ : ByteArray).size = 16 := rfl; omega
    rw [hP1] at p1
    have p2 := fun W => add_any P1 ⟨#[13, 10]⟩ (by omega) (by decide) W
    obtain ⟨P2, hP2⟩ : ∃ S, P1 ++ (⟨#[13, 10]⟩ : ByteArray) = S := ⟨_, rfl⟩
    have y2 : P2.size ≤ 28 := by rw [← hP2, app_size]; have : (⟨#[13, 10]⟩ : ByteArray).size = 2 := rfl; omega
    rw [hP2] at p2
    have hN2 := Lib.hid (show P2.data.toList.length ≤ 1000000 from by rw [← ba_size]; omega)
    have hN2e := Lib.hid (show P2.data.toList = sLen ++ Lib.itoa (body.length : Nat) ++ crlf from by rw [← hP2, app_list, ← hP1, app_list, ← hJ, btx_list]; rfl)
    have r1 := fun W => add_any ⟨#[67, 111, 110, 116, 101, 110, 116, 45, 84, 121, 112, 101, 58, 32]⟩ T (by decide) (by omega) W
    obtain ⟨T1, hT1⟩ : ∃ S, (⟨#[67, 111, 110, 116, 101, 110, 116, 45, 84, 121, 112, 101, 58, 32]⟩ : ByteArray) ++ T = S := ⟨_, rfl⟩
    have u1 : T1.size ≤ 1000014 := by rw [← hT1, app_size]; have : (⟨#[67, 111, 110, 116, 101, 110, 116, 45, 84, 121, 112, 101, 58, 32]⟩ : ByteArray).size = 14 := rfl; omega
    rw [hT1] at r1
    have r2 := fun W => add_any T1 ⟨#[13, 10]⟩ (by omega) (by decide) W
    obtain ⟨T2, hT2⟩ : ∃ S, T1 ++ (⟨#[13, 10]⟩ : ByteArray) = S := ⟨_, rfl⟩
    have u2 : T2.size ≤ 1000016 := by rw [← hT2, app_size]; have : (⟨#[13, 10]⟩ : ByteArray).size = 2 := rfl; omega
    rw [hT2] at r2
    have hN3 := Lib.hid (show T2.data.toList.length ≤ 2000000 from by rw [← ba_size]; omega)
    have hN3e := Lib.hid (show T2.data.toList = sType ++ ty ++ crlf from by rw [← hT2, app_list, ← hT1, app_list, hT]; rfl)
    have hblh := Lib.hid (show body.length ≤ 1000000 from hbl)
    have hm0 := Lib.hid (show mayR ⟨st, ty, cl, body⟩ = 0 from by have := hbh.out; have hq := hss.out; unfold mayR; dsimp only; rw [if_neg (by omega), if_neg (by intro e; rcases e with e | e | e; omega; omega; rw [hah.out] at e; cases e)])
    have hbvk : ∀ W, w1.grownBy W none → BV W (.slice Ab body.length cb) body := fun W hW => hbv.kp (gb_trans g0.out hW)
    have hte := ba_beq_nil T
    rw [hT] at hte
    have hbvkh := fun W hW => Lib.hid (hbvk W hW)
    clear hJ hJs hP1 hP2 hT1 hT2 y1 y2 u1 u2 hl htl hbl hT hTs hL hb0 hb2 hs0 hs1 hbvk hbx hbv hw1
    by_cases hty : ty = []
    · have hte0 : (T.toList == []) = true := by rw [hte, hty]; rfl
      have htyh := Lib.hid hty
      clear hte hty
      cases cl with
      | true =>
        go_upto_region 12 with (first
          | (go_at_call 48; refine ((hil _ hcur.out.gb).out).mono ?_; rintro e w7 ⟨rfl, g7⟩; replace hcur := Lib.hid (hcur.out.grown g7); have x1 := (kPh _ hcur.out.gb).out.c1; have x2 := (kPh _ hcur.out.gb).out.c2; have x3 := (kPh _ hcur.out.gb).out.c3)
          | (at_builtin; refine wpList_append_bg rfl _ _ _ rfl rfl rfl hcur.out (str_src _ _) hN2.out (by decide) ?_; clear hcur; intro A8 N8 c8 w8 hcur; replace hcur := Lib.hid hcur; have x1 := (kPh _ hcur.out.gb).out.c1; have x2 := (kPh _ hcur.out.gb).out.c2; have x3 := (kPh _ hcur.out.gb).out.c3)
          | (at_builtin; refine wpList_append_bg rfl _ _ _ rfl rfl rfl hcur.out (str_src _ _) hN3.out (by decide) ?_; clear hcur; intro A8 N8 c8 w8 hcur; replace hcur := Lib.hid hcur; have x1 := (kPh _ hcur.out.gb).out.c1; have x2 := (kPh _ hcur.out.gb).out.c2; have x3 := (kPh _ hcur.out.gb).out.c3)
          | (at_builtin; refine wpList_append_bg rfl _ _ _ rfl rfl rfl hcur.out (str_src _ _) (show _ ≤ 100 by decide) (by decide) ?_; clear hcur; intro A8 N8 c8 w8 hcur; replace hcur := Lib.hid hcur; have x1 := (kPh _ hcur.out.gb).out.c1; have x2 := (kPh _ hcur.out.gb).out.c2; have x3 := (kPh _ hcur.out.gb).out.c3))
        have gcu := hcur.out.gb
        go_region_held3 (fun W' => W'.cell? ⟨w.heap.size, 3, none⟩ = some (.slice Ab body.length cb)) (exact kS3 _ (by repeat (first | assumption | (with_reducible exact gb_refl _ _) | (with_reducible refine gb_drew ?_))))
          (first
            | (have hh := hB8; clear hh; refine step_append_bg rfl _ _ _ (by rfl) (by rfl) (by rfl) hB8.out (BV.src (hbvkh _ hB8.out.gb).out) hblh.out (by decide) ?_; intro A9 N9 c9 w9 hB9; have g9 := hB9.gb; replace hB9 := Lib.hid hB9)
            | (refine step_append_bg rfl _ _ _ (by rfl) (by rfl) (by rfl) (hcur.out.grown (by repeat (first | assumption | (with_reducible exact gb_refl _ _) | (with_reducible refine gb_drew ?_)))) (str_src _ _) (show _ ≤ 100 by decide) (by decide) ?_; intro A8 N8 c8 w8 hB8; have g8 := hB8.gb; replace hB8 := Lib.hid hB8))
        all_goals
          go_wp2_with fail
          refine bodyPost_ret (v := .tuple #[.slice A9 N9 c9, .int .i64 0]) (by simp [results, Tryz.results23, go_sem]) rfl ?_
          obtain ⟨b9, k1, k2⟩ := hB9.out.ex
          unfold ApK
          rw [if_pos hm0.out]
          refine ⟨_, b9, rfl, ?_, by have := hzh.out; omega, gb_trans g0.out hB9.out.gb⟩
          rw [hN1e.out, hN2e.out] at k1
          have e : bs ++ outP ⟨st, ty, true, body⟩ = _ := (app_out0c bs st ty body htyh.out).symm
          rw [e]
          exact k1
      | false =>
        go_upto_region 12 with (first
          | (go_at_call 48; refine ((hil _ hcur.out.gb).out).mono ?_; rintro e w7 ⟨rfl, g7⟩; replace hcur := Lib.hid (hcur.out.grown g7); have x1 := (kPh _ hcur.out.gb).out.c1; have x2 := (kPh _ hcur.out.gb).out.c2; have x3 := (kPh _ hcur.out.gb).out.c3)
          | (at_builtin; refine wpList_append_bg rfl _ _ _ rfl rfl rfl hcur.out (str_src _ _) hN2.out (by decide) ?_; clear hcur; intro A8 N8 c8 w8 hcur; replace hcur := Lib.hid hcur; have x1 := (kPh _ hcur.out.gb).out.c1; have x2 := (kPh _ hcur.out.gb).out.c2; have x3 := (kPh _ hcur.out.gb).out.c3)
          | (at_builtin; refine wpList_append_bg rfl _ _ _ rfl rfl rfl hcur.out (str_src _ _) hN3.out (by decide) ?_; clear hcur; intro A8 N8 c8 w8 hcur; replace hcur := Lib.hid hcur; have x1 := (kPh _ hcur.out.gb).out.c1; have x2 := (kPh _ hcur.out.gb).out.c2; have x3 := (kPh _ hcur.out.gb).out.c3)
          | (at_builtin; refine wpList_append_bg rfl _ _ _ rfl rfl rfl hcur.out (str_src _ _) (show _ ≤ 100 by decide) (by decide) ?_; clear hcur; intro A8 N8 c8 w8 hcur; replace hcur := Lib.hid hcur; have x1 := (kPh _ hcur.out.gb).out.c1; have x2 := (kPh _ hcur.out.gb).out.c2; have x3 := (kPh _ hcur.out.gb).out.c3))
        have gcu := hcur.out.gb
        go_region_held3 (fun W' => W'.cell? ⟨w.heap.size, 3, none⟩ = some (.slice Ab body.length cb)) (exact kS3 _ (by repeat (first | assumption | (with_reducible exact gb_refl _ _) | (with_reducible refine gb_drew ?_))))
          (first
            | (have hh := hB8; clear hh; refine step_append_bg rfl _ _ _ (by rfl) (by rfl) (by rfl) hB8.out (BV.src (hbvkh _ hB8.out.gb).out) hblh.out (by decide) ?_; intro A9 N9 c9 w9 hB9; have g9 := hB9.gb; replace hB9 := Lib.hid hB9)
            | (refine step_append_bg rfl _ _ _ (by rfl) (by rfl) (by rfl) (hcur.out.grown (by repeat (first | assumption | (with_reducible exact gb_refl _ _) | (with_reducible refine gb_drew ?_)))) (str_src _ _) (show _ ≤ 100 by decide) (by decide) ?_; intro A8 N8 c8 w8 hB8; have g8 := hB8.gb; replace hB8 := Lib.hid hB8))
        all_goals
          go_wp2_with fail
          refine bodyPost_ret (v := .tuple #[.slice A9 N9 c9, .int .i64 0]) (by simp [results, Tryz.results23, go_sem]) rfl ?_
          obtain ⟨b9, k1, k2⟩ := hB9.out.ex
          unfold ApK
          rw [if_pos hm0.out]
          refine ⟨_, b9, rfl, ?_, by have := hzh.out; omega, gb_trans g0.out hB9.out.gb⟩
          rw [hN1e.out, hN2e.out] at k1
          have e : bs ++ outP ⟨st, ty, false, body⟩ = _ := (app_out0o bs st ty body htyh.out).symm
          rw [e]
          exact k1
    · have hte0 : (T.toList == []) = false := by rw [hte]; exact beq_eq_false_iff_ne.mpr hty
      have htyh := Lib.hid hty
      clear hte hty
      cases cl with
      | true =>
        go_upto_region 12 with (first
          | (go_at_call 48; refine ((hil _ hcur.out.gb).out).mono ?_; rintro e w7 ⟨rfl, g7⟩; replace hcur := Lib.hid (hcur.out.grown g7); have x1 := (kPh _ hcur.out.gb).out.c1; have x2 := (kPh _ hcur.out.gb).out.c2; have x3 := (kPh _ hcur.out.gb).out.c3)
          | (at_builtin; refine wpList_append_bg rfl _ _ _ rfl rfl rfl hcur.out (str_src _ _) hN2.out (by decide) ?_; clear hcur; intro A8 N8 c8 w8 hcur; replace hcur := Lib.hid hcur; have x1 := (kPh _ hcur.out.gb).out.c1; have x2 := (kPh _ hcur.out.gb).out.c2; have x3 := (kPh _ hcur.out.gb).out.c3)
          | (at_builtin; refine wpList_append_bg rfl _ _ _ rfl rfl rfl hcur.out (str_src _ _) hN3.out (by decide) ?_; clear hcur; intro A8 N8 c8 w8 hcur; replace hcur := Lib.hid hcur; have x1 := (kPh _ hcur.out.gb).out.c1; have x2 := (kPh _ hcur.out.gb).out.c2; have x3 := (kPh _ hcur.out.gb).out.c3)
          | (at_builtin; refine wpList_append_bg rfl _ _ _ rfl rfl rfl hcur.out (str_src _ _) (show _ ≤ 100 by decide) (by decide) ?_; clear hcur; intro A8 N8 c8 w8 hcur; replace hcur := Lib.hid hcur; have x1 := (kPh _ hcur.out.gb).out.c1; have x2 := (kPh _ hcur.out.gb).out.c2; have x3 := (kPh _ hcur.out.gb).out.c3))
        have gcu := hcur.out.gb
        go_region_held3 (fun W' => W'.cell? ⟨w.heap.size, 3, none⟩ = some (.slice Ab body.length cb)) (exact kS3 _ (by repeat (first | assumption | (with_reducible exact gb_refl _ _) | (with_reducible refine gb_drew ?_))))
          (first
            | (have hh := hB8; clear hh; refine step_append_bg rfl _ _ _ (by rfl) (by rfl) (by rfl) hB8.out (BV.src (hbvkh _ hB8.out.gb).out) hblh.out (by decide) ?_; intro A9 N9 c9 w9 hB9; have g9 := hB9.gb; replace hB9 := Lib.hid hB9)
            | (refine step_append_bg rfl _ _ _ (by rfl) (by rfl) (by rfl) (hcur.out.grown (by repeat (first | assumption | (with_reducible exact gb_refl _ _) | (with_reducible refine gb_drew ?_)))) (str_src _ _) (show _ ≤ 100 by decide) (by decide) ?_; intro A8 N8 c8 w8 hB8; have g8 := hB8.gb; replace hB8 := Lib.hid hB8))
        all_goals
          go_wp2_with fail
          refine bodyPost_ret (v := .tuple #[.slice A9 N9 c9, .int .i64 0]) (by simp [results, Tryz.results23, go_sem]) rfl ?_
          obtain ⟨b9, k1, k2⟩ := hB9.out.ex
          unfold ApK
          rw [if_pos hm0.out]
          refine ⟨_, b9, rfl, ?_, by have := hzh.out; omega, gb_trans g0.out hB9.out.gb⟩
          rw [hN1e.out, hN2e.out, hN3e.out] at k1
          have e : bs ++ outP ⟨st, ty, true, body⟩ = _ := (app_out1c bs st ty body htyh.out).symm
          rw [e]
          exact k1
      | false =>
        go_upto_region 12 with (first
          | (go_at_call 48; refine ((hil _ hcur.out.gb).out).mono ?_; rintro e w7 ⟨rfl, g7⟩; replace hcur := Lib.hid (hcur.out.grown g7); have x1 := (kPh _ hcur.out.gb).out.c1; have x2 := (kPh _ hcur.out.gb).out.c2; have x3 := (kPh _ hcur.out.gb).out.c3)
          | (at_builtin; refine wpList_append_bg rfl _ _ _ rfl rfl rfl hcur.out (str_src _ _) hN2.out (by decide) ?_; clear hcur; intro A8 N8 c8 w8 hcur; replace hcur := Lib.hid hcur; have x1 := (kPh _ hcur.out.gb).out.c1; have x2 := (kPh _ hcur.out.gb).out.c2; have x3 := (kPh _ hcur.out.gb).out.c3)
          | (at_builtin; refine wpList_append_bg rfl _ _ _ rfl rfl rfl hcur.out (str_src _ _) hN3.out (by decide) ?_; clear hcur; intro A8 N8 c8 w8 hcur; replace hcur := Lib.hid hcur; have x1 := (kPh _ hcur.out.gb).out.c1; have x2 := (kPh _ hcur.out.gb).out.c2; have x3 := (kPh _ hcur.out.gb).out.c3)
          | (at_builtin; refine wpList_append_bg rfl _ _ _ rfl rfl rfl hcur.out (str_src _ _) (show _ ≤ 100 by decide) (by decide) ?_; clear hcur; intro A8 N8 c8 w8 hcur; replace hcur := Lib.hid hcur; have x1 := (kPh _ hcur.out.gb).out.c1; have x2 := (kPh _ hcur.out.gb).out.c2; have x3 := (kPh _ hcur.out.gb).out.c3))
        have gcu := hcur.out.gb
        go_region_held3 (fun W' => W'.cell? ⟨w.heap.size, 3, none⟩ = some (.slice Ab body.length cb)) (exact kS3 _ (by repeat (first | assumption | (with_reducible exact gb_refl _ _) | (with_reducible refine gb_drew ?_))))
          (first
            | (have hh := hB8; clear hh; refine step_append_bg rfl _ _ _ (by rfl) (by rfl) (by rfl) hB8.out (BV.src (hbvkh _ hB8.out.gb).out) hblh.out (by decide) ?_; intro A9 N9 c9 w9 hB9; have g9 := hB9.gb; replace hB9 := Lib.hid hB9)
            | (refine step_append_bg rfl _ _ _ (by rfl) (by rfl) (by rfl) (hcur.out.grown (by repeat (first | assumption | (with_reducible exact gb_refl _ _) | (with_reducible refine gb_drew ?_)))) (str_src _ _) (show _ ≤ 100 by decide) (by decide) ?_; intro A8 N8 c8 w8 hB8; have g8 := hB8.gb; replace hB8 := Lib.hid hB8))
        all_goals
          go_wp2_with fail
          refine bodyPost_ret (v := .tuple #[.slice A9 N9 c9, .int .i64 0]) (by simp [results, Tryz.results23, go_sem]) rfl ?_
          obtain ⟨b9, k1, k2⟩ := hB9.out.ex
          unfold ApK
          rw [if_pos hm0.out]
          refine ⟨_, b9, rfl, ?_, by have := hzh.out; omega, gb_trans g0.out hB9.out.gb⟩
          rw [hN1e.out, hN2e.out, hN3e.out] at k1
          have e : bs ++ outP ⟨st, ty, false, body⟩ = _ := (app_out1o bs st ty body htyh.out).symm
          rw [e]
          exact k1
theorem app_any (x : Value) (bs : Bs) (r : Rs) (T : ByteArray) (bv : Value) (w : World) (hx : BV w x bs) (hT : T.data.toList = r.ty) (hbv : BV w bv r.body) (hl : bs.length ≤ 1000000) (htl : r.ty.length ≤ 1000000) (hbl : r.body.length ≤ 1000000) (hPT : PTw w) : Calls Tryz.prog 23 #[x, .agg #[.int .i64 r.st, .string T, .bool r.cl, bv]] w (ApK bs r w) := by
  by_cases hb : 4096 < r.ty.length
  · exact app_long x bs r T bv w hT hbv htl hbl hb
  by_cases hs0 : r.st < 100
  · exact app_low x bs r T bv w hT hbv htl hbl hb hs0
  by_cases hs1 : 599 < r.st
  · exact app_high x bs r T bv w hT hbv htl hbl hb hs1
  cases ha : r.ty.all prB with
  | false => exact app_sign x bs r T bv w hT hbv htl hbl hb hs0 hs1 ha
  | true => exact app_good x bs r T bv w hx hT hbv hl htl hbl hPT hb hs0 hs1 ha
end Go.Proofs.YtdfgnoflohfnmaaGreatDoor.Hx
