/- HTTP: a response is written: the document's Append. -/
import Derived.Test.YtdfgnoflohfnmaaGreatDoorCa
import Derived.Test.YtdfgnoflohfnmaaGreatDoorRb
import Derived.Test.YtdfgnoflohfnmaaGreatDoorBc
import Derived.Test.YtdfgnoflohfnmaaGreatDoorG1
namespace Go.Proofs.YtdfgnoflohfnmaaGreatDoor.Hx
open Go.RowKit Go.Maps

theorem add_ex (a b : ByteArray) (ha : a.data.toList.length ≤ 100000000) (hb : b.data.toList.length ≤ 100000000) : ∃ S : ByteArray, (∀ W, (Op.stringOp .add a b).run Tryz.prog W = .ok (.string S) W) ∧ S.data.toList = a.data.toList ++ b.data.toList :=
  ⟨a ++ b, fun W => add_any a b (by rw [ba_size]; exact ha) (by rw [ba_size]; exact hb) W, app_list a b⟩
theorem lit_lv9 : (⟨#[72, 84, 84, 80, 47, 49, 46, 49, 32]⟩ : ByteArray).data.toList = sVers := rfl
theorem lit_ll16 : (⟨#[67, 111, 110, 116, 101, 110, 116, 45, 76, 101, 110, 103, 116, 104, 58, 32]⟩ : ByteArray).data.toList = sLen := rfl
theorem lit_lt14 : (⟨#[67, 111, 110, 116, 101, 110, 116, 45, 84, 121, 112, 101, 58, 32]⟩ : ByteArray).data.toList = sType := rfl
theorem lit_lc19 : (⟨#[67, 111, 110, 110, 101, 99, 116, 105, 111, 110, 58, 32, 99, 108, 111, 115, 101, 13, 10]⟩ : ByteArray).data.toList = sClose := rfl
theorem lit_l2 : (⟨#[13, 10]⟩ : ByteArray).data.toList = crlf := rfl
theorem lit_l1 : (⟨#[32]⟩ : ByteArray).data.toList = [32] := rfl
theorem ba_nil_of {T : ByteArray} (h : T.toList.isEmpty = true) : T.data.toList = [] := by rw [Lib.toList_data] at h; simpa using h
theorem ba_not_nil {T : ByteArray} (h : T.toList.isEmpty = false) : T.data.toList ≠ [] := by rw [Lib.toList_data] at h; intro e; rw [e] at h; cases h
set_option maxRecDepth 100000 in
set_option maxHeartbeats 1600000 in
theorem rapp_long (x : Value) (bs : Bs) (r : Rs) (T : ByteArray) (bv : Value) (w : World) (hT : T.data.toList = r.ty) (hbv : BV w bv r.body) (htl : r.ty.length ≤ 1000000) (hbl : r.body.length ≤ 1000000) (hb : 4096 < r.ty.length) :
    Calls Tryz.prog 24 #[x, .agg #[.int .i64 r.st, .string T, .bool r.cl, bv]] w (ApK bs r w) := by
  obtain ⟨st, ty, cl, body⟩ := r
  dsimp only at *
  have hTs : T.size = ty.length := by rw [ba_size, hT]
  obtain ⟨Ab, cb, rfl, hbx⟩ : ∃ Ab cb, bv = .slice Ab body.length cb ∧ BV w (.slice Ab body.length cb) body := by obtain ⟨A, c, e, h1, h2⟩ := hbv; subst e; exact ⟨A, c, rfl, A, c, rfl, h1, h2⟩
  have hP : PF (w.alloc (.cells #[.int .i64 st, .string T, .bool cl, .slice Ab body.length cb] 44)) w.heap.size st T cl (.slice Ab body.length cb) := heap_alloc_new _ _
  have g0 : w.grownBy (w.alloc (.cells #[.int .i64 st, .string T, .bool cl, .slice Ab body.length cb] 44)) none := gb_alloc (gb_refl _ _) _
  obtain ⟨w1, hw1⟩ : ∃ W, w.alloc (.cells #[.int .i64 st, .string T, .bool cl, .slice Ab body.length cb] 44) = W := ⟨_, rfl⟩
  have hs1' : w1.heap.size = w.heap.size + 1 := by rw [← hw1]; simp
  rw [hw1] at hP g0
  have x0 := hP.c0
  have x1 := hP.c1
  have x2 := hP.c2
  have x3 := hP.c3
  have hpl := fun W => Lib.hid (rplain_any 32 T W (by omega))
  rw [rgB_pr, hT] at hpl
  have hm := Lib.hid (show mayR ⟨st, ty, cl, body⟩ = 3 from if_pos (.inl hb))
  have i1 : (4096 : Int) < (T.size : Int) := by omega
  clear hb
  replace g0 := Lib.hid g0
  clear hbx hP hs1' hT
  go_enter Tryz.func24, Tryz.ntmps24
  go_upto_region 1 with fail
  try rw [hw1]
  replace hw1 := Lib.hid hw1
  go_wp2_with (first
    | (go_at_call 43; refine ((hpl _).out).mono ?_; rintro e w2 ⟨rfl, hw2⟩; rw [hw2]; clear hw2))
  refine bodyPost_ret (v := .tuple #[.slice none 0 0, .int .i64 3]) (by simp [results, Tryz.results24, go_sem]) rfl ?_
  unfold ApK
  rw [hm.out, if_neg (by decide)]
  exact ⟨rfl, g0.out⟩
set_option maxRecDepth 100000 in
set_option maxHeartbeats 1600000 in
theorem rapp_low (x : Value) (bs : Bs) (r : Rs) (T : ByteArray) (bv : Value) (w : World) (hT : T.data.toList = r.ty) (hbv : BV w bv r.body) (htl : r.ty.length ≤ 1000000) (hbl : r.body.length ≤ 1000000) (hb : ¬ 4096 < r.ty.length) (hs : r.st < 100) :
    Calls Tryz.prog 24 #[x, .agg #[.int .i64 r.st, .string T, .bool r.cl, bv]] w (ApK bs r w) := by
  obtain ⟨st, ty, cl, body⟩ := r
  dsimp only at *
  have hTs : T.size = ty.length := by rw [ba_size, hT]
  obtain ⟨Ab, cb, rfl, hbx⟩ : ∃ Ab cb, bv = .slice Ab body.length cb ∧ BV w (.slice Ab body.length cb) body := by obtain ⟨A, c, e, h1, h2⟩ := hbv; subst e; exact ⟨A, c, rfl, A, c, rfl, h1, h2⟩
  have hP : PF (w.alloc (.cells #[.int .i64 st, .string T, .bool cl, .slice Ab body.length cb] 44)) w.heap.size st T cl (.slice Ab body.length cb) := heap_alloc_new _ _
  have g0 : w.grownBy (w.alloc (.cells #[.int .i64 st, .string T, .bool cl, .slice Ab body.length cb] 44)) none := gb_alloc (gb_refl _ _) _
  obtain ⟨w1, hw1⟩ : ∃ W, w.alloc (.cells #[.int .i64 st, .string T, .bool cl, .slice Ab body.length cb] 44) = W := ⟨_, rfl⟩
  have hs1' : w1.heap.size = w.heap.size + 1 := by rw [← hw1]; simp
  rw [hw1] at hP g0
  have x0 := hP.c0
  have x1 := hP.c1
  have x2 := hP.c2
  have x3 := hP.c3
  have hpl := fun W => Lib.hid (rplain_any 32 T W (by omega))
  rw [rgB_pr, hT] at hpl
  have hm := Lib.hid (show mayR ⟨st, ty, cl, body⟩ = 2 from by unfold mayR; dsimp only; rw [if_neg (by omega), if_pos (.inl hs)])
  have i1 : ¬ (4096 : Int) < (T.size : Int) := by omega
  have i2 : ¬ (1048576 : Int) < (body.length : Int) := by omega
  clear hb
  replace g0 := Lib.hid g0
  clear hbx hP hs1' hT
  go_enter Tryz.func24, Tryz.ntmps24
  go_upto_region 1 with fail
  try rw [hw1]
  replace hw1 := Lib.hid hw1
  go_wp2_with (first
    | (go_at_call 43; refine ((hpl _).out).mono ?_; rintro e w2 ⟨rfl, hw2⟩; rw [hw2]; clear hw2))
  refine bodyPost_ret (v := .tuple #[.slice none 0 0, .int .i64 2]) (by simp [results, Tryz.results24, go_sem]) rfl ?_
  unfold ApK
  rw [hm.out, if_neg (by decide)]
  exact ⟨rfl, g0.out⟩
set_option maxRecDepth 100000 in
set_option maxHeartbeats 1600000 in
theorem rapp_high (x : Value) (bs : Bs) (r : Rs) (T : ByteArray) (bv : Value) (w : World) (hT : T.data.toList = r.ty) (hbv : BV w bv r.body) (htl : r.ty.length ≤ 1000000) (hbl : r.body.length ≤ 1000000) (hb : ¬ 4096 < r.ty.length) (hs : 599 < r.st) :
    Calls Tryz.prog 24 #[x, .agg #[.int .i64 r.st, .string T, .bool r.cl, bv]] w (ApK bs r w) := by
  obtain ⟨st, ty, cl, body⟩ := r
  dsimp only at *
  have hTs : T.size = ty.length := by rw [ba_size, hT]
  obtain ⟨Ab, cb, rfl, hbx⟩ : ∃ Ab cb, bv = .slice Ab body.length cb ∧ BV w (.slice Ab body.length cb) body := by obtain ⟨A, c, e, h1, h2⟩ := hbv; subst e; exact ⟨A, c, rfl, A, c, rfl, h1, h2⟩
  have hP : PF (w.alloc (.cells #[.int .i64 st, .string T, .bool cl, .slice Ab body.length cb] 44)) w.heap.size st T cl (.slice Ab body.length cb) := heap_alloc_new _ _
  have g0 : w.grownBy (w.alloc (.cells #[.int .i64 st, .string T, .bool cl, .slice Ab body.length cb] 44)) none := gb_alloc (gb_refl _ _) _
  obtain ⟨w1, hw1⟩ : ∃ W, w.alloc (.cells #[.int .i64 st, .string T, .bool cl, .slice Ab body.length cb] 44) = W := ⟨_, rfl⟩
  have hs1' : w1.heap.size = w.heap.size + 1 := by rw [← hw1]; simp
  rw [hw1] at hP g0
  have x0 := hP.c0
  have x1 := hP.c1
  have x2 := hP.c2
  have x3 := hP.c3
  have hpl := fun W => Lib.hid (rplain_any 32 T W (by omega))
  rw [rgB_pr, hT] at hpl
  have hm := Lib.hid (show mayR ⟨st, ty, cl, body⟩ = 2 from by unfold mayR; dsimp only; rw [if_neg (by omega), if_pos (.inr (.inl hs))])
  have i1 : ¬ (4096 : Int) < (T.size : Int) := by omega
  have i2 : ¬ (1048576 : Int) < (body.length : Int) := by omega
  have i3 : ¬ st < 100 := by omega
  clear hb
  replace g0 := Lib.hid g0
  clear hbx hP hs1' hT
  go_enter Tryz.func24, Tryz.ntmps24
  go_upto_region 1 with fail
  try rw [hw1]
  replace hw1 := Lib.hid hw1
  go_wp2_with (first
    | (go_at_call 43; refine ((hpl _).out).mono ?_; rintro e w2 ⟨rfl, hw2⟩; rw [hw2]; clear hw2))
  refine bodyPost_ret (v := .tuple #[.slice none 0 0, .int .i64 2]) (by simp [results, Tryz.results24, go_sem]) rfl ?_
  unfold ApK
  rw [hm.out, if_neg (by decide)]
  exact ⟨rfl, g0.out⟩
set_option maxRecDepth 100000 in
set_option maxHeartbeats 1600000 in
theorem rapp_sign (x : Value) (bs : Bs) (r : Rs) (T : ByteArray) (bv : Value) (w : World) (hT : T.data.toList = r.ty) (hbv : BV w bv r.body) (htl : r.ty.length ≤ 1000000) (hbl : r.body.length ≤ 1000000) (hb : ¬ 4096 < r.ty.length) (hs0 : ¬ r.st < 100) (hs1 : ¬ 599 < r.st) (ha : r.ty.all prB = false) :
    Calls Tryz.prog 24 #[x, .agg #[.int .i64 r.st, .string T, .bool r.cl, bv]] w (ApK bs r w) := by
  obtain ⟨st, ty, cl, body⟩ := r
  dsimp only at *
  have hTs : T.size = ty.length := by rw [ba_size, hT]
  obtain ⟨Ab, cb, rfl, hbx⟩ : ∃ Ab cb, bv = .slice Ab body.length cb ∧ BV w (.slice Ab body.length cb) body := by obtain ⟨A, c, e, h1, h2⟩ := hbv; subst e; exact ⟨A, c, rfl, A, c, rfl, h1, h2⟩
  have hP : PF (w.alloc (.cells #[.int .i64 st, .string T, .bool cl, .slice Ab body.length cb] 44)) w.heap.size st T cl (.slice Ab body.length cb) := heap_alloc_new _ _
  have g0 : w.grownBy (w.alloc (.cells #[.int .i64 st, .string T, .bool cl, .slice Ab body.length cb] 44)) none := gb_alloc (gb_refl _ _) _
  obtain ⟨w1, hw1⟩ : ∃ W, w.alloc (.cells #[.int .i64 st, .string T, .bool cl, .slice Ab body.length cb] 44) = W := ⟨_, rfl⟩
  have hs1' : w1.heap.size = w.heap.size + 1 := by rw [← hw1]; simp
  rw [hw1] at hP g0
  have x0 := hP.c0
  have x1 := hP.c1
  have x2 := hP.c2
  have x3 := hP.c3
  have hpl := fun W => Lib.hid (rplain_any 32 T W (by omega))
  rw [rgB_pr, hT] at hpl
  have hm := Lib.hid (show mayR ⟨st, ty, cl, body⟩ = 2 from by unfold mayR; dsimp only; rw [if_neg (by omega), if_pos (.inr (.inr ha))])
  have i1 : ¬ (4096 : Int) < (T.size : Int) := by omega
  have i2 : ¬ (1048576 : Int) < (body.length : Int) := by omega
  rw [ha] at hpl
  clear hb ha
  replace g0 := Lib.hid g0
  clear hbx hP hs1' hT
  go_enter Tryz.func24, Tryz.ntmps24
  go_upto_region 1 with fail
  try rw [hw1]
  replace hw1 := Lib.hid hw1
  go_wp2_with (first
    | (go_at_call 43; refine ((hpl _).out).mono ?_; rintro e w2 ⟨rfl, hw2⟩; rw [hw2]; clear hw2))
  refine bodyPost_ret (v := .tuple #[.slice none 0 0, .int .i64 2]) (by simp [results, Tryz.results24, go_sem]) rfl ?_
  unfold ApK
  rw [hm.out, if_neg (by decide)]
  exact ⟨rfl, g0.out⟩
set_option maxRecDepth 100000 in
set_option maxHeartbeats 3200000 in
theorem rapp_good (x : Value) (bs : Bs) (r : Rs) (T : ByteArray) (bv : Value) (w : World) (hx : BV w x bs) (hT : T.data.toList = r.ty) (hbv : BV w bv r.body) (htl : r.ty.length ≤ 1000000) (hbl : r.body.length ≤ 1000000) (hl : bs.length ≤ 1000000) (hb : ¬ 4096 < r.ty.length) (hs0 : ¬ r.st < 100) (hs1 : ¬ 599 < r.st) (ha : r.ty.all prB = true) :
    Calls Tryz.prog 24 #[x, .agg #[.int .i64 r.st, .string T, .bool r.cl, bv]] w (ApK bs r w) := by
  obtain ⟨st, ty, cl, body⟩ := r
  dsimp only at *
  have hTs : T.size = ty.length := by rw [ba_size, hT]
  obtain ⟨Ab, cb, rfl, hbx⟩ : ∃ Ab cb, bv = .slice Ab body.length cb ∧ BV w (.slice Ab body.length cb) body := by obtain ⟨A, c, e, h1, h2⟩ := hbv; subst e; exact ⟨A, c, rfl, A, c, rfl, h1, h2⟩
  have hP : PF (w.alloc (.cells #[.int .i64 st, .string T, .bool cl, .slice Ab body.length cb] 44)) w.heap.size st T cl (.slice Ab body.length cb) := heap_alloc_new _ _
  have g0 : w.grownBy (w.alloc (.cells #[.int .i64 st, .string T, .bool cl, .slice Ab body.length cb] 44)) none := gb_alloc (gb_refl _ _) _
  obtain ⟨w1, hw1⟩ : ∃ W, w.alloc (.cells #[.int .i64 st, .string T, .bool cl, .slice Ab body.length cb] 44) = W := ⟨_, rfl⟩
  have hs1' : w1.heap.size = w.heap.size + 1 := by rw [← hw1]; simp
  rw [hw1] at hP g0
  have x0 := hP.c0
  have x1 := hP.c1
  have x2 := hP.c2
  have x3 := hP.c3
  have hpl := fun W => Lib.hid (rplain_any 32 T W (by omega))
  rw [rgB_pr, hT] at hpl
  obtain ⟨Ax, cx, rfl, hxx⟩ : ∃ Ax cx, x = .slice Ax bs.length cx ∧ BV w (.slice Ax bs.length cx) bs := by obtain ⟨A, c, e, h1, h2⟩ := hx; subst e; exact ⟨A, c, rfl, A, c, rfl, h1, h2⟩
  have hm := Lib.hid (show mayR ⟨st, ty, cl, body⟩ = 0 from by unfold mayR; dsimp only; rw [if_neg (by omega), if_neg (by rintro (h | h | h); omega; omega; rw [ha] at h; cases h)])
  have i1 : ¬ (4096 : Int) < (T.size : Int) := by omega
  have i2 : ¬ (1048576 : Int) < (body.length : Int) := by omega
  have i3 : ¬ st < 100 := hs0
  have i4 : ¬ 599 < st := hs1
  rw [ha] at hpl
  have hIl := itoa_len st (by omega) (by omega)
  have hRl : (reasonP st).length ≤ 30 := by simpa using reason_len st
  have hJl := itoa_len (body.length : Nat) (by omega) (by omega)
  have hdg := fun W => Lib.hid (dec_any st (by omega) (by omega) W)
  have hdl := fun W => Lib.hid (dec_any (body.length : Nat) (by omega) (by omega) W)
  obtain ⟨I, hI⟩ : ∃ I, btx (Lib.itoa st) = I := ⟨_, rfl⟩
  obtain ⟨J, hJ⟩ : ∃ I, btx (Lib.itoa (body.length : Nat)) = I := ⟨_, rfl⟩
  obtain ⟨R, hR⟩ : ∃ R : ByteArray, btx (reasonP st) = R := ⟨_, rfl⟩
  have hId : I.data.toList = Lib.itoa st := by rw [← hI, btx_list]
  have hJd : J.data.toList = Lib.itoa (body.length : Nat) := by rw [← hJ, btx_list]
  have hRd : R.data.toList = reasonP st := by rw [← hR, btx_list]
  have hrs := fun W => Lib.hid (rreason_any st W)
  rw [show (⟨(reasonP st).toArray⟩ : ByteArray) = R from hR] at hrs
  rw [hI] at hdg
  rw [hJ] at hdl
  obtain ⟨S1, q1, e1⟩ := add_ex ⟨#[72, 84, 84, 80, 47, 49, 46, 49, 32]⟩ I (by decide) (by rw [hId]; omega)
  have z1 : S1.data.toList.length ≤ 19 := by rw [e1, List.length_append, hId, lit_lv9]; have : sVers.length = 9 := rfl; omega
  obtain ⟨S2, q2, e2⟩ := add_ex S1 ⟨#[32]⟩ (by omega) (by decide)
  have z2 : S2.data.toList.length ≤ 20 := by rw [e2, List.length_append, lit_l1]; have : ([32] : Bs).length = 1 := rfl; omega
  obtain ⟨S3, q3, e3⟩ := add_ex S2 R (by omega) (by rw [hRd]; omega)
  have z3 : S3.data.toList.length ≤ 50 := by rw [e3, List.length_append, hRd]; omega
  obtain ⟨S4, q4, e4⟩ := add_ex S3 ⟨#[13, 10]⟩ (by omega) (by decide)
  have z4 : S4.data.toList.length ≤ 52 := by rw [e4, List.length_append, lit_l2]; have : crlf.length = 2 := rfl; omega
  have hS4 := Lib.hid (show S4.data.toList = sVers ++ Lib.itoa st ++ [32] ++ reasonP st ++ crlf from by rw [e4, e3, e2, e1, lit_lv9, hId, lit_l1, hRd, lit_l2])
  clear e1 e2 e3 e4 hI hJ hR
  obtain ⟨T1, t1, f1⟩ := add_ex S4 ⟨#[67, 111, 110, 116, 101, 110, 116, 45, 84, 121, 112, 101, 58, 32]⟩ (by omega) (by decide)
  have y1 : T1.data.toList.length ≤ 66 := by rw [f1, List.length_append, lit_lt14]; have : sType.length = 14 := rfl; omega
  obtain ⟨T2, t2, f2⟩ := add_ex T1 T (by omega) (by rw [hT]; omega)
  have y2 : T2.data.toList.length ≤ 1000066 := by rw [f2, List.length_append, hT]; omega
  obtain ⟨T3, t3, f3⟩ := add_ex T2 ⟨#[13, 10]⟩ (by omega) (by decide)
  have y3 : T3.data.toList.length ≤ 1000068 := by rw [f3, List.length_append, lit_l2]; have : crlf.length = 2 := rfl; omega
  have hT3 := Lib.hid (show T3.data.toList = S4.data.toList ++ (sType ++ ty ++ crlf) from by rw [f3, f2, f1, lit_lt14, hT, lit_l2]; simp)
  clear f1 f2 f3
  have hh := Lib.hid (And.intro hId (And.intro hJd hRd))
  replace g0 := Lib.hid g0
  have kP := fun W (hW : w1.grownBy W none) => Lib.hid (hP.kept hW (by simp))
  have hbv1 := fun W (hW : w1.grownBy W none) => Lib.hid (hbx.kp (gb_trans g0.out hW))
  have hxv1 := fun W (hW : w1.grownBy W none) => Lib.hid (hxx.kp (gb_trans g0.out hW))
  have hblh := Lib.hid (show body.length ≤ 1000000 from hbl)
  have hlh := Lib.hid hl
  have hTh := Lib.hid hT
  have hbsz := Lib.hid hs1'
  replace hx := Lib.hid hx
  clear hb hs0 hs1 ha hP hx hxx hbx hbv hId hJd hRd hRl hIl z1 z2 z3 y1 y2 hT hs1' htl hl hbl hTs
  go_enter Tryz.func24, Tryz.ntmps24
  go_upto_region 1 with fail
  try rw [hw1]
  replace hw1 := Lib.hid hw1
  go_upto_region 5 with (first
    | (go_at_call 43; refine ((hpl _).out).mono ?_; rintro e w2 ⟨rfl, hw2⟩; rw [hw2]; clear hw2))
  have P0 : ∀ G : Grown w1, G.W.cell? ⟨w.heap.size, 0, none⟩ = some (.int .i64 st) := fun G => (kP G.W G.h).out.c0
  have qd : Hid (QC Tryz.prog w1 49 #[.int .i64 st] (.string I)) := fun G => (hdg G.W).out.mono fun e w' h => ⟨h.1, gb_trans G.h h.2⟩
  have qr : Hid (QC Tryz.prog w1 31 #[.int .i64 st] (.string R)) := fun G => (hrs G.W).out.mono fun e w' h => ⟨h.1, by rw [h.2]; exact G.h⟩
  refine wp_region_grown 11 0 (by simp only [List.take_succ_cons, List.take_zero]; rfl) (by kernel_rfl) (gb_drew (gb_refl _ _)) (by kernel_rfl) (by kernel_rfl) (by kernel_rfl) (by kernel_rfl) ?_
  repeat go_big_quiet_step (first
    | (rename_i G; with_reducible exact qd.out.at G)
    | (rename_i G; with_reducible exact qr.out.at G))
  refine wpQuiet_nil ?_
  intro G
  refine wpAny_done (by kernel_rfl) ?_ _
  obtain ⟨w5, g5⟩ := G
  dsimp only
  have y := (kP w5 g5).out
  have y0 := y.c0
  have y1 := y.c1
  have y2 := y.c2
  have y3' := y.c3
  clear y P0 qd qr q1 q2 q3 q4 x0 x1 x2 x3 hdg hrs
  go_upto_if 43 with fail
  go_cut [6] from 43 to 49 (fun u6 wx => ∃ S : ByteArray, u6 = .string S ∧ S.data.toList = sVers ++ Lib.itoa st ++ [32] ++ reasonP st ++ crlf ++ (if ty = [] then [] else sType ++ ty ++ crlf) ∧ S.data.toList.length ≤ 1000068 ∧ wx = w5)
  case first =>
    cases hB : T.toList.isEmpty with
    | true =>
      have hty := ba_nil_of hB
      rw [hTh.out] at hty
      go_wp2_with fail
      go_meet
      exact ⟨S4, rfl, by rw [hS4.out, if_pos hty, List.append_nil], by omega, rfl⟩
    | false =>
      have hty := ba_not_nil hB
      rw [hTh.out] at hty
      go_wp2_with fail
      go_meet
      exact ⟨T3, rfl, by rw [hT3.out, hS4.out, if_neg hty], by omega, rfl⟩
  case rest =>
  obtain ⟨S, rfl, hS, hSl, hwx⟩ := hcut
  rw [hwx]
  clear hwx t1 t2 t3
  obtain ⟨V1, v1, c1⟩ := add_ex S ⟨#[67, 111, 110, 116, 101, 110, 116, 45, 76, 101, 110, 103, 116, 104, 58, 32]⟩ (by omega) (by decide)
  have u1 : V1.data.toList.length ≤ 1000084 := by rw [c1, List.length_append, lit_ll16]; have : sLen.length = 16 := rfl; omega
  obtain ⟨V2, v2, c2⟩ := add_ex V1 J (by omega) (by rw [hh.out.2.1]; omega)
  have u2 : V2.data.toList.length ≤ 1000094 := by rw [c2, List.length_append, hh.out.2.1]; omega
  obtain ⟨V3, v3, c3⟩ := add_ex V2 ⟨#[13, 10]⟩ (by omega) (by decide)
  have u3 : V3.data.toList.length ≤ 1000096 := by rw [c3, List.length_append, lit_l2]; have : crlf.length = 2 := rfl; omega
  obtain ⟨V4, v4, c4⟩ := add_ex V3 ⟨#[67, 111, 110, 110, 101, 99, 116, 105, 111, 110, 58, 32, 99, 108, 111, 115, 101, 13, 10]⟩ (by omega) (by decide)
  have u4 : V4.data.toList.length ≤ 1000115 := by rw [c4, List.length_append, lit_lc19]; have : sClose.length = 19 := rfl; omega
  have hV3 := Lib.hid (show V3.data.toList = S.data.toList ++ (sLen ++ Lib.itoa (body.length : Nat) ++ crlf) from by rw [c3, c2, c1, lit_ll16, hh.out.2.1, lit_l2]; simp)
  have hV4 := Lib.hid (show V4.data.toList = V3.data.toList ++ sClose from by rw [c4, lit_lc19])
  replace hS := Lib.hid hS
  clear c1 c2 c3 c4 u1 u2
  go_upto_if 59 with (first
    | (go_at_call 49; refine ((hdl _).out).mono ?_; rintro e w6 ⟨rfl, g6⟩; have g56 := gb_trans g5 g6; have z := (kP w6 g56).out; have z2 := z.c2; have z3 := z.c3; clear z))
  go_cut [6] from 59 to 61 (fun u6 wx => ∃ S : ByteArray, u6 = .string S ∧ S.data.toList = V3.data.toList ++ (if cl then sClose else []) ∧ S.data.toList.length ≤ 1000115 ∧ wx = w6)
  case first =>
    cases cl with
    | true =>
      go_wp2_with fail
      go_meet
      exact ⟨V4, rfl, by rw [hV4.out]; simp, by omega, rfl⟩
    | false =>
      go_wp2_with fail
      go_meet
      exact ⟨V3, rfl, by simp, by omega, rfl⟩
  case rest =>
  obtain ⟨S5, rfl, hS5, hS5l, hwx⟩ := hcut
  rw [hwx]
  clear hwx v1 v2 v3 v4 hdl
  obtain ⟨S6, s6, d6⟩ := add_ex S5 ⟨#[13, 10]⟩ (by omega) (by decide)
  have z6 : Hid (S6.data.toList.length ≤ 2000000) := Lib.hid (by rw [d6, List.length_append, lit_l2]; have : crlf.length = 2 := rfl; omega)
  have hS6 := Lib.hid (show S6.data.toList = S5.data.toList ++ crlf from by rw [d6, lit_l2])
  replace hS5 := Lib.hid hS5
  have gal : w6.grownBy (w6.alloc (.cells #[] 5 (0, 0))) none := gb_alloc (gb_refl _ _) _
  have hb0 : Hid (BG w6 0 (w6.alloc (.cells #[] 5 (0, 0))) (.slice (some ⟨w6.heap.size, 0, none⟩) 0 0) []) := Lib.hid ⟨⟨w6.heap.size, .inr ⟨0, 0, #[], rfl, Nat.le_refl _, by unfold maxLen; omega, heap_alloc_new _ _, Nat.le_refl _, rfl⟩, Nat.le_refl _⟩, gal, Nat.le_refl _⟩
  have kS3 : ∀ W, w6.grownBy W none → W.cell? ⟨w.heap.size, 3, none⟩ = some (.slice Ab body.length cb) := fun W hW => (kP W (gb_trans g56 hW)).out.c3
  have hsx := fun W (hW : w6.grownBy W none) => Lib.hid (BV.src (hxv1 W (gb_trans g56 hW)).out)
  have hsb := fun W (hW : w6.grownBy W none) => Lib.hid (BV.src (hbv1 W (gb_trans g56 hW)).out)
  clear z2 z3 y0 y1 y2 y3'
  go_upto_region 11 with fail
  go_region_held3 (fun W' => W'.cell? ⟨w.heap.size, 3, none⟩ = some (.slice Ab body.length cb)) (exact kS3 _ (by repeat (first | assumption | (with_reducible exact gb_refl _ _) | (with_reducible refine gb_drew ?_) | (with_reducible refine gb_alloc ?_ _))))
    (first
      | (have hh := hB9; clear hh; refine step_append_bg rfl _ _ _ (by rfl) (by rfl) (by rfl) hB9.out (hsb _ hB9.out.gb).out hblh.out (by decide) ?_; intro A10 N10 c10 w10 hB10; have g10 := hB10.gb; replace hB10 := Lib.hid hB10)
      | (have hh := hB8; clear hh; refine step_append_bg rfl _ _ _ (by rfl) (by rfl) (by rfl) hB8.out (str_src _ _) z6.out (by decide) ?_; intro A9 N9 c9 w9 hB9; have g9 := hB9.gb; replace hB9 := Lib.hid hB9)
      | (refine step_append_bg rfl _ _ _ (by rfl) (by rfl) (by rfl) (hb0.out.grown (by repeat (first | (with_reducible exact gb_refl _ _) | (with_reducible refine gb_drew ?_)))) (hsx _ (by repeat (first | assumption | (with_reducible exact gb_refl _ _) | (with_reducible refine gb_drew ?_) | (with_reducible refine gb_alloc ?_ _)))).out hlh.out (by decide) ?_; intro A8 N8 c8 w8 hB8; have g8 := hB8.gb; replace hB8 := Lib.hid hB8))
  all_goals
    go_wp2_with fail
    refine bodyPost_ret (v := .tuple #[.slice A10 N10 c10, .int .i64 0]) (by simp [results, Tryz.results24, go_sem]) rfl ?_
    obtain ⟨b10, k1, k2⟩ := hB10.out.ex
    unfold ApK
    rw [if_pos hm.out]
    refine ⟨_, b10, rfl, ?_, ?_, gb_trans g0.out (gb_trans g56 hB10.out.gb)⟩
    · have e : bs ++ outP ⟨st, ty, cl, body⟩ = ([] ++ bs ++ S6.data.toList) ++ body := by
        rw [hS6.out, hS5.out, hV3.out, hS.out]
        unfold outP
        dsimp only
        simp
      rw [e]
      exact k1
    · have := g56.size
      have := hbsz.out
      omega
theorem rapp_any (x : Value) (bs : Bs) (r : Rs) (T : ByteArray) (bv : Value) (w : World) (hx : BV w x bs) (hT : T.data.toList = r.ty) (hbv : BV w bv r.body) (hl : bs.length ≤ 1000000) (htl : r.ty.length ≤ 1000000) (hbl : r.body.length ≤ 1000000) : Calls Tryz.prog 24 #[x, .agg #[.int .i64 r.st, .string T, .bool r.cl, bv]] w (ApK bs r w) := by
  by_cases hb : 4096 < r.ty.length
  · exact rapp_long x bs r T bv w hT hbv htl hbl hb
  by_cases hs0 : r.st < 100
  · exact rapp_low x bs r T bv w hT hbv htl hbl hb hs0
  by_cases hs1 : 599 < r.st
  · exact rapp_high x bs r T bv w hT hbv htl hbl hb hs1
  cases ha : r.ty.all prB with
  | false => exact rapp_sign x bs r T bv w hT hbv htl hbl hb hs0 hs1 ha
  | true => exact rapp_good x bs r T bv w hx hT hbv htl hbl hl hb hs0 hs1 ha
end Go.Proofs.YtdfgnoflohfnmaaGreatDoor.Hx
