/- HTTP: a response is read, as the document has it: the reader's block; ahead, must. -/
import Derived.Test.YtdfgnoflohfnmaaGreatDoorCa
import Derived.Test.YtdfgnoflohfnmaaGreatDoorBe
import Derived.BigQuiet
namespace Go.Proofs.YtdfgnoflohfnmaaGreatDoor.Hx
open Go.RowKit Go.Maps

/-- the reader's block: an error and a place -/
def DT (w : World) (R : Nat) (bw : Value) (x : Ps) : Prop := w.heap[R]? = some (.cells #[bw, .int .i64 (x.2 : Nat), .int .i64 x.1] 94 (0, 0))
section
variable {w w' : World} {R : Nat} {bw : Value} {x : Ps}
theorem DT.lt (h : DT w R bw x) : R < w.heap.size := (Array.getElem?_eq_some_iff.1 h).1
theorem DT.c0 (h : DT w R bw x) : w.cell? ⟨R, 0, none⟩ = some bw := by rw [cell_of_row w R 0 _ _ _ h]; rfl
theorem DT.c1 (h : DT w R bw x) : w.cell? ⟨R, 1, none⟩ = some (.int .i64 (x.2 : Nat)) := by rw [cell_of_row w R 1 _ _ _ h]; rfl
theorem DT.c2 (h : DT w R bw x) : w.cell? ⟨R, 2, none⟩ = some (.int .i64 x.1) := by rw [cell_of_row w R 2 _ _ _ h]; rfl
theorem DT.f (h : DT w R bw x) (i : Nat) : w.frozen? ⟨R, i, none⟩ = false := by unfold DT at h; simp [World.frozen?, h]
theorem DT.kept (h : DT w R bw x) {row : Option Nat} (hg : w.grownBy w' row) (hne : some R ≠ row) : DT w' R bw x := (hg.block R h.lt hne).trans h
theorem DT.set1 (h : DT w R bw x) (j : Nat) : DT (w.setCell ⟨R, 1, none⟩ (.int .i64 (j : Nat))) R bw (x.1, j) := by unfold DT at h ⊢; simp [World.setCell, Array.getElem?_modify, h]
theorem DT.set2 (h : DT w R bw x) (e : Int) : DT (w.setCell ⟨R, 2, none⟩ (.int .i64 e)) R bw (e, x.2) := by unfold DT at h ⊢; simp [World.setCell, Array.getElem?_modify, h]
end
structure DD (w : World) (R : Nat) (bw : Value) (bs : Bs) (x : Ps) : Prop where
  b : KB w R bw bs
  k : DT w R bw x
  i : x.2 ≤ bs.length
section
variable {w w' : World} {R : Nat} {bw : Value} {bs : Bs} {x : Ps}
theorem DD.kept (h : DD w R bw bs x) {y : Ps} (hy : DT w' R bw y) (hg : w.grownBy w' (some R)) (hl : y.2 ≤ bs.length) : DD w' R bw bs y := ⟨h.b.gt hg, hy, hl⟩
theorem DD.gb (h : DD w R bw bs x) (hg : w.grownBy w' none) : DD w' R bw bs x := ⟨h.b.gb hg, h.k.kept hg (by simp), h.i⟩
end
/-- what a reader's call leaves -/
def DRQ (R : Nat) (bw : Value) (bs : Bs) (w : World) (v : Value) (x : Ps) (e : Ending) (w' : World) : Prop := e = .returned v ∧ DD w' R bw bs x ∧ w.grownBy w' (some R)
/-- do some bytes stand next, as far as there are bytes? -/
def aheadP (s D : Bs) : Bool := s.isPrefixOf D || D.isPrefixOf s
theorem ahead_no {s D : Bs} {k : Nat} (h1 : k < s.length) (h2 : k < D.length) (h : D[k] ≠ s[k]) : aheadP s D = false := by
  unfold aheadP
  rw [Bool.or_eq_false_iff]
  constructor
  · rw [Bool.eq_false_iff]
    intro e
    rw [List.isPrefixOf_iff_prefix] at e
    exact h (e.getElem h1).symm
  · rw [Bool.eq_false_iff]
    intro e
    rw [List.isPrefixOf_iff_prefix] at e
    exact h (e.getElem h2)
theorem ahead_yes {s D : Bs} {k : Nat} (h : D.take k = s.take k) (hk : k = s.length ∨ k = D.length) : aheadP s D = true := by
  unfold aheadP
  rw [Bool.or_eq_true]
  rcases hk with rfl | rfl
  · left
    rw [List.take_length] at h
    rw [List.isPrefixOf_iff_prefix, ← h]
    exact List.take_prefix _ _
  · right
    rw [List.take_length] at h
    rw [List.isPrefixOf_iff_prefix, h]
    exact List.take_prefix _ _
theorem take_next {s D : Bs} {k : Nat} (h1 : k < s.length) (h2 : k < D.length) (h : D.take k = s.take k) (he : D[k] = s[k]) : D.take (k + 1) = s.take (k + 1) := by
  rw [List.take_succ_eq_append_getElem h1, List.take_succ_eq_append_getElem h2, h, he]
/-- must, by ahead -/
theorem need_of {bs s : Bs} {i : Nat} (_ : i ≤ bs.length) : needP bs s (0, i) = if aheadP s (bs.drop i) = false then (4, i) else if bs.length - i < s.length then (12, i) else (0, i + s.length) := by
  unfold needP
  rw [if_neg (by simp)]
  have hD : (bs.drop i).length = bs.length - i := List.length_drop
  generalize bs.drop i = D at *
  rw [← hD]
  unfold aheadP
  cases h1 : s.isPrefixOf D with
  | true =>
    have hl := pre_len h1
    rw [if_pos rfl, if_neg (by simp), if_neg (by omega)]
  | false =>
    rw [if_neg (by simp)]
    cases h2 : D.isPrefixOf s with
    | true =>
      have hl := pre_len h2
      have hne : D.length < s.length := by
        rcases Nat.lt_or_ge D.length s.length with h | h
        · exact h
        · exfalso
          rw [List.isPrefixOf_iff_prefix] at h2
          have := h2.eq_of_length (by omega)
          subst this
          rw [Bool.eq_false_iff] at h1
          exact h1 (by rw [List.isPrefixOf_iff_prefix]; exact List.prefix_refl _)
      rw [if_pos ⟨hne, rfl⟩, if_neg (by simp), if_pos hne]
    | false =>
      rw [if_neg (by simp), if_pos (by simp)]
set_option maxRecDepth 100000 in
set_option maxHeartbeats 1600000 in
theorem ahead_any (R : Nat) (bw : Value) (bs : Bs) (x : Ps) (s : ByteArray) (w : World) (h : DD w R bw bs x) (hl : bs.length ≤ 2000000) (hs : s.size ≤ 10000) :
    Calls Tryz.prog 80 #[.pointer (some ⟨R, 0, none⟩), .string s] w fun e w' => e = .returned (.bool (aheadP s.data.toList (bs.drop x.2))) ∧ w.grownBy w' none := by
  obtain ⟨xe, i⟩ := x
  have hi := h.i
  dsimp only at hi
  have hh := Lib.hid h
  have hlS := Lib.hid (ba_size s)
  dsimp only
  clear h
  go_enter Tryz.func80, Tryz.ntmps80
  go_wp2_with fail
  go_loopg [5] s.size (fun z u5 wr => ∃ k : Nat, k ≤ s.size ∧ i + k ≤ bs.length ∧ z = s.size - k ∧ u5 = .int .i64 (k : Nat) ∧ Hid ((bs.drop i).take k = s.data.toList.take k) ∧ Hid (w.grownBy wr none))
  case atStart => exact ⟨0, Nat.zero_le _, hi, rfl, rfl, Lib.hid rfl, Lib.hid (gb_refl _ _)⟩
  case round =>
    obtain ⟨k, hk, hkl, rfl, rfl, hp, hgr⟩ := hrel
    have hr := hh.out.gb hgr.out
    have d0 := hr.k.c0
    have d1 := hr.k.c1
    dsimp only at d1
    obtain ⟨j, hj⟩ : ∃ j : Nat, j = i + k := ⟨_, rfl⟩
    have w1 : IntKind.i64.wrap ((i : Int) + (k : Int)) = (j : Int) := (wrap_id (by omega) (by omega)).trans (by omega)
    have hDl : Hid ((bs.drop i).length = bs.length - i) := Lib.hid List.length_drop
    obtain ⟨A0, c0, hbw⟩ := KB.shape hr.b
    by_cases hks : k < s.size
    · have ksI : (k : Int) < (s.size : Int) := by omega
      by_cases hjb : j < bs.length
      · have jI : (j : Int) < (bs.length : Int) := by omega
        have hbs : bs ≠ [] := by rintro rfl; simp at hjb
        obtain ⟨b, o, c, rfl, hc, hbR, hba⟩ : ∃ b o c, bw = .slice (some ⟨b, o, none⟩) bs.length c ∧ bs.length ≤ c ∧ b ≠ R ∧ BA wr b o bs := by
          rcases hr.b with ⟨_, _, _, e⟩ | ⟨b, o, c, e, h1, h2, _, h3⟩
          · exact absurd e hbs
          · exact ⟨b, o, c, e, h1, h2, h3⟩
        have j0 : (0 : Int) ≤ (j : Int) := by omega
        have k0 : (0 : Int) ≤ (k : Int) := by omega
        have hcj := hba j hjb
        have hkD : k < (bs.drop i).length := by rw [hDl.out]; omega
        have ej : bs[j] = (bs.drop i)[k] := by simp only [List.getElem_drop, hj]
        have hsk : k < s.data.toList.length := by rw [← ba_size]; exact hks
        have es : s[k] = s.data.toList[k] := rfl
        obtain ⟨C, hC⟩ : ∃ C, bs[j] = C := ⟨_, rfl⟩
        obtain ⟨E, hE⟩ : ∃ E, s[k] = E := ⟨_, rfl⟩
        have hix : s[k]'hks = E := hE
        rw [hC] at hcj
        have hbad : C ≠ E → aheadP s.data.toList (bs.drop i) = false := fun e => ahead_no hsk hkD (by rw [← ej, ← es, hC, hE]; exact e)
        have hgood : C = E → (bs.drop i).take (k + 1) = s.data.toList.take (k + 1) := fun e => take_next hsk hkD hp.out (by rw [← ej, ← es, hC, hE]; exact e)
        have hkl2 : Hid (i + (k + 1) ≤ bs.length) := Lib.hid (by omega)
        have hq1 := Lib.hid (show wrap64 ((k : Int) + 1) = ((k + 1 : Nat) : Int) from (wrap64_id (by omega) (by omega)).trans (by omega))
        replace hks := Lib.hid hks
        by_cases hCE : C = E
        · have hst := Lib.hid (hgood hCE)
          have cne : ((C.toNat : Int) != (E.toNat : Int)) = false := by rw [hCE]; simp
          clear hbad hgood hCE hj hC hE hba hp ej es hr hkD hsk hbs
          go_wp2_with fail
          go_quiet (fail)
          go_wp2_with fail
          obtain ⟨wq, hwq⟩ : ∃ W, wr.drewN nq = W := ⟨_, rfl⟩
          have gq : wr.grownBy wq none := by rw [← hwq]; exact gb_drewN (gb_refl _ _) _
          have hrq := hh.out.gb (gb_trans hgr.out gq)
          have d0 := hrq.k.c0
          have d1 := hrq.k.c1
          dsimp only at d1
          replace hcj := cell_grown hcj gq (by simp)
          replace gq := Lib.hid gq
          rw [hwq]
          clear hwq hrq
          go_quiet (fail)
          go_wp2_with fail
          go_roundg (s.size - (k + 1))
          case measure => have := hks.out; omega
          case rel => exact ⟨k + 1, hks.out, hkl2.out, rfl, (by first | exact congrArg (Value.int .i64) hq1.out | exact congrArg (Value.int .i64) (Int.natCast_add k 1).symm), hst, Lib.hid (gb_drewN (gb_trans hgr.out gq.out) _)⟩
        · have hst := Lib.hid (hbad hCE)
          have cne : ((C.toNat : Int) != (E.toNat : Int)) = true := by
            simp
            intro e
            exact hCE (UInt8.toNat_inj.1 (by omega))
          clear hbad hgood hCE hj hC hE hba hp ej es hr hkD hsk hbs
          go_wp2_with fail
          go_quiet (fail)
          go_wp2_with fail
          obtain ⟨wq, hwq⟩ : ∃ W, wr.drewN nq = W := ⟨_, rfl⟩
          have gq : wr.grownBy wq none := by rw [← hwq]; exact gb_drewN (gb_refl _ _) _
          have hrq := hh.out.gb (gb_trans hgr.out gq)
          have d0 := hrq.k.c0
          have d1 := hrq.k.c1
          dsimp only at d1
          replace hcj := cell_grown hcj gq (by simp)
          replace gq := Lib.hid gq
          rw [hwq]
          clear hwq hrq
          go_quiet (fail)
          go_wp2_with fail
          go_ret
          exact ⟨by rw [hst.out]; rfl, gb_drewN (gb_trans hgr.out gq.out) _⟩
      · have jI : ¬ (j : Int) < (bs.length : Int) := by omega
        have jN : decide (j < bs.length) = false := decide_eq_false hjb
        have hst : Hid (aheadP s.data.toList (bs.drop i) = true) := Lib.hid (ahead_yes hp.out (.inr (by rw [hDl.out]; omega)))
        subst hbw
        clear hp hr hj hjb
        go_wp2_with fail
        go_quiet (fail)
        go_wp2_with fail
        go_ret
        exact ⟨by rw [hst.out]; rfl, gb_drewN hgr.out _⟩
    · have ksI : ¬ (k : Int) < (s.size : Int) := by omega
      have ksN : decide (k < s.size) = false := decide_eq_false hks
      have hst : Hid (aheadP s.data.toList (bs.drop i) = true) := Lib.hid (ahead_yes hp.out (.inl (by rw [← ba_size]; omega)))
      clear hp hr hj hks
      go_wp2_with fail
      go_quiet (fail)
      go_wp2_with fail
      go_ret
      exact ⟨by rw [hst.out]; rfl, gb_drewN hgr.out _⟩
set_option maxRecDepth 100000 in
set_option maxHeartbeats 1600000 in
theorem must_any (R : Nat) (bw : Value) (bs : Bs) (x : Ps) (s : ByteArray) (w : World) (h : DD w R bw bs x) (hl : bs.length ≤ 2000000) (hs : s.size ≤ 10000) :
    Calls Tryz.prog 56 #[.pointer (some ⟨R, 0, none⟩), .string s] w (DRQ R bw bs w (.tuple #[]) (needP bs s.data.toList x)) := by
  obtain ⟨xe, i⟩ := x
  have hi := h.i
  dsimp only at hi
  obtain ⟨A0, c0, rfl⟩ := KB.shape h.b
  have c0 := h.k.c0
  have c1 := h.k.c1
  have c2 := h.k.c2
  have f1 := h.k.f 1
  have f2 := h.k.f 2
  dsimp only at c1 c2
  have hah := Lib.hid (ahead_any R _ bs (xe, i) s w h hl hs)
  dsimp only at hah
  have hsz := Lib.hid (ba_size s)
  by_cases h0 : xe = 0
  · subst h0
    have hno := need_of (s := s.data.toList) hi
    rw [← ba_size] at hno
    cases hap : aheadP s.data.toList (bs.drop i) with
    | false =>
      rw [hap] at hah hno
      rw [if_pos rfl] at hno
      replace hno := Lib.hid hno
      have hh := Lib.hid h
      clear h hap
      go_enter Tryz.func56, Tryz.ntmps56
      go_wp2_with (first
        | (go_at_call 80; refine (hah.out).mono ?_; rintro e w2 ⟨rfl, g2⟩; have y2 := cell_grown c2 g2 (by simp); have h2 := hh.out.gb g2; have f2 := h2.k.f 2))
      refine bodyPost_ret (v := .tuple #[]) (by simp [results, Tryz.results56, go_sem]) rfl ?_
      unfold DRQ
      rw [hno.out]
      exact ⟨rfl, h2.kept (h2.k.set2 4) (gb_setR (gb_refl _ _) _ _) hi, gb_setR (gb_row g2 _) _ _⟩
    | true =>
      rw [hap] at hah hno
      rw [if_neg (by simp)] at hno
      by_cases hlen : bs.length - i < s.size
      · rw [if_pos hlen] at hno
        have hw : IntKind.i64.wrap ((bs.length : Int) - (i : Int)) = (bs.length : Int) - (i : Int) := wrap_id (by omega) (by omega)
        have hlI : (bs.length : Int) - (i : Int) < (s.size : Int) := by omega
        replace hno := Lib.hid hno
        have hh := Lib.hid h
        clear h hap hlen
        go_enter Tryz.func56, Tryz.ntmps56
        go_wp2_with (first
          | (go_at_call 80; refine (hah.out).mono ?_; rintro e w2 ⟨rfl, g2⟩; have h2 := hh.out.gb g2; have y0 := h2.k.c0; have y1 := h2.k.c1; dsimp only at y1))
        go_quiet (fail)
        obtain ⟨wq, hwq⟩ : ∃ W, w2.drewN nq = W := ⟨_, rfl⟩
        have gq : w2.grownBy wq none := by rw [← hwq]; exact gb_drewN (gb_refl _ _) _
        have h3 := h2.gb gq
        have y2 := h3.k.c2
        have f2 := h3.k.f 2
        dsimp only at y2
        rw [hwq]
        replace hwq := Lib.hid hwq
        go_wp2_with fail
        refine bodyPost_ret (v := .tuple #[]) (by simp [results, Tryz.results56, go_sem]) rfl ?_
        unfold DRQ
        rw [hno.out]
        exact ⟨rfl, h3.kept (h3.k.set2 12) (gb_setR (gb_refl _ _) _ _) hi, gb_setR (gb_row (gb_trans g2 gq) _) _ _⟩
      · rw [if_neg hlen] at hno
        have hw : IntKind.i64.wrap ((bs.length : Int) - (i : Int)) = (bs.length : Int) - (i : Int) := wrap_id (by omega) (by omega)
        have hlI : ¬ (bs.length : Int) - (i : Int) < (s.size : Int) := by omega
        have hjl : Hid (i + s.size ≤ bs.length) := Lib.hid (by omega)
        have w3 : wrap64 ((i : Int) + (s.size : Int)) = (i : Int) + (s.size : Int) := wrap64_id (by omega) (by omega)
        replace hno := Lib.hid hno
        have hh := Lib.hid h
        clear h hap hlen
        go_enter Tryz.func56, Tryz.ntmps56
        go_wp2_with (first
          | (go_at_call 80; refine (hah.out).mono ?_; rintro e w2 ⟨rfl, g2⟩; have h2 := hh.out.gb g2; have y0 := h2.k.c0; have y1 := h2.k.c1; dsimp only at y1))
        go_quiet (fail)
        obtain ⟨wq, hwq⟩ : ∃ W, w2.drewN nq = W := ⟨_, rfl⟩
        have gq : w2.grownBy wq none := by rw [← hwq]; exact gb_drewN (gb_refl _ _) _
        have h3 := h2.gb gq
        have y1b := h3.k.c1
        have f1 := h3.k.f 1
        dsimp only at y1b
        rw [hwq]
        replace hwq := Lib.hid hwq
        go_wp2_with fail
        refine bodyPost_ret (v := .tuple #[]) (by simp [results, Tryz.results56, go_sem]) rfl ?_
        unfold DRQ
        rw [hno.out]
        have h4 := h3.k.set1 (i + s.size)
        rw [Int.natCast_add] at h4
        exact ⟨rfl, h3.kept h4 (gb_setR (gb_refl _ _) _ _) hjl.out, gb_setR (gb_row (gb_trans g2 gq) _) _ _⟩
  · have e0 : (xe != 0) = true := by simpa using h0
    have hno : Hid (needP bs s.data.toList (xe, i) = (xe, i)) := Lib.hid (if_pos h0)
    have hh := Lib.hid h
    clear h h0
    go_enter Tryz.func56, Tryz.ntmps56
    go_wp2_with fail
    refine bodyPost_ret (v := .tuple #[]) (by simp [results, Tryz.results56, go_sem]) rfl ?_
    unfold DRQ
    rw [hno.out]
    exact ⟨rfl, hh.out, gb_refl _ _⟩
end Go.Proofs.YtdfgnoflohfnmaaGreatDoor.Hx
