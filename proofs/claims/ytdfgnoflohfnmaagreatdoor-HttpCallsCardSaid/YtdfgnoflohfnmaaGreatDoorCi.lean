/- HTTP: a response is read, as the document has it: until. -/
import Derived.Test.YtdfgnoflohfnmaaGreatDoorCg
import Derived.Test.YtdfgnoflohfnmaaGreatDoorRf
import Derived.Test.YtdfgnoflohfnmaaGreatDoorCb
namespace Go.Proofs.YtdfgnoflohfnmaaGreatDoor.Hx
open Go.RowKit Go.Maps

def rg2 (lo hi : Int) (c : UInt8) : Bool := decide (lo ≤ (c.toNat : Int)) && decide ((c.toNat : Int) ≤ hi)
/-- how many bytes stand ahead of a 13, or of the end; none: one that may not be, or too many -/
def untL (p : UInt8 → Bool) : Nat → Bs → Option Nat
  | _, [] => some 0
  | n, c :: t => if c.toNat = 13 then some 0 else if p c = false ∨ n = 0 then none else (untL p (n - 1) t).map (· + 1)
/-- so far -/
structure UI (p : UInt8 → Bool) (most : Nat) (D : Bs) (k : Nat) : Prop where
  eq : untL p most D = (untL p (most - k) (D.drop k)).map (· + k)
  le : k ≤ most
  len : k ≤ D.length
section
variable {p : UInt8 → Bool} {most : Nat} {D : Bs} {k : Nat}
theorem UI.start : UI p most D 0 := ⟨by cases h : untL p most D <;> simp [h], Nat.zero_le _, Nat.zero_le _⟩
theorem UI.end_ (h : UI p most D k) (hk : k = D.length) : untL p most D = some k := by
  rw [h.eq, List.drop_eq_nil_of_le (by omega)]
  unfold untL
  simp
theorem UI.stop (h : UI p most D k) (hk : k < D.length) (hc : D[k].toNat = 13) : untL p most D = some k := by
  rw [h.eq, List.drop_eq_getElem_cons hk]
  unfold untL
  rw [if_pos hc]
  simp
theorem UI.bad (h : UI p most D k) (hk : k < D.length) (hc : D[k].toNat ≠ 13) (hb : p D[k] = false ∨ most ≤ k) : untL p most D = none := by
  rw [h.eq, List.drop_eq_getElem_cons hk]
  unfold untL
  rw [if_neg hc, if_pos (by rcases hb with hb | hb; exact .inl hb; exact .inr (by omega))]
  rfl
theorem UI.step (h : UI p most D k) (hk : k < D.length) (hc : D[k].toNat ≠ 13) (hp : p D[k] = true) (hm : k < most) : UI p most D (k + 1) := by
  refine ⟨?_, by omega, by omega⟩
  rw [h.eq, List.drop_eq_getElem_cons hk]
  conv => lhs; unfold untL
  rw [if_neg hc, if_neg (by rw [hp]; rintro (e | e); cases e; omega), show most - k - 1 = most - (k + 1) from by omega]
  cases untL p (most - (k + 1)) (D.drop (k + 1)) with
  | none => rfl
  | some m => simp; omega
end
/-- what until leaves -/
def UnK (R : Nat) (bw : Value) (bs : Bs) (p : UInt8 → Bool) (most : Nat) (y : Ps) (w : World) (e : Ending) (w' : World) : Prop :=
  if y.1 ≠ 0 then DRQ R bw bs w (.string ⟨#[]⟩) y e w'
  else match untL p most (bs.drop y.2) with
  | none => ∃ i', i' ≤ bs.length ∧ DRQ R bw bs w (.string ⟨#[]⟩) (4, i') e w'
  | some k => DRQ R bw bs w (.string (btx ((bs.drop y.2).take k))) (0, y.2 + k) e w'
set_option maxRecDepth 100000 in
set_option maxHeartbeats 1600000 in
theorem until_err (R : Nat) (bw : Value) (bs : Bs) (x : Ps) (most : Nat) (lo hi : Int) (w : World) (h : DD w R bw bs x) (h0 : x.1 ≠ 0) :
    Calls Tryz.prog 57 #[.pointer (some ⟨R, 0, none⟩), .int .i64 (most : Nat), .int .u8 lo, .int .u8 hi] w (UnK R bw bs (rg2 lo hi) most x w) := by
  obtain ⟨xe, i⟩ := x
  have c2 := h.k.c2
  dsimp only at c2 h0
  have e0 : (xe != 0) = true := by simpa using h0
  have hh := Lib.hid h
  have h0h := Lib.hid h0
  clear h h0
  go_enter Tryz.func57, Tryz.ntmps57
  go_wp2_with fail
  go_ret
  unfold UnK
  rw [if_pos h0h.out]
  exact ⟨rfl, hh.out, gb_refl _ _⟩
set_option maxRecDepth 100000 in
set_option maxHeartbeats 1600000 in
theorem until_go (R : Nat) (bw : Value) (bs : Bs) (i : Nat) (most : Nat) (lo hi : Int) (w : World) (h : DD w R bw bs (0, i)) (hb0 : bs ≠ []) (hl : bs.length ≤ 2000000) (hm : most ≤ 1000000) :
    Calls Tryz.prog 57 #[.pointer (some ⟨R, 0, none⟩), .int .i64 (most : Nat), .int .u8 lo, .int .u8 hi] w (UnK R bw bs (rg2 lo hi) most (0, i) w) := by
  have hi0 := h.i
  have c1 := h.k.c1
  have c2 := h.k.c2
  dsimp only at hi0 c1 c2
  obtain ⟨A0, cc, hbw⟩ := KB.shape h.b
  have hDl : Hid ((bs.drop i).length = bs.length - i) := Lib.hid List.length_drop
  have hh := Lib.hid h
  have hK : ∀ e w', (match untL (rg2 lo hi) most (bs.drop i) with | none => ∃ i', i' ≤ bs.length ∧ DRQ R bw bs w (.string ⟨#[]⟩) (4, i') e w' | some k => DRQ R bw bs w (.string (btx ((bs.drop i).take k))) (0, i + k) e w') → UnK R bw bs (rg2 lo hi) most (0, i) w e w' := fun e w' h => by
    unfold UnK
    rw [if_neg (by simp)]
    exact h
  replace hK := Lib.hid hK
  clear h
  go_enter Tryz.func57, Tryz.ntmps57
  go_wp2_with fail
  go_loopg [] (bs.length - i) (fun g wr => ∃ k : Nat, g = bs.length - (i + k) ∧ UI (rg2 lo hi) most (bs.drop i) k ∧ DD wr R bw bs (0, i + k) ∧ Hid (w.grownBy wr (some R)))
  case atStart => exact ⟨0, rfl, .start, hh.out, Lib.hid (gb_refl _ _)⟩
  case round =>
    obtain ⟨k, rfl, hu, hr, hgr⟩ := hrel
    have d0 := hr.k.c0
    have d1 := hr.k.c1
    dsimp only at d1
    obtain ⟨j, hj⟩ : ∃ j : Nat, i + k = j := ⟨_, rfl⟩
    rw [hj] at d1
    have hle := hu.le
    have hjl := hr.i
    dsimp only at hjl
    have wji : IntKind.i64.wrap ((j : Int) - (i : Int)) = (k : Int) := (wrap_id (by omega) (by omega)).trans (by omega)
    have hrh := Lib.hid hr
    by_cases hs : j < bs.length
    · have hbs : bs ≠ [] := by rintro rfl; simp at hs
      obtain ⟨b, o, c, hbw2, hc, hbR, hba⟩ : ∃ b o c, bw = .slice (some ⟨b, o, none⟩) bs.length c ∧ bs.length ≤ c ∧ b ≠ R ∧ BA wr b o bs := by
        rcases hr.b with ⟨_, _, _, e⟩ | ⟨b, o, c, e, h1, h2, _, h3⟩
        · exact absurd e hbs
        · exact ⟨b, o, c, e, h1, h2, h3⟩
      subst hbw2
      have hcj := hba j hs
      have hkD : k < (bs.drop i).length := by rw [hDl.out]; omega
      have ej : (bs.drop i)[k] = bs[j] := by simp only [List.getElem_drop, hj]
      obtain ⟨C, hC⟩ : ∃ C, bs[j] = C := ⟨_, rfl⟩
      rw [hC] at hcj ej
      have hsI : decide (j < bs.length) = true := decide_eq_true hs
      have j0 : (0 : Int) ≤ (j : Int) := by omega
      have j1 : (j : Int) < (bs.length : Int) := by omega
      by_cases h13 : C.toNat = 13
      · have c13 : ((C.toNat : Int) != 13) = false := by simp; omega
        have hres := Lib.hid (hu.stop hkD (by rw [ej]; exact h13))
        have hcv0 : ∀ W, wr.grownBy W none → BA W b (o + i) ((bs.drop i).take k) := fun W hW => (hba.grown hW (by simp)).drop i |>.take k
        have hkl : ((bs.drop i).take k).length = k := by rw [List.length_take, hDl.out]; omega
        obtain ⟨V, hV⟩ : ∃ V, btx ((bs.drop i).take k) = V := ⟨_, rfl⟩
        have i0 : (0 : Int) ≤ (i : Int) := by omega
        have i1 : (i : Int) ≤ (j : Int) := by omega
        have i2 : (j : Int) ≤ (c : Int) := by omega
        have hsub : j - i = k := by omega
        have hjh := Lib.hid hj
        by_cases hci : c = i
        · have hk0 : k = 0 := by omega
          have hji : j = i := by omega
          have hcv : ∀ W, wr.grownBy W none → (convert 22 9 (.slice (some ⟨b, o, none⟩) 0 0)).run Tryz.prog W = .ok (.string V) W := fun W hW => by
            rw [← hV, hk0, List.take_zero]
            exact BV.str (w := W) (bs := []) ⟨_, 0, rfl, Nat.le_refl _, fun h => absurd rfl h⟩
          replace hV := Lib.hid hV
          subst hk0
          replace hci := hci.symm
          subst hci
          have hji2 := hji.symm
          subst hji2
          clear hcv0 hba hkl hu hr hs h13 hkD ej hC hbs hj hji hsub
          go_wp2_with fail
          go_quiet (fail)
          go_wp2_with fail
          obtain ⟨wq, hwq⟩ : ∃ W, wr.drewN nq = W := ⟨_, rfl⟩
          have gq : wr.grownBy wq none := by rw [← hwq]; exact gb_drewN (gb_refl _ _) _
          have hrq := Lib.hid (hrh.out.gb gq)
          have d0 := hrq.out.k.c0
          have d1 := hrq.out.k.c1
          dsimp only at d1
          rw [hjh.out] at d1
          have hcvq := fun q => hcv (wq.drewN q) (gb_drewN gq q)
          rw [hwq]
          replace gq := Lib.hid gq
          clear hwq hcv
          go_quiet (fail)
          go_wp2_with fail
          go_ret
          refine hK.out _ _ ?_
          rw [hres.out]
          exact ⟨by rw [hV.out]; rfl, hrq.out.gb (gb_drewN (gb_refl _ none) _), gb_trans hgr.out (gb_row (gb_drewN gq.out _) _)⟩
        · have hcv : ∀ W, wr.grownBy W none → (convert 22 9 (.slice (some ⟨b, o + i, none⟩) k (c - i))).run Tryz.prog W = .ok (.string V) W := fun W hW => by
            rw [← hV]
            exact BV.str (w := W) ⟨_, c - i, by rw [hkl], by rw [hkl]; omega, fun _ => ⟨b, o + i, rfl, hcv0 W hW⟩⟩
          replace hV := Lib.hid hV
          have nci : ¬ c = i := hci
          clear hcv0 hba hkl hu hr hs h13 hkD ej hC hbs hj hci
          go_wp2_with fail
          go_quiet (fail)
          go_wp2_with fail
          obtain ⟨wq, hwq⟩ : ∃ W, wr.drewN nq = W := ⟨_, rfl⟩
          have gq : wr.grownBy wq none := by rw [← hwq]; exact gb_drewN (gb_refl _ _) _
          have hrq := Lib.hid (hrh.out.gb gq)
          have d0 := hrq.out.k.c0
          have d1 := hrq.out.k.c1
          dsimp only at d1
          rw [hjh.out] at d1
          have hcvq := fun q => hcv (wq.drewN q) (gb_drewN gq q)
          rw [hwq]
          replace gq := Lib.hid gq
          clear hwq hcv
          go_quiet (fail)
          go_wp2_with fail
          go_ret
          refine hK.out _ _ ?_
          rw [hres.out]
          exact ⟨by rw [hV.out]; rfl, hrq.out.gb (gb_drewN (gb_refl _ none) _), gb_trans hgr.out (gb_row (gb_drewN gq.out _) _)⟩
      · have c13 : ((C.toNat : Int) != 13) = true := by simp; omega
        by_cases hlo : (C.toNat : Int) < lo
        · have dlo : decide ((C.toNat : Int) < lo) = true := decide_eq_true hlo
          have hres := Lib.hid (hu.bad hkD (by rw [ej]; exact h13) (.inl (by rw [ej]; unfold rg2; simp; omega)))
          have hjh := Lib.hid hj
          clear hu hr hba hs hkD ej hC hbs hj h13 hlo
          go_wp2_with fail
          go_quiet (fail)
          go_wp2_with fail
          obtain ⟨wq, hwq⟩ : ∃ W, wr.drewN nq = W := ⟨_, rfl⟩
          have gq : wr.grownBy wq none := by rw [← hwq]; exact gb_drewN (gb_refl _ _) _
          have hrq := Lib.hid (hrh.out.gb gq)
          have d0 := hrq.out.k.c0
          have d1 := hrq.out.k.c1
          dsimp only at d1
          rw [hjh.out] at d1
          replace hcj := cell_grown hcj gq (by simp)
          have y2 := fun q => (hrq.out.gb (gb_drewN (gb_refl wq none) q)).k.c2
          have f2 := fun q => (hrq.out.gb (gb_drewN (gb_refl wq none) q)).k.f 2
          dsimp only at y2
          have h3 := fun q => Lib.hid (hrq.out.gb (gb_drewN (gb_refl wq none) q))
          rw [hwq]
          replace gq := Lib.hid gq
          clear hwq
          go_quiet (fail)
          go_wp2_with fail
          go_ret
          refine hK.out _ _ ?_
          rw [hres.out]
          exact ⟨i + k, (h3 0).out.i, rfl, (h3 _).out.kept ((h3 _).out.k.set2 4) (gb_setR (gb_refl _ _) _ _) (h3 0).out.i, gb_setR (gb_trans hgr.out (gb_row (gb_drewN gq.out _) _)) _ _⟩
        · have dlo : decide ((C.toNat : Int) < lo) = false := decide_eq_false hlo
          by_cases hhi : hi < (C.toNat : Int)
          · have dhi : decide (hi < (C.toNat : Int)) = true := decide_eq_true hhi
            have hres := Lib.hid (hu.bad hkD (by rw [ej]; exact h13) (.inl (by rw [ej]; unfold rg2; simp; omega)))
            have hjh := Lib.hid hj
            clear hu hr hba hs hkD ej hC hbs hj h13 hlo hhi
            go_wp2_with fail
            go_quiet (fail)
            go_wp2_with fail
            obtain ⟨wq, hwq⟩ : ∃ W, wr.drewN nq = W := ⟨_, rfl⟩
            have gq : wr.grownBy wq none := by rw [← hwq]; exact gb_drewN (gb_refl _ _) _
            have hrq := Lib.hid (hrh.out.gb gq)
            have d0 := hrq.out.k.c0
            have d1 := hrq.out.k.c1
            dsimp only at d1
            rw [hjh.out] at d1
            replace hcj := cell_grown hcj gq (by simp)
            have y2 := fun q => (hrq.out.gb (gb_drewN (gb_refl wq none) q)).k.c2
            have f2 := fun q => (hrq.out.gb (gb_drewN (gb_refl wq none) q)).k.f 2
            dsimp only at y2
            have h3 := fun q => Lib.hid (hrq.out.gb (gb_drewN (gb_refl wq none) q))
            rw [hwq]
            replace gq := Lib.hid gq
            clear hwq
            go_quiet (fail)
            go_wp2_with fail
            go_ret
            refine hK.out _ _ ?_
            rw [hres.out]
            exact ⟨i + k, (h3 0).out.i, rfl, (h3 _).out.kept ((h3 _).out.k.set2 4) (gb_setR (gb_refl _ _) _ _) (h3 0).out.i, gb_setR (gb_trans hgr.out (gb_row (gb_drewN gq.out _) _)) _ _⟩
          · have dhi : decide (hi < (C.toNat : Int)) = false := decide_eq_false hhi
            by_cases hmk : most ≤ k
            · have dmk : decide (most ≤ k) = true := decide_eq_true hmk
              have hres := Lib.hid (hu.bad hkD (by rw [ej]; exact h13) (.inr hmk))
              have hjh := Lib.hid hj
              clear hu hr hba hs hkD ej hC hbs hj h13 hlo hhi hmk
              go_wp2_with fail
              go_quiet (fail)
              go_wp2_with fail
              obtain ⟨wq, hwq⟩ : ∃ W, wr.drewN nq = W := ⟨_, rfl⟩
              have gq : wr.grownBy wq none := by rw [← hwq]; exact gb_drewN (gb_refl _ _) _
              have hrq := Lib.hid (hrh.out.gb gq)
              have d0 := hrq.out.k.c0
              have d1 := hrq.out.k.c1
              dsimp only at d1
              rw [hjh.out] at d1
              replace hcj := cell_grown hcj gq (by simp)
              have y2 := fun q => (hrq.out.gb (gb_drewN (gb_refl wq none) q)).k.c2
              have f2 := fun q => (hrq.out.gb (gb_drewN (gb_refl wq none) q)).k.f 2
              dsimp only at y2
              have h3 := fun q => Lib.hid (hrq.out.gb (gb_drewN (gb_refl wq none) q))
              rw [hwq]
              replace gq := Lib.hid gq
              clear hwq
              go_quiet (fail)
              go_wp2_with fail
              go_ret
              refine hK.out _ _ ?_
              rw [hres.out]
              exact ⟨i + k, (h3 0).out.i, rfl, (h3 _).out.kept ((h3 _).out.k.set2 4) (gb_setR (gb_refl _ _) _ _) (h3 0).out.i, gb_setR (gb_trans hgr.out (gb_row (gb_drewN gq.out _) _)) _ _⟩
            · have dmk : decide (most ≤ k) = false := decide_eq_false hmk
              have hst := Lib.hid (hu.step hkD (by rw [ej]; exact h13) (by rw [ej]; unfold rg2; simp; omega) (by omega))
              have hjl2 := Lib.hid (show i + (k + 1) ≤ bs.length by omega)
              have hjh := Lib.hid hj
              have hjb : (j : Int) ≤ 2000000 := by omega
              clear hu hr hba hs hkD ej hC hbs hj h13 hlo hhi hmk
              go_wp2_with fail
              go_quiet (fail)
              go_wp2_with fail
              obtain ⟨wq, hwq⟩ : ∃ W, wr.drewN nq = W := ⟨_, rfl⟩
              have gq : wr.grownBy wq none := by rw [← hwq]; exact gb_drewN (gb_refl _ _) _
              have hrq := Lib.hid (hrh.out.gb gq)
              have d0 := hrq.out.k.c0
              have d1 := hrq.out.k.c1
              dsimp only at d1
              rw [hjh.out] at d1
              replace hcj := cell_grown hcj gq (by simp)
              have y1 := fun q => (hrq.out.gb (gb_drewN (gb_refl wq none) q)).k.c1
              have f1 := fun q => (hrq.out.gb (gb_drewN (gb_refl wq none) q)).k.f 1
              dsimp only at y1
              rw [hjh.out] at y1
              have h3 := fun q => Lib.hid (hrq.out.gb (gb_drewN (gb_refl wq none) q))
              rw [hwq]
              replace gq := Lib.hid gq
              clear hwq
              go_quiet (fail)
              go_wp2_with fail
              go_roundg (bs.length - (i + (k + 1)))
              case measure => have := hjl2.out; omega
              case rel =>
                rw [show ((j : Int) + 1) = ((i + (k + 1) : Nat) : Int) from by have := hjh.out; omega]
                exact ⟨k + 1, rfl, hst.out, (h3 _).out.kept ((h3 _).out.k.set1 (i + (k + 1))) (gb_setR (gb_refl _ _) _ _) hjl2.out, Lib.hid (gb_setR (gb_trans hgr.out (gb_row (gb_drewN gq.out _) _)) _ _)⟩
    · have hsI : decide (j < bs.length) = false := decide_eq_false hs
      have hres := Lib.hid (hu.end_ (by rw [hDl.out]; omega))
      obtain ⟨b, o, c, hbw2, hc, hbR, hba⟩ : ∃ b o c, bw = .slice (some ⟨b, o, none⟩) bs.length c ∧ bs.length ≤ c ∧ b ≠ R ∧ BA wr b o bs := by
        rcases hr.b with ⟨_, _, _, e⟩ | ⟨b, o, c, e, h1, h2, _, h3⟩
        · exact absurd e hb0
        · exact ⟨b, o, c, e, h1, h2, h3⟩
      subst hbw2
      have hcv0 : ∀ W, wr.grownBy W none → BA W b (o + i) ((bs.drop i).take k) := fun W hW => (hba.grown hW (by simp)).drop i |>.take k
      have hkl : ((bs.drop i).take k).length = k := by rw [List.length_take, hDl.out]; omega
      obtain ⟨V, hV⟩ : ∃ V, btx ((bs.drop i).take k) = V := ⟨_, rfl⟩
      have i0 : (0 : Int) ≤ (i : Int) := by omega
      have i1 : (i : Int) ≤ (j : Int) := by omega
      have i2 : (j : Int) ≤ (c : Int) := by omega
      have hsub : j - i = k := by omega
      have hjh := Lib.hid hj
      by_cases hci : c = i
      · have hk0 : k = 0 := by omega
        have hji : j = i := by omega
        have hcv : ∀ W, wr.grownBy W none → (convert 22 9 (.slice (some ⟨b, o, none⟩) 0 0)).run Tryz.prog W = .ok (.string V) W := fun W hW => by
          rw [← hV, hk0, List.take_zero]
          exact BV.str (w := W) (bs := []) ⟨_, 0, rfl, Nat.le_refl _, fun h => absurd rfl h⟩
        replace hV := Lib.hid hV
        subst hk0
        replace hci := hci.symm
        subst hci
        have hji2 := hji.symm
        subst hji2
        clear hcv0 hba hkl hu hr hs hj hji hsub
        go_wp2_with fail
        go_quiet (fail)
        go_wp2_with fail
        obtain ⟨wq, hwq⟩ : ∃ W, wr.drewN nq = W := ⟨_, rfl⟩
        have gq : wr.grownBy wq none := by rw [← hwq]; exact gb_drewN (gb_refl _ _) _
        have hrq := Lib.hid (hrh.out.gb gq)
        have d0 := hrq.out.k.c0
        have d1 := hrq.out.k.c1
        dsimp only at d1
        rw [hjh.out] at d1
        have hcvq := fun q => hcv (wq.drewN q) (gb_drewN gq q)
        rw [hwq]
        replace gq := Lib.hid gq
        clear hwq hcv
        go_quiet (fail)
        go_wp2_with fail
        go_ret
        refine hK.out _ _ ?_
        rw [hres.out]
        exact ⟨by rw [hV.out]; rfl, hrq.out.gb (gb_drewN (gb_refl _ none) _), gb_trans hgr.out (gb_row (gb_drewN gq.out _) _)⟩
      · have hcv : ∀ W, wr.grownBy W none → (convert 22 9 (.slice (some ⟨b, o + i, none⟩) k (c - i))).run Tryz.prog W = .ok (.string V) W := fun W hW => by
          rw [← hV]
          exact BV.str (w := W) ⟨_, c - i, by rw [hkl], by rw [hkl]; omega, fun _ => ⟨b, o + i, rfl, hcv0 W hW⟩⟩
        replace hV := Lib.hid hV
        have nci : ¬ c = i := hci
        clear hcv0 hba hkl hu hr hs hj hci
        go_wp2_with fail
        go_quiet (fail)
        go_wp2_with fail
        obtain ⟨wq, hwq⟩ : ∃ W, wr.drewN nq = W := ⟨_, rfl⟩
        have gq : wr.grownBy wq none := by rw [← hwq]; exact gb_drewN (gb_refl _ _) _
        have hrq := Lib.hid (hrh.out.gb gq)
        have d0 := hrq.out.k.c0
        have d1 := hrq.out.k.c1
        dsimp only at d1
        rw [hjh.out] at d1
        have hcvq := fun q => hcv (wq.drewN q) (gb_drewN gq q)
        rw [hwq]
        replace gq := Lib.hid gq
        clear hwq hcv
        go_quiet (fail)
        go_wp2_with fail
        go_ret
        refine hK.out _ _ ?_
        rw [hres.out]
        exact ⟨by rw [hV.out]; rfl, hrq.out.gb (gb_drewN (gb_refl _ none) _), gb_trans hgr.out (gb_row (gb_drewN gq.out _) _)⟩
theorem until_any (R : Nat) (bw : Value) (bs : Bs) (x : Ps) (most : Nat) (lo hi : Int) (w : World) (h : DD w R bw bs x) (hb0 : x.1 = 0 → bs ≠ []) (hl : bs.length ≤ 2000000) (hm : most ≤ 1000000) :
    Calls Tryz.prog 57 #[.pointer (some ⟨R, 0, none⟩), .int .i64 (most : Nat), .int .u8 lo, .int .u8 hi] w (UnK R bw bs (rg2 lo hi) most x w) := by
  by_cases h0 : x.1 = 0
  · obtain ⟨xe, i⟩ := x
    dsimp only at h0
    subst h0
    exact until_go R bw bs i most lo hi w h (hb0 rfl) hl hm
  · exact until_err R bw bs x most lo hi w h h0
end Go.Proofs.YtdfgnoflohfnmaaGreatDoor.Hx
/-! HTTP: a response is read, as the document has it: number. -/
namespace Go.Proofs.YtdfgnoflohfnmaaGreatDoor.Hx
open Go.RowKit Go.Maps

theorem rg2_dig : rg2 48 57 = digB := by funext c; unfold rg2 digB; congr 1 <;> (rw [decide_eq_decide]; omega)
theorem untL_ok {p : UInt8 → Bool} : ∀ {D : Bs} {n k : Nat}, untL p n D = some k → (D.take k).all p = true ∧ k ≤ n ∧ k ≤ D.length
  | [], n, k, h => by unfold untL at h; cases h; simp
  | c :: t, n, k, h => by
    unfold untL at h
    split at h
    · cases h; simp
    · split at h
      · cases h
      · next h13 hp =>
        cases hq : untL p (n - 1) t with
        | none => rw [hq] at h; cases h
        | some m =>
          rw [hq] at h
          simp only [Option.map_some, Option.some.injEq] at h
          subst h
          obtain ⟨h1, h2, h3⟩ := untL_ok hq
          have hp1 : p c = true := by cases h : p c; exact absurd (.inl h) hp; rfl
          have hn : n ≠ 0 := fun e => hp (.inr e)
          refine ⟨?_, by omega, by simpa using h3⟩
          show (c :: t.take m).all p = true
          rw [List.all_cons, hp1, h1]; rfl
/-- is a number one that may not be? -/
def badN (most : Int) (s : Bs) (rest : Bool) : Bool := (decide (1 < s.length) && decide (s.head? = some 48)) || decide (most < decV s) || (s.isEmpty && rest)
/-- what number leaves -/
def NumR (bs : Bs) (most : Int) (y z : Ps) (v : Int) : Prop :=
  if y.1 ≠ 0 then z = y ∧ v = 0
  else match untL digB 7 (bs.drop y.2) with
  | none => z.1 = 4
  | some k => z = (if badN most ((bs.drop y.2).take k) (decide (y.2 + k < bs.length)) then 4 else 0, y.2 + k) ∧ v = decV ((bs.drop y.2).take k)
def DnK (R : Nat) (bw : Value) (bs : Bs) (most : Int) (y : Ps) (w : World) (e : Ending) (w' : World) : Prop :=
  ∃ z v, e = .returned (.int .i64 v) ∧ DD w' R bw bs z ∧ w.grownBy w' (some R) ∧ NumR bs most y z v
set_option maxRecDepth 100000 in
set_option maxHeartbeats 1600000 in
theorem number_bad (R : Nat) (bw : Value) (bs : Bs) (y : Ps) (most : Int) (w : World)
    (hun : Calls Tryz.prog 57 #[.pointer (some ⟨R, 0, none⟩), .int .i64 7, .int .u8 48, .int .u8 57] w fun e w' => ∃ z : Ps, z.1 ≠ 0 ∧ NumR bs most y z 0 ∧ DRQ R bw bs w (.string ⟨#[]⟩) z e w') :
    Calls Tryz.prog 58 #[.pointer (some ⟨R, 0, none⟩), .int .i64 most] w (DnK R bw bs most y w) := by
  replace hun := Lib.hid hun
  go_enter Tryz.func58, Tryz.ntmps58
  go_wp2_with (first
    | (go_at_call 57; refine (hun.out).mono ?_; rintro e w2 ⟨z, hz, hr, rfl, hd, hg⟩; replace hr := Lib.hid hr; replace hd := Lib.hid hd; replace hg := Lib.hid hg))
  obtain ⟨ze, zi⟩ := z
  dsimp only at hz
  go_loopg [6, 7] 0 (fun _g u6 u7 wr => u6 = .int .i64 0 ∧ u7 = .int .i64 0 ∧ wr = w2)
  case atStart => exact ⟨rfl, rfl, rfl⟩
  case round =>
    obtain ⟨rfl, rfl, hwr⟩ := hrel
    rw [hwr]
    clear hwr
    have c2 := hd.out.k.c2
    dsimp only at c2
    have e0 : (ze == 0) = false := by simpa using hz
    clear hz
    go_wp2_with fail
    go_quiet (fail)
    go_wp2_with fail
    go_ret
    exact ⟨_, 0, rfl, hd.out.gb (gb_drewN (gb_refl _ none) _), gb_trans hg.out (gb_row (gb_drewN (gb_refl _ none) _) _), hr.out⟩
theorem NumR.err {bs : Bs} {most : Int} {y : Ps} (h : y.1 ≠ 0) : NumR bs most y y 0 := by unfold NumR; rw [if_pos h]; exact ⟨rfl, rfl⟩
theorem NumR.none {bs : Bs} {most : Int} {i i' : Nat} (h : untL digB 7 (bs.drop i) = .none) : NumR bs most (0, i) (4, i') 0 := by unfold NumR; rw [if_neg (by simp), h]
theorem NumR.some {bs : Bs} {most : Int} {i k : Nat} (h : untL digB 7 (bs.drop i) = .some k) : NumR bs most (0, i) (if badN most ((bs.drop i).take k) (decide (i + k < bs.length)) then 4 else 0, i + k) (decV ((bs.drop i).take k)) := by unfold NumR; rw [if_neg (by simp), h]; exact ⟨rfl, rfl⟩
set_option maxRecDepth 100000 in
set_option maxHeartbeats 1600000 in
theorem number_good (R : Nat) (bw : Value) (bs : Bs) (i k : Nat) (most : Int) (w : World) (hu : untL digB 7 (bs.drop i) = some k) (_ : bs.length ≤ 2000000)
    (hun : Calls Tryz.prog 57 #[.pointer (some ⟨R, 0, none⟩), .int .i64 7, .int .u8 48, .int .u8 57] w fun e w' => DRQ R bw bs w (.string (btx ((bs.drop i).take k))) (0, i + k) e w') :
    Calls Tryz.prog 58 #[.pointer (some ⟨R, 0, none⟩), .int .i64 most] w (DnK R bw bs most (0, i) w) := by
  obtain ⟨u1, u2, u3⟩ := untL_ok hu
  have hres := NumR.some (most := most) hu
  obtain ⟨S, hS⟩ : ∃ S, (bs.drop i).take k = S := ⟨_, rfl⟩
  have hSl : S.length = k := by rw [← hS, List.length_take]; omega
  rw [hS] at u1 hun hres
  obtain ⟨s, hs⟩ : ∃ s, btx S = s := ⟨_, rfl⟩
  rw [hs] at hun
  have hsd : s.data.toList = S := by rw [← hs, btx_list]
  have hsz : s.size = k := by rw [ba_size, hsd, hSl]
  obtain ⟨j, hj⟩ : ∃ j, i + k = j := ⟨_, rfl⟩
  rw [hj] at hun hres
  replace hun := Lib.hid hun
  replace hres := Lib.hid hres
  rw [← hsd] at u1
  replace hsd := Lib.hid hsd
  replace hsz := Lib.hid hsz
  replace hSl := Lib.hid hSl
  have hk7 : s.size ≤ 7 := by have := hsz.out; omega
  replace hj := Lib.hid hj
  clear hS hs hu u2 u3
  go_enter Tryz.func58, Tryz.ntmps58
  go_wp2_with (first
    | (go_at_call 57; refine (hun.out).mono ?_; rintro e w2 ⟨rfl, hd, hg⟩; replace hd := Lib.hid hd; replace hg := Lib.hid hg))
  go_loopg [6, 7] s.size (fun z u6 u7 wr => ∃ (q : Nat) (n : Int), q ≤ s.size ∧ z = s.size - q ∧ u6 = .int .i64 n ∧ u7 = .int .i64 (q : Nat) ∧ Hid (n = decV (s.data.toList.take q) ∧ 0 ≤ n ∧ n < 10 ^ q) ∧ wr = w2)
  case atStart => exact ⟨0, 0, Nat.zero_le _, rfl, rfl, rfl, ⟨rfl, Int.le_refl _, by decide⟩, rfl⟩
  case round =>
    obtain ⟨q, n, hq, rfl, rfl, rfl, hp, hwr⟩ := hrel
    rw [hwr]
    clear hwr
    by_cases hlt : q < s.size
    · have hqI : (q : Int) < (s.size : Int) := by omega
      have hq0 : (0 : Int) ≤ (q : Int) := by omega
      have hq1 := Lib.hid (show wrap64 ((q : Int) + 1) = ((q + 1 : Nat) : Int) from (wrap64_id (by omega) (by omega)).trans (by omega))
      obtain ⟨hp2, hp3, hp4⟩ := hp.out
      have hk9 : (10 : Int) ^ q ≤ 100000000 := pow10_le q (by omega)
      have hdg : digB s[q] = true := by
        rw [List.all_eq_true] at u1
        exact u1 _ (List.getElem_mem (show q < s.data.toList.length by rw [← ba_size]; exact hlt))
      have hd9 := (digB_iff _).1 hdg
      have hnx : Hid (10 * n + ((s[q].toNat : Int) - 48) = decV (s.data.toList.take (q + 1)) ∧ 0 ≤ 10 * n + ((s[q].toNat : Int) - 48) ∧ 10 * n + ((s[q].toNat : Int) - 48) < 10 ^ (q + 1)) := by
        refine ⟨by rw [take_snoc s hlt, decV_snoc, ← hp2], by omega, ?_⟩
        rw [Int.pow_succ]
        omega
      have hw1 : wrap64 (10 * n) = 10 * n := wrap64_id (by omega) (by omega)
      have hw2 : IntKind.u8.wrap ((s[q].toNat : Int) - 48) = (s[q].toNat : Int) - 48 := wrap_u8 (by omega) (by omega)
      have hw3 : wrap64 (10 * n + ((s[q].toNat : Int) - 48)) = 10 * n + ((s[q].toNat : Int) - 48) := wrap64_id (by omega) (by omega)
      clear hp hp2 hp3 hp4 hk9 hdg u1
      go_wp2_with fail
      go_roundg (s.size - (q + 1))
      case measure => omega
      case rel => exact ⟨q + 1, 10 * n + ((s[q].toNat : Int) - 48), hlt, rfl, (by first | rfl | exact congrArg (Value.int .i64) hw3), by first | rw [hq1.out] | go_num, hnx, rfl⟩
    · have hqe : q = s.size := by omega
      subst hqe
      obtain ⟨hp1, _, _⟩ := hp.out
      rw [show s.size = s.data.toList.length from rfl, List.take_length, hsd.out] at hp1
      have hni : ¬ ((s.size : Int) < (s.size : Int)) := by omega
      have hn := Lib.hid hp1
      have hbd : Hid (badN most S (decide (j < bs.length)) = ((decide (1 < s.size) && decide (S.head? = some 48)) || decide (most < n) || (S.isEmpty && decide (j < bs.length)))) := Lib.hid (by unfold badN; rw [hn.out, hSl.out, hsz.out])
      have c0 := hd.out.k.c0
      have c1 := hd.out.k.c1
      have c2 := hd.out.k.c2
      dsimp only at c1 c2
      obtain ⟨A0, cc, hbw⟩ := KB.shape hd.out.b
      subst hbw
      have jN : decide (j < bs.length) = true ∨ decide (j < bs.length) = false := by cases decide (j < bs.length) <;> simp
      clear hp hp1 u1 hk7
      go_upto_region 7 with fail
      go_cut [59] from 24 (fun u59 wx => u59 = .bool (badN most S (decide (j < bs.length))) ∧ w2.grownBy wx none)
      case first =>
        by_cases h1 : 1 < s.size
        · have d1 : decide (1 < s.size) = true := decide_eq_true h1
          have d1I : (1 : Int) < (s.size : Int) := by omega
          have hs0 : 0 < s.size := by omega
          have hh : S.head? = some s[0] := by
            have hl0 : 0 < s.data.toList.length := by rw [← ba_size]; exact hs0
            rw [← hsd.out, List.head?_eq_getElem?, List.getElem?_eq_getElem hl0]; rfl
          have hne : S.isEmpty = false := by cases S with | nil => (simp at hh) | cons _ _ => rfl
          have en : s.toList.isEmpty = false := by rw [Lib.toList_data, hsd.out]; exact hne
          have en2 : (s.toList == []) = false := by rw [ba_beq_nil, hsd.out]; cases S with | nil => (simp at hh) | cons _ _ => rfl
          by_cases h48 : s[0].toNat = 48
          · have e48 : ((s[0].toNat : Int) == 48) = true := by simp; omega
            have hF : Hid (badN most S (decide (j < bs.length)) = true) := Lib.hid (by rw [hbd.out, d1, hh, show s[0] = 48 from UInt8.toNat_inj.1 h48]; rfl)
            clear hbd hh h48 h1
            go_quiet (fail)
            go_wp2_with fail
            go_meet
            exact ⟨by rw [hF.out], gb_drewN (gb_refl _ _) _⟩
          · have e48 : ((s[0].toNat : Int) == 48) = false := by simp; omega
            have hhn : decide (S.head? = some 48) = false := decide_eq_false (by rw [hh]; intro e; exact h48 (by rw [Option.some.inj e]; rfl))
            by_cases hm : most < n
            · have dm : decide (most < n) = true := decide_eq_true hm
              have hF : Hid (badN most S (decide (j < bs.length)) = true) := Lib.hid (by rw [hbd.out, hhn, dm]; simp)
              clear hbd hh h48 h1 hhn hm
              go_quiet (fail)
              go_wp2_with fail
              go_meet
              exact ⟨by rw [hF.out], gb_drewN (gb_refl _ _) _⟩
            · have dm : decide (most < n) = false := decide_eq_false hm
              have hF : Hid (badN most S (decide (j < bs.length)) = false) := Lib.hid (by rw [hbd.out, hhn, dm, hne]; simp)
              clear hbd hh h48 h1 hhn hm
              go_quiet (fail)
              go_wp2_with fail
              go_meet
              exact ⟨by rw [hF.out], gb_drewN (gb_refl _ _) _⟩
        · have d1 : decide (1 < s.size) = false := decide_eq_false h1
          have d1I : ¬ (1 : Int) < (s.size : Int) := by omega
          by_cases hm : most < n
          · have dm : decide (most < n) = true := decide_eq_true hm
            have hF : Hid (badN most S (decide (j < bs.length)) = true) := Lib.hid (by rw [hbd.out, d1, dm]; simp)
            clear hbd h1 hm
            go_quiet (fail)
            go_wp2_with fail
            go_meet
            exact ⟨by rw [hF.out], gb_drewN (gb_refl _ _) _⟩
          · have dm : decide (most < n) = false := decide_eq_false hm
            cases hne : S.isEmpty with
            | false =>
              have en : s.toList.isEmpty = false := by rw [Lib.toList_data, hsd.out]; exact hne
              have en2 : (s.toList == []) = false := by rw [ba_beq_nil, hsd.out]; cases S with | nil => cases hne | cons _ _ => rfl
              have hF : Hid (badN most S (decide (j < bs.length)) = false) := Lib.hid (by rw [hbd.out, d1, dm, hne]; simp)
              clear hbd h1 hm hne
              go_quiet (fail)
              go_wp2_with fail
              go_meet
              exact ⟨by rw [hF.out], gb_drewN (gb_refl _ _) _⟩
            | true =>
              have en : s.toList.isEmpty = true := by rw [Lib.toList_data, hsd.out]; exact hne
              have en2 : (s.toList == []) = true := by rw [ba_beq_nil, hsd.out]; cases S with | nil => rfl | cons _ _ => cases hne
              rcases jN with jN | jN
              · have hF : Hid (badN most S (decide (j < bs.length)) = true) := Lib.hid (by rw [hbd.out, d1, dm, hne, jN]; rfl)
                clear hbd h1 hm hne
                go_quiet (fail)
                go_wp2_with fail
                go_meet
                exact ⟨by rw [hF.out], gb_drewN (gb_refl _ _) _⟩
              · have hF : Hid (badN most S (decide (j < bs.length)) = false) := Lib.hid (by rw [hbd.out, d1, dm, hne, jN]; rfl)
                clear hbd h1 hm hne
                go_quiet (fail)
                go_wp2_with fail
                go_meet
                exact ⟨by rw [hF.out], gb_drewN (gb_refl _ _) _⟩
      case rest =>
      obtain ⟨rfl, gx⟩ := hcut
      have hdx := hd.out.gb gx
      have y2 := hdx.k.c2
      have f2 := hdx.k.f 2
      dsimp only at y2
      replace hdx := Lib.hid hdx
      replace gx := Lib.hid gx
      clear c0 c1 c2 jN hbd
      have hr := hres.out
      cases hB : badN most S (decide (j < bs.length)) with
      | true =>
        rw [hB, if_pos rfl, ← hn.out] at hr
        replace hr := Lib.hid hr
        clear hB hres
        go_wp2_with fail
        go_ret
        exact ⟨_, n, rfl, hdx.out.kept (hdx.out.k.set2 4) (gb_setR (gb_refl _ _) _ _) hdx.out.i, gb_setR (gb_trans hg.out (gb_row gx.out _)) _ _, hr.out⟩
      | false =>
        rw [hB, if_neg (by simp), ← hn.out] at hr
        replace hr := Lib.hid hr
        clear hB hres
        go_wp2_with fail
        go_ret
        exact ⟨_, n, rfl, hdx.out, gb_trans hg.out (gb_row gx.out _), hr.out⟩
theorem rnumber_any (R : Nat) (bw : Value) (bs : Bs) (x : Ps) (most : Int) (w : World) (h : DD w R bw bs x) (hb0 : x.1 = 0 → bs ≠ []) (hl : bs.length ≤ 2000000) :
    Calls Tryz.prog 58 #[.pointer (some ⟨R, 0, none⟩), .int .i64 most] w (DnK R bw bs most x w) := by
  have hun := until_any R bw bs x 7 48 57 w h hb0 hl (by decide)
  by_cases h0 : x.1 = 0
  · obtain ⟨xe, i⟩ := x
    dsimp only at h0
    subst h0
    cases hu : untL digB 7 (bs.drop i) with
    | none =>
      refine number_bad R bw bs (0, i) most w (hun.mono fun e w' hk => ?_)
      unfold UnK at hk
      rw [if_neg (by simp), rg2_dig] at hk
      dsimp only at hk
      rw [hu] at hk
      obtain ⟨i', _, hq⟩ := hk
      exact ⟨(4, i'), by simp, .none hu, hq⟩
    | some k =>
      refine number_good R bw bs i k most w hu hl (hun.mono fun e w' hk => ?_)
      unfold UnK at hk
      rw [if_neg (by simp), rg2_dig] at hk
      dsimp only at hk
      rw [hu] at hk
      exact hk
  · refine number_bad R bw bs x most w (hun.mono fun e w' hk => ?_)
    unfold UnK at hk
    rw [if_pos h0] at hk
    exact ⟨x, h0, .err h0, hk⟩
end Go.Proofs.YtdfgnoflohfnmaaGreatDoor.Hx
