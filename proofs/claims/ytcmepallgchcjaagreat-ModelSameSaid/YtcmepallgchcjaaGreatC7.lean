/- Lists of found traces, texts, edges compared: slices.Equal and the kit's own. -/
import Derived.Test.YtcmepallgchcjaaGreatC4
namespace Go.Proofs.YtcmepallgchcjaaGreat
open Go.RowKit

theorem str_ne {a b : ByteArray} (h : a ≠ b) : (a.toList == b.toList) = false := beq_false_of_ne fun e => h (toList_inj e)
structure Fd where
  hi : Int
  lo : Int
  start : Int
structure Ed where
  bucket : Int
  from_ : ByteArray
  to_ : ByteArray
  n : Int
open Classical in
noncomputable def eqD {α : Type} (a b : α) : Bool := decide (a = b)
open Classical in
theorem eqD_iff {α : Type} (a b : α) : eqD a b = true ↔ a = b := ⟨fun h => of_decide_eq_true h, fun h => decide_eq_true h⟩
open Classical in
theorem eqD_ne {α : Type} {a b : α} (h : a ≠ b) : eqD a b = false := decide_eq_false h
theorem eqD_self {α : Type} (a : α) : eqD a a = true := (eqD_iff a a).2 rfl
def FAt (w : World) (list : List Fd) (v : Value) : Prop :=
  ∃ (A : Option Addr) (c b o : Nat), v = .slice A list.length c ∧ (0 < list.length → A = some ⟨b, o, none⟩) ∧
    ∀ i (h : i < list.length), w.cell? ⟨b, o + i * 3, none⟩ = some (.int .u64 list[i].hi) ∧ w.cell? ⟨b, o + i * 3 + 1, none⟩ = some (.int .u64 list[i].lo) ∧ w.cell? ⟨b, o + i * 3 + 2, none⟩ = some (.int .i64 list[i].start)
theorem FAt.grown {w w' : World} {l : List Fd} {v : Value} (h : FAt w l v) (hg : w.grownBy w' none) : FAt w' l v := by
  obtain ⟨A, c, b, o, e, ha, hc⟩ := h
  refine ⟨A, c, b, o, e, ha, fun i hi => ?_⟩
  obtain ⟨q0, q1, q2⟩ := hc i hi
  exact ⟨cell_grown q0 hg (by simp), cell_grown q1 hg (by simp), cell_grown q2 hg (by simp)⟩
set_option maxRecDepth 100000 in
set_option maxHeartbeats 3200000 in
theorem eq38_any (list list' : List Fd) (u v : Value) (w : World) (hll : list.length ≤ 140737488355328) (hu : FAt w list u) (hv : FAt w list' v) :
    Calls Tryz.prog 38 #[u, v] w fun e w' => e = .returned (.bool (eqBy eqD list list')) ∧ w.grownBy w' none := by
  obtain ⟨A, c, b, o, rfl, hA, hcl⟩ := hu
  obtain ⟨X, d, y, p, rfl, hX, hdl⟩ := hv
  go_enter Tryz.func38, Tryz.ntmps38
  by_cases hne : list.length = list'.length
  · have hbf : ((list.length : Int) != (list'.length : Int)) = false := by simp [hne]
    have hll' := Lib.hid hll
    have hneH := Lib.hid hne
    clear hll hne
    go_wp2_with fail
    go_loopg [13] list.length (fun z uk wr => ∃ q : Nat, q ≤ list.length ∧ z = list.length - q ∧ uk = .int .i64 q ∧ Hid (eqBy eqD (list.take q) (list'.take q) = true) ∧ w.grownBy wr none)
    case atStart => exact ⟨0, Nat.zero_le _, rfl, rfl, by unfold Hid; simp [eqBy], gb_refl _ _⟩
    case round =>
      obtain ⟨q, hq, rfl, rfl, hno, hg⟩ := hrel
      by_cases hlt : q < list.length
      · have hlt' : q < list'.length := by have := hneH.out; omega
        obtain rfl := hA (by omega)
        obtain rfl := hX (by omega)
        have hqi : (q : Int) < (list.length : Int) := by omega
        have hqj : (q : Int) < (list'.length : Int) := by omega
        obtain ⟨m0, m1, m2⟩ := hcl q hlt
        obtain ⟨n0, n1, n2⟩ := hdl q hlt'
        have g0 := cell_grown m0 hg (by simp)
        have k0 := cell_grown n0 hg (by simp)
        have g1 := cell_grown m1 hg (by simp)
        have k1 := cell_grown n1 hg (by simp)
        have g2 := cell_grown m2 hg (by simp)
        have k2 := cell_grown n2 hg (by simp)
        have hq1 := Lib.hid (show wrap64 ((q : Int) + 1) = ((q + 1 : Nat) : Int) from (wrap64_id (by omega) (by have := hll'.out; omega)).trans (by omega))
        have hst := Lib.hid (eqBy_take (f := eqD) list list' q hlt hlt')
        have hat := Lib.hid (fun h => eqBy_at (f := eqD) (l := list) (m := list') q hlt hlt' h)
        clear hcl hdl hA hX m0 n0 m1 n1 m2 n2
        generalize list[q] = La at *
        generalize list'[q] = Lb at *
        obtain ⟨a0, a1, a2⟩ := La
        obtain ⟨b0, b1, b2⟩ := Lb
        simp only at *
        by_cases h0 : a0 = b0
        · subst h0
          by_cases h1 : a1 = b1
          · subst h1
            by_cases h2 : a2 = b2
            · subst h2
              have hst2 : Hid (eqBy eqD (list.take (q + 1)) (list'.take (q + 1)) = true) := by unfold Hid; rw [hst.out, hno.out, eqD_self]; rfl
              go_wp2_with fail
              go_region
              all_goals go_wp2_with fail
              all_goals go_roundg (list.length - (q + 1))
              all_goals first
                | omega
                | exact ⟨q + 1, hlt, rfl, by first | rw [hq1.out] | go_num, hst2, gb_drew hg⟩
            · have hE : Hid (eqBy eqD list list' = false) := hat.out (eqD_ne (fun e => h2 (by injection e)))
              have hs : (a2 == b2) = false := by simpa using h2
              clear hst hat
              go_wp2_with fail
              go_region
              all_goals go_wp2_with fail
              all_goals go_ret
              all_goals exact ⟨by rw [hE.out]; rfl, gb_drew hg⟩
          · have hE : Hid (eqBy eqD list list' = false) := hat.out (eqD_ne (fun e => h1 (by injection e)))
            have hs : (a1 == b1) = false := by simpa using h1
            clear hst hat
            go_wp2_with fail
            go_region
            all_goals go_wp2_with fail
            all_goals go_ret
            all_goals exact ⟨by rw [hE.out]; rfl, gb_drew hg⟩
        · have hE : Hid (eqBy eqD list list' = false) := hat.out (eqD_ne (fun e => h0 (by injection e)))
          have hs : (a0 == b0) = false := by simpa using h0
          clear hst hat
          go_wp2_with fail
          go_region
          all_goals go_wp2_with fail
          all_goals go_ret
          all_goals exact ⟨by rw [hE.out]; rfl, gb_drew hg⟩
      · obtain rfl : q = list.length := by omega
        have hfin := hno.out
        rw [List.take_of_length_le (Nat.le_refl _), List.take_of_length_le (l := list') (by have := hneH.out; omega)] at hfin
        have hfin' := Lib.hid hfin
        clear hfin hno hcl hdl hA hX
        go_wp2_with fail
        go_ret
        exact ⟨by rw [hfin'.out]; rfl, hg⟩
  · have hE : Hid (eqBy eqD list list' = false) := eqBy_ne hne
    have hneI : ((list.length : Int) != (list'.length : Int)) = true := by simp; omega
    clear hcl hdl hA hX
    go_wp2_with fail
    go_ret
    exact ⟨by rw [hE.out]; rfl, gb_refl _ _⟩
set_option maxRecDepth 100000 in
set_option maxHeartbeats 3200000 in
theorem eq33_any (list list' : List Fd) (u v : Value) (w : World) (hll : list.length ≤ 140737488355328) (hu : FAt w list u) (hv : FAt w list' v) :
    Calls Tryz.prog 33 #[u, v] w fun e w' => e = .returned (.bool (eqBy eqD list list')) ∧ w.grownBy w' none := by
  obtain ⟨A, c, b, o, rfl, hA, hcl⟩ := hu
  obtain ⟨X, d, y, p, rfl, hX, hdl⟩ := hv
  go_enter Tryz.func33, Tryz.ntmps33
  by_cases hne : list.length = list'.length
  · have hbf : ((list.length : Int) != (list'.length : Int)) = false := by simp [hne]
    have hll' := Lib.hid hll
    have hneH := Lib.hid hne
    clear hll hne
    go_wp2_with fail
    go_loopg [5] list.length (fun z uk wr => ∃ q : Nat, q ≤ list.length ∧ z = list.length - q ∧ uk = .int .i64 q ∧ Hid (eqBy eqD (list.take q) (list'.take q) = true) ∧ w.grownBy wr none)
    case atStart => exact ⟨0, Nat.zero_le _, rfl, rfl, by unfold Hid; simp [eqBy], gb_refl _ _⟩
    case round =>
      obtain ⟨q, hq, rfl, rfl, hno, hg⟩ := hrel
      by_cases hlt : q < list.length
      · have hlt' : q < list'.length := by have := hneH.out; omega
        obtain rfl := hA (by omega)
        obtain rfl := hX (by omega)
        have hqi : (q : Int) < (list.length : Int) := by omega
        have hqj : (q : Int) < (list'.length : Int) := by omega
        obtain ⟨m0, m1, m2⟩ := hcl q hlt
        obtain ⟨n0, n1, n2⟩ := hdl q hlt'
        have g0 := cell_grown m0 hg (by simp)
        have k0 := cell_grown n0 hg (by simp)
        have g1 := cell_grown m1 hg (by simp)
        have k1 := cell_grown n1 hg (by simp)
        have g2 := cell_grown m2 hg (by simp)
        have k2 := cell_grown n2 hg (by simp)
        have hq1 := Lib.hid (show wrap64 ((q : Int) + 1) = ((q + 1 : Nat) : Int) from (wrap64_id (by omega) (by have := hll'.out; omega)).trans (by omega))
        have hst := Lib.hid (eqBy_take (f := eqD) list list' q hlt hlt')
        have hat := Lib.hid (fun h => eqBy_at (f := eqD) (l := list) (m := list') q hlt hlt' h)
        clear hcl hdl hA hX m0 n0 m1 n1 m2 n2
        generalize list[q] = La at *
        generalize list'[q] = Lb at *
        obtain ⟨a0, a1, a2⟩ := La
        obtain ⟨b0, b1, b2⟩ := Lb
        simp only at *
        by_cases h0 : a0 = b0
        · subst h0
          by_cases h1 : a1 = b1
          · subst h1
            by_cases h2 : a2 = b2
            · subst h2
              have hst2 : Hid (eqBy eqD (list.take (q + 1)) (list'.take (q + 1)) = true) := by unfold Hid; rw [hst.out, hno.out, eqD_self]; rfl
              go_wp2_with fail
              go_region
              all_goals go_wp2_with fail
              all_goals go_roundg (list.length - (q + 1))
              all_goals first
                | omega
                | exact ⟨q + 1, hlt, rfl, by first | rw [hq1.out] | go_num, hst2, gb_drew hg⟩
            · have hE : Hid (eqBy eqD list list' = false) := hat.out (eqD_ne (fun e => h2 (by injection e)))
              have hs : (a2 == b2) = false := by simpa using h2
              clear hst hat
              go_wp2_with fail
              go_region
              all_goals go_wp2_with fail
              all_goals go_ret
              all_goals exact ⟨by rw [hE.out]; rfl, gb_drew hg⟩
          · have hE : Hid (eqBy eqD list list' = false) := hat.out (eqD_ne (fun e => h1 (by injection e)))
            have hs : (a1 == b1) = false := by simpa using h1
            clear hst hat
            go_wp2_with fail
            go_region
            all_goals go_wp2_with fail
            all_goals go_ret
            all_goals exact ⟨by rw [hE.out]; rfl, gb_drew hg⟩
        · have hE : Hid (eqBy eqD list list' = false) := hat.out (eqD_ne (fun e => h0 (by injection e)))
          have hs : (a0 == b0) = false := by simpa using h0
          clear hst hat
          go_wp2_with fail
          go_region
          all_goals go_wp2_with fail
          all_goals go_ret
          all_goals exact ⟨by rw [hE.out]; rfl, gb_drew hg⟩
      · obtain rfl : q = list.length := by omega
        have hfin := hno.out
        rw [List.take_of_length_le (Nat.le_refl _), List.take_of_length_le (l := list') (by have := hneH.out; omega)] at hfin
        have hfin' := Lib.hid hfin
        clear hfin hno hcl hdl hA hX
        go_wp2_with fail
        go_ret
        exact ⟨by rw [hfin'.out]; rfl, hg⟩
  · have hE : Hid (eqBy eqD list list' = false) := eqBy_ne hne
    have hneI : ((list.length : Int) != (list'.length : Int)) = true := by simp; omega
    clear hcl hdl hA hX
    go_wp2_with fail
    go_ret
    exact ⟨by rw [hE.out]; rfl, gb_refl _ _⟩
def EAt (w : World) (list : List Ed) (v : Value) : Prop :=
  ∃ (A : Option Addr) (c b o : Nat), v = .slice A list.length c ∧ (0 < list.length → A = some ⟨b, o, none⟩) ∧
    ∀ i (h : i < list.length), w.cell? ⟨b, o + i * 4, none⟩ = some (.int .u64 list[i].bucket) ∧ w.cell? ⟨b, o + i * 4 + 1, none⟩ = some (.string list[i].from_) ∧ w.cell? ⟨b, o + i * 4 + 2, none⟩ = some (.string list[i].to_) ∧ w.cell? ⟨b, o + i * 4 + 3, none⟩ = some (.int .u64 list[i].n)
theorem EAt.grown {w w' : World} {l : List Ed} {v : Value} (h : EAt w l v) (hg : w.grownBy w' none) : EAt w' l v := by
  obtain ⟨A, c, b, o, e, ha, hc⟩ := h
  refine ⟨A, c, b, o, e, ha, fun i hi => ?_⟩
  obtain ⟨q0, q1, q2, q3⟩ := hc i hi
  exact ⟨cell_grown q0 hg (by simp), cell_grown q1 hg (by simp), cell_grown q2 hg (by simp), cell_grown q3 hg (by simp)⟩
set_option maxRecDepth 100000 in
set_option maxHeartbeats 3200000 in
theorem eq40_any (list list' : List Ed) (u v : Value) (w : World) (hll : list.length ≤ 140737488355328) (hu : EAt w list u) (hv : EAt w list' v) :
    Calls Tryz.prog 40 #[u, v] w fun e w' => e = .returned (.bool (eqBy eqD list list')) ∧ w.grownBy w' none := by
  obtain ⟨A, c, b, o, rfl, hA, hcl⟩ := hu
  obtain ⟨X, d, y, p, rfl, hX, hdl⟩ := hv
  go_enter Tryz.func40, Tryz.ntmps40
  by_cases hne : list.length = list'.length
  · have hbf : ((list.length : Int) != (list'.length : Int)) = false := by simp [hne]
    have hll' := Lib.hid hll
    have hneH := Lib.hid hne
    clear hll hne
    go_wp2_with fail
    go_loopg [13] list.length (fun z uk wr => ∃ q : Nat, q ≤ list.length ∧ z = list.length - q ∧ uk = .int .i64 q ∧ Hid (eqBy eqD (list.take q) (list'.take q) = true) ∧ w.grownBy wr none)
    case atStart => exact ⟨0, Nat.zero_le _, rfl, rfl, by unfold Hid; simp [eqBy], gb_refl _ _⟩
    case round =>
      obtain ⟨q, hq, rfl, rfl, hno, hg⟩ := hrel
      by_cases hlt : q < list.length
      · have hlt' : q < list'.length := by have := hneH.out; omega
        obtain rfl := hA (by omega)
        obtain rfl := hX (by omega)
        have hqi : (q : Int) < (list.length : Int) := by omega
        have hqj : (q : Int) < (list'.length : Int) := by omega
        obtain ⟨m0, m1, m2, m3⟩ := hcl q hlt
        obtain ⟨n0, n1, n2, n3⟩ := hdl q hlt'
        have g0 := cell_grown m0 hg (by simp)
        have k0 := cell_grown n0 hg (by simp)
        have g1 := cell_grown m1 hg (by simp)
        have k1 := cell_grown n1 hg (by simp)
        have g2 := cell_grown m2 hg (by simp)
        have k2 := cell_grown n2 hg (by simp)
        have g3 := cell_grown m3 hg (by simp)
        have k3 := cell_grown n3 hg (by simp)
        have hq1 := Lib.hid (show wrap64 ((q : Int) + 1) = ((q + 1 : Nat) : Int) from (wrap64_id (by omega) (by have := hll'.out; omega)).trans (by omega))
        have hst := Lib.hid (eqBy_take (f := eqD) list list' q hlt hlt')
        have hat := Lib.hid (fun h => eqBy_at (f := eqD) (l := list) (m := list') q hlt hlt' h)
        clear hcl hdl hA hX m0 n0 m1 n1 m2 n2 m3 n3
        generalize list[q] = La at *
        generalize list'[q] = Lb at *
        obtain ⟨a0, a1, a2, a3⟩ := La
        obtain ⟨b0, b1, b2, b3⟩ := Lb
        simp only at *
        by_cases h0 : a0 = b0
        · subst h0
          by_cases h1 : a1 = b1
          · subst h1
            by_cases h2 : a2 = b2
            · subst h2
              by_cases h3 : a3 = b3
              · subst h3
                have hst2 : Hid (eqBy eqD (list.take (q + 1)) (list'.take (q + 1)) = true) := by unfold Hid; rw [hst.out, hno.out, eqD_self]; rfl
                go_wp2_with fail
                go_region
                all_goals go_wp2_with fail
                all_goals go_roundg (list.length - (q + 1))
                all_goals first
                  | omega
                  | exact ⟨q + 1, hlt, rfl, by first | rw [hq1.out] | go_num, hst2, gb_drew hg⟩
              · have hE : Hid (eqBy eqD list list' = false) := hat.out (eqD_ne (fun e => h3 (by injection e)))
                have hs : (a3 == b3) = false := by simpa using h3
                clear hst hat
                go_wp2_with fail
                go_region
                all_goals go_wp2_with fail
                all_goals go_ret
                all_goals exact ⟨by rw [hE.out]; rfl, gb_drew hg⟩
            · have hE : Hid (eqBy eqD list list' = false) := hat.out (eqD_ne (fun e => h2 (by injection e)))
              have hs : (a2.toList == b2.toList) = false := str_ne h2
              clear hst hat
              go_wp2_with fail
              go_region
              all_goals go_wp2_with fail
              all_goals go_ret
              all_goals exact ⟨by rw [hE.out]; rfl, gb_drew hg⟩
          · have hE : Hid (eqBy eqD list list' = false) := hat.out (eqD_ne (fun e => h1 (by injection e)))
            have hs : (a1.toList == b1.toList) = false := str_ne h1
            clear hst hat
            go_wp2_with fail
            go_region
            all_goals go_wp2_with fail
            all_goals go_ret
            all_goals exact ⟨by rw [hE.out]; rfl, gb_drew hg⟩
        · have hE : Hid (eqBy eqD list list' = false) := hat.out (eqD_ne (fun e => h0 (by injection e)))
          have hs : (a0 == b0) = false := by simpa using h0
          clear hst hat
          go_wp2_with fail
          go_region
          all_goals go_wp2_with fail
          all_goals go_ret
          all_goals exact ⟨by rw [hE.out]; rfl, gb_drew hg⟩
      · obtain rfl : q = list.length := by omega
        have hfin := hno.out
        rw [List.take_of_length_le (Nat.le_refl _), List.take_of_length_le (l := list') (by have := hneH.out; omega)] at hfin
        have hfin' := Lib.hid hfin
        clear hfin hno hcl hdl hA hX
        go_wp2_with fail
        go_ret
        exact ⟨by rw [hfin'.out]; rfl, hg⟩
  · have hE : Hid (eqBy eqD list list' = false) := eqBy_ne hne
    have hneI : ((list.length : Int) != (list'.length : Int)) = true := by simp; omega
    clear hcl hdl hA hX
    go_wp2_with fail
    go_ret
    exact ⟨by rw [hE.out]; rfl, gb_refl _ _⟩
set_option maxRecDepth 100000 in
set_option maxHeartbeats 3200000 in
theorem eq35_any (list list' : List Ed) (u v : Value) (w : World) (hll : list.length ≤ 140737488355328) (hu : EAt w list u) (hv : EAt w list' v) :
    Calls Tryz.prog 35 #[u, v] w fun e w' => e = .returned (.bool (eqBy eqD list list')) ∧ w.grownBy w' none := by
  obtain ⟨A, c, b, o, rfl, hA, hcl⟩ := hu
  obtain ⟨X, d, y, p, rfl, hX, hdl⟩ := hv
  go_enter Tryz.func35, Tryz.ntmps35
  by_cases hne : list.length = list'.length
  · have hbf : ((list.length : Int) != (list'.length : Int)) = false := by simp [hne]
    have hll' := Lib.hid hll
    have hneH := Lib.hid hne
    clear hll hne
    go_wp2_with fail
    go_loopg [5] list.length (fun z uk wr => ∃ q : Nat, q ≤ list.length ∧ z = list.length - q ∧ uk = .int .i64 q ∧ Hid (eqBy eqD (list.take q) (list'.take q) = true) ∧ w.grownBy wr none)
    case atStart => exact ⟨0, Nat.zero_le _, rfl, rfl, by unfold Hid; simp [eqBy], gb_refl _ _⟩
    case round =>
      obtain ⟨q, hq, rfl, rfl, hno, hg⟩ := hrel
      by_cases hlt : q < list.length
      · have hlt' : q < list'.length := by have := hneH.out; omega
        obtain rfl := hA (by omega)
        obtain rfl := hX (by omega)
        have hqi : (q : Int) < (list.length : Int) := by omega
        have hqj : (q : Int) < (list'.length : Int) := by omega
        obtain ⟨m0, m1, m2, m3⟩ := hcl q hlt
        obtain ⟨n0, n1, n2, n3⟩ := hdl q hlt'
        have g0 := cell_grown m0 hg (by simp)
        have k0 := cell_grown n0 hg (by simp)
        have g1 := cell_grown m1 hg (by simp)
        have k1 := cell_grown n1 hg (by simp)
        have g2 := cell_grown m2 hg (by simp)
        have k2 := cell_grown n2 hg (by simp)
        have g3 := cell_grown m3 hg (by simp)
        have k3 := cell_grown n3 hg (by simp)
        have hq1 := Lib.hid (show wrap64 ((q : Int) + 1) = ((q + 1 : Nat) : Int) from (wrap64_id (by omega) (by have := hll'.out; omega)).trans (by omega))
        have hst := Lib.hid (eqBy_take (f := eqD) list list' q hlt hlt')
        have hat := Lib.hid (fun h => eqBy_at (f := eqD) (l := list) (m := list') q hlt hlt' h)
        clear hcl hdl hA hX m0 n0 m1 n1 m2 n2 m3 n3
        generalize list[q] = La at *
        generalize list'[q] = Lb at *
        obtain ⟨a0, a1, a2, a3⟩ := La
        obtain ⟨b0, b1, b2, b3⟩ := Lb
        simp only at *
        by_cases h0 : a0 = b0
        · subst h0
          by_cases h1 : a1 = b1
          · subst h1
            by_cases h2 : a2 = b2
            · subst h2
              by_cases h3 : a3 = b3
              · subst h3
                have hst2 : Hid (eqBy eqD (list.take (q + 1)) (list'.take (q + 1)) = true) := by unfold Hid; rw [hst.out, hno.out, eqD_self]; rfl
                go_wp2_with fail
                go_region
                all_goals go_wp2_with fail
                all_goals go_roundg (list.length - (q + 1))
                all_goals first
                  | omega
                  | exact ⟨q + 1, hlt, rfl, by first | rw [hq1.out] | go_num, hst2, gb_drew hg⟩
              · have hE : Hid (eqBy eqD list list' = false) := hat.out (eqD_ne (fun e => h3 (by injection e)))
                have hs : (a3 == b3) = false := by simpa using h3
                clear hst hat
                go_wp2_with fail
                go_region
                all_goals go_wp2_with fail
                all_goals go_ret
                all_goals exact ⟨by rw [hE.out]; rfl, gb_drew hg⟩
            · have hE : Hid (eqBy eqD list list' = false) := hat.out (eqD_ne (fun e => h2 (by injection e)))
              have hs : (a2.toList == b2.toList) = false := str_ne h2
              clear hst hat
              go_wp2_with fail
              go_region
              all_goals go_wp2_with fail
              all_goals go_ret
              all_goals exact ⟨by rw [hE.out]; rfl, gb_drew hg⟩
          · have hE : Hid (eqBy eqD list list' = false) := hat.out (eqD_ne (fun e => h1 (by injection e)))
            have hs : (a1.toList == b1.toList) = false := str_ne h1
            clear hst hat
            go_wp2_with fail
            go_region
            all_goals go_wp2_with fail
            all_goals go_ret
            all_goals exact ⟨by rw [hE.out]; rfl, gb_drew hg⟩
        · have hE : Hid (eqBy eqD list list' = false) := hat.out (eqD_ne (fun e => h0 (by injection e)))
          have hs : (a0 == b0) = false := by simpa using h0
          clear hst hat
          go_wp2_with fail
          go_region
          all_goals go_wp2_with fail
          all_goals go_ret
          all_goals exact ⟨by rw [hE.out]; rfl, gb_drew hg⟩
      · obtain rfl : q = list.length := by omega
        have hfin := hno.out
        rw [List.take_of_length_le (Nat.le_refl _), List.take_of_length_le (l := list') (by have := hneH.out; omega)] at hfin
        have hfin' := Lib.hid hfin
        clear hfin hno hcl hdl hA hX
        go_wp2_with fail
        go_ret
        exact ⟨by rw [hfin'.out]; rfl, hg⟩
  · have hE : Hid (eqBy eqD list list' = false) := eqBy_ne hne
    have hneI : ((list.length : Int) != (list'.length : Int)) = true := by simp; omega
    clear hcl hdl hA hX
    go_wp2_with fail
    go_ret
    exact ⟨by rw [hE.out]; rfl, gb_refl _ _⟩
def SAt (w : World) (list : List ByteArray) (v : Value) : Prop :=
  ∃ (A : Option Addr) (c b o : Nat), v = .slice A list.length c ∧ (0 < list.length → A = some ⟨b, o, none⟩) ∧
    ∀ i (h : i < list.length), w.cell? ⟨b, o + i, none⟩ = some (.string list[i])
theorem SAt.grown {w w' : World} {l : List ByteArray} {v : Value} (h : SAt w l v) (hg : w.grownBy w' none) : SAt w' l v := by
  obtain ⟨A, c, b, o, e, ha, hc⟩ := h
  refine ⟨A, c, b, o, e, ha, fun i hi => ?_⟩
  obtain q0 := hc i hi
  exact cell_grown q0 hg (by simp)
set_option maxRecDepth 100000 in
set_option maxHeartbeats 3200000 in
theorem eq39_any (list list' : List ByteArray) (u v : Value) (w : World) (hll : list.length ≤ 140737488355328) (hu : SAt w list u) (hv : SAt w list' v) :
    Calls Tryz.prog 39 #[u, v] w fun e w' => e = .returned (.bool (eqBy eqD list list')) ∧ w.grownBy w' none := by
  obtain ⟨A, c, b, o, rfl, hA, hcl⟩ := hu
  obtain ⟨X, d, y, p, rfl, hX, hdl⟩ := hv
  go_enter Tryz.func39, Tryz.ntmps39
  by_cases hne : list.length = list'.length
  · have hbf : ((list.length : Int) != (list'.length : Int)) = false := by simp [hne]
    have hll' := Lib.hid hll
    have hneH := Lib.hid hne
    clear hll hne
    go_wp2_with fail
    go_loopg [13] list.length (fun z uk wr => ∃ q : Nat, q ≤ list.length ∧ z = list.length - q ∧ uk = .int .i64 q ∧ Hid (eqBy eqD (list.take q) (list'.take q) = true) ∧ w.grownBy wr none)
    case atStart => exact ⟨0, Nat.zero_le _, rfl, rfl, by unfold Hid; simp [eqBy], gb_refl _ _⟩
    case round =>
      obtain ⟨q, hq, rfl, rfl, hno, hg⟩ := hrel
      by_cases hlt : q < list.length
      · have hlt' : q < list'.length := by have := hneH.out; omega
        obtain rfl := hA (by omega)
        obtain rfl := hX (by omega)
        have hqi : (q : Int) < (list.length : Int) := by omega
        have hqj : (q : Int) < (list'.length : Int) := by omega
        obtain m0 := hcl q hlt
        obtain n0 := hdl q hlt'
        have g0 := cell_grown m0 hg (by simp)
        have k0 := cell_grown n0 hg (by simp)
        have hq1 := Lib.hid (show wrap64 ((q : Int) + 1) = ((q + 1 : Nat) : Int) from (wrap64_id (by omega) (by have := hll'.out; omega)).trans (by omega))
        have hst := Lib.hid (eqBy_take (f := eqD) list list' q hlt hlt')
        have hat := Lib.hid (fun h => eqBy_at (f := eqD) (l := list) (m := list') q hlt hlt' h)
        clear hcl hdl hA hX m0 n0
        generalize list[q] = La at *
        generalize list'[q] = Lb at *
        by_cases h0 : La = Lb
        · subst h0
          have hst2 : Hid (eqBy eqD (list.take (q + 1)) (list'.take (q + 1)) = true) := by unfold Hid; rw [hst.out, hno.out, eqD_self]; rfl
          go_wp2_with fail
          go_region
          all_goals go_wp2_with fail
          all_goals go_roundg (list.length - (q + 1))
          all_goals first
            | omega
            | exact ⟨q + 1, hlt, rfl, by first | rw [hq1.out] | go_num, hst2, gb_drew hg⟩
        · have hE : Hid (eqBy eqD list list' = false) := hat.out (eqD_ne (fun e => h0 (by exact e)))
          have hs : (La.toList == Lb.toList) = false := str_ne h0
          clear hst hat
          go_wp2_with fail
          go_region
          all_goals go_wp2_with fail
          all_goals go_ret
          all_goals exact ⟨by rw [hE.out]; rfl, gb_drew hg⟩
      · obtain rfl : q = list.length := by omega
        have hfin := hno.out
        rw [List.take_of_length_le (Nat.le_refl _), List.take_of_length_le (l := list') (by have := hneH.out; omega)] at hfin
        have hfin' := Lib.hid hfin
        clear hfin hno hcl hdl hA hX
        go_wp2_with fail
        go_ret
        exact ⟨by rw [hfin'.out]; rfl, hg⟩
  · have hE : Hid (eqBy eqD list list' = false) := eqBy_ne hne
    have hneI : ((list.length : Int) != (list'.length : Int)) = true := by simp; omega
    clear hcl hdl hA hX
    go_wp2_with fail
    go_ret
    exact ⟨by rw [hE.out]; rfl, gb_refl _ _⟩
set_option maxRecDepth 100000 in
set_option maxHeartbeats 3200000 in
theorem eq34_any (list list' : List ByteArray) (u v : Value) (w : World) (hll : list.length ≤ 140737488355328) (hu : SAt w list u) (hv : SAt w list' v) :
    Calls Tryz.prog 34 #[u, v] w fun e w' => e = .returned (.bool (eqBy eqD list list')) ∧ w.grownBy w' none := by
  obtain ⟨A, c, b, o, rfl, hA, hcl⟩ := hu
  obtain ⟨X, d, y, p, rfl, hX, hdl⟩ := hv
  go_enter Tryz.func34, Tryz.ntmps34
  by_cases hne : list.length = list'.length
  · have hbf : ((list.length : Int) != (list'.length : Int)) = false := by simp [hne]
    have hll' := Lib.hid hll
    have hneH := Lib.hid hne
    clear hll hne
    go_wp2_with fail
    go_loopg [5] list.length (fun z uk wr => ∃ q : Nat, q ≤ list.length ∧ z = list.length - q ∧ uk = .int .i64 q ∧ Hid (eqBy eqD (list.take q) (list'.take q) = true) ∧ w.grownBy wr none)
    case atStart => exact ⟨0, Nat.zero_le _, rfl, rfl, by unfold Hid; simp [eqBy], gb_refl _ _⟩
    case round =>
      obtain ⟨q, hq, rfl, rfl, hno, hg⟩ := hrel
      by_cases hlt : q < list.length
      · have hlt' : q < list'.length := by have := hneH.out; omega
        obtain rfl := hA (by omega)
        obtain rfl := hX (by omega)
        have hqi : (q : Int) < (list.length : Int) := by omega
        have hqj : (q : Int) < (list'.length : Int) := by omega
        obtain m0 := hcl q hlt
        obtain n0 := hdl q hlt'
        have g0 := cell_grown m0 hg (by simp)
        have k0 := cell_grown n0 hg (by simp)
        have hq1 := Lib.hid (show wrap64 ((q : Int) + 1) = ((q + 1 : Nat) : Int) from (wrap64_id (by omega) (by have := hll'.out; omega)).trans (by omega))
        have hst := Lib.hid (eqBy_take (f := eqD) list list' q hlt hlt')
        have hat := Lib.hid (fun h => eqBy_at (f := eqD) (l := list) (m := list') q hlt hlt' h)
        clear hcl hdl hA hX m0 n0
        generalize list[q] = La at *
        generalize list'[q] = Lb at *
        by_cases h0 : La = Lb
        · subst h0
          have hst2 : Hid (eqBy eqD (list.take (q + 1)) (list'.take (q + 1)) = true) := by unfold Hid; rw [hst.out, hno.out, eqD_self]; rfl
          go_wp2_with fail
          go_region
          all_goals go_wp2_with fail
          all_goals go_roundg (list.length - (q + 1))
          all_goals first
            | omega
            | exact ⟨q + 1, hlt, rfl, by first | rw [hq1.out] | go_num, hst2, gb_drew hg⟩
        · have hE : Hid (eqBy eqD list list' = false) := hat.out (eqD_ne (fun e => h0 (by exact e)))
          have hs : (La.toList == Lb.toList) = false := str_ne h0
          clear hst hat
          go_wp2_with fail
          go_region
          all_goals go_wp2_with fail
          all_goals go_ret
          all_goals exact ⟨by rw [hE.out]; rfl, gb_drew hg⟩
      · obtain rfl : q = list.length := by omega
        have hfin := hno.out
        rw [List.take_of_length_le (Nat.le_refl _), List.take_of_length_le (l := list') (by have := hneH.out; omega)] at hfin
        have hfin' := Lib.hid hfin
        clear hfin hno hcl hdl hA hX
        go_wp2_with fail
        go_ret
        exact ⟨by rw [hfin'.out]; rfl, hg⟩
  · have hE : Hid (eqBy eqD list list' = false) := eqBy_ne hne
    have hneI : ((list.length : Int) != (list'.length : Int)) = true := by simp; omega
    clear hcl hdl hA hX
    go_wp2_with fail
    go_ret
    exact ⟨by rw [hE.out]; rfl, gb_refl _ _⟩
end Go.Proofs.YtcmepallgchcjaaGreat
