/- Values, checked: slices.IndexFunc and ContainsFunc at closures, deep. -/
import Derived.Test.YtnnhkajjifmlfaaDoorT0
import Derived.RegionTactic
namespace Go.Proofs.YtnnhkajjifmlfaaDoor
open Go.RowKit Go.Maps

/-- a slice of values -/
def LAt (w : World) (S : Nat → Prop) (list : List J) (v : Value) : Prop :=
  ∃ (A : Option Addr) (c b o : Nat) (V : Nat → Value), v = .slice A list.length c ∧ list.length ≤ c ∧ (0 < list.length → A = some ⟨b, o, none⟩ ∧ S b) ∧
    (∀ i, i < list.length → ∃ a0 a1 a2 a3 a4, V i = .agg #[a0, a1, a2, a3, a4] ∧ w.cell? ⟨b, o + i * 5, none⟩ = some a0 ∧ w.cell? ⟨b, o + i * 5 + 1, none⟩ = some a1 ∧ w.cell? ⟨b, o + i * 5 + 2, none⟩ = some a2 ∧ w.cell? ⟨b, o + i * 5 + 3, none⟩ = some a3 ∧ w.cell? ⟨b, o + i * 5 + 4, none⟩ = some a4) ∧
    (∀ i (h : i < list.length), JAt w S list[i] (V i))
theorem LAt.keep {w w' : World} {S S' : Nat → Prop} {list : List J} {v : Value} (h : LAt w S list v) (hk : ∀ b, S b → w'.heap[b]? = w.heap[b]?) (hs : ∀ b, S b → S' b) : LAt w' S' list v := by
  obtain ⟨A, c, b, o, V, e, hc, ha, hcell, hrec⟩ := h
  refine ⟨A, c, b, o, V, e, hc, fun h0 => ⟨(ha h0).1, hs _ (ha h0).2⟩, fun i hi => ?_, fun i hi => (hrec i hi).keep hk hs⟩
  obtain ⟨a0, a1, a2, a3, a4, e, h0, h1, h2, h3, h4⟩ := hcell i hi
  have hb := hk b (ha (by omega)).2
  have t : ∀ q, w'.cell? ⟨b, q, none⟩ = w.cell? ⟨b, q, none⟩ := fun q => World.cell?_of_block (w := w) (a := ⟨b, q, none⟩) hb
  exact ⟨a0, a1, a2, a3, a4, e, by rw [t]; exact h0, by rw [t]; exact h1, by rw [t]; exact h2, by rw [t]; exact h3, by rw [t]; exact h4⟩
/-- a value's parts -/
theorem JAt.parts {w : World} {S : Nat → Prop} {k n : Int} {t : ByteArray} {names : List ByteArray} {list : List J} {v : Value} (h : JAt w S (.mk k n t names list) v) :
    ∃ nv lv, v = .agg #[.int .i64 k, .int .i64 n, .string t, nv, lv] ∧ StrsAt w S nv names ∧ LAt w S list lv := by
  obtain @⟨_, _, _, _, _, nv, A, c, b, o, V, hn, hc, ha, hcell, hrec⟩ := h
  exact ⟨nv, _, rfl, hn, A, c, b, o, V, rfl, hc, ha, hcell, hrec⟩
theorem any_take_succ {α : Type} (p : α → Bool) (l : List α) (k : Nat) (h : k < l.length) : (l.take (k + 1)).any p = ((l.take k).any p || p l[k]) := by
  rw [List.take_add_one, List.getElem?_eq_getElem h, List.any_append]
  simp

set_option maxRecDepth 100000 in
set_option maxHeartbeats 1600000 in
theorem idx_deep (list : List J) (p : J → Bool) (S : Nat → Prop) (v : Value) (c0 : Nat) (w : World) (hS : ∀ b, S b → b < w.heap.size) (hl : list.length ≤ 140737488355328) (hv : LAt w S list v)
    (H : ∀ (i : Nat) (h : i < list.length) (W : World) (x : Value), w.grownBy W none → JAt W S list[i] x → Calls Tryd.prog 100 #[x, .pointer (some ⟨c0, 0, none⟩)] W fun e W' => e = .returned (.bool (p list[i])) ∧ W.grownBy W' none) :
    Calls Tryd.prog 137 #[v, .func (.func 100) #[] #[.pointer (some ⟨c0, 0, none⟩)]] w fun e w' => (∃ r : Int, e = .returned (.int .i64 r) ∧ Hid (decide (0 ≤ r) = list.any p)) ∧ w.grownBy w' none := by
  obtain ⟨A, c, b, o, V, rfl, hc, ha, hcell, hrec⟩ := hv
  have hlI : (list.length : Int) ≤ 140737488355328 := by omega
  go_enter Tryd.func137, Tryd.ntmps137
  go_wp2_with fail
  go_loopg [8] list.length (fun n i wr => ∃ k : Nat, k ≤ list.length ∧ n = list.length - k ∧ i = .int .i64 k ∧ Hid ((list.take k).any p = false) ∧ w.grownBy wr none)
  case atStart => exact ⟨0, Nat.zero_le _, rfl, rfl, rfl, gb_refl _ _⟩
  case round =>
    obtain ⟨k, hk, rfl, rfl, hno, hg⟩ := hrel
    by_cases hlt : k < list.length
    · obtain ⟨rfl, hSb⟩ := ha (by omega)
      have hki : (k : Int) < (list.length : Int) := by omega
      obtain ⟨a0, a1, a2, a3, a4, hV, c0', c1, c2, c3, c4⟩ := hcell k hlt
      have g0 := cell_grown c0' hg (by simp)
      have g1 := cell_grown c1 hg (by simp)
      have g2 := cell_grown c2 hg (by simp)
      have g3 := cell_grown c3 hg (by simp)
      have g4 := cell_grown c4 hg (by simp)
      have hrk := (hrec k hlt).keep (w' := wr) (S' := S) (fun b hb => hg.block b (hS b hb) (by simp)) (fun _ => id)
      rw [hV] at hrk
      have Hk := Lib.hid (H k hlt wr _ hg hrk)
      have hstep := any_take_succ p list k hlt
      have hHs : Hid (((list.take (k + 1)).any p = ((list.take k).any p || p list[k]))) := hstep
      have hAny : Hid (p list[k] = true → list.any p = true) := fun e => List.any_eq_true.2 ⟨_, List.getElem_mem hlt, e⟩
      clear H hcell hrec hstep c0' c1 c2 c3 c4
      generalize p list[k] = y at *
      cases y with
      | true =>
        go_wp2_with (first
          | (go_at_call 100; refine (Hk.out).mono ?_; rintro e w4 ⟨rfl, hg4⟩))
        go_ret
        exact ⟨⟨k, rfl, by unfold Hid; rw [hAny.out (by first | rfl | trivial)]; exact decide_eq_true (by omega)⟩, gb_trans hg hg4⟩
      | false =>
        go_wp2_with (first
          | (go_at_call 100; refine (Hk.out).mono ?_; rintro e w4 ⟨rfl, hg4⟩))
        go_roundg (list.length - (k + 1))
        case measure => omega
        case rel => exact ⟨k + 1, hlt, rfl, by go_num, by unfold Hid; rw [hHs.out, hno.out]; rfl, gb_trans hg hg4⟩
    · obtain rfl : k = list.length := by omega
      go_wp2_with fail
      go_ret
      refine ⟨⟨-1, rfl, ?_⟩, hg⟩
      have := hno.out
      rw [List.take_of_length_le (Nat.le_refl _)] at this
      unfold Hid
      rw [this]; rfl
end Go.Proofs.YtnnhkajjifmlfaaDoor
/-! Values, checked: deep. -/
namespace Go.Proofs.YtnnhkajjifmlfaaDoor
open Go.RowKit Go.Maps

set_option maxRecDepth 100000 in
set_option maxHeartbeats 800000 in
theorem has_deep (list : List J) (p : J → Bool) (S : Nat → Prop) (v : Value) (c0 : Nat) (w : World) (hS : ∀ b, S b → b < w.heap.size) (hl : list.length ≤ 140737488355328) (hv : LAt w S list v)
    (H : ∀ (i : Nat) (h : i < list.length) (W : World) (x : Value), w.grownBy W none → JAt W S list[i] x → Calls Tryd.prog 100 #[x, .pointer (some ⟨c0, 0, none⟩)] W fun e W' => e = .returned (.bool (p list[i])) ∧ W.grownBy W' none) :
    Calls Tryd.prog 99 #[v, .func (.func 100) #[] #[.pointer (some ⟨c0, 0, none⟩)]] w fun e w' => e = .returned (.bool (list.any p)) ∧ w.grownBy w' none := by
  have HI := Lib.hid (idx_deep list p S v c0 w hS hl hv H)
  clear H
  generalize list.any p = y at *
  go_enter Tryd.func99, Tryd.ntmps99
  go_wp2_with (first
    | (go_at_call 137; refine (HI.out).mono ?_; rintro e w4 ⟨⟨r, rfl, hr⟩, hg4⟩))
  go_ret
  refine ⟨?_, hg4⟩
  rw [← hr.out]
  rfl

/-- deep, at a number -/
def deepI (j : J) (m : Int) : Bool := if m < 0 then true else deepP j m.toNat
theorem deepPs_any : ∀ (l : List J) (m : Nat), deepPs l m = l.any fun x => deepI x ((m : Int) - 1)
  | [], m => by rw [deepPs]; rfl
  | j :: r, m => by
    cases m with
    | zero => rw [deepPs, List.any_cons, deepPs_any r 0]; rfl
    | succ m =>
      rw [deepPs, List.any_cons, deepPs_any r (m + 1)]
      congr 1
      unfold deepI
      rw [if_neg (by omega)]
      congr 1
      omega
/-- what deep does at a value -/
def DeepC (j : J) : Prop := ∀ (m : Int) (S : Nat → Prop) (v : Value) (w : World), -1 ≤ m → m ≤ 64 → (∀ b, S b → b < w.heap.size) → JAt w S j v →
    Calls Tryd.prog 54 #[v, .int .i64 m] w fun e w' => e = .returned (.bool (deepI j m)) ∧ w.grownBy w' none
set_option maxRecDepth 100000 in
set_option maxHeartbeats 800000 in
theorem deep1_any {j : J} (hd : DeepC j) (m : Int) (S : Nat → Prop) (x : Value) (c0 : Nat) (w : World) (hm1 : 0 ≤ m) (hm2 : m ≤ 64) (hS : ∀ b, S b → b < w.heap.size) (hc : w.cell? ⟨c0, 0, none⟩ = some (.int .i64 m)) (hx : JAt w S j x) :
    Calls Tryd.prog 100 #[x, .pointer (some ⟨c0, 0, none⟩)] w fun e w' => e = .returned (.bool (deepI j (m - 1))) ∧ w.grownBy w' none := by
  obtain ⟨k, n, t, names, list⟩ := j
  obtain ⟨nv, lv, rfl, hN, hL⟩ := hx.parts
  have hw1 : IntKind.i64.wrap (m - 1) = m - 1 := by
    simp only [IntKind.wrap, IntKind.bits, IntKind.signed]
    by_cases h : m = 0
    · subst h; decide
    · have e : (m - 1) % 18446744073709551616 = m - 1 := by omega
      simp [e]; omega
  have hg1 : w.grownBy (w.alloc (.cells #[.int .i64 k, .int .i64 n, .string t, nv, lv] 26)) none := gb_alloc (gb_refl w none) _
  have J0 := JB.new w (.int .i64 k) (.int .i64 n) (.string t) nv lv
  obtain ⟨d0, d1, d2, d3, d4, df⟩ := J0.all
  have hc1 := cell_grown hc hg1 (by simp)
  have HD := fun (W : World) (hg : w.grownBy W none) => Lib.hid (hd (m - 1) S _ W (by omega) (by omega) (fun b hb => Nat.lt_of_lt_of_le (hS b hb) hg.size) (hx.keep (fun b hb => hg.block b (hS b hb) (by simp)) (fun _ => id)))
  clear hd
  generalize deepI (.mk k n t names list) (m - 1) = y at *
  go_enter Tryd.func100, Tryd.ntmps100
  go_wp2_with (first
    | (go_at_call 54; refine ((HD _ (by exact hg1)).out).mono ?_; rintro e w4 ⟨rfl, hg4⟩))
  go_ret
  exact ⟨rfl, gb_trans hg1 hg4⟩
set_option maxRecDepth 100000 in
set_option maxHeartbeats 1600000 in
theorem deep_any {j : J} (hj : JBd j) : DeepC j := by
  induction hj with
  | @mk k n t names list h0 h1 ht hnl hll hs hr ih =>
    intro m S v w hm1 hm2 hS hv
    obtain ⟨nv, lv, rfl, hN, hL⟩ := hv.parts
    have J0 := JB.new w (.int .i64 k) (.int .i64 n) (.string t) nv lv
    have J1 := J0.alloc (.cells #[.int .i64 m] 3)
    obtain ⟨d0, d1, d2, d3, d4, df⟩ := J1.all
    have hM : ((w.alloc (.cells #[.int .i64 k, .int .i64 n, .string t, nv, lv] 26)).alloc (.cells #[.int .i64 m] 3)).cell? ⟨w.heap.size + 1, 0, none⟩ = some (.int .i64 m) := by
      have := heap_alloc_new (w.alloc (.cells #[.int .i64 k, .int .i64 n, .string t, nv, lv] 26)) (.cells #[.int .i64 m] 3)
      rw [cell_of_row _ (w.heap.size + 1) 0 _ _ _ (by simpa using this)]; rfl
    have hg1 : w.grownBy ((w.alloc (.cells #[.int .i64 k, .int .i64 n, .string t, nv, lv] 26)).alloc (.cells #[.int .i64 m] 3)) none := gb_alloc (gb_alloc (gb_refl w none) _) _
    have hmf : ∀ (fn : Fn) (first cap : Array Value) (W : World), (Instr.makeFunc fn first cap).run Tryd.prog W = .ok (.func fn first cap) W := fun _ _ _ _ => rfl
    by_cases hneg : m < 0
    · have hD : Hid (deepI (.mk k n t names list) m = true) := by unfold Hid deepI; rw [if_pos hneg]
      clear ih
      go_enter Tryd.func54, Tryd.ntmps54
      go_wp2_with fail
      go_ret
      exact ⟨by rw [hD.out]; rfl, hg1⟩
    · have hD : Hid (deepI (.mk k n t names list) m = (list.any (fun x => deepI x (m - 1)) || (decide (m = 0) && (decide (k = 5) || decide (k = 6))))) := by
        unfold Hid
        show (if m < 0 then true else deepP (.mk k n t names list) m.toNat) = _
        rw [if_neg hneg, deepP, deepPs_any, Bool.or_comm]
        have e1 : ((m.toNat : Nat) : Int) = m := by omega
        rw [e1]
        congr 1
        congr 1
        exact decide_eq_decide.2 (by omega)
      have HC := fun (W : World) (hgW : w.grownBy W none) (hMW : W.cell? ⟨w.heap.size + 1, 0, none⟩ = some (.int .i64 m)) => Lib.hid (has_deep list (fun x => deepI x (m - 1)) S lv (w.heap.size + 1) W (fun b hb => Nat.lt_of_lt_of_le (hS b hb) hgW.size) hll
        (hL.keep (fun b hb => hgW.block b (hS b hb) (by simp)) (fun _ => id))
        (fun i hi X x hgX hx => deep1_any (ih list[i] (List.getElem_mem hi)) m S x (w.heap.size + 1) X (by omega) hm2 (fun b hb => Nat.lt_of_lt_of_le (hS b hb) (gb_trans hgW hgX).size) (cell_grown hMW hgX (by simp)) hx))
      clear ih
      generalize list.any (fun x => deepI x (m - 1)) = y at *
      go_enter Tryd.func54, Tryd.ntmps54
      have key : ∀ z : Bool, Hid (z = deepI (.mk k n t names list) m) → Ending.returned (Value.bool z) = Ending.returned (Value.bool (deepI (.mk k n t names list) m)) := fun z hz => by rw [hz.out]
      cases y with
      | true =>
        go_wp2_with (first
          | (go_at_call 99; refine ((HC _ (by exact hg1) (by exact hM)).out).mono ?_; rintro e w4 ⟨rfl, hg4⟩))
        go_ret
        exact ⟨key true (by unfold Hid; rw [hD.out]; rfl), gb_trans hg1 hg4⟩
      | false =>
        by_cases hm0 : m = 0
        · subst hm0
          by_cases h5 : k = 5
          · subst h5
            go_wp2_with (first
              | (go_at_call 99; refine ((HC _ (by exact hg1) (by exact hM)).out).mono ?_; rintro e w4 ⟨rfl, hg4⟩; have K1 := J1.kept hg4 (by simp); have hM4 := cell_grown hM hg4 (by simp); have q0 := K1.c0))
            go_ret
            exact ⟨key true (by unfold Hid; rw [hD.out]; simp), gb_trans hg1 hg4⟩
          · by_cases h6 : k = 6
            · subst h6
              go_wp2_with (first
                | (go_at_call 99; refine ((HC _ (by exact hg1) (by exact hM)).out).mono ?_; rintro e w4 ⟨rfl, hg4⟩; have K1 := J1.kept hg4 (by simp); have hM4 := cell_grown hM hg4 (by simp); have q0 := K1.c0))
              go_ret
              exact ⟨key true (by unfold Hid; rw [hD.out]; simp), gb_trans hg1 hg4⟩
            · go_wp2_with (first
                | (go_at_call 99; refine ((HC _ (by exact hg1) (by exact hM)).out).mono ?_; rintro e w4 ⟨rfl, hg4⟩; have K1 := J1.kept hg4 (by simp); have hM4 := cell_grown hM hg4 (by simp); have q0 := K1.c0))
              go_ret
              exact ⟨key (k == 5 || k == 6) (by unfold Hid; rw [hD.out]; simp [h5, h6]), gb_trans hg1 hg4⟩
        · go_wp2_with (first
            | (go_at_call 99; refine ((HC _ (by exact hg1) (by exact hM)).out).mono ?_; rintro e w4 ⟨rfl, hg4⟩; have K1 := J1.kept hg4 (by simp); have hM4 := cell_grown hM hg4 (by simp); have q0 := K1.c0))
          go_ret
          exact ⟨key _ (by unfold Hid; rw [hD.out]; simp [hm0]), gb_trans hg1 hg4⟩
end Go.Proofs.YtnnhkajjifmlfaaDoor
