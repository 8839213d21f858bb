/- Values, checked: fine. -/
import Derived.Test.YtnnhkajjifmlfaaDoorTde
namespace Go.Proofs.YtnnhkajjifmlfaaDoor
open Go.RowKit Go.Maps

set_option maxRecDepth 100000 in
set_option maxHeartbeats 1600000 in
theorem idx_fine (list : List J) (p : J → Bool) (S : Nat → Prop) (v : Value) (w : World) (hS : ∀ b, S b → b < w.heap.size) (hl : list.length ≤ 140737488355328) (hv : LAt w S list v)
    (H : ∀ (i : Nat) (h : i < list.length) (W : World) (x : Value), w.grownBy W none → JAt W S list[i] x → Calls Tryd.prog 101 #[x] W fun e W' => e = .returned (.bool (p list[i])) ∧ W.grownBy W' none) :
    Calls Tryd.prog 137 #[v, .func (.func 101) #[] #[]] w fun e w' => (∃ r : Int, e = .returned (.int .i64 r) ∧ Hid (decide (0 ≤ r) = list.any p)) ∧ w.grownBy w' none := by
  obtain ⟨A, c, b, o, V, rfl, hc, ha, hcell, hrec⟩ := hv
  have hlI : (list.length : Int) ≤ 140737488355328 := by omega
  go_enter Tryd.func137, Tryd.ntmps137
  go_wp2_with fail
  go_loopg [8] list.length (fun n i wr => ∃ k : Nat, k ≤ list.length ∧ n = list.length - k ∧ i = .int .i64 k ∧ Hid ((list.take k).any p = false) ∧ w.grownBy wr none)
  case atStart => exact ⟨0, Nat.zero_le _, rfl, rfl, rfl, gb_refl _ _⟩
  case round =>
    obtain ⟨k, hk, rfl, rfl, hno, hg⟩ := hrel
    by_cases hlt : k < list.length
    · obtain ⟨rfl, hSb⟩ := ha (by omega)
      have hki : (k : Int) < (list.length : Int) := by omega
      obtain ⟨a0, a1, a2, a3, a4, hV, c0', c1, c2, c3, c4⟩ := hcell k hlt
      have g0 := cell_grown c0' hg (by simp)
      have g1 := cell_grown c1 hg (by simp)
      have g2 := cell_grown c2 hg (by simp)
      have g3 := cell_grown c3 hg (by simp)
      have g4 := cell_grown c4 hg (by simp)
      have hrk := (hrec k hlt).keep (w' := wr) (S' := S) (fun b hb => hg.block b (hS b hb) (by simp)) (fun _ => id)
      rw [hV] at hrk
      have Hk := Lib.hid (H k hlt wr _ hg hrk)
      have hstep := any_take_succ p list k hlt
      have hHs : Hid (((list.take (k + 1)).any p = ((list.take k).any p || p list[k]))) := hstep
      have hAny : Hid (p list[k] = true → list.any p = true) := fun e => List.any_eq_true.2 ⟨_, List.getElem_mem hlt, e⟩
      clear H hcell hrec hstep c0' c1 c2 c3 c4
      generalize p list[k] = y at *
      cases y with
      | true =>
        go_wp2_with (first
          | (go_at_call 101; refine (Hk.out).mono ?_; rintro e w4 ⟨rfl, hg4⟩))
        go_ret
        exact ⟨⟨k, rfl, by unfold Hid; rw [hAny.out (by first | rfl | trivial)]; exact decide_eq_true (by omega)⟩, gb_trans hg hg4⟩
      | false =>
        go_wp2_with (first
          | (go_at_call 101; refine (Hk.out).mono ?_; rintro e w4 ⟨rfl, hg4⟩))
        go_roundg (list.length - (k + 1))
        case measure => omega
        case rel => exact ⟨k + 1, hlt, rfl, by go_num, by unfold Hid; rw [hHs.out, hno.out]; rfl, gb_trans hg hg4⟩
    · obtain rfl : k = list.length := by omega
      go_wp2_with fail
      go_ret
      refine ⟨⟨-1, rfl, ?_⟩, hg⟩
      have := hno.out
      rw [List.take_of_length_le (Nat.le_refl _)] at this
      unfold Hid
      rw [this]; rfl
set_option maxRecDepth 100000 in
set_option maxHeartbeats 800000 in
theorem has_fine (list : List J) (p : J → Bool) (S : Nat → Prop) (v : Value) (w : World) (hS : ∀ b, S b → b < w.heap.size) (hl : list.length ≤ 140737488355328) (hv : LAt w S list v)
    (H : ∀ (i : Nat) (h : i < list.length) (W : World) (x : Value), w.grownBy W none → JAt W S list[i] x → Calls Tryd.prog 101 #[x] W fun e W' => e = .returned (.bool (p list[i])) ∧ W.grownBy W' none) :
    Calls Tryd.prog 99 #[v, .func (.func 101) #[] #[]] w fun e w' => e = .returned (.bool (list.any p)) ∧ w.grownBy w' none := by
  have HI := Lib.hid (idx_fine list p S v w hS hl hv H)
  clear H
  generalize list.any p = y at *
  go_enter Tryd.func99, Tryd.ntmps99
  go_wp2_with (first
    | (go_at_call 137; refine (HI.out).mono ?_; rintro e w4 ⟨⟨r, rfl, hr⟩, hg4⟩))
  go_ret
  refine ⟨?_, hg4⟩
  rw [← hr.out]
  rfl

/-- what fine does at a value -/
def FineC (j : J) : Prop := ∀ (S : Nat → Prop) (v : Value) (w : World), (∀ b, S b → b < w.heap.size) → JAt w S j v →
    Calls Tryd.prog 55 #[v] w fun e w' => e = .returned (.bool (fineP j)) ∧ w.grownBy w' none
set_option maxRecDepth 100000 in
set_option maxHeartbeats 800000 in
theorem fine1_any {j : J} (hd : FineC j) (S : Nat → Prop) (x : Value) (w : World) (hS : ∀ b, S b → b < w.heap.size) (hx : JAt w S j x) :
    Calls Tryd.prog 101 #[x] w fun e w' => e = .returned (.bool (!fineP j)) ∧ w.grownBy w' none := by
  obtain ⟨k, n, t, names, list⟩ := j
  obtain ⟨nv, lv, rfl, hN, hL⟩ := hx.parts
  have hg1 : w.grownBy (w.alloc (.cells #[.int .i64 k, .int .i64 n, .string t, nv, lv] 26)) none := gb_alloc (gb_refl w none) _
  have J0 := JB.new w (.int .i64 k) (.int .i64 n) (.string t) nv lv
  obtain ⟨d0, d1, d2, d3, d4, df⟩ := J0.all
  have HD := fun (W : World) (hg : w.grownBy W none) => Lib.hid (hd S _ W (fun b hb => Nat.lt_of_lt_of_le (hS b hb) hg.size) (hx.keep (fun b hb => hg.block b (hS b hb) (by simp)) (fun _ => id)))
  clear hd
  generalize fineP (.mk k n t names list) = y at *
  go_enter Tryd.func101, Tryd.ntmps101
  go_wp2_with (first
    | (go_at_call 55; refine ((HD _ (by exact hg1)).out).mono ?_; rintro e w4 ⟨rfl, hg4⟩))
  go_ret
  exact ⟨rfl, gb_trans hg1 hg4⟩
end Go.Proofs.YtnnhkajjifmlfaaDoor
/-! Values, checked: fine, kind by kind. -/
namespace Go.Proofs.YtnnhkajjifmlfaaDoor
open Go.RowKit Go.Maps

theorem toList_nil (t : ByteArray) : t.toList = [] ↔ t = ByteArray.empty := by
  have h := ba_len t
  constructor
  · intro e
    rw [e] at h
    cases t with
    | mk a => exact congrArg ByteArray.mk (Array.eq_empty_of_size_eq_zero h.symm)
  · intro e
    subst e
    exact List.eq_nil_of_length_eq_zero h
set_option maxRecDepth 100000 in
set_option maxHeartbeats 3200000 in
theorem fine_k1 (k n : Int) (t : ByteArray) (names : List ByteArray) (list : List J) (hk : k = 1) (S : Nat → Prop) (v : Value) (w : World) (_hnl : names.length ≤ 140737488355328) (_hll : list.length ≤ 140737488355328) (_hS : ∀ b, S b → b < w.heap.size) (hv : JAt w S (.mk k n t names list) v) :
    Calls Tryd.prog 55 #[v] w fun e w' => e = .returned (.bool (fineP (.mk k n t names list))) ∧ w.grownBy w' none := by
  subst hk
  obtain ⟨nv, lv, rfl, hN, hL⟩ := hv.parts
  obtain ⟨A, c, rfl, hc, hA⟩ := hN
  obtain ⟨A', c', b', o', V', rfl, hc', hA', hcl', hrc'⟩ := hL
  clear hA' hcl' hrc' hA hv
  have J0 := JB.new w (.int .i64 1) (.int .i64 n) (.string t) (.slice A names.length c) (.slice A' list.length c')
  obtain ⟨d0, d1, d2, d3, d4, df⟩ := J0.all
  have hg1 : w.grownBy (w.alloc (.cells #[.int .i64 1, .int .i64 n, .string t, .slice A names.length c, .slice A' list.length c'] 26)) none := gb_alloc (gb_refl w none) _
  go_enter Tryd.func55, Tryd.ntmps55
  go_wp2_with fail
  all_goals go_ret
  all_goals first
    | refine ⟨?_, gb_trans (gb_alloc (gb_refl w none) _) (by assumption)⟩
    | refine ⟨?_, gb_alloc (gb_refl w none) _⟩
  all_goals
    have hz := toList_nil t
    rw [fineP]
    first
      | (simp_all; done)
      | (cases list <;> simp_all; done)
      | (cases names <;> cases list <;> simp_all <;> omega; done)
set_option maxRecDepth 100000 in
set_option maxHeartbeats 3200000 in
theorem fine_k2 (k n : Int) (t : ByteArray) (names : List ByteArray) (list : List J) (hk : k = 2) (S : Nat → Prop) (v : Value) (w : World) (_hnl : names.length ≤ 140737488355328) (_hll : list.length ≤ 140737488355328) (_hS : ∀ b, S b → b < w.heap.size) (hv : JAt w S (.mk k n t names list) v) :
    Calls Tryd.prog 55 #[v] w fun e w' => e = .returned (.bool (fineP (.mk k n t names list))) ∧ w.grownBy w' none := by
  subst hk
  obtain ⟨nv, lv, rfl, hN, hL⟩ := hv.parts
  obtain ⟨A, c, rfl, hc, hA⟩ := hN
  obtain ⟨A', c', b', o', V', rfl, hc', hA', hcl', hrc'⟩ := hL
  clear hA' hcl' hrc' hA hv
  have J0 := JB.new w (.int .i64 2) (.int .i64 n) (.string t) (.slice A names.length c) (.slice A' list.length c')
  obtain ⟨d0, d1, d2, d3, d4, df⟩ := J0.all
  have hg1 : w.grownBy (w.alloc (.cells #[.int .i64 2, .int .i64 n, .string t, .slice A names.length c, .slice A' list.length c'] 26)) none := gb_alloc (gb_refl w none) _
  go_enter Tryd.func55, Tryd.ntmps55
  go_wp2_with fail
  all_goals go_ret
  all_goals first
    | refine ⟨?_, gb_trans (gb_alloc (gb_refl w none) _) (by assumption)⟩
    | refine ⟨?_, gb_alloc (gb_refl w none) _⟩
  all_goals
    have hz := toList_nil t
    rw [fineP]
    first
      | (simp_all; done)
      | (cases list <;> simp_all; done)
      | (cases names <;> cases list <;> simp_all <;> omega; done)
set_option maxRecDepth 100000 in
set_option maxHeartbeats 3200000 in
theorem fine_k3 (k n : Int) (t : ByteArray) (names : List ByteArray) (list : List J) (hk : k = 3) (S : Nat → Prop) (v : Value) (w : World) (_hnl : names.length ≤ 140737488355328) (_hll : list.length ≤ 140737488355328) (_hS : ∀ b, S b → b < w.heap.size) (hv : JAt w S (.mk k n t names list) v) :
    Calls Tryd.prog 55 #[v] w fun e w' => e = .returned (.bool (fineP (.mk k n t names list))) ∧ w.grownBy w' none := by
  subst hk
  obtain ⟨nv, lv, rfl, hN, hL⟩ := hv.parts
  obtain ⟨A, c, rfl, hc, hA⟩ := hN
  obtain ⟨A', c', b', o', V', rfl, hc', hA', hcl', hrc'⟩ := hL
  clear hA' hcl' hrc' hA hv
  have J0 := JB.new w (.int .i64 3) (.int .i64 n) (.string t) (.slice A names.length c) (.slice A' list.length c')
  obtain ⟨d0, d1, d2, d3, d4, df⟩ := J0.all
  have hg1 : w.grownBy (w.alloc (.cells #[.int .i64 3, .int .i64 n, .string t, .slice A names.length c, .slice A' list.length c'] 26)) none := gb_alloc (gb_refl w none) _
  go_enter Tryd.func55, Tryd.ntmps55
  go_wp2_with fail
  all_goals go_ret
  all_goals first
    | refine ⟨?_, gb_trans (gb_alloc (gb_refl w none) _) (by assumption)⟩
    | refine ⟨?_, gb_alloc (gb_refl w none) _⟩
  all_goals
    have hz := toList_nil t
    rw [fineP]
    first
      | (simp_all; done)
      | (cases list <;> simp_all; done)
      | (cases names <;> cases list <;> simp_all <;> omega; done)
set_option maxRecDepth 100000 in
set_option maxHeartbeats 3200000 in
theorem fine_k4 (k n : Int) (t : ByteArray) (names : List ByteArray) (list : List J) (hk : k = 4) (S : Nat → Prop) (v : Value) (w : World) (_hnl : names.length ≤ 140737488355328) (_hll : list.length ≤ 140737488355328) (_hS : ∀ b, S b → b < w.heap.size) (hv : JAt w S (.mk k n t names list) v) :
    Calls Tryd.prog 55 #[v] w fun e w' => e = .returned (.bool (fineP (.mk k n t names list))) ∧ w.grownBy w' none := by
  subst hk
  obtain ⟨nv, lv, rfl, hN, hL⟩ := hv.parts
  obtain ⟨A, c, rfl, hc, hA⟩ := hN
  obtain ⟨A', c', b', o', V', rfl, hc', hA', hcl', hrc'⟩ := hL
  clear hA' hcl' hrc' hA hv
  have J0 := JB.new w (.int .i64 4) (.int .i64 n) (.string t) (.slice A names.length c) (.slice A' list.length c')
  obtain ⟨d0, d1, d2, d3, d4, df⟩ := J0.all
  have hg1 : w.grownBy (w.alloc (.cells #[.int .i64 4, .int .i64 n, .string t, .slice A names.length c, .slice A' list.length c'] 26)) none := gb_alloc (gb_refl w none) _
  go_enter Tryd.func55, Tryd.ntmps55
  go_wp2_with fail
  all_goals go_ret
  all_goals first
    | refine ⟨?_, gb_trans (gb_alloc (gb_refl w none) _) (by assumption)⟩
    | refine ⟨?_, gb_alloc (gb_refl w none) _⟩
  all_goals
    have hz := toList_nil t
    rw [fineP]
    first
      | (simp_all; done)
      | (cases list <;> simp_all; done)
      | (cases names <;> cases list <;> simp_all <;> omega; done)
set_option maxRecDepth 100000 in
set_option maxHeartbeats 3200000 in
theorem fine_k5 (k n : Int) (t : ByteArray) (names : List ByteArray) (list : List J) (hk : k = 5) (S : Nat → Prop) (v : Value) (w : World) (_hnl : names.length ≤ 140737488355328) (hll : list.length ≤ 140737488355328) (hS : ∀ b, S b → b < w.heap.size) (hv : JAt w S (.mk k n t names list) v) (ih : ∀ j ∈ list, FineC j) :
    Calls Tryd.prog 55 #[v] w fun e w' => e = .returned (.bool (fineP (.mk k n t names list))) ∧ w.grownBy w' none := by
  subst hk
  obtain ⟨nv, lv, rfl, hN, hL⟩ := hv.parts
  have HC := fun (W : World) (hgW : w.grownBy W none) => Lib.hid (has_fine list (fun x => !fineP x) S lv W (fun b hb => Nat.lt_of_lt_of_le (hS b hb) hgW.size) hll
    (hL.keep (fun b hb => hgW.block b (hS b hb) (by simp)) (fun _ => id))
    (fun i hi X x hgX hx => fine1_any (ih list[i] (List.getElem_mem hi)) S x X (fun b hb => Nat.lt_of_lt_of_le (hS b hb) (gb_trans hgW hgX).size) hx))
  have hF : Hid (finePs list = !list.any (fun x => !fineP x)) := by
    unfold Hid
    cases h : finePs list with
    | true =>
      have : list.any (fun x => !fineP x) = false := by
        rw [List.any_eq_false]
        intro x hx; rw [finePs_mem h x hx]; simp
      rw [this]; rfl
    | false =>
      cases h2 : list.any (fun x => !fineP x) with
      | true => rfl
      | false =>
        rw [List.any_eq_false] at h2
        have : finePs list = true := finePs_of fun x hx => by have := h2 x hx; simpa using this
        rw [this] at h; cases h
  clear ih _hnl hll
  generalize list.any (fun x => !fineP x) = y at *
  obtain ⟨A, c, rfl, hc, hA⟩ := hN
  obtain ⟨A', c', b', o', V', rfl, hc', hA', hcl', hrc'⟩ := hL
  clear hA' hcl' hrc' hA hv
  have J0 := JB.new w (.int .i64 5) (.int .i64 n) (.string t) (.slice A names.length c) (.slice A' list.length c')
  obtain ⟨d0, d1, d2, d3, d4, df⟩ := J0.all
  have hg1 : w.grownBy (w.alloc (.cells #[.int .i64 5, .int .i64 n, .string t, .slice A names.length c, .slice A' list.length c'] 26)) none := gb_alloc (gb_refl w none) _
  go_enter Tryd.func55, Tryd.ntmps55
  go_wp2_with (first
    | (go_at_call 99; refine ((HC _ (gb_alloc (gb_refl w none) _)).out).mono ?_; rintro e w4 ⟨rfl, hg4⟩))
  all_goals go_ret
  all_goals first
    | refine ⟨?_, gb_trans (gb_alloc (gb_refl w none) _) (by assumption)⟩
    | refine ⟨?_, gb_alloc (gb_refl w none) _⟩
  all_goals
    have hz := toList_nil t
    rw [fineP]
    have hF' := hF.out
    first
      | (simp_all; done)
      | (cases list <;> simp_all; done)
      | (cases names <;> cases list <;> simp_all <;> omega; done)
set_option maxRecDepth 100000 in
set_option maxHeartbeats 3200000 in
theorem fine_k6 (k n : Int) (t : ByteArray) (names : List ByteArray) (list : List J) (hk : k = 6) (S : Nat → Prop) (v : Value) (w : World) (_hnl : names.length ≤ 140737488355328) (hll : list.length ≤ 140737488355328) (hS : ∀ b, S b → b < w.heap.size) (hv : JAt w S (.mk k n t names list) v) (ih : ∀ j ∈ list, FineC j) :
    Calls Tryd.prog 55 #[v] w fun e w' => e = .returned (.bool (fineP (.mk k n t names list))) ∧ w.grownBy w' none := by
  subst hk
  obtain ⟨nv, lv, rfl, hN, hL⟩ := hv.parts
  have HC := fun (W : World) (hgW : w.grownBy W none) => Lib.hid (has_fine list (fun x => !fineP x) S lv W (fun b hb => Nat.lt_of_lt_of_le (hS b hb) hgW.size) hll
    (hL.keep (fun b hb => hgW.block b (hS b hb) (by simp)) (fun _ => id))
    (fun i hi X x hgX hx => fine1_any (ih list[i] (List.getElem_mem hi)) S x X (fun b hb => Nat.lt_of_lt_of_le (hS b hb) (gb_trans hgW hgX).size) hx))
  have hF : Hid (finePs list = !list.any (fun x => !fineP x)) := by
    unfold Hid
    cases h : finePs list with
    | true =>
      have : list.any (fun x => !fineP x) = false := by
        rw [List.any_eq_false]
        intro x hx; rw [finePs_mem h x hx]; simp
      rw [this]; rfl
    | false =>
      cases h2 : list.any (fun x => !fineP x) with
      | true => rfl
      | false =>
        rw [List.any_eq_false] at h2
        have : finePs list = true := finePs_of fun x hx => by have := h2 x hx; simpa using this
        rw [this] at h; cases h
  clear ih _hnl hll
  generalize list.any (fun x => !fineP x) = y at *
  obtain ⟨A, c, rfl, hc, hA⟩ := hN
  obtain ⟨A', c', b', o', V', rfl, hc', hA', hcl', hrc'⟩ := hL
  clear hA' hcl' hrc' hA hv
  have J0 := JB.new w (.int .i64 6) (.int .i64 n) (.string t) (.slice A names.length c) (.slice A' list.length c')
  obtain ⟨d0, d1, d2, d3, d4, df⟩ := J0.all
  have hg1 : w.grownBy (w.alloc (.cells #[.int .i64 6, .int .i64 n, .string t, .slice A names.length c, .slice A' list.length c'] 26)) none := gb_alloc (gb_refl w none) _
  go_enter Tryd.func55, Tryd.ntmps55
  go_wp2_with (first
    | (go_at_call 99; refine ((HC _ (gb_alloc (gb_refl w none) _)).out).mono ?_; rintro e w4 ⟨rfl, hg4⟩))
  all_goals go_ret
  all_goals first
    | refine ⟨?_, gb_trans (gb_alloc (gb_refl w none) _) (by assumption)⟩
    | refine ⟨?_, gb_alloc (gb_refl w none) _⟩
  all_goals
    have hz := toList_nil t
    rw [fineP]
    have hF' := hF.out
    have hz2 : t.toList = [] ↔ t.size = 0 := by
      constructor
      · intro e; have := ba_len t; rw [e] at this; exact this.symm
      · intro e; exact List.eq_nil_of_length_eq_zero ((ba_len t).trans e)
    clear hz
    by_cases hN : n = 0
    · by_cases hT : t.size = 0
      · by_cases hE : names.length = list.length
        · rw [if_neg (by decide), if_neg (by decide), if_neg (by decide), if_neg (by decide), if_neg (by decide), if_pos rfl, decide_eq_true hN, decide_eq_true hT, decide_eq_true hE, hF']
          first
            | rfl
            | (exfalso; omega)
            | (exfalso; have hM : names = [] := by assumption
               have := congrArg List.length hM
               simp only [List.length_nil] at this
               omega)
            | (exfalso; exact absurd (hz2.2 hT) (by assumption))
        · rw [if_neg (by decide), if_neg (by decide), if_neg (by decide), if_neg (by decide), if_neg (by decide), if_pos rfl, decide_eq_true hN, decide_eq_true hT, decide_eq_false hE]
          first
            | rfl
            | (exfalso; omega)
            | (exfalso; have hM : names = [] := by assumption
               have := congrArg List.length hM
               simp only [List.length_nil] at this
               omega)
      · rw [if_neg (by decide), if_neg (by decide), if_neg (by decide), if_neg (by decide), if_neg (by decide), if_pos rfl, decide_eq_true hN, decide_eq_false hT]
        first
          | rfl
          | (exfalso; exact absurd (hz2.1 (by assumption)) hT)
    · rw [if_neg (by decide), if_neg (by decide), if_neg (by decide), if_neg (by decide), if_neg (by decide), if_pos rfl, decide_eq_false hN]
      first
        | rfl
        | (exfalso; exact absurd (by assumption) hN)
set_option maxRecDepth 100000 in
set_option maxHeartbeats 3200000 in
theorem fine_k0 (k n : Int) (t : ByteArray) (names : List ByteArray) (list : List J) (hk : k ≠ 1 ∧ k ≠ 2 ∧ k ≠ 3 ∧ k ≠ 4 ∧ k ≠ 5 ∧ k ≠ 6) (S : Nat → Prop) (v : Value) (w : World) (_hnl : names.length ≤ 140737488355328) (_hll : list.length ≤ 140737488355328) (_hS : ∀ b, S b → b < w.heap.size) (hv : JAt w S (.mk k n t names list) v) :
    Calls Tryd.prog 55 #[v] w fun e w' => e = .returned (.bool (fineP (.mk k n t names list))) ∧ w.grownBy w' none := by
  obtain ⟨nv, lv, rfl, hN, hL⟩ := hv.parts
  obtain ⟨A, c, rfl, hc, hA⟩ := hN
  obtain ⟨A', c', b', o', V', rfl, hc', hA', hcl', hrc'⟩ := hL
  clear hA' hcl' hrc' hA hv
  have J0 := JB.new w (.int .i64 k) (.int .i64 n) (.string t) (.slice A names.length c) (.slice A' list.length c')
  obtain ⟨d0, d1, d2, d3, d4, df⟩ := J0.all
  have hg1 : w.grownBy (w.alloc (.cells #[.int .i64 k, .int .i64 n, .string t, .slice A names.length c, .slice A' list.length c'] 26)) none := gb_alloc (gb_refl w none) _
  obtain ⟨k1, k2, k3, k4, k5, k6⟩ := hk
  go_enter Tryd.func55, Tryd.ntmps55
  go_wp2_with fail
  all_goals go_ret
  all_goals first
    | refine ⟨?_, gb_trans (gb_alloc (gb_refl w none) _) (by assumption)⟩
    | refine ⟨?_, gb_alloc (gb_refl w none) _⟩
  all_goals
    have hz := toList_nil t
    rw [fineP]
    first
      | (simp_all; done)
      | (cases list <;> simp_all; done)
      | (cases names <;> cases list <;> simp_all <;> omega; done)
theorem fine_any {j : J} (hj : JBd j) : FineC j := by
  induction hj with
  | @mk k n t names list h0 h1 ht hnl hll hs hr ih =>
    intro S v w hS hv
    by_cases k1 : k = 1
    · exact fine_k1 k n t names list k1 S v w hnl hll hS hv
    by_cases k2 : k = 2
    · exact fine_k2 k n t names list k2 S v w hnl hll hS hv
    by_cases k3 : k = 3
    · exact fine_k3 k n t names list k3 S v w hnl hll hS hv
    by_cases k4 : k = 4
    · exact fine_k4 k n t names list k4 S v w hnl hll hS hv
    by_cases k5 : k = 5
    · exact fine_k5 k n t names list k5 S v w hnl hll hS hv ih
    by_cases k6 : k = 6
    · exact fine_k6 k n t names list k6 S v w hnl hll hS hv ih
    exact fine_k0 k n t names list ⟨k1, k2, k3, k4, k5, k6⟩ S v w hnl hll hS hv
end Go.Proofs.YtnnhkajjifmlfaaDoor
