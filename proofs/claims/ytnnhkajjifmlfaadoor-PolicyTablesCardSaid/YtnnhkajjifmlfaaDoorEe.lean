/- Policies: does a node hold of one of the spans (slices.ContainsFunc over adjusted spans): the walks; the askers (policy.asks). -/
import Derived.Test.YtnnhkajjifmlfaaDoorEd
namespace Go.Proofs.YtnnhkajjifmlfaaDoor.Pl
open Go.RowKit Go.Maps

/-- the place of the first that is so, from i on; -1: none -/
def adFrom (p : Ad → Bool) : List Ad → Nat → Int
  | [], _ => -1
  | x :: l, i => if p x then (i : Int) else adFrom p l (i + 1)
theorem ad_any (p : Ad → Bool) : ∀ (l : List Ad) (i : Nat), decide (0 ≤ adFrom p l i) = l.any p
  | [], i => by rfl
  | x :: l, i => by
    unfold adFrom
    rw [List.any_cons]
    cases p x with
    | true => simp
    | false => simp only [Bool.false_eq_true, if_false, Bool.false_or]; exact ad_any p l (i + 1)
theorem ad_at (p : Ad → Bool) (l : List Ad) (q : Nat) (h : q < l.length) : adFrom p (l.drop q) q = if p l[q] then (q : Int) else adFrom p (l.drop (q + 1)) (q + 1) := by
  rw [List.drop_eq_getElem_cons h]; rfl
set_option maxRecDepth 100000 in
set_option maxHeartbeats 3200000 in
theorem index_80 (x : PN) (l : List Ad) (v : Value) (Q L g : Nat) (w : World) (hl : l.length ≤ 140737488355328) (hb : ABd l) (h : AAt w l v) (hK : KB w Q L g x) (hk : 2 ≤ x.k ∧ x.k ≤ 5) :
    Calls Tryd.prog 127 #[v, .func (.func 80) #[] #[.pointer (some ⟨Q, 0, none⟩), .pointer (some ⟨L, 0, none⟩)]] w fun e w' => e = .returned (.int .i64 (adFrom (fun a => askN x a.sp) l 0)) ∧ w.grownBy w' none := by
  have hAA := h
  obtain ⟨A, c, b, o, T, rfl, hA, hcl⟩ := h
  have hl' := Lib.hid hl
  go_enter Tryd.func127, Tryd.ntmps127
  clear hl
  go_wp2_with fail
  go_loopg [8] l.length (fun z u8 wr => ∃ q : Nat, q ≤ l.length ∧ z = l.length - q ∧ u8 = .int .i64 q ∧ Hid (adFrom (fun a => askN x a.sp) l 0 = adFrom (fun a => askN x a.sp) (l.drop q) q) ∧ w.grownBy wr none)
  case atStart => exact ⟨0, Nat.zero_le _, rfl, rfl, rfl, gb_refl _ _⟩
  case round =>
    obtain ⟨q, hq, rfl, rfl, hno, hg⟩ := hrel
    by_cases hlt : q < l.length
    · have hA' := hA (by omega)
      subst hA'
      have hqi : (q : Int) < (l.length : Int) := by omega
      obtain ⟨⟨A1, n1, k1, hTe⟩, hTT, q0, q1, q2, q3, q4, q5, q6, q7, q8, q9, q10, q11, q12, q13⟩ := hcl q hlt
      have hP := Lib.hid (holds1_any x l[q] (T q) Q L g wr (hK.grown hg) (hb _ (List.getElem_mem hlt)) (hTT.grown hg) hk)
      rw [hTe] at q10 hP
      have q0 := cell_grown q0 hg (by simp)
      have q1 := cell_grown q1 hg (by simp)
      have q2 := cell_grown q2 hg (by simp)
      have q3 := cell_grown q3 hg (by simp)
      have q4 := cell_grown q4 hg (by simp)
      have q5 := cell_grown q5 hg (by simp)
      have q6 := cell_grown q6 hg (by simp)
      have q7 := cell_grown q7 hg (by simp)
      have q8 := cell_grown q8 hg (by simp)
      have q9 := cell_grown q9 hg (by simp)
      have q10 := cell_grown q10 hg (by simp)
      have q11 := cell_grown q11 hg (by simp)
      have q12 := cell_grown q12 hg (by simp)
      have q13 := cell_grown q13 hg (by simp)
      have hq1' := Lib.hid (show wrap64 ((q : Int) + 1) = ((q + 1 : Nat) : Int) from (wrap64_id (by omega) (by have := hl'.out; omega)).trans (by omega))
      have hst := Lib.hid (ad_at (fun a => askN x a.sp) l q hlt)
      clear hcl hTT hTe hK hAA hA
      have hst' : Hid (adFrom (fun a => askN x a.sp) (l.drop q) q = if askN x l[q].sp then (q : Int) else adFrom (fun a => askN x a.sp) (l.drop (q + 1)) (q + 1)) := hst.out
      clear hst
      generalize askN x l[q].sp = y at *
      generalize l[q] = xx at *
      cases y with
      | true =>
        go_wp2_with (first
          | (go_at_call 80; refine (hP.out).mono ?_; rintro e w4 ⟨rfl, hg4⟩))
        go_ret
        exact ⟨by rw [hno.out, hst'.out]; rfl, gb_trans hg hg4⟩
      | false =>
        go_wp2_with (first
          | (go_at_call 80; refine (hP.out).mono ?_; rintro e w4 ⟨rfl, hg4⟩))
        go_roundg (l.length - (q + 1))
        case measure => omega
        case rel => exact ⟨q + 1, hlt, rfl, by first | rw [hq1'.out] | go_num, by unfold Hid; rw [hno.out, hst'.out]; rfl, gb_trans hg hg4⟩
    · obtain rfl : q = l.length := by omega
      have hfin : Hid (adFrom (fun a => askN x a.sp) l 0 = -1) := by unfold Hid; rw [hno.out, List.drop_length]; rfl
      clear hno hA hcl hK hAA
      go_wp2_with fail
      go_ret
      exact ⟨by rw [hfin.out]; rfl, hg⟩
theorem contains_80 (x : PN) (l : List Ad) (v : Value) (Q L g : Nat) (w : World) (hl : l.length ≤ 140737488355328) (hb : ABd l) (h : AAt w l v) (hK : KB w Q L g x) (hk : 2 ≤ x.k ∧ x.k ≤ 5) :
    Calls Tryd.prog 79 #[v, .func (.func 80) #[] #[.pointer (some ⟨Q, 0, none⟩), .pointer (some ⟨L, 0, none⟩)]] w fun e w' => e = .returned (.bool (l.any fun a => askN x a.sp)) ∧ w.grownBy w' none := by
  have hI := Lib.hid (index_80 x l v Q L g w hl hb h hK hk)
  rw [← ad_any (fun a => askN x a.sp) l 0]
  generalize adFrom (fun a => askN x a.sp) l 0 = j at *
  clear hK h hb
  go_enter Tryd.func79, Tryd.ntmps79
  go_wp2_with (first
    | (go_at_call 127; refine (hI.out).mono ?_; rintro e w4 ⟨rfl, hg4⟩))
  go_ret
  exact ⟨rfl, hg4⟩
abbrev askV (f : Nat) : Value := .func (.func f) #[] #[]
abbrev askO : Obj := .cells #[.nilFunc, .nilFunc, askV 121, askV 122, askV 123, askV 124, .nilFunc, .nilFunc, .nilFunc, .nilFunc] 117
theorem asks_any (w : World) : Calls Tryd.prog 77 #[] w fun e w' => e = .returned (.slice (some ⟨w.heap.size, 0, none⟩) 10 10) ∧ w' = w.alloc askO := by
  go_enter Tryd.func77, Tryd.ntmps77
  go_wp2_with fail
  go_ret
  exact ⟨rfl, rfl⟩
end Go.Proofs.YtnnhkajjifmlfaaDoor.Pl
