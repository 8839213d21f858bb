/- Lists compared part by part; span.Same; adjust.Same. -/
import Derived.Test.YtcmepallgchcjaaGreatC3
namespace Go.Proofs.YtcmepallgchcjaaGreat
open Go.RowKit

/-- lists compared part by part -/
def eqBy {α : Type} (f : α → α → Bool) : List α → List α → Bool
  | [], [] => true
  | [], _ :: _ => false
  | _ :: _, [] => false
  | a :: r, b :: s => f a b && eqBy f r s
section
variable {α : Type} {f : α → α → Bool}
theorem eqBy_len : ∀ {l m : List α}, eqBy f l m = true → l.length = m.length
  | [], [], _ => rfl
  | [], _ :: _, h => by rw [eqBy] at h; cases h
  | _ :: _, [], h => by rw [eqBy] at h; cases h
  | a :: r, b :: s, h => by
    rw [eqBy, Bool.and_eq_true] at h
    simp [eqBy_len h.2]
theorem eqBy_ne {l m : List α} (h : l.length ≠ m.length) : eqBy f l m = false := by
  cases hq : eqBy f l m
  · rfl
  · exact absurd (eqBy_len hq) h
theorem eqBy_at : ∀ {l m : List α} (q : Nat) (h1 : q < l.length) (h2 : q < m.length), f l[q] m[q] = false → eqBy f l m = false
  | [], _, q, h1, _, _ => absurd h1 (Nat.not_lt_zero q)
  | _ :: _, [], q, _, h2, _ => absurd h2 (Nat.not_lt_zero q)
  | a :: r, b :: s, 0, _, _, h => by
    rw [eqBy]
    have : f a b = false := h
    rw [this]; rfl
  | a :: r, b :: s, q + 1, h1, h2, h => by
    rw [eqBy, eqBy_at (l := r) (m := s) q (by simpa using h1) (by simpa using h2) (by simpa using h)]
    simp
theorem eqBy_take : ∀ (l m : List α) (q : Nat) (h1 : q < l.length) (h2 : q < m.length), eqBy f (l.take (q + 1)) (m.take (q + 1)) = (eqBy f (l.take q) (m.take q) && f l[q] m[q])
  | a :: r, b :: s, 0, _, _ => by simp [eqBy]
  | a :: r, b :: s, q + 1, h1, h2 => by
    have := eqBy_take r s q (by simpa using h1) (by simpa using h2)
    simp only [List.take_succ_cons, List.getElem_cons_succ]
    rw [eqBy, eqBy, this, Bool.and_assoc]
theorem eqBy_iff (h : ∀ a b, f a b = true ↔ a = b) : ∀ {l m : List α}, eqBy f l m = true ↔ l = m
  | [], [] => by simp [eqBy]
  | [], _ :: _ => by simp [eqBy]
  | _ :: _, [] => by simp [eqBy]
  | a :: r, b :: s => by rw [eqBy, Bool.and_eq_true, h, eqBy_iff h, List.cons.injEq]
end
def eqSp (a b : Sp) : Bool := spC a b == 0
set_option maxRecDepth 100000 in
set_option maxHeartbeats 1600000 in
theorem spanSame_any (a b : Sp) (S : Nat → Prop) (u v : Value) (w : World) (hl : a.tags.length ≤ 140737488355328) (hm : b.tags.length ≤ 140737488355328) (hu : TAt w S a.tags u) (hv : TAt w S b.tags v) :
    Calls Tryz.prog 78 #[spV a u, spV b v] w fun e w' => e = .returned (.bool (eqSp a b)) ∧ w.grownBy w' none := by
  have hE : Hid (eqSp a b = (spC a b == 0)) := rfl
  have HC := fun (W : World) (hg : w.grownBy W none) => Lib.hid (compare_any a b S u v W hl hm (hu.grown hg) (hv.grown hg))
  generalize spC a b = r at *
  generalize eqSp a b = x at *
  have hgw : w.grownBy ((w.alloc (spO a u)).alloc (spO b v)) none := gb_alloc (gb_alloc (gb_refl w none) _) _
  clear hu hv hl hm
  go_enter Tryz.func78, Tryz.ntmps78
  go_wp2_with (first | (go_at_call 113; refine ((HC _ (by exact hgw)).out).mono ?_; rintro e w2 ⟨rfl, hg2⟩))
  go_ret
  exact ⟨by rw [hE.out]; rfl, gb_trans hgw hg2⟩
structure Ad where
  sp : Sp
  up : Int
  shift : Int
  flag : Int
def eqAd (a b : Ad) : Bool := eqSp a.sp b.sp && (a.up == b.up) && (a.shift == b.shift) && (a.flag == b.flag)
theorem eqSp_iff (a b : Sp) : eqSp a b = true ↔ a = b := by unfold eqSp; rw [beq_iff_eq]; exact spC_zero
theorem eqAd_iff (a b : Ad) : eqAd a b = true ↔ a = b := by
  obtain ⟨a1, a2, a3, a4⟩ := a
  obtain ⟨b1, b2, b3, b4⟩ := b
  unfold eqAd
  simp only [Bool.and_eq_true, eqSp_iff, beq_iff_eq, Ad.mk.injEq]
  exact ⟨fun h => ⟨h.1.1.1, h.1.1.2, h.1.2, h.2⟩, fun h => ⟨⟨⟨h.1, h.2.1⟩, h.2.2.1⟩, h.2.2.2⟩⟩
abbrev adV (a : Ad) (t : Value) : Value := .agg #[.int .u64 a.sp.hi, .int .u64 a.sp.lo, .int .u64 a.sp.id, .int .u64 a.sp.parent, .string a.sp.service, .string a.sp.name, .int .i64 a.sp.kind, .int .i64 a.sp.start, .int .i64 a.sp.length, .bool a.sp.fails, t, .int .u64 a.up, .int .i64 a.shift, .int .i64 a.flag]
abbrev adO (a : Ad) (t : Value) : Obj := .cells #[.int .u64 a.sp.hi, .int .u64 a.sp.lo, .int .u64 a.sp.id, .int .u64 a.sp.parent, .string a.sp.service, .string a.sp.name, .int .i64 a.sp.kind, .int .i64 a.sp.start, .int .i64 a.sp.length, .bool a.sp.fails, t, .int .u64 a.up, .int .i64 a.shift, .int .i64 a.flag] 45
set_option maxRecDepth 100000 in
set_option maxHeartbeats 3200000 in
theorem adSame_any (a b : Ad) (S : Nat → Prop) (u v : Value) (w : World) (hl : a.sp.tags.length ≤ 140737488355328) (hm : b.sp.tags.length ≤ 140737488355328) (hu : TAt w S a.sp.tags u) (hv : TAt w S b.sp.tags v) :
    Calls Tryz.prog 77 #[adV a u, adV b v] w fun e w' => e = .returned (.bool (eqAd a b)) ∧ w.grownBy w' none := by
  have hE : Hid (eqAd a b = (eqSp a.sp b.sp && (a.up == b.up) && (a.shift == b.shift) && (a.flag == b.flag))) := rfl
  have HC := fun (W : World) (hg : w.grownBy W none) => Lib.hid (spanSame_any a.sp b.sp S u v W hl hm (hu.grown hg) (hv.grown hg))
  have e0 := heap_alloc_new w (adO a u)
  have e1 := heap_alloc_new (w.alloc (adO a u)) (adO b v)
  have hgw : w.grownBy ((w.alloc (adO a u)).alloc (adO b v)) none := gb_alloc (gb_alloc (gb_refl w none) _) _
  have e0' := (Below.heap_alloc (w.alloc (adO a u)) (adO b v) w.heap.size (by simp)).trans e0
  rw [show (w.alloc (adO a u)).heap.size = w.heap.size + 1 from by simp] at e1
  generalize eqSp a.sp b.sp = x at *
  generalize eqAd a b = z at *
  clear hu hv hl hm e0
  obtain ⟨⟨a1, a2, a3, a4, a5, a6, a7, a8, a9, a10, a11⟩, au, ah, af⟩ := a
  obtain ⟨⟨b1, b2, b3, b4, b5, b6, b7, b8, b9, b10, b11⟩, bu, bh, bf⟩ := b
  unfold adO at e1 e0' hgw
  simp only at e1 e0' hgw HC hE
  show Calls Tryz.prog 77 #[.agg #[.int .u64 a1, .int .u64 a2, .int .u64 a3, .int .u64 a4, .string a5, .string a6, .int .i64 a7, .int .i64 a8, .int .i64 a9, .bool a10, u, .int .u64 au, .int .i64 ah, .int .i64 af], .agg #[.int .u64 b1, .int .u64 b2, .int .u64 b3, .int .u64 b4, .string b5, .string b6, .int .i64 b7, .int .i64 b8, .int .i64 b9, .bool b10, v, .int .u64 bu, .int .i64 bh, .int .i64 bf]] w _
  have FA : ∀ (W : World) (_ : ((w.alloc (.cells #[.int .u64 a1, .int .u64 a2, .int .u64 a3, .int .u64 a4, .string a5, .string a6, .int .i64 a7, .int .i64 a8, .int .i64 a9, .bool a10, u, .int .u64 au, .int .i64 ah, .int .i64 af] 45)).alloc (.cells #[.int .u64 b1, .int .u64 b2, .int .u64 b3, .int .u64 b4, .string b5, .string b6, .int .i64 b7, .int .i64 b8, .int .i64 b9, .bool b10, v, .int .u64 bu, .int .i64 bh, .int .i64 bf] 45)).grownBy W none), W.cell? ⟨w.heap.size, 11, none⟩ = some (.int .u64 au) ∧ W.cell? ⟨w.heap.size, 12, none⟩ = some (.int .i64 ah) ∧ W.cell? ⟨w.heap.size, 13, none⟩ = some (.int .i64 af) := fun W hg => ⟨cell_grown (by rw [cell_of_row _ _ _ _ _ _ e0']; rfl) hg (by simp), cell_grown (by rw [cell_of_row _ _ _ _ _ _ e0']; rfl) hg (by simp), cell_grown (by rw [cell_of_row _ _ _ _ _ _ e0']; rfl) hg (by simp)⟩
  have FB : ∀ (W : World) (_ : ((w.alloc (.cells #[.int .u64 a1, .int .u64 a2, .int .u64 a3, .int .u64 a4, .string a5, .string a6, .int .i64 a7, .int .i64 a8, .int .i64 a9, .bool a10, u, .int .u64 au, .int .i64 ah, .int .i64 af] 45)).alloc (.cells #[.int .u64 b1, .int .u64 b2, .int .u64 b3, .int .u64 b4, .string b5, .string b6, .int .i64 b7, .int .i64 b8, .int .i64 b9, .bool b10, v, .int .u64 bu, .int .i64 bh, .int .i64 bf] 45)).grownBy W none), W.cell? ⟨w.heap.size + 1, 11, none⟩ = some (.int .u64 bu) ∧ W.cell? ⟨w.heap.size + 1, 12, none⟩ = some (.int .i64 bh) ∧ W.cell? ⟨w.heap.size + 1, 13, none⟩ = some (.int .i64 bf) := fun W hg => ⟨cell_grown (by rw [cell_of_row _ _ _ _ _ _ e1]; rfl) hg (by simp), cell_grown (by rw [cell_of_row _ _ _ _ _ _ e1]; rfl) hg (by simp), cell_grown (by rw [cell_of_row _ _ _ _ _ _ e1]; rfl) hg (by simp)⟩
  go_enter Tryz.func77, Tryz.ntmps77
  cases x with
  | false =>
    go_wp2_with (first | (go_at_call 78; refine ((HC _ (by exact hgw)).out).mono ?_; rintro e w2 ⟨rfl, hg2⟩))
    go_ret
    exact ⟨by rw [hE.out]; rfl, gb_trans hgw hg2⟩
  | true =>
    by_cases h1 : au = bu
    · subst h1
      by_cases h2 : ah = bh
      · subst h2
        go_wp2_with (first | (go_at_call 78; refine ((HC _ (by exact hgw)).out).mono ?_; rintro e w2 ⟨rfl, hg2⟩; obtain ⟨g0, g1, g2⟩ := FA _ hg2; obtain ⟨k0, k1, k2⟩ := FB _ hg2))
        go_ret
        exact ⟨by rw [hE.out]; simp, gb_trans hgw hg2⟩
      · go_wp2_with (first | (go_at_call 78; refine ((HC _ (by exact hgw)).out).mono ?_; rintro e w2 ⟨rfl, hg2⟩; obtain ⟨g0, g1, g2⟩ := FA _ hg2; obtain ⟨k0, k1, k2⟩ := FB _ hg2))
        go_ret
        exact ⟨by rw [hE.out]; simp [h2], gb_trans hgw hg2⟩
    · go_wp2_with (first | (go_at_call 78; refine ((HC _ (by exact hgw)).out).mono ?_; rintro e w2 ⟨rfl, hg2⟩; obtain ⟨g0, g1, g2⟩ := FA _ hg2; obtain ⟨k0, k1, k2⟩ := FB _ hg2))
      go_ret
      exact ⟨by rw [hE.out]; simp [h1], gb_trans hgw hg2⟩
end Go.Proofs.YtcmepallgchcjaaGreat
