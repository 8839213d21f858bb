/- Policies, the document's reader: the next token, whole. -/
import Derived.Test.YtnnhkajjifmlfaaDoorDd
import Derived.Test.YtnnhkajjifmlfaaDoorDe
import Derived.Test.YtnnhkajjifmlfaaDoorDg
namespace Go.Proofs.YtnnhkajjifmlfaaDoor.Pl
open Go.RowKit Go.Maps

theorem let_dig {c : Nat} (h : isDig c = true) : letB c = false := by
  unfold isDig at h
  unfold letB
  simp at h ⊢
  omega
/-- **the document's next** -/
theorem rnext_any (s : ByteArray) (p : Nat) (w : World) (hp : p ≤ s.size) (hs : s.size ≤ 2000000) : Calls Tryd.prog 112 #[.string s, .int .i64 p] w (TK s p w) := by
  rcases Nat.lt_or_ge (bsk s p) s.size with h1 | h1
  · cases h2 : inW (chr s (bsk s p)) with
    | true =>
      cases h3 : isDig (chr s (bsk s p)) with
      | true => exact rnext_num s p w hp hs h1 ⟨let_dig h3, h3⟩
      | false =>
        rw [inW_or, h3, Bool.or_false] at h2
        exact rnext_word s p w hp hs h1 ⟨h2, h3⟩
    | false =>
      by_cases h3 : chr s (bsk s p) = 34
      · exact rnext_quote s p w hp hs h1 h3
      · exact rnext_sign s p w hp hs h1 ⟨h2, h3⟩
  · exact rnext_end s p w hp hs h1
end Go.Proofs.YtnnhkajjifmlfaaDoor.Pl
/-! Policies, the document's reader: on to the next token: the walk. -/
namespace Go.Proofs.YtnnhkajjifmlfaaDoor.Pl
open Go.RowKit Go.Maps

theorem name_exit {E : Exit → Act → World → Prop} {x : Exit} {a : Act} {w : World} {p : World → Prop} (hp : p w) (h : ∀ W, p W → E x a W) : E x a w := h w hp
set_option maxRecDepth 100000 in
set_option maxHeartbeats 6400000 in
theorem on_any (R : Nat) (s : ByteArray) (ρ : RQ) (nv : Value) (w : World) (h : RB w R s ρ nv) (hp : ρ.p ≤ s.size) (hs : s.size ≤ 2000000) :
    Calls Tryd.prog 67 #[.pointer (some ⟨R, 0, none⟩)] w (QS1 R s nv w (.tuple #[]) (onR s ρ)) := by
  have hN := fun W => Lib.hid (rnext_any s ρ.p W hp hs)
  have hT : Hid (onR s ρ = if (lexR s (bsk s ρ.p)).2.2.2 then onR1 s ρ else wrongR (bsk s ρ.p) (onR1 s ρ)) := rfl
  have hO : Hid (onR1 s ρ = { ρ with p := (lexR s (bsk s ρ.p)).2.2.1, k := (lexR s (bsk s ρ.p)).1, x := (lexR s (bsk s ρ.p)).2.1, ta := bsk s ρ.p }) := rfl
  unfold TK at hN
  generalize bsk s ρ.p = i at *
  obtain ⟨k, x, t, g, hL⟩ : ∃ k x t g, lexR s i = (k, x, t, g) := ⟨_, _, _, _, rfl⟩
  rw [hL] at hN hT hO
  simp only at hN hT hO
  clear hL
  have c0 := h.c0
  have c1 := h.c1
  go_enter Tryd.func67, Tryd.ntmps67
  have d0 := (h.alloc (.cells #[.int .i64 0, .string ⟨#[]⟩, .int .i64 0] 99)).c0
  have d1 := (h.alloc (.cells #[.int .i64 0, .string ⟨#[]⟩, .int .i64 0] 99)).c1
  go_wp2_with fail
  go_region_law (first
    | (go_simp; go_at_call 112; first
        | (refine ((hN (w.drew.alloc (.cells #[.int .i64 0, .string ⟨#[]⟩, .int .i64 0] 99))).out).mono ?_; rintro e w1 ⟨rfl, hg1⟩; have hR1 := ((h.drew).alloc _).kept hg1 (by simp); have hT1 : TB w1 w.heap.size 0 ⟨#[]⟩ 0 := (TB.new w.drew 0 ⟨#[]⟩ 0).kept hg1 (by simp); have t0 := hT1.c0; have t1 := hT1.c1; have t2 := hT1.c2; have u0 := hT1.f 0; have u1 := hT1.f 1; have u2 := hT1.f 2)
        | (refine ((hN w.drew).out).mono ?_; rintro e w1 ⟨rfl, hg1⟩; have hR1 := (h.drew).kept hg1 (by simp))))
  all_goals
    obtain ⟨T, hW⟩ : ∃ T, True := ⟨0, trivial⟩
    first
      | (refine name_exit (p := fun W => TB W w.heap.size k x i ∧ RB W R s ρ nv ∧ w.grownBy W none ∧ R < w.heap.size) ⟨((hT1.set0 k).set1 x).set2 i, ((hR1.far (q := ⟨w.heap.size, 0, none⟩) (Nat.ne_of_lt h.lt) _).far (q := ⟨w.heap.size, 1, none⟩) (Nat.ne_of_lt h.lt) _).far (q := ⟨w.heap.size, 2, none⟩) (Nat.ne_of_lt h.lt) _, gb_setN (gb_setN (gb_setN (gb_trans (gb_alloc (gb_drew (gb_refl w none)) _) hg1) (Nat.le_refl _) _ _) (Nat.le_refl _) _ _) (Nat.le_refl _) _ _, h.lt⟩ ?_; clear hT1 hR1 hg1 t0 t1 t2 u0 u1 u2 d0 d1; generalize w.heap.size = T at *)
      | (refine name_exit (p := fun W => TB W w1.heap.size k x i ∧ RB W R s ρ nv ∧ w.grownBy W none ∧ R < w1.heap.size) ⟨TB.new w1 k x i, hR1.alloc _, gb_alloc (gb_trans (gb_drew (gb_refl w none)) hg1) _, hR1.lt⟩ ?_; clear hR1 hg1 d0 d1; generalize w1.heap.size = T at *)
    rintro W ⟨hTk, hRk, hgk, hlt⟩
    have hne : ¬ R = T := by omega
    have hne2 : ¬ T = R := by omega
    clear hW c0 c1 hN h
    have b0 := hTk.c0
    have b1 := hTk.c1
    have b2 := hTk.c2
    have r1 := hRk.c1
    have r2 := hRk.c2
    have r3 := hRk.c3
    have r4 := hRk.c4
    have f1 := hRk.f 1
    have f2 := hRk.f 2
    have f3 := hRk.f 3
    have f4 := hRk.f 4
    have hgR : w.grownBy W (some R) := ⟨hgk.os, hgk.tape, hgk.output, hgk.size, fun j hj hne => hgk.block j hj (by simp)⟩
    have hRs := (((hRk.set1 t).set2 k).set3 x).set4 (i : Int)
    have hgs := gb_setR (gb_setR (gb_setR (gb_setR hgR 1 (.int .i64 t)) 2 (.int .i64 k)) 3 (.string x)) 4 (.int .i64 i)
    rw [← hO.out] at hRs
    have hWr := Lib.hid (wrong_any R s i (onR1 s ρ) nv _ hRs)
    clear hO
    cases g with
    | true =>
      have hT2 : Hid (onR s ρ = onR1 s ρ) := by unfold Hid; rw [hT.out]; rfl
      clear hT
      go_wp2_with fail
      go_end0
      exact ⟨rfl, by rw [hT2.out]; exact hRs, hgs⟩
    | false =>
      have hT2 : Hid (onR s ρ = wrongR i (onR1 s ρ)) := by unfold Hid; rw [hT.out]; rfl
      clear hT
      go_wp2_with (first
        | (go_at_call 69; refine (hWr.out).mono ?_; rintro e w5 ⟨rfl, hR5, hg5⟩))
      go_end0
      exact ⟨rfl, by rw [hT2.out]; exact hR5, gb_trans hgs hg5⟩
end Go.Proofs.YtnnhkajjifmlfaaDoor.Pl

/-! Policies, the document's reader: a quoted text, is a node too long: the walks. -/
namespace Go.Proofs.YtnnhkajjifmlfaaDoor.Pl
open Go.RowKit Go.Maps

set_option maxHeartbeats 1600000 in
theorem rquoted_any (R : Nat) (s : ByteArray) (ρ : RQ) (nv : Value) (w : World) (h : RB w R s ρ nv) (hp : ρ.p ≤ s.size) (hs : s.size ≤ 2000000) :
    Calls Tryd.prog 162 #[.pointer (some ⟨R, 0, none⟩)] w (QS1 R s nv w (.string (quotedR s ρ).1) (quotedR s ρ).2) := by
  have c2 := h.c2
  have c3 := h.c3
  have c4 := h.c4
  have hOn := Lib.hid (on_any R s ρ nv w h hp hs)
  have hWr := Lib.hid (wrong_any R s ρ.ta ρ nv w h)
  have hT : Hid (quotedR s ρ = if ρ.k = 4 then (ρ.x, onR s ρ) else (⟨#[]⟩, wrongR ρ.ta ρ)) := rfl
  go_enter Tryd.func162, Tryd.ntmps162
  by_cases hk : ρ.k = 4
  · have hkb : (ρ.k != 4) = false := by simp [hk]
    have hT2 : Hid (quotedR s ρ = (ρ.x, onR s ρ)) := by unfold Hid; rw [hT.out, if_pos hk]
    clear hk hT
    go_wp2_with (first
      | (go_at_call 67; refine (hOn.out).mono ?_; rintro e w1 ⟨rfl, hR, hg⟩))
    go_ret
    exact ⟨by rw [hT2.out]; rfl, by rw [hT2.out]; exact hR, hg⟩
  · have hkb : (ρ.k != 4) = true := by simpa using hk
    have hT2 : Hid (quotedR s ρ = (⟨#[]⟩, wrongR ρ.ta ρ)) := by unfold Hid; rw [hT.out, if_neg hk]
    clear hk hT
    go_wp2_with (first
      | (go_at_call 69; refine (hWr.out).mono ?_; rintro e w1 ⟨rfl, hR, hg⟩))
    go_ret
    exact ⟨by rw [hT2.out]; rfl, by rw [hT2.out]; exact hR, hg⟩
end Go.Proofs.YtnnhkajjifmlfaaDoor.Pl
