/- HTTP: the chapter's first examples (lives), walked. -/
import Derived.Test.YtdfgnoflohfnmaaGreatDoorHs
namespace Go.Proofs.YtdfgnoflohfnmaaGreatDoor.Hx
open Go.RowKit Go.Maps

def getB : Bs := [71, 69, 84, 32, 47, 97, 37, 50, 48, 98, 63, 120, 61, 49, 38, 121, 32, 72, 84, 84, 80, 47, 49, 46, 49, 13, 10, 13, 10]
def badB : Bs := [103, 101, 116, 32, 47, 32, 72, 84, 84, 80, 47, 49, 46, 49, 13, 10]
def getR : Rq := ⟨[71, 69, 84], [47, 97, 32, 98], [([120], [49]), ([121], [])], [], false⟩
theorem next_get : nextP getB = .req getR 29 := by kernel_rfl
theorem next_bad : nextP badB = .fault 400 := by kernel_rfl
theorem lit_bv (w : World) (bs : Bs) (C : Array Value) (fr : Nat × Nat) (h : C = (Lib.byteCells bs).toArray) : BV (w.alloc (.cells C 5 fr)) (.slice (some ⟨w.heap.size, 0, none⟩) bs.length bs.length) bs := by
  subst h
  refine ⟨_, _, rfl, Nat.le_refl _, fun _ => ⟨_, 0, rfl, fun i hi => ?_⟩⟩
  rw [cell_of_row _ _ _ _ _ _ (heap_alloc_new w _)]
  simp [Lib.byteCells, hi]
abbrev getC : Array Value := #[.int .u8 71, .int .u8 69, .int .u8 84, .int .u8 32, .int .u8 47, .int .u8 97, .int .u8 37, .int .u8 50, .int .u8 48, .int .u8 98, .int .u8 63, .int .u8 120, .int .u8 61, .int .u8 49, .int .u8 38, .int .u8 121, .int .u8 32, .int .u8 72, .int .u8 84, .int .u8 84, .int .u8 80, .int .u8 47, .int .u8 49, .int .u8 46, .int .u8 49, .int .u8 13, .int .u8 10, .int .u8 13, .int .u8 10]
abbrev badC : Array Value := #[.int .u8 103, .int .u8 101, .int .u8 116, .int .u8 32, .int .u8 47, .int .u8 32, .int .u8 72, .int .u8 84, .int .u8 84, .int .u8 80, .int .u8 47, .int .u8 49, .int .u8 46, .int .u8 49, .int .u8 13, .int .u8 10]
theorem get_conv (w : World) : (convert 22 22 (.slice (some ⟨w.heap.size, 0, none⟩) 29 29)).run Tryz.prog (w.alloc (.cells getC 5)) = .ok (.slice (some ⟨w.heap.size, 0, none⟩) 29 29) (w.alloc (.cells getC 5 (29, 30))) :=
  Joins.run_convert_bytes_const_at w 22 5 getC 29 29 w.heap.size rfl Tryz.underlying22 Tryz.underlying5
theorem bad_conv (w : World) : (convert 22 22 (.slice (some ⟨w.heap.size, 0, none⟩) 16 16)).run Tryz.prog (w.alloc (.cells badC 5)) = .ok (.slice (some ⟨w.heap.size, 0, none⟩) 16 16) (w.alloc (.cells badC 5 (16, 17))) :=
  Joins.run_convert_bytes_const_at w 22 5 badC 16 16 w.heap.size rfl Tryz.underlying22 Tryz.underlying5
set_option maxRecDepth 100000 in
theorem get_any (w : World) : Calls Tryz.prog 33 #[] w fun e w' => e = .returned (.slice (some ⟨w.heap.size, 0, none⟩) 29 29) ∧ BV w' (.slice (some ⟨w.heap.size, 0, none⟩) 29 29) getB ∧ w.grownBy w' none ∧ w'.heap.size = w.heap.size + 1 := by
  have h := Lib.hid (lit_bv w getB getC (29, 30) rfl)
  have hcv := get_conv w
  go_enter Tryz.func33, Tryz.ntmps33
  go_wp2_with fail
  go_ret
  exact ⟨rfl, h.out, gb_alloc (gb_refl _ _) _, by simp⟩
theorem par_lit (w : World) : QAt (w.alloc (.cells #[.string ⟨#[120]⟩, .string ⟨#[49]⟩, .string ⟨#[121]⟩, .string ⟨#[]⟩] 60 (0, 0))) (fun _ => True) (.slice (some ⟨w.heap.size, 0, none⟩) 2 2) getR.q := by
  refine ⟨_, 2, w.heap.size, 0, rfl, by decide, fun _ => ⟨rfl, trivial, by simp⟩, fun i hi => ?_⟩
  have hi : i < 2 := hi
  rw [cell_of_row _ _ _ _ _ _ (heap_alloc_new w _), cell_of_row _ _ _ _ _ _ (heap_alloc_new w _)]
  match i, hi with
  | 0, _ => exact ⟨rfl, rfl⟩
  | 1, _ => exact ⟨rfl, rfl⟩
theorem next_req {C : Nat} {bo : Option Nat} {bs : Bs} {m : Int} {w : World} {r : Rq} {n : Nat} (h : CN w C bo bs false) (hm : MX w m) (hl : bs.length ≤ 2000000) (hn : nextP bs = .req r n) :
    Calls Tryz.prog 10 #[.pointer (some ⟨C, 0, none⟩)] w fun e w' => ∃ xm xp A n1 c xc A2 n2 c2, e = .returned (.tuple #[.agg #[.string xm, .string xp, .slice A n1 c, .bool xc, .slice A2 n2 c2], .int .i64 0, .bool true]) ∧ RA w' (fun k => w.heap.size ≤ k) r ⟨xm, xp, .slice A n1 c, xc, .slice A2 n2 c2⟩ ∧ w.grownBy w' (some C) := by
  refine (next_cn C bo bs false m w h hm hl).mono ?_
  intro e w' hk
  unfold NcK at hk
  rw [if_neg (by decide), hn] at hk
  obtain ⟨x, rfl, hx, _, hg⟩ := hk
  obtain ⟨xm, xp, A, n1, c, xc, A2, n2, c2, rfl⟩ := hx.shape
  exact ⟨xm, xp, A, n1, c, xc, A2, n2, c2, rfl, hx, hg⟩
theorem next_ill {C : Nat} {bo : Option Nat} {bs : Bs} {m : Int} {w : World} {st : Int} (h : CN w C bo bs false) (hm : MX w m) (hl : bs.length ≤ 2000000) (hn : nextP bs = .fault st) :
    Calls Tryz.prog 10 #[.pointer (some ⟨C, 0, none⟩)] w fun e w' => e = .returned (.tuple #[.agg #[.string ⟨#[]⟩, .string ⟨#[]⟩, .slice none 0 0, .bool false, .slice none 0 0], .int .i64 st, .bool true]) ∧ CN w' C bo bs true ∧ w.grownBy w' (some C) := by
  refine (next_cn C bo bs false m w h hm hl).mono ?_
  intro e w' hk
  unfold NcK at hk
  rw [if_neg (by decide), hn] at hk
  exact hk
set_option maxRecDepth 100000 in
set_option maxHeartbeats 1600000 in
theorem lives_walk (m : Int) (w : World) (hm : MX w m) : Calls Tryz.prog 7 #[] w fun e w' => e = .returned (.bool true) ∧ w.grownBy w' none := by
  have hmh := Lib.hid hm
  clear hm
  go_enter Tryz.func7, Tryz.ntmps7
  go_upto_region 4 with (first
    | (go_at_call 8; have hh := z1; clear hh; refine (new_cn _).mono ?_; rintro e w2 ⟨rfl, d2, g2, z2⟩; rw [z1] at d2 z2; replace d2 := Lib.hid d2; have c2 := Lib.hid (c1.out.grown g2); clear c1)
    | (go_at_call 8; refine (new_cn _).mono ?_; rintro e w1 ⟨rfl, c1, g1, z1⟩; replace c1 := Lib.hid c1)
    | (go_at_call 33; refine (get_any _).mono ?_; rintro e w3 ⟨rfl, hb3, g3, z3⟩; rw [z2] at hb3 z3; have d3 := Lib.hid (d2.out.grown g3); have hf3 := Lib.hid (feed_cn _ _ _ getB false _ w3 (c2.out.grown g3) hb3 (Nat.zero_le _) (by decide)); clear c2 d2 hb3)
    | (go_at_call 9; have hh := hmk; clear hh; refine (hf4.out).mono ?_; intro e w5 hk; unfold FcK at hk; rw [if_neg (by decide), if_neg (by decide)] at hk; obtain ⟨rfl, bo5, d5, g5, hb5⟩ := hk; clear hmk)
    | (go_at_call 9; refine (hf3.out).mono ?_; intro e w4 hk; unfold FcK at hk; rw [if_neg (by decide), if_neg (by decide)] at hk; obtain ⟨rfl, bo4, c4, g4, hb4⟩ := hk; have d4 := Lib.hid (d3.out.gt g4 (fun e => by rcases e with e | e; omega; cases e) (fun _ h => by cases h)); have hbd := lit_bv w4 badB badC (16, 17) rfl; have hcv := bad_conv w4; have hf4 := Lib.hid (feed_cn _ _ _ badB false _ _ (d4.out.grown (gb_alloc (gb_refl w4 none) _)) hbd (Nat.zero_le _) (by decide)); replace c4 := Lib.hid c4; replace hb4 := Lib.hid hb4; replace g4 := Lib.hid g4; clear d4 d3 hf3 hbd; have hmk : True := trivial))
  have gw3 := gb_trans (gb_trans g1 g2) g3
  have gw4 : w.grownBy w4 none := ((GT.of_none (T := fun k => k = w.heap.size ∨ none = some k) gw3).trans g4.out (fun _ _ h => h)).grown (fun b hb e => by rcases e with e | e; omega; cases e)
  have ga4 : w4.grownBy (w4.alloc (.cells badC 5 (16, 17))) none := gb_alloc (gb_refl w4 none) _
  have hs4 : w.heap.size + 3 ≤ w4.heap.size := by have := g4.out.size; omega
  have gw5 : w.grownBy w5 none := ((GT.of_none (T := fun k => k = w.heap.size + 1 ∨ none = some k) (gb_trans gw4 ga4)).trans g5 (fun _ _ h => h)).grown (fun b hb e => by rcases e with e | e; omega; cases e)
  have c5 : CN w5 w.heap.size bo4 getB false := (c4.out.grown ga4).gt g5 (fun e => by rcases e with e | e; omega; cases e) (fun b hb e => by
    have h4 := hb4.out
    rw [hb] at h4
    rcases h4 with h4 | h4 | ⟨k, h4, hk⟩
    · cases h4
    · cases h4
    · cases h4
      rcases e with e | e
      · omega
      · cases e)
  have d5' : CN w5 (w.heap.size + 1) bo5 badB false := d5
  have hb5' : ∀ b, bo5 = some b → b ≠ w.heap.size := fun b hb e => by
    rw [hb] at hb5
    have := ga4.size
    rcases hb5 with h4 | h4 | ⟨k, h4, hk⟩
    · cases h4
    · cases h4
    · cases h4; omega
  have hn5 := Lib.hid (next_req c5 (hmh.out.grown gw5 (by simp)) (by decide) next_get)
  replace hb5' := Lib.hid hb5'
  have hl5 := d5'.lt
  replace d5' := Lib.hid d5'
  clear c4 hb4 g4 g5 hb5 d5 c5 hf4 hcv gw4 gw3 ga4 g1 g2 g3 z1 z2 z3 hs4
  go_upto_region 5 with (first
    | (go_at_call 10; refine (hn5.out).mono ?_; clear hn5; rintro e w6 ⟨xm, xp, A, n1, c, xc, A2, n2, c2, rfl, hx, g6⟩; replace hx := Lib.hid hx))
  have gw6 : w.grownBy w6 none := gb_more gw5 g6 (fun g e => .inr (by cases e; exact Nat.le_refl _))
  have d6 : CN w6 (w.heap.size + 1) bo5 badB false := d5'.out.gt (T := fun k => k = w.heap.size) (.of_some g6 rfl) (by omega) (fun b hb e => hb5'.out b hb e)
  obtain ⟨w7, hw7⟩ : ∃ w7, w6.alloc (.cells #[.string xm, .string xp, .slice A n1 c, .bool xc, .slice A2 n2 c2] 32) = w7 := ⟨_, rfl⟩
  have g7 : w6.grownBy w7 none := hw7 ▸ gb_alloc (gb_refl w6 none) _
  have e7 : w7.heap[w6.heap.size]? = some (.cells #[.string xm, .string xp, .slice A n1 c, .bool xc, .slice A2 n2 c2] 32 (0, 0)) := hw7 ▸ heap_alloc_new w6 _
  try rw [hw7]
  have hn7 := Lib.hid (next_ill (d6.grown g7) (hmh.out.grown (gb_trans gw6 g7) (by simp)) (by decide) next_bad)
  have hw6 : w.heap.size + 1 ≤ w6.heap.size := by have := d6.lt; omega
  have hne : w6.heap.size ≠ w.heap.size + 1 := by have := d6.lt; omega
  have hx7 := Lib.hid (hx.out.grown g7)
  replace hw7 := Lib.hid hw7
  clear d6 d5' hx hb5'
  go_upto_region 6 with (first
    | (go_at_call 10; refine (hn7.out).mono ?_; clear hn7; rintro e w8 ⟨rfl, d8, g8⟩; replace d8 := Lib.hid d8))
  have gw8 : w.grownBy w8 none := gb_more (gb_trans gw6 g7) g8 (fun g e => .inr (by cases e; exact Nat.le_succ _))
  obtain ⟨w9, hw9⟩ : ∃ w9, w8.alloc (.cells #[.string ⟨#[]⟩, .string ⟨#[]⟩, .slice none 0 0, .bool false, .slice none 0 0] 32) = w9 := ⟨_, rfl⟩
  have g9 : w8.grownBy w9 none := hw9 ▸ gb_alloc (gb_refl w8 none) _
  try rw [hw9]
  have e9 : w9.heap[w6.heap.size]? = some (.cells #[.string xm, .string xp, .slice A n1 c, .bool xc, .slice A2 n2 c2] 32 (0, 0)) := by
    have hl := (Array.getElem?_eq_some_iff.1 e7).1
    have e8 := (g8.block _ hl (by intro e; have := Option.some.inj e; omega)).trans e7
    exact (g9.block _ (Array.getElem?_eq_some_iff.1 e8).1 (by simp)).trans e8
  have a0 : w9.cell? ⟨w6.heap.size, 0, none⟩ = some (.string xm) := by rw [cell_of_row _ _ _ _ _ _ e9]; rfl
  have a1 : w9.cell? ⟨w6.heap.size, 1, none⟩ = some (.string xp) := by rw [cell_of_row _ _ _ _ _ _ e9]; rfl
  have a2 : w9.cell? ⟨w6.heap.size, 2, none⟩ = some (.slice A n1 c) := by rw [cell_of_row _ _ _ _ _ _ e9]; rfl
  have a3 : w9.cell? ⟨w6.heap.size, 3, none⟩ = some (.bool xc) := by rw [cell_of_row _ _ _ _ _ _ e9]; rfl
  have a4 : w9.cell? ⟨w6.heap.size, 4, none⟩ = some (.slice A2 n2 c2) := by rw [cell_of_row _ _ _ _ _ _ e9]; rfl
  have hx9 := Lib.hid (((hx7.out.mono (S' := fun k => k ≠ w.heap.size + 1) (fun b _ hb e => by omega)).gt (T := fun k => k = w.heap.size + 1) (.of_some g8 rfl) (fun b h e => h e)).grown g9)
  have hy9 := Lib.hid (par_lit w9)
  have d9 := Lib.hid (d8.out.grown g9)
  have gw9 := gb_trans gw8 g9
  have ha := Lib.hid (gb_alloc (gb_refl w9 none) (.cells #[.string ⟨#[120]⟩, .string ⟨#[49]⟩, .string ⟨#[121]⟩, .string ⟨#[]⟩] 60 (0, 0)))
  have hsr := Lib.hid (same_req getR ⟨xm, xp, .slice A n1 c, xc, .slice A2 n2 c2⟩ ⟨⟨#[71, 69, 84]⟩, ⟨#[47, 97, 32, 98]⟩, .slice (some ⟨w9.heap.size, 0, none⟩) 2 2, false, .slice none 0 0⟩ _ ((hx9.out.grown ha.out).mono (fun _ _ _ => trivial)) ⟨rfl, rfl, rfl, hy9.out, ⟨none, 0, rfl, Nat.le_refl _, fun h => absurd rfl h⟩⟩)
  replace hw9 := Lib.hid hw9
  replace g9 := Lib.hid g9
  replace gw9 := Lib.hid gw9
  clear hl5 e9 e7 g7 g8 gw8 gw6 gw5 g6 d8 hx7 hw6 hne
  go_wp2_with (first
    | (go_at_call 13; refine (hsr.out).mono ?_; rintro e w10 ⟨rfl, g10⟩; have d10 := Lib.hid (over_cn _ _ _ _ _ (d9.out.grown (gb_trans ha.out g10))))
    | (go_at_call 11; refine (d10.out).mono ?_; rintro e w11 ⟨rfl, hw11⟩; rw [hw11]; clear hw11))
  go_ret
  exact ⟨rfl, gb_trans gw9.out (gb_trans ha.out g10)⟩
end Go.Proofs.YtdfgnoflohfnmaaGreatDoor.Hx
