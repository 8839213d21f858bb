/- HTTP, the document's side: Next, walked. -/
import Derived.Test.YtdfgnoflohfnmaaGreatDoorRm
import Derived.Test.YtdfgnoflohfnmaaGreatDoorRl
namespace Go.Proofs.YtdfgnoflohfnmaaGreatDoor.Hx
open Go.RowKit Go.Maps Go.Shelf

theorem BF.bv {w : World} {v : Value} {b : Nat} {bs : Bs} (h : BF w v b bs) : BV w v bs := by
  by_cases h0 : bs = []
  · obtain ⟨A, c, e, hc⟩ := h.shape
    exact ⟨A, c, e, hc, fun h => absurd h0 h⟩
  · obtain ⟨off, cap, e, hc, _, hb⟩ := h.ba h0
    exact ⟨_, cap, e, hc, fun _ => ⟨b, off, rfl, hb⟩⟩
theorem BW.bv {w : World} {v : Value} {bo : Option Nat} {bs : Bs} (h : BW w v bo bs) : BV w v bs := by
  rcases h with ⟨rfl, rfl, _⟩ | ⟨b, _, _, h⟩
  · exact ⟨none, 0, rfl, Nat.le_refl _, fun h => absurd rfl h⟩
  · exact h.bv
def RNcK (C : Nat) (bo : Option Nat) (bs : Bs) (ov : Bool) (w : World) (e : Ending) (w' : World) : Prop :=
  if ov then e = .returned (.tuple #[req0, .int .i64 0, .bool false]) ∧ RN w' C bo bs true ∧ w.grownBy w' none
  else match nextP bs with
  | .more => e = .returned (.tuple #[req0, .int .i64 0, .bool false]) ∧ RN w' C bo bs false ∧ w.grownBy w' none
  | .fault st => e = .returned (.tuple #[req0, .int .i64 st, .bool true]) ∧ RN w' C none [] true ∧ w.grownBy w' (some C)
  | .req r n => ∃ x : R5, ∃ bo', e = .returned (.tuple #[x.val, .int .i64 0, .bool true]) ∧ RA w' (fun k => w.heap.size ≤ k) r x ∧ RN w' C bo' (if r.cl then [] else bs.drop n) r.cl ∧ (bo' = none ∨ ∃ k, bo' = some k ∧ w.heap.size ≤ k) ∧ w.grownBy w' (some C)
set_option maxRecDepth 100000 in
set_option maxHeartbeats 6400000 in
theorem rnext_over (C : Nat) (bo : Option Nat) (bs : Bs) (w : World) (h : RN w C bo bs true) (_hl : bs.length ≤ 2000000) :
    Calls Tryz.prog 16 #[.pointer (some ⟨C, 0, none⟩)] w (RNcK C bo bs true w) := by
  have h0 := Lib.hid h
  obtain ⟨bw, h1, h2, h3⟩ := h
  have h' := h1.alloc zO
  have hno := fun W (hW : W = w.alloc zO) => Lib.hid (rnone_any C bw true W (hW ▸ h'))
  have hZ : ZB (w.alloc zO) w.heap.size := heap_alloc_new _ _
  have gZ := Lib.hid (show w.grownBy (w.alloc zO) none from gb_alloc (gb_refl _ _) _)
  have hCl := h1.lt
  have d1 := h'.c1
  have d2 := h'.c2
  have z0 := hZ.c0
  have z1 := hZ.c1
  have z2 := hZ.c2
  have z3 := hZ.c3
  have z4 := hZ.c4
  have zf := fun i => hZ.f i
  clear h1 h2 h3
  go_enter Tryz.func16, Tryz.ntmps16
  go_wp2_with (first
    | (go_at_call 36; refine ((hno _ rfl).out).mono ?_; rintro e w1 ⟨rfl, hw1⟩; rw [hw1]; clear hw1))
  refine bodyPost_ret (v := .tuple #[req0, .int .i64 0, .bool false]) (by simp [results, Tryz.results16, go_sem, z0, z1, z2, z3, z4]) rfl ?_
  have hg := gZ.out
  unfold RNcK
  rw [if_pos rfl]
  exact ⟨rfl, h0.out.grown hg, hg⟩
set_option maxRecDepth 100000 in
set_option maxHeartbeats 6400000 in
theorem rnext_more (C : Nat) (bo : Option Nat) (bs : Bs) (w : World) (h : RN w C bo bs false) (hl : bs.length ≤ 2000000) (hn : nextP bs = .more) :
    Calls Tryz.prog 16 #[.pointer (some ⟨C, 0, none⟩)] w (RNcK C bo bs false w) := by
  have h0 := Lib.hid h
  obtain ⟨bw, h1, h2, h3⟩ := h
  have h' := h1.alloc zO
  have hno := fun W (hW : W = w.alloc zO) => Lib.hid (rnone_any C bw false W (hW ▸ h'))
  have hZ : ZB (w.alloc zO) w.heap.size := heap_alloc_new _ _
  have gZ := Lib.hid (show w.grownBy (w.alloc zO) none from gb_alloc (gb_refl _ _) _)
  have hCl := h1.lt
  have d1 := h'.c1
  have d2 := h'.c2
  have hrd := Lib.hid (show Calls Tryz.prog 37 #[bw] (w.alloc zO) (RdK bs (w.alloc zO)) from rread_any bw bs _ (h2.bv.up gZ.out) hl)
  unfold RdK at hrd
  rw [hn] at hrd
  dsimp only at hrd
  have hnh := Lib.hid hn
  clear hn
  clear hl h1 h2 h3
  go_enter Tryz.func16, Tryz.ntmps16
  go_wp2_with (first
    | (go_at_call 36; refine ((hno _ rfl).out).mono ?_; rintro e w1 ⟨rfl, hw1⟩; rw [hw1]; clear hw1)
    | (go_at_call 37; refine (hrd.out).mono ?_; rintro e w4 ⟨rfl, g4⟩; have g6 := Lib.hid (gb_alloc g4 (.cells #[.string ⟨#[]⟩, .string ⟨#[]⟩, .slice none 0 0, .bool false, .slice none 0 0] 32)); have hz := hZ.kept g6.out (by simp); have z0 := hz.c0; have z1 := hz.c1; have z2 := hz.c2; have z3 := hz.c3; have z4 := hz.c4; have zf := fun i => hz.f i; clear g4))
  have hz5 := (hz).set5 (.string ⟨#[]⟩) (.string ⟨#[]⟩) (.slice none 0 0) (.bool false) (.slice none 0 0)
  have y0 := hz5.c0
  have y1 := hz5.c1
  have y2 := hz5.c2
  have y3 := hz5.c3
  have y4 := hz5.c4
  refine bodyPost_ret (v := .tuple #[req0, .int .i64 0, .bool false]) (by simp [results, Tryz.results16, go_sem, y0, y1, y2, y3, y4]) rfl ?_
  have hg := z5_gb (gb_trans gZ.out g6.out)
  unfold RNcK
  rw [if_neg (by decide), hnh.out]
  exact ⟨rfl, h0.out.grown hg, hg⟩
set_option maxRecDepth 100000 in
set_option maxHeartbeats 6400000 in
theorem rnext_fault (C : Nat) (bo : Option Nat) (bs : Bs) (w : World) (h : RN w C bo bs false) (hl : bs.length ≤ 2000000) (st : Int) (hn : nextP bs = .fault st) (hst : st ≠ 0) :
    Calls Tryz.prog 16 #[.pointer (some ⟨C, 0, none⟩)] w (RNcK C bo bs false w) := by
  have h0 := Lib.hid h
  obtain ⟨bw, h1, h2, h3⟩ := h
  have h' := h1.alloc zO
  have hno := fun W (hW : W = w.alloc zO) => Lib.hid (rnone_any C bw false W (hW ▸ h'))
  have hZ : ZB (w.alloc zO) w.heap.size := heap_alloc_new _ _
  have gZ := Lib.hid (show w.grownBy (w.alloc zO) none from gb_alloc (gb_refl _ _) _)
  have hCl := h1.lt
  have d1 := h'.c1
  have d2 := h'.c2
  have hrd := Lib.hid (show Calls Tryz.prog 37 #[bw] (w.alloc zO) (RdK bs (w.alloc zO)) from rread_any bw bs _ (h2.bv.up gZ.out) hl)
  unfold RdK at hrd
  rw [hn] at hrd
  dsimp only at hrd
  have hnh := Lib.hid hn
  clear hn
  have hsI : (st == 0) = false := by simpa using hst
  have hne : w.heap.size ≠ C := by omega
  clear hl h1 h2 h3 hst
  go_enter Tryz.func16, Tryz.ntmps16
  go_wp2_with (first
    | (go_at_call 36; refine ((hno _ rfl).out).mono ?_; rintro e w1 ⟨rfl, hw1⟩; rw [hw1]; clear hw1)
    | (go_at_call 37; refine (hrd.out).mono ?_; rintro e w4 ⟨rfl, g4⟩; have g6 := Lib.hid (gb_alloc g4 (.cells #[.string ⟨#[]⟩, .string ⟨#[]⟩, .slice none 0 0, .bool false, .slice none 0 0] 32)); have hz := hZ.kept g6.out (by simp); have hc6 := h'.kept g6.out (by simp); have cf := fun i => hc6.f i; have x1 := hc6.c1; have x2 := hc6.c2; have z0 := hz.c0; have z1 := hz.c1; have z2 := hz.c2; have z3 := hz.c3; have z4 := hz.c4; have zf := fun i => hz.f i; clear g4))
  have gC := gb_setR (gb_setR (gb_refl (w4.alloc (.cells #[.string ⟨#[]⟩, .string ⟨#[]⟩, .slice none 0 0, .bool false, .slice none 0 0] 32)) (some C)) 2 (.bool true)) 1 (.slice none 0 0)
  have hz5 := (hz.kept gC (by intro e; exact hne (Option.some.inj e))).set5 (.string ⟨#[]⟩) (.string ⟨#[]⟩) (.slice none 0 0) (.bool false) (.slice none 0 0)
  have y0 := hz5.c0
  have y1 := hz5.c1
  have y2 := hz5.c2
  have y3 := hz5.c3
  have y4 := hz5.c4
  refine bodyPost_ret (v := .tuple #[req0, .int .i64 st, .bool true]) (by simp [results, Tryz.results16, go_sem, y0, y1, y2, y3, y4]) rfl ?_
  have hcE := (hc6.set2 true).set1 (.slice none 0 0)
  have gT : GT w (z5 _ w.heap.size) (fun k => k = C) := ((GT.of_none (T := fun k => k = C ∨ k = w.heap.size) (gb_trans gZ.out g6.out)).gb gC (fun b _ e => .inl (Option.some.inj e).symm)).set5 (.inr rfl) (.string ⟨#[]⟩) (.string ⟨#[]⟩) (.slice none 0 0) (.bool false) (.slice none 0 0) |>.mono (fun b hb e => by rcases e with e | e; exact e; omega)
  unfold RNcK
  rw [if_neg (by decide), hnh.out]
  refine ⟨rfl, ⟨_, hcE.gt (GT.set5 (T := fun k => k = w.heap.size) (GT.refl _ _) rfl _ _ _ _ _) (fun e => hne e.symm), .inl ⟨rfl, rfl, rfl⟩, by simp⟩, gT.one (fun b _ e => e)⟩
theorem hdrs_st (b : Bs) : ∀ (f i k : Nat) (len : Int) (cl : Bool) (st : Int), hdrsP b f i k len cl = .fault st → st ≠ 0
  | 0, _, _, _, _, st, h => by unfold hdrsP at h; cases h; decide
  | f + 1, i, k, len, cl, st, h => by
    unfold hdrsP at h
    split at h
    · cases h
    · cases h; decide
    · split at h
      · cases h
      · split at h
        · cases h; decide
        · split at h
          · cases h; decide
          · exact hdrs_st b f _ _ _ _ st h
theorem next_st {b : Bs} {st : Int} (h : nextP b = .fault st) : st ≠ 0 := by
  unfold nextP at h
  split at h
  · cases h
  · cases h; decide
  · split at h
    · cases h; decide
    · split at h
      · cases h
      · next hh => cases h; exact hdrs_st _ _ _ _ _ _ _ hh
      · unfold bodyP at h
        split at h
        · cases h; decide
        · split at h <;> cases h
theorem RNcK.good {C : Nat} {bo : Option Nat} {bs : Bs} {w w4 wE wF : World} {r : Rq} {n : Nat} (hn : nextP bs = .req r n) {x : R5} (hx : RA w4 (fun k => (w.alloc zO).heap.size ≤ k) r x) (hC : C < w.heap.size)
    (g4 : (w.alloc zO).grownBy w4 none) (gT : GT w4 wE (fun k => k = C)) {b9 : Nat} {v9 : Value} {bd : Bs} (hc : RCB wE C v9 r.cl) (h9 : BF wE v9 b9 bd) (hb9 : w4.heap.size ≤ b9) (he : bd = if r.cl then [] else bs.drop n)
    (hF : set5 wE w.heap.size (.string x.m) (.string x.p) x.qv (.bool x.cl) x.bv = wF) :
    RNcK C bo bs false w (.returned (.tuple #[x.val, .int .i64 0, .bool true])) wF := by
  subst hF
  have hs : (w.alloc zO).heap.size = w.heap.size + 1 := by simp
  have gF : GT wE (set5 wE w.heap.size (.string x.m) (.string x.p) x.qv (.bool x.cl) x.bv) (fun k => k = w.heap.size) := GT.set5 (T := fun k => k = w.heap.size) (GT.refl _ _) rfl _ _ _ _ _
  have gw4 : w.grownBy w4 none := gb_trans (gb_alloc (gb_refl _ _) _) g4
  have h4 := g4.size
  have g2 : GT w4 (set5 wE w.heap.size (.string x.m) (.string x.p) x.qv (.bool x.cl) x.bv) (fun k => k = C ∨ k = w.heap.size) := (gT.mono (fun b _ h => .inl h)).trans gF (fun b _ h => .inr h)
  unfold RNcK
  rw [if_neg (by decide), hn]
  obtain ⟨bo', hw, ho⟩ := (h9.gt gF (by omega)).bw
  refine ⟨x, bo', rfl, (hx.gt g2 (fun b h1 h2 => by omega)).mono (fun b _ h => by omega), ⟨v9, hc.gt gF (by omega), by rw [← he]; exact hw, fun e => ?_⟩, ?_, ?_⟩
  · rcases ho with h | h
    · rw [h] at e; cases e
    · rw [h] at e; have := Option.some.inj e; omega
  · rcases ho with h | h
    · exact .inl h
    · exact .inr ⟨b9, h, by omega⟩
  · exact ((GT.of_none (T := fun k => k = C ∨ k = w.heap.size) gw4).trans g2 (fun _ _ h => h)).one (fun b hb h => by rcases h with h | h; exact h; omega)
set_option maxRecDepth 100000 in
set_option maxHeartbeats 6400000 in
theorem rnext_req_close (C : Nat) (bo : Option Nat) (bs : Bs) (w : World) (h : RN w C bo bs false) (hl : bs.length ≤ 2000000) (r : Rq) (n : Nat) (hn : nextP bs = .req r n) (hcl : r.cl = true) (b : Nat) (hb : bo = some b) :
    Calls Tryz.prog 16 #[.pointer (some ⟨C, 0, none⟩)] w (RNcK C bo bs false w) := by
  have h0 := Lib.hid h
  obtain ⟨bw, h1, h2, h3⟩ := h
  have h' := h1.alloc zO
  have hno := fun W (hW : W = w.alloc zO) => Lib.hid (rnone_any C bw false W (hW ▸ h'))
  have hZ : ZB (w.alloc zO) w.heap.size := heap_alloc_new _ _
  have gZ := Lib.hid (show w.grownBy (w.alloc zO) none from gb_alloc (gb_refl _ _) _)
  have hCl := h1.lt
  have d1 := h'.c1
  have d2 := h'.c2
  obtain ⟨_, hn2, hnl⟩ := (next_app bs []).2 r n hn
  have hrd := Lib.hid (show Calls Tryz.prog 37 #[bw] (w.alloc zO) (RdK bs (w.alloc zO)) from rread_any bw bs _ (h2.bv.up gZ.out) hl)
  unfold RdK at hrd
  rw [hn] at hrd
  dsimp only at hrd
  have hnh := Lib.hid hn
  clear hn
  have hrd2 := Lib.hid (show Calls Tryz.prog 37 #[bw] (w.alloc zO) (fun e w' => ∃ xm xp A2 n2 c2 A3 n3 c3, e = .returned (.tuple #[.agg #[.string xm, .string xp, .slice A2 n2 c2, .bool true, .slice A3 n3 c3], .int .i64 (n : Nat), .int .i64 0]) ∧ RA w' (fun k => (w.alloc zO).heap.size ≤ k) r ⟨xm, xp, .slice A2 n2 c2, true, .slice A3 n3 c3⟩ ∧ (w.alloc zO).grownBy w' none) from hrd.out.mono (fun e w' hk => by
    obtain ⟨x, rfl, hx, g4⟩ := hk
    obtain ⟨xm, xp, A2, n2, c2, xc, A3, n3, c3, rfl⟩ := hx.shape
    have hxc : xc = true := hx.cl.trans hcl
    subst hxc
    exact ⟨xm, xp, A2, n2, c2, A3, n3, c3, rfl, hx, g4⟩))
  clear hrd
  have h0n := next_ne hnh.out
  rcases h2 with ⟨_, e, _⟩ | ⟨b', hb2, hbl, hbf⟩
  · exact absurd e h0n
  rw [hb] at hb2
  cases hb2
  rcases hbf with ⟨_, e⟩ | ⟨off, cap, cur, rfl, hcap, hcap2, hbh, hcs, hct⟩
  · exact absurd e h0n
  have hba0 : BA w b off bs := by
    obtain ⟨off', cap', e, _, _, hba⟩ := BF.ba (w := w) (v := .slice (some ⟨b, off, none⟩) bs.length cap) (b := b) (bs := bs) (.inr ⟨off, cap, cur, rfl, hcap, hcap2, hbh, hcs, hct⟩) h0n
    cases e
    exact hba
  have hbC : b ≠ C := fun e => h3 (by rw [hb, e])
  have hbZ : b ≠ w.heap.size := by omega
  have hba := Lib.hid hba0
  have hbxh := Lib.hid (And.intro hbC (And.intro hbZ hbl))
  have i0 : (0 : Int) ≤ (n : Int) := by omega
  have i1 : (n : Int) ≤ (bs.length : Int) := by omega
  have i2 : (bs.length : Int) ≤ (cap : Int) := by omega
  have nI : ((n : Int) == 0) = false := by simp; omega
  have hne : w.heap.size ≠ C := by omega
  have hnlh := Lib.hid hnl
  have hll := Lib.hid hl
  have hcph := Lib.hid hcap
  have hclh := Lib.hid hcl
  have hdl := Lib.hid (show (bs.drop n).length = bs.length - n from List.length_drop ..)
  have hCh := Lib.hid hCl
  clear h1 h3 hbh hcs hct hb hbC hbl hcap2 hba0 hnl hl hcap hcl hbZ hCl h0n
  by_cases hcn : cap = n
  · replace hcn := hcn.symm
    subst hcn
    have hz0 : bs.length - n = 0 := by omega
    have hx1 := fun (W : World) => Lib.hid (show BV W (.slice (some ⟨b, off, none⟩) 0 0) (bs.drop n) from ⟨_, 0, by rw [hdl.out, hz0], by rw [hdl.out, hz0]; exact Nat.le_refl _, fun h => absurd (List.length_eq_zero_iff.mp (by rw [hdl.out, hz0])) h⟩)
    have hx1' := fun (W : World) (_ : w.grownBy W none) => hx1 W
    go_enter Tryz.func16, Tryz.ntmps16
    go_upto_region 9 with (first
      | (go_at_call 36; refine ((hno _ rfl).out).mono ?_; rintro e w1 ⟨rfl, hw1⟩; rw [hw1]; clear hw1)
      | (go_at_call 37; refine (hrd2.out).mono ?_; rintro e w4 ⟨xm, xp, A2, n2, c2, A3, n3, c3, rfl, hx, g4⟩; replace hx := Lib.hid hx; replace g4 := Lib.hid g4))
    have g5 := gb_trans g4.out (gb_alloc (gb_refl w4 none) (.cells #[.string xm, .string xp, .slice A2 n2 c2, .bool true, .slice A3 n3 c3] 32))
    have hr5 : ZF (w4.alloc (.cells #[.string xm, .string xp, .slice A2 n2 c2, .bool true, .slice A3 n3 c3] 32)) w4.heap.size (.string xm) (.string xp) (.slice A2 n2 c2) (.bool true) (.slice A3 n3 c3) := heap_alloc_new _ _
    have hs5 : (w4.alloc (.cells #[.string xm, .string xp, .slice A2 n2 c2, .bool true, .slice A3 n3 c3] 32)).heap.size = w4.heap.size + 1 := by simp
    have gr5 := gb_alloc (gb_refl w4 none) (.cells #[.string xm, .string xp, .slice A2 n2 c2, .bool true, .slice A3 n3 c3] 32)
    obtain ⟨w5, hw5⟩ : ∃ W, (w4.alloc (.cells #[.string xm, .string xp, .slice A2 n2 c2, .bool true, .slice A3 n3 c3] 32)) = W := ⟨_, rfl⟩
    rw [hw5] at g5 hr5 hs5 gr5
    rw [hw5]
    have hz := hZ.kept g5 (by simp)
    have hc6 := h'.kept g5 (by simp)
    have x1 := (hc6.alloc (.cells #[] 5)).c1
    have gww := gb_trans gZ.out g5
    have hb0 := Lib.hid (show BF (w5.alloc (.cells #[] 5)) (.slice (some ⟨w5.heap.size, 0, none⟩) 0 0) w5.heap.size [] from .inr ⟨0, 0, #[], rfl, Nat.le_refl _, by unfold maxLen; omega, heap_alloc_new _ _, Nat.le_refl _, rfl⟩)
    have hx1 := hx1' (w5.alloc (.cells #[] 5)) (gb_alloc gww _)
    have hroom := Lib.hid (show ([] : Bs).length + (bs.drop n).length ≤ 1000000000 from by rw [hdl.out, List.length_nil]; have := hll.out; omega)
    have hZ4 : w.heap.size < w4.heap.size := by have := g4.out.size; rw [World.size_alloc] at this; omega
    have hC4 : C < w4.heap.size := Nat.lt_trans hCh.out hZ4
    have hZ4h := Lib.hid hZ4
    have hC4h := Lib.hid hC4
    have hs5h := Lib.hid hs5
    replace g5 := Lib.hid g5
    replace hz := Lib.hid hz
    have hc6h := Lib.hid hc6
    have gwh := Lib.hid gww
    replace hr5 := Lib.hid hr5
    replace gr5 := Lib.hid gr5
    have hx4 := hx
    clear hw5 gww hrd2 hno hx1' hs5 hZ4 hC4 hc6 d1 d2 h' hZ hx
    go_upto_region 10 with (first
      | (at_builtin; refine wpList_append_bf rfl _ _ rfl rfl rfl hb0.out hx1.out hroom.out ?_; intro v9 w9 b9 h9 g9 hb9; rw [List.nil_append] at h9; obtain ⟨A9, k9, rfl, _⟩ := h9.shape; have g10 := gb_new (gb_alloc (gb_refl w5 none) _) g9 (Nat.le_refl _); have hc9 := hc6h.out.kept g10 (by simp); have y9 := hc9.c1; have yf := fun i => hc9.f i; replace h9 := Lib.hid h9; replace g10 := Lib.hid g10; replace hc9 := Lib.hid hc9; replace hb9 := Lib.hid hb9; clear g9))
    rw [hdl.out, hz0] at h9
    have hcE := hc9.out.set1 (.slice A9 (0) k9)
    have gE := gb_setR (gb_refl w9 (some C)) 1 (.slice A9 (0) k9)
    have hCl := hCh.out
    have hZ4 := hZ4h.out
    have h5s := hs5h.out
    have hzE := ((hz.out.kept g10.out (by simp)).kept gE (by intro h; have := Option.some.inj h; omega))
    have hrE := ((hr5.out.kept g10.out (by simp)).kept gE (by intro h; have := Option.some.inj h; omega))
    have hbE : w4.heap.size ≤ b9 := by have := hb9.out; rw [World.size_alloc] at this; omega
    have h9E := h9.out.grown gE (by intro h; have := Option.some.inj h; omega)
    have gTE : GT w4 (w9.setCell ⟨C, 1, none⟩ (.slice A9 (0) k9)) (fun k => k = C) := ((GT.of_none (T := fun k => k = C) gr5.out).gbn g10.out).gb gE (fun b _ h => (Option.some.inj h).symm)
    obtain ⟨wE, hwE⟩ : ∃ W, w9.setCell ⟨C, 1, none⟩ (.slice A9 (0) k9) = W := ⟨_, rfl⟩
    rw [hwE] at hcE hzE hrE h9E gTE
    rw [hwE]
    have q0 := hrE.c0
    have q1 := hrE.c1
    have q2 := hrE.c2
    have q3 := hrE.c3
    have q4 := hrE.c4
    have ef := fun i => hcE.f i
    have e1 := hcE.c1
    have e2 := hcE.c2
    have hzEh := Lib.hid hzE
    have hneC : w.heap.size ≠ C := by omega
    have hrC : w4.heap.size ≠ C := by omega
    replace hneC := Lib.hid hneC
    replace hrC := Lib.hid hrC
    replace hcE := Lib.hid hcE
    replace h9E := Lib.hid h9E
    replace gTE := Lib.hid gTE
    replace hbE := Lib.hid hbE
    replace hrE := Lib.hid hrE
    clear hzE gE hCl hZ4 h5s hwE h9 g10 hc9 hb9 hz hr5 hc6h gwh hb0 hx1 y9 yf
    go_upto_region 12 with fail
    have hcF := (hcE.out.set2 true).set1 (.slice none 0 0)
    have gF := gb_setR (gb_setR (gb_refl wE (some C)) 2 (.bool true)) 1 (.slice none 0 0)
    have hzF := hzEh.out.kept gF (by intro h; exact hneC.out (Option.some.inj h))
    have hrF := hrE.out.kept gF (by intro h; exact hrC.out (Option.some.inj h))
    have gTF : GT w4 _ (fun k => k = C) := gTE.out.gb gF (fun b _ h => (Option.some.inj h).symm)
    obtain ⟨wF, hwF⟩ : ∃ W, (wE.setCell ⟨C, 2, none⟩ (.bool true)).setCell ⟨C, 1, none⟩ (.slice none 0 0) = W := ⟨_, rfl⟩
    rw [hwF] at hcF hzF hrF gTF
    rw [hwF]
    clear q0 q1 q2 q3 q4 ef e1 e2 hcE gF hwF hzEh hrE gTE h9E
    have q0 := hrF.c0
    have q1 := hrF.c1
    have q2 := hrF.c2
    have q3 := hrF.c3
    have q4 := hrF.c4
    have z0 := hzF.c0
    have z1 := hzF.c1
    have z2 := hzF.c2
    have z3 := hzF.c3
    have z4 := hzF.c4
    have zf := fun i => hzF.f i
    replace hcF := Lib.hid hcF
    have hzFh := Lib.hid hzF
    replace gTF := Lib.hid gTF
    clear hrF hzF
    go_wp2_with fail
    have hz5 := (hzFh.out).set5 (.string xm) (.string xp) (.slice A2 n2 c2) (.bool true) (.slice A3 n3 c3)
    have y0 := hz5.c0
    have y1 := hz5.c1
    have y2 := hz5.c2
    have y3 := hz5.c3
    have y4 := hz5.c4
    refine bodyPost_ret (v := .tuple #[.agg #[.string xm, .string xp, .slice A2 n2 c2, .bool true, .slice A3 n3 c3], .int .i64 0, .bool true]) (by simp [results, Tryz.results16, go_sem, y0, y1, y2, y3, y4]) rfl ?_
    exact RNcK.good (x := ⟨xm, xp, .slice A2 n2 c2, true, .slice A3 n3 c3⟩) hnh.out hx4.out hCh.out g4.out gTF.out (by rw [hclh.out]; exact hcF.out) (BF.nil wF b9) hbE.out (by rw [hclh.out]; rfl) rfl
  · have hx1' := fun (W : World) (hg : w.grownBy W none) => Lib.hid (show BV W (.slice (some ⟨b, off + n, none⟩) (bs.length - n) (cap - n)) (bs.drop n) from ⟨_, cap - n, by rw [hdl.out], by rw [hdl.out]; have := hcph.out; omega, fun _ => ⟨b, off + n, rfl, (hba.out.grown hg (by simp)).drop n⟩⟩)
    go_enter Tryz.func16, Tryz.ntmps16
    go_upto_region 9 with (first
      | (go_at_call 36; refine ((hno _ rfl).out).mono ?_; rintro e w1 ⟨rfl, hw1⟩; rw [hw1]; clear hw1)
      | (go_at_call 37; refine (hrd2.out).mono ?_; rintro e w4 ⟨xm, xp, A2, n2, c2, A3, n3, c3, rfl, hx, g4⟩; replace hx := Lib.hid hx; replace g4 := Lib.hid g4))
    have g5 := gb_trans g4.out (gb_alloc (gb_refl w4 none) (.cells #[.string xm, .string xp, .slice A2 n2 c2, .bool true, .slice A3 n3 c3] 32))
    have hr5 : ZF (w4.alloc (.cells #[.string xm, .string xp, .slice A2 n2 c2, .bool true, .slice A3 n3 c3] 32)) w4.heap.size (.string xm) (.string xp) (.slice A2 n2 c2) (.bool true) (.slice A3 n3 c3) := heap_alloc_new _ _
    have hs5 : (w4.alloc (.cells #[.string xm, .string xp, .slice A2 n2 c2, .bool true, .slice A3 n3 c3] 32)).heap.size = w4.heap.size + 1 := by simp
    have gr5 := gb_alloc (gb_refl w4 none) (.cells #[.string xm, .string xp, .slice A2 n2 c2, .bool true, .slice A3 n3 c3] 32)
    obtain ⟨w5, hw5⟩ : ∃ W, (w4.alloc (.cells #[.string xm, .string xp, .slice A2 n2 c2, .bool true, .slice A3 n3 c3] 32)) = W := ⟨_, rfl⟩
    rw [hw5] at g5 hr5 hs5 gr5
    rw [hw5]
    have hz := hZ.kept g5 (by simp)
    have hc6 := h'.kept g5 (by simp)
    have x1 := (hc6.alloc (.cells #[] 5)).c1
    have gww := gb_trans gZ.out g5
    have hb0 := Lib.hid (show BF (w5.alloc (.cells #[] 5)) (.slice (some ⟨w5.heap.size, 0, none⟩) 0 0) w5.heap.size [] from .inr ⟨0, 0, #[], rfl, Nat.le_refl _, by unfold maxLen; omega, heap_alloc_new _ _, Nat.le_refl _, rfl⟩)
    have hx1 := hx1' (w5.alloc (.cells #[] 5)) (gb_alloc gww _)
    have hroom := Lib.hid (show ([] : Bs).length + (bs.drop n).length ≤ 1000000000 from by rw [hdl.out, List.length_nil]; have := hll.out; omega)
    have hZ4 : w.heap.size < w4.heap.size := by have := g4.out.size; rw [World.size_alloc] at this; omega
    have hC4 : C < w4.heap.size := Nat.lt_trans hCh.out hZ4
    have hZ4h := Lib.hid hZ4
    have hC4h := Lib.hid hC4
    have hs5h := Lib.hid hs5
    replace g5 := Lib.hid g5
    replace hz := Lib.hid hz
    have hc6h := Lib.hid hc6
    have gwh := Lib.hid gww
    replace hr5 := Lib.hid hr5
    replace gr5 := Lib.hid gr5
    have hx4 := hx
    clear hw5 gww hrd2 hno hx1' hs5 hZ4 hC4 hc6 d1 d2 h' hZ hx
    go_upto_region 10 with (first
      | (at_builtin; refine wpList_append_bf rfl _ _ rfl rfl rfl hb0.out hx1.out hroom.out ?_; intro v9 w9 b9 h9 g9 hb9; rw [List.nil_append] at h9; obtain ⟨A9, k9, rfl, _⟩ := h9.shape; have g10 := gb_new (gb_alloc (gb_refl w5 none) _) g9 (Nat.le_refl _); have hc9 := hc6h.out.kept g10 (by simp); have y9 := hc9.c1; have yf := fun i => hc9.f i; replace h9 := Lib.hid h9; replace g10 := Lib.hid g10; replace hc9 := Lib.hid hc9; replace hb9 := Lib.hid hb9; clear g9))
    rw [hdl.out] at h9
    have hcE := hc9.out.set1 (.slice A9 (bs.length - n) k9)
    have gE := gb_setR (gb_refl w9 (some C)) 1 (.slice A9 (bs.length - n) k9)
    have hCl := hCh.out
    have hZ4 := hZ4h.out
    have h5s := hs5h.out
    have hzE := ((hz.out.kept g10.out (by simp)).kept gE (by intro h; have := Option.some.inj h; omega))
    have hrE := ((hr5.out.kept g10.out (by simp)).kept gE (by intro h; have := Option.some.inj h; omega))
    have hbE : w4.heap.size ≤ b9 := by have := hb9.out; rw [World.size_alloc] at this; omega
    have h9E := h9.out.grown gE (by intro h; have := Option.some.inj h; omega)
    have gTE : GT w4 (w9.setCell ⟨C, 1, none⟩ (.slice A9 (bs.length - n) k9)) (fun k => k = C) := ((GT.of_none (T := fun k => k = C) gr5.out).gbn g10.out).gb gE (fun b _ h => (Option.some.inj h).symm)
    obtain ⟨wE, hwE⟩ : ∃ W, w9.setCell ⟨C, 1, none⟩ (.slice A9 (bs.length - n) k9) = W := ⟨_, rfl⟩
    rw [hwE] at hcE hzE hrE h9E gTE
    rw [hwE]
    have q0 := hrE.c0
    have q1 := hrE.c1
    have q2 := hrE.c2
    have q3 := hrE.c3
    have q4 := hrE.c4
    have ef := fun i => hcE.f i
    have e1 := hcE.c1
    have e2 := hcE.c2
    have hzEh := Lib.hid hzE
    have hneC : w.heap.size ≠ C := by omega
    have hrC : w4.heap.size ≠ C := by omega
    replace hneC := Lib.hid hneC
    replace hrC := Lib.hid hrC
    replace hcE := Lib.hid hcE
    replace h9E := Lib.hid h9E
    replace gTE := Lib.hid gTE
    replace hbE := Lib.hid hbE
    replace hrE := Lib.hid hrE
    clear hzE gE hCl hZ4 h5s hwE h9 g10 hc9 hb9 hz hr5 hc6h gwh hb0 hx1 y9 yf
    go_upto_region 12 with fail
    have hcF := (hcE.out.set2 true).set1 (.slice none 0 0)
    have gF := gb_setR (gb_setR (gb_refl wE (some C)) 2 (.bool true)) 1 (.slice none 0 0)
    have hzF := hzEh.out.kept gF (by intro h; exact hneC.out (Option.some.inj h))
    have hrF := hrE.out.kept gF (by intro h; exact hrC.out (Option.some.inj h))
    have gTF : GT w4 _ (fun k => k = C) := gTE.out.gb gF (fun b _ h => (Option.some.inj h).symm)
    obtain ⟨wF, hwF⟩ : ∃ W, (wE.setCell ⟨C, 2, none⟩ (.bool true)).setCell ⟨C, 1, none⟩ (.slice none 0 0) = W := ⟨_, rfl⟩
    rw [hwF] at hcF hzF hrF gTF
    rw [hwF]
    clear q0 q1 q2 q3 q4 ef e1 e2 hcE gF hwF hzEh hrE gTE h9E
    have q0 := hrF.c0
    have q1 := hrF.c1
    have q2 := hrF.c2
    have q3 := hrF.c3
    have q4 := hrF.c4
    have z0 := hzF.c0
    have z1 := hzF.c1
    have z2 := hzF.c2
    have z3 := hzF.c3
    have z4 := hzF.c4
    have zf := fun i => hzF.f i
    replace hcF := Lib.hid hcF
    have hzFh := Lib.hid hzF
    replace gTF := Lib.hid gTF
    clear hrF hzF
    go_wp2_with fail
    have hz5 := (hzFh.out).set5 (.string xm) (.string xp) (.slice A2 n2 c2) (.bool true) (.slice A3 n3 c3)
    have y0 := hz5.c0
    have y1 := hz5.c1
    have y2 := hz5.c2
    have y3 := hz5.c3
    have y4 := hz5.c4
    refine bodyPost_ret (v := .tuple #[.agg #[.string xm, .string xp, .slice A2 n2 c2, .bool true, .slice A3 n3 c3], .int .i64 0, .bool true]) (by simp [results, Tryz.results16, go_sem, y0, y1, y2, y3, y4]) rfl ?_
    exact RNcK.good (x := ⟨xm, xp, .slice A2 n2 c2, true, .slice A3 n3 c3⟩) hnh.out hx4.out hCh.out g4.out gTF.out (by rw [hclh.out]; exact hcF.out) (BF.nil wF b9) hbE.out (by rw [hclh.out]; rfl) rfl
set_option maxRecDepth 100000 in
set_option maxHeartbeats 6400000 in
theorem rnext_req_on (C : Nat) (bo : Option Nat) (bs : Bs) (w : World) (h : RN w C bo bs false) (hl : bs.length ≤ 2000000) (r : Rq) (n : Nat) (hn : nextP bs = .req r n) (hcl : r.cl = false) (b : Nat) (hb : bo = some b) :
    Calls Tryz.prog 16 #[.pointer (some ⟨C, 0, none⟩)] w (RNcK C bo bs false w) := by
  have h0 := Lib.hid h
  obtain ⟨bw, h1, h2, h3⟩ := h
  have h' := h1.alloc zO
  have hno := fun W (hW : W = w.alloc zO) => Lib.hid (rnone_any C bw false W (hW ▸ h'))
  have hZ : ZB (w.alloc zO) w.heap.size := heap_alloc_new _ _
  have gZ := Lib.hid (show w.grownBy (w.alloc zO) none from gb_alloc (gb_refl _ _) _)
  have hCl := h1.lt
  have d1 := h'.c1
  have d2 := h'.c2
  obtain ⟨_, hn2, hnl⟩ := (next_app bs []).2 r n hn
  have hrd := Lib.hid (show Calls Tryz.prog 37 #[bw] (w.alloc zO) (RdK bs (w.alloc zO)) from rread_any bw bs _ (h2.bv.up gZ.out) hl)
  unfold RdK at hrd
  rw [hn] at hrd
  dsimp only at hrd
  have hnh := Lib.hid hn
  clear hn
  have hrd2 := Lib.hid (show Calls Tryz.prog 37 #[bw] (w.alloc zO) (fun e w' => ∃ xm xp A2 n2 c2 A3 n3 c3, e = .returned (.tuple #[.agg #[.string xm, .string xp, .slice A2 n2 c2, .bool false, .slice A3 n3 c3], .int .i64 (n : Nat), .int .i64 0]) ∧ RA w' (fun k => (w.alloc zO).heap.size ≤ k) r ⟨xm, xp, .slice A2 n2 c2, false, .slice A3 n3 c3⟩ ∧ (w.alloc zO).grownBy w' none) from hrd.out.mono (fun e w' hk => by
    obtain ⟨x, rfl, hx, g4⟩ := hk
    obtain ⟨xm, xp, A2, n2, c2, xc, A3, n3, c3, rfl⟩ := hx.shape
    have hxc : xc = false := hx.cl.trans hcl
    subst hxc
    exact ⟨xm, xp, A2, n2, c2, A3, n3, c3, rfl, hx, g4⟩))
  clear hrd
  have h0n := next_ne hnh.out
  rcases h2 with ⟨_, e, _⟩ | ⟨b', hb2, hbl, hbf⟩
  · exact absurd e h0n
  rw [hb] at hb2
  cases hb2
  rcases hbf with ⟨_, e⟩ | ⟨off, cap, cur, rfl, hcap, hcap2, hbh, hcs, hct⟩
  · exact absurd e h0n
  have hba0 : BA w b off bs := by
    obtain ⟨off', cap', e, _, _, hba⟩ := BF.ba (w := w) (v := .slice (some ⟨b, off, none⟩) bs.length cap) (b := b) (bs := bs) (.inr ⟨off, cap, cur, rfl, hcap, hcap2, hbh, hcs, hct⟩) h0n
    cases e
    exact hba
  have hbC : b ≠ C := fun e => h3 (by rw [hb, e])
  have hbZ : b ≠ w.heap.size := by omega
  have hba := Lib.hid hba0
  have hbxh := Lib.hid (And.intro hbC (And.intro hbZ hbl))
  have i0 : (0 : Int) ≤ (n : Int) := by omega
  have i1 : (n : Int) ≤ (bs.length : Int) := by omega
  have i2 : (bs.length : Int) ≤ (cap : Int) := by omega
  have nI : ((n : Int) == 0) = false := by simp; omega
  have hne : w.heap.size ≠ C := by omega
  have hnlh := Lib.hid hnl
  have hll := Lib.hid hl
  have hcph := Lib.hid hcap
  have hclh := Lib.hid hcl
  have hdl := Lib.hid (show (bs.drop n).length = bs.length - n from List.length_drop ..)
  have hCh := Lib.hid hCl
  clear h1 h3 hbh hcs hct hb hbC hbl hcap2 hba0 hnl hl hcap hcl hbZ hCl h0n
  by_cases hcn : cap = n
  · replace hcn := hcn.symm
    subst hcn
    have hz0 : bs.length - n = 0 := by omega
    have hx1 := fun (W : World) => Lib.hid (show BV W (.slice (some ⟨b, off, none⟩) 0 0) (bs.drop n) from ⟨_, 0, by rw [hdl.out, hz0], by rw [hdl.out, hz0]; exact Nat.le_refl _, fun h => absurd (List.length_eq_zero_iff.mp (by rw [hdl.out, hz0])) h⟩)
    have hx1' := fun (W : World) (_ : w.grownBy W none) => hx1 W
    go_enter Tryz.func16, Tryz.ntmps16
    go_upto_region 9 with (first
      | (go_at_call 36; refine ((hno _ rfl).out).mono ?_; rintro e w1 ⟨rfl, hw1⟩; rw [hw1]; clear hw1)
      | (go_at_call 37; refine (hrd2.out).mono ?_; rintro e w4 ⟨xm, xp, A2, n2, c2, A3, n3, c3, rfl, hx, g4⟩; replace hx := Lib.hid hx; replace g4 := Lib.hid g4))
    have g5 := gb_trans g4.out (gb_alloc (gb_refl w4 none) (.cells #[.string xm, .string xp, .slice A2 n2 c2, .bool false, .slice A3 n3 c3] 32))
    have hr5 : ZF (w4.alloc (.cells #[.string xm, .string xp, .slice A2 n2 c2, .bool false, .slice A3 n3 c3] 32)) w4.heap.size (.string xm) (.string xp) (.slice A2 n2 c2) (.bool false) (.slice A3 n3 c3) := heap_alloc_new _ _
    have hs5 : (w4.alloc (.cells #[.string xm, .string xp, .slice A2 n2 c2, .bool false, .slice A3 n3 c3] 32)).heap.size = w4.heap.size + 1 := by simp
    have gr5 := gb_alloc (gb_refl w4 none) (.cells #[.string xm, .string xp, .slice A2 n2 c2, .bool false, .slice A3 n3 c3] 32)
    obtain ⟨w5, hw5⟩ : ∃ W, (w4.alloc (.cells #[.string xm, .string xp, .slice A2 n2 c2, .bool false, .slice A3 n3 c3] 32)) = W := ⟨_, rfl⟩
    rw [hw5] at g5 hr5 hs5 gr5
    rw [hw5]
    have hz := hZ.kept g5 (by simp)
    have hc6 := h'.kept g5 (by simp)
    have x1 := (hc6.alloc (.cells #[] 5)).c1
    have gww := gb_trans gZ.out g5
    have hb0 := Lib.hid (show BF (w5.alloc (.cells #[] 5)) (.slice (some ⟨w5.heap.size, 0, none⟩) 0 0) w5.heap.size [] from .inr ⟨0, 0, #[], rfl, Nat.le_refl _, by unfold maxLen; omega, heap_alloc_new _ _, Nat.le_refl _, rfl⟩)
    have hx1 := hx1' (w5.alloc (.cells #[] 5)) (gb_alloc gww _)
    have hroom := Lib.hid (show ([] : Bs).length + (bs.drop n).length ≤ 1000000000 from by rw [hdl.out, List.length_nil]; have := hll.out; omega)
    have hZ4 : w.heap.size < w4.heap.size := by have := g4.out.size; rw [World.size_alloc] at this; omega
    have hC4 : C < w4.heap.size := Nat.lt_trans hCh.out hZ4
    have hZ4h := Lib.hid hZ4
    have hC4h := Lib.hid hC4
    have hs5h := Lib.hid hs5
    replace g5 := Lib.hid g5
    replace hz := Lib.hid hz
    have hc6h := Lib.hid hc6
    have gwh := Lib.hid gww
    replace hr5 := Lib.hid hr5
    replace gr5 := Lib.hid gr5
    have hx4 := hx
    clear hw5 gww hrd2 hno hx1' hs5 hZ4 hC4 hc6 d1 d2 h' hZ hx
    go_upto_region 10 with (first
      | (at_builtin; refine wpList_append_bf rfl _ _ rfl rfl rfl hb0.out hx1.out hroom.out ?_; intro v9 w9 b9 h9 g9 hb9; rw [List.nil_append] at h9; obtain ⟨A9, k9, rfl, _⟩ := h9.shape; have g10 := gb_new (gb_alloc (gb_refl w5 none) _) g9 (Nat.le_refl _); have hc9 := hc6h.out.kept g10 (by simp); have y9 := hc9.c1; have yf := fun i => hc9.f i; replace h9 := Lib.hid h9; replace g10 := Lib.hid g10; replace hc9 := Lib.hid hc9; replace hb9 := Lib.hid hb9; clear g9))
    rw [hdl.out, hz0] at h9
    have hcE := hc9.out.set1 (.slice A9 (0) k9)
    have gE := gb_setR (gb_refl w9 (some C)) 1 (.slice A9 (0) k9)
    have hCl := hCh.out
    have hZ4 := hZ4h.out
    have h5s := hs5h.out
    have hzE := ((hz.out.kept g10.out (by simp)).kept gE (by intro h; have := Option.some.inj h; omega))
    have hrE := ((hr5.out.kept g10.out (by simp)).kept gE (by intro h; have := Option.some.inj h; omega))
    have hbE : w4.heap.size ≤ b9 := by have := hb9.out; rw [World.size_alloc] at this; omega
    have h9E := h9.out.grown gE (by intro h; have := Option.some.inj h; omega)
    have gTE : GT w4 (w9.setCell ⟨C, 1, none⟩ (.slice A9 (0) k9)) (fun k => k = C) := ((GT.of_none (T := fun k => k = C) gr5.out).gbn g10.out).gb gE (fun b _ h => (Option.some.inj h).symm)
    obtain ⟨wE, hwE⟩ : ∃ W, w9.setCell ⟨C, 1, none⟩ (.slice A9 (0) k9) = W := ⟨_, rfl⟩
    rw [hwE] at hcE hzE hrE h9E gTE
    rw [hwE]
    have q0 := hrE.c0
    have q1 := hrE.c1
    have q2 := hrE.c2
    have q3 := hrE.c3
    have q4 := hrE.c4
    have ef := fun i => hcE.f i
    have e1 := hcE.c1
    have e2 := hcE.c2
    have z0 := hzE.c0
    have z1 := hzE.c1
    have z2 := hzE.c2
    have z3 := hzE.c3
    have z4 := hzE.c4
    have zf := fun i => hzE.f i
    have hzEh := Lib.hid hzE
    replace hcE := Lib.hid hcE
    replace h9E := Lib.hid h9E
    replace gTE := Lib.hid gTE
    replace hbE := Lib.hid hbE
    replace hrE := Lib.hid hrE
    clear hzE gE hCl hZ4 h5s hwE h9 g10 hc9 hb9 hz hr5 hc6h gwh hb0 hx1 y9 yf
    go_wp2_with fail
    have hz5 := (hzEh.out).set5 (.string xm) (.string xp) (.slice A2 n2 c2) (.bool false) (.slice A3 n3 c3)
    have y0 := hz5.c0
    have y1 := hz5.c1
    have y2 := hz5.c2
    have y3 := hz5.c3
    have y4 := hz5.c4
    refine bodyPost_ret (v := .tuple #[.agg #[.string xm, .string xp, .slice A2 n2 c2, .bool false, .slice A3 n3 c3], .int .i64 0, .bool true]) (by simp [results, Tryz.results16, go_sem, y0, y1, y2, y3, y4]) rfl ?_
    exact RNcK.good (x := ⟨xm, xp, .slice A2 n2 c2, false, .slice A3 n3 c3⟩) hnh.out hx4.out hCh.out g4.out gTE.out (by rw [hclh.out]; exact hcE.out) h9E.out hbE.out (by rw [hclh.out]; rfl) rfl
  · have hx1' := fun (W : World) (hg : w.grownBy W none) => Lib.hid (show BV W (.slice (some ⟨b, off + n, none⟩) (bs.length - n) (cap - n)) (bs.drop n) from ⟨_, cap - n, by rw [hdl.out], by rw [hdl.out]; have := hcph.out; omega, fun _ => ⟨b, off + n, rfl, (hba.out.grown hg (by simp)).drop n⟩⟩)
    go_enter Tryz.func16, Tryz.ntmps16
    go_upto_region 9 with (first
      | (go_at_call 36; refine ((hno _ rfl).out).mono ?_; rintro e w1 ⟨rfl, hw1⟩; rw [hw1]; clear hw1)
      | (go_at_call 37; refine (hrd2.out).mono ?_; rintro e w4 ⟨xm, xp, A2, n2, c2, A3, n3, c3, rfl, hx, g4⟩; replace hx := Lib.hid hx; replace g4 := Lib.hid g4))
    have g5 := gb_trans g4.out (gb_alloc (gb_refl w4 none) (.cells #[.string xm, .string xp, .slice A2 n2 c2, .bool false, .slice A3 n3 c3] 32))
    have hr5 : ZF (w4.alloc (.cells #[.string xm, .string xp, .slice A2 n2 c2, .bool false, .slice A3 n3 c3] 32)) w4.heap.size (.string xm) (.string xp) (.slice A2 n2 c2) (.bool false) (.slice A3 n3 c3) := heap_alloc_new _ _
    have hs5 : (w4.alloc (.cells #[.string xm, .string xp, .slice A2 n2 c2, .bool false, .slice A3 n3 c3] 32)).heap.size = w4.heap.size + 1 := by simp
    have gr5 := gb_alloc (gb_refl w4 none) (.cells #[.string xm, .string xp, .slice A2 n2 c2, .bool false, .slice A3 n3 c3] 32)
    obtain ⟨w5, hw5⟩ : ∃ W, (w4.alloc (.cells #[.string xm, .string xp, .slice A2 n2 c2, .bool false, .slice A3 n3 c3] 32)) = W := ⟨_, rfl⟩
    rw [hw5] at g5 hr5 hs5 gr5
    rw [hw5]
    have hz := hZ.kept g5 (by simp)
    have hc6 := h'.kept g5 (by simp)
    have x1 := (hc6.alloc (.cells #[] 5)).c1
    have gww := gb_trans gZ.out g5
    have hb0 := Lib.hid (show BF (w5.alloc (.cells #[] 5)) (.slice (some ⟨w5.heap.size, 0, none⟩) 0 0) w5.heap.size [] from .inr ⟨0, 0, #[], rfl, Nat.le_refl _, by unfold maxLen; omega, heap_alloc_new _ _, Nat.le_refl _, rfl⟩)
    have hx1 := hx1' (w5.alloc (.cells #[] 5)) (gb_alloc gww _)
    have hroom := Lib.hid (show ([] : Bs).length + (bs.drop n).length ≤ 1000000000 from by rw [hdl.out, List.length_nil]; have := hll.out; omega)
    have hZ4 : w.heap.size < w4.heap.size := by have := g4.out.size; rw [World.size_alloc] at this; omega
    have hC4 : C < w4.heap.size := Nat.lt_trans hCh.out hZ4
    have hZ4h := Lib.hid hZ4
    have hC4h := Lib.hid hC4
    have hs5h := Lib.hid hs5
    replace g5 := Lib.hid g5
    replace hz := Lib.hid hz
    have hc6h := Lib.hid hc6
    have gwh := Lib.hid gww
    replace hr5 := Lib.hid hr5
    replace gr5 := Lib.hid gr5
    have hx4 := hx
    clear hw5 gww hrd2 hno hx1' hs5 hZ4 hC4 hc6 d1 d2 h' hZ hx
    go_upto_region 10 with (first
      | (at_builtin; refine wpList_append_bf rfl _ _ rfl rfl rfl hb0.out hx1.out hroom.out ?_; intro v9 w9 b9 h9 g9 hb9; rw [List.nil_append] at h9; obtain ⟨A9, k9, rfl, _⟩ := h9.shape; have g10 := gb_new (gb_alloc (gb_refl w5 none) _) g9 (Nat.le_refl _); have hc9 := hc6h.out.kept g10 (by simp); have y9 := hc9.c1; have yf := fun i => hc9.f i; replace h9 := Lib.hid h9; replace g10 := Lib.hid g10; replace hc9 := Lib.hid hc9; replace hb9 := Lib.hid hb9; clear g9))
    rw [hdl.out] at h9
    have hcE := hc9.out.set1 (.slice A9 (bs.length - n) k9)
    have gE := gb_setR (gb_refl w9 (some C)) 1 (.slice A9 (bs.length - n) k9)
    have hCl := hCh.out
    have hZ4 := hZ4h.out
    have h5s := hs5h.out
    have hzE := ((hz.out.kept g10.out (by simp)).kept gE (by intro h; have := Option.some.inj h; omega))
    have hrE := ((hr5.out.kept g10.out (by simp)).kept gE (by intro h; have := Option.some.inj h; omega))
    have hbE : w4.heap.size ≤ b9 := by have := hb9.out; rw [World.size_alloc] at this; omega
    have h9E := h9.out.grown gE (by intro h; have := Option.some.inj h; omega)
    have gTE : GT w4 (w9.setCell ⟨C, 1, none⟩ (.slice A9 (bs.length - n) k9)) (fun k => k = C) := ((GT.of_none (T := fun k => k = C) gr5.out).gbn g10.out).gb gE (fun b _ h => (Option.some.inj h).symm)
    obtain ⟨wE, hwE⟩ : ∃ W, w9.setCell ⟨C, 1, none⟩ (.slice A9 (bs.length - n) k9) = W := ⟨_, rfl⟩
    rw [hwE] at hcE hzE hrE h9E gTE
    rw [hwE]
    have q0 := hrE.c0
    have q1 := hrE.c1
    have q2 := hrE.c2
    have q3 := hrE.c3
    have q4 := hrE.c4
    have ef := fun i => hcE.f i
    have e1 := hcE.c1
    have e2 := hcE.c2
    have z0 := hzE.c0
    have z1 := hzE.c1
    have z2 := hzE.c2
    have z3 := hzE.c3
    have z4 := hzE.c4
    have zf := fun i => hzE.f i
    have hzEh := Lib.hid hzE
    replace hcE := Lib.hid hcE
    replace h9E := Lib.hid h9E
    replace gTE := Lib.hid gTE
    replace hbE := Lib.hid hbE
    replace hrE := Lib.hid hrE
    clear hzE gE hCl hZ4 h5s hwE h9 g10 hc9 hb9 hz hr5 hc6h gwh hb0 hx1 y9 yf
    go_wp2_with fail
    have hz5 := (hzEh.out).set5 (.string xm) (.string xp) (.slice A2 n2 c2) (.bool false) (.slice A3 n3 c3)
    have y0 := hz5.c0
    have y1 := hz5.c1
    have y2 := hz5.c2
    have y3 := hz5.c3
    have y4 := hz5.c4
    refine bodyPost_ret (v := .tuple #[.agg #[.string xm, .string xp, .slice A2 n2 c2, .bool false, .slice A3 n3 c3], .int .i64 0, .bool true]) (by simp [results, Tryz.results16, go_sem, y0, y1, y2, y3, y4]) rfl ?_
    exact RNcK.good (x := ⟨xm, xp, .slice A2 n2 c2, false, .slice A3 n3 c3⟩) hnh.out hx4.out hCh.out g4.out gTE.out (by rw [hclh.out]; exact hcE.out) h9E.out hbE.out (by rw [hclh.out]; rfl) rfl
theorem rnext_cases (C : Nat) (bo : Option Nat) (bs : Bs) (ov : Bool) (w : World) (h : RN w C bo bs ov) (hl : bs.length ≤ 2000000) :
    Calls Tryz.prog 16 #[.pointer (some ⟨C, 0, none⟩)] w (RNcK C bo bs ov w) := by
  cases ov with
  | true => exact rnext_over C bo bs w h hl
  | false =>
    cases hn : nextP bs with
    | more => exact rnext_more C bo bs w h hl hn
    | fault st => exact rnext_fault C bo bs w h hl st hn (next_st hn)
    | req r n =>
      have hb : ∃ b, bo = some b := by
        obtain ⟨bw, _, h2, _⟩ := h
        rcases h2 with ⟨_, e, _⟩ | ⟨b, e, _⟩
        · exact absurd e (next_ne hn)
        · exact ⟨b, e⟩
      obtain ⟨b, hb⟩ := hb
      cases hc : r.cl with
      | true => exact rnext_req_close C bo bs w h hl r n hn hc b hb
      | false => exact rnext_req_on C bo bs w h hl r n hn hc b hb
end Go.Proofs.YtdfgnoflohfnmaaGreatDoor.Hx
