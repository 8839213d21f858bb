/- HTTP: the next request, or a fault: (*bootprint/http.Conn).Next, walked. -/
import Derived.Test.YtdfgnoflohfnmaaGreatDoorHo
import Derived.StillTailTactics
namespace Go.Proofs.YtdfgnoflohfnmaaGreatDoor.Hx
open Go.RowKit Go.Maps

/-- the result's box -/
def ZB (w : World) (Z : Nat) : Prop := w.heap[Z]? = some (.cells #[.string ⟨#[]⟩, .string ⟨#[]⟩, .slice none 0 0, .bool false, .slice none 0 0] 32 (0, 0))
section
variable {w w' : World} {Z : Nat}
theorem ZB.lt (h : ZB w Z) : Z < w.heap.size := (Array.getElem?_eq_some_iff.1 h).1
theorem ZB.c0 (h : ZB w Z) : w.cell? ⟨Z, 0, none⟩ = some (.string ⟨#[]⟩) := by rw [cell_of_row w Z 0 _ _ _ h]; rfl
theorem ZB.c1 (h : ZB w Z) : w.cell? ⟨Z, 1, none⟩ = some (.string ⟨#[]⟩) := by rw [cell_of_row w Z 1 _ _ _ h]; rfl
theorem ZB.c2 (h : ZB w Z) : w.cell? ⟨Z, 2, none⟩ = some (.slice none 0 0) := by rw [cell_of_row w Z 2 _ _ _ h]; rfl
theorem ZB.c3 (h : ZB w Z) : w.cell? ⟨Z, 3, none⟩ = some (.bool false) := by rw [cell_of_row w Z 3 _ _ _ h]; rfl
theorem ZB.c4 (h : ZB w Z) : w.cell? ⟨Z, 4, none⟩ = some (.slice none 0 0) := by rw [cell_of_row w Z 4 _ _ _ h]; rfl
theorem ZB.f (h : ZB w Z) (i : Nat) : w.frozen? ⟨Z, i, none⟩ = false := by unfold ZB at h; simp [World.frozen?, h]
theorem ZB.kept (h : ZB w Z) {row : Option Nat} (hg : w.grownBy w' row) (hne : some Z ≠ row) : ZB w' Z := (hg.block Z h.lt hne).trans h
end
abbrev zO : Obj := .cells #[.string ⟨#[]⟩, .string ⟨#[]⟩, .slice none 0 0, .bool false, .slice none 0 0] 32 (0, 0)
abbrev rO (bw : Value) : Obj := .cells #[bw, .int .i64 0, .string ⟨#[]⟩, .string ⟨#[]⟩, .slice none 0 0, .bool false, .slice none 0 0, .int .i64 0, .int .i64 (-1), .int .i64 0, .bool false] 65 (0, 0)
set_option maxRecDepth 100000 in
set_option maxHeartbeats 6400000 in
theorem next_over (C b : Nat) (bw : Value) (bs : Bs) (w : World) (h : CB w C bw true) :
    Calls Tryz.prog 10 #[.pointer (some ⟨C, 0, none⟩)] w (NeK C b bw true bs w) := by
  have h' := h.alloc zO
  have hno := fun W (hW : W = w.alloc zO) => Lib.hid (none_any C bw true W (hW ▸ h'))
  have c2 := h'.c2
  have hz : ZB (w.alloc zO) w.heap.size := heap_alloc_new _ _
  have z0 := hz.c0
  have z1 := hz.c1
  have z2 := hz.c2
  have z3 := hz.c3
  have z4 := hz.c4
  have zf := fun i => hz.f i
  go_enter Tryz.func10, Tryz.ntmps10
  go_wp2_with (first
    | (go_at_call 34; refine ((hno _ rfl).out).mono ?_; rintro e w1 ⟨rfl, rfl⟩))
  refine bodyPost_ret (v := .tuple #[req0, .int .i64 0, .bool false]) (by simp [results, Tryz.results10, go_sem, z0, z1, z2, z3, z4]) rfl ?_
  unfold NeK
  rw [if_pos rfl]
  exact ⟨rfl, h', gb_alloc (gb_refl _ _) _⟩
section
variable {w w1 w' : World} {T : Nat → Prop}
theorem GT.setL (h : GT w w1 T) {L : Nat} (hT : T L) (i : Nat) (u : Value) : GT w (w1.setCell ⟨L, i, none⟩ u) T := h.gb (gb_setR (gb_refl w1 (some L)) i u) (fun b _ e => by have := Option.some.inj e; rw [← this]; exact hT)
theorem GT.drewL (h : GT w w1 T) : GT w w1.drew T := ⟨h.os, h.tape, h.output, h.size, h.block⟩
theorem GT.one (h : GT w w' T) {C : Nat} (hT : ∀ b, b < w.heap.size → T b → b = C) : w.grownBy w' (some C) := ⟨h.os, h.tape, h.output, h.size, fun k hk hn => h.block k hk (fun e => hn (by rw [hT k hk e]))⟩
theorem own_gt {base e size n : Nat} {v : Value} {xs : List Value} (h : w.ownsRow base e size v n xs) (hg : GT w w' T) (hT : ∀ k, base ≤ k → ¬ T k) : w'.ownsRow base e size v n xs := by
  refine ⟨h.1, h.2.imp id ?_⟩
  rintro ⟨g, cap, cur, e, h1, h2, h3⟩
  exact ⟨g, cap, cur, e, h1, (hg.block g (Array.getElem?_eq_some_iff.1 h2).1 (hT g h1)).trans h2, h3⟩
end
abbrev set5 (W : World) (Z : Nat) (a b c d e : Value) : World := ((((W.setCell ⟨Z, 0, none⟩ a).setCell ⟨Z, 1, none⟩ b).setCell ⟨Z, 2, none⟩ c).setCell ⟨Z, 3, none⟩ d).setCell ⟨Z, 4, none⟩ e
/-- the result's box, filled -/
def ZF (w : World) (Z : Nat) (a b c d e : Value) : Prop := w.heap[Z]? = some (.cells #[a, b, c, d, e] 32 (0, 0))
section
variable {W W' : World} {Z : Nat} {a b c d e : Value}
theorem ZB.set5 (h : ZB W Z) (a b c d e : Value) : ZF (set5 W Z a b c d e) Z a b c d e := by unfold ZB at h; unfold ZF; simp [World.setCell, Array.getElem?_modify, h]
theorem ZF.drewL (h : ZF W Z a b c d e) : ZF W.drew Z a b c d e := h
theorem ZF.c0 (h : ZF W Z a b c d e) : W.cell? ⟨Z, 0, none⟩ = some a := by rw [cell_of_row W Z 0 _ _ _ h]; rfl
theorem ZF.c1 (h : ZF W Z a b c d e) : W.cell? ⟨Z, 1, none⟩ = some b := by rw [cell_of_row W Z 1 _ _ _ h]; rfl
theorem ZF.c2 (h : ZF W Z a b c d e) : W.cell? ⟨Z, 2, none⟩ = some c := by rw [cell_of_row W Z 2 _ _ _ h]; rfl
theorem ZF.c3 (h : ZF W Z a b c d e) : W.cell? ⟨Z, 3, none⟩ = some d := by rw [cell_of_row W Z 3 _ _ _ h]; rfl
theorem ZF.c4 (h : ZF W Z a b c d e) : W.cell? ⟨Z, 4, none⟩ = some e := by rw [cell_of_row W Z 4 _ _ _ h]; rfl
theorem GT.set5 {T : Nat → Prop} (h : GT W W' T) (hT : T Z) (a b c d e : Value) : GT W (set5 W' Z a b c d e) T := ((((h.setL hT _ _).setL hT _ _).setL hT _ _).setL hT _ _).setL hT _ _
end
theorem next_ne {bs : Bs} {r : Rq} {n : Nat} (h : nextP bs = .req r n) : bs ≠ [] := by
  rintro rfl
  have : nextP [] = .more := rfl
  rw [this] at h; cases h
set_option maxRecDepth 100000 in
set_option maxHeartbeats 6400000 in
theorem next_go (C b : Nat) (bw : Value) (bs : Bs) (m : Int) (w : World) (h : CB w C bw false) (hB : BF w bw b bs) (hbC : b ≠ C) (hbl : b < w.heap.size) (hm : MX w m) (hl : bs.length ≤ 2000000) :
    Calls Tryz.prog 10 #[.pointer (some ⟨C, 0, none⟩)] w (NeK C b bw false bs w) := by
  have h' := h.alloc zO
  have hno := fun W (hW : W = w.alloc zO) => Lib.hid (none_any C bw false W (hW ▸ h'))
  have c2 := h'.c2
  obtain ⟨A, c, rfl, hc⟩ := hB.shape
  have c1 := h'.c1
  have g1 : w.grownBy ((w.alloc zO).alloc (rO (.slice A bs.length c))) none := gb_alloc (gb_alloc (gb_refl _ _) _) _
  have h1 := h'.alloc (rO (.slice A bs.length c))
  have hz1 : ZB ((w.alloc zO).alloc (rO (.slice A bs.length c))) w.heap.size := ZB.kept (heap_alloc_new _ _) (gb_alloc (gb_refl _ none) _) (by simp)
  have hR1 : RB ((w.alloc zO).alloc (rO (.slice A bs.length c))) (w.heap.size + 1) (.slice A bs.length c) sig0 := by
    have := heap_alloc_new (w.alloc zO) (rO (.slice A bs.length c))
    rw [World.size_alloc] at this
    exact this
  have hB1 : BF ((w.alloc zO).alloc (rO (.slice A bs.length c))) (.slice A bs.length c) b bs := hB.grown g1 (by simp)
  have hm1 := hm.grown g1 (by simp)
  obtain ⟨W1, hW1⟩ : ∃ W1, (w.alloc zO).alloc (rO (.slice A bs.length c)) = W1 := ⟨_, rfl⟩
  have hs1 : W1.heap.size = w.heap.size + 2 := by rw [← hW1]; simp
  rw [hW1] at h1 hz1 hR1 hB1 hm1 g1
  have hCl := h.lt
  have hR0 : some 0 ≠ some (w.heap.size + 1) := by have := block_lt hm; intro e; have := Option.some.inj e; omega
  have fq1 := run_neq_func_nil Tryz.underlying67
  have fq2 := run_neq_nilFunc Tryz.underlying67
  replace h1 := Lib.hid h1
  replace hz1 := Lib.hid hz1
  replace hB1 := Lib.hid hB1
  replace hm1 := Lib.hid hm1
  replace g1 := Lib.hid g1
  replace hB := Lib.hid hB
  replace hl := Lib.hid hl
  clear hm
  go_enter Tryz.func10, Tryz.ntmps10
  go_wp2_with (first
    | (go_at_call 34; refine ((hno _ rfl).out).mono ?_; rintro e w1 ⟨rfl, rfl⟩))
  try rw [hW1]
  go_loopg [6] 40 (fun k v wr => NS W1 (w.heap.size + 1) (.slice A bs.length c) bs k v wr ∧ W1.grownBy wr (some (w.heap.size + 1)))
  case atStart => exact ⟨.inr (.inl ⟨rfl, rfl, hR1, gb_refl _ _⟩), gb_refl _ _⟩
  case round =>
    clear hW1 hR1 h' c1 c2 hno h
    obtain ⟨hn, gr⟩ := hrel
    have hCr := h1.out.kept gr (by simp; omega)
    have hzr := hz1.out.kept gr (by simp)
    have hBr := (hB1.out.rv (show b ≠ w.heap.size + 1 by omega)).grown gr (.inr rfl)
    have hmr := hm1.out.grown gr hR0
    have hRl : w.heap.size + 1 < W1.heap.size := by omega
    rcases hn with ⟨rfl, F⟩ | ⟨rfl, rfl, P, _⟩ | ⟨rfl, j, σ, mm, pp, qq, rfl, P⟩ | ⟨rfl, rfl, σ, mm, pp, qq, P⟩
    · obtain ⟨σ, hrb, _, hres⟩ := F
      have d9 := hrb.c9
      have d10 := hrb.c10
      have zf := fun i => hzr.f i
      have cf := fun i => hCr.f i
      have hzh := Lib.hid hzr
      have hCh := Lib.hid hCr
      have hgr := Lib.hid gr
      have hne : C ≠ w.heap.size := by omega
      have z0 := hzr.c0
      have z1 := hzr.c1
      have z2 := hzr.c2
      have z3 := hzr.c3
      have z4 := hzr.c4
      have d1 := hCr.c1
      have d2 := hCr.c2
      cases hn : nextP bs with
      | more =>
        rw [hn] at hres
        obtain ⟨hs0, hw0⟩ := hres
        rw [hs0] at d9
        rw [hw0] at d10
        replace hn := Lib.hid hn
        clear hBr hmr hrb hzr hCr gr hs0 hw0
        go_wp2_with fail
        have hz5 := hzh.out.set5 (.string ⟨#[]⟩) (.string ⟨#[]⟩) (.slice none 0 0) (.bool false) (.slice none 0 0)
        have y0 := hz5.c0
        have y1 := hz5.c1
        have y2 := hz5.c2
        have y3 := hz5.c3
        have y4 := hz5.c4
        refine bodyPost_ret (v := .tuple #[req0, .int .i64 0, .bool false]) (by simp [results, Tryz.results10, go_sem, y0, y1, y2, y3, y4]) rfl ?_
        have gX : GT wr (set5 wr w.heap.size (.string ⟨#[]⟩) (.string ⟨#[]⟩) (.slice none 0 0) (.bool false) (.slice none 0 0)) (fun x => x = w.heap.size) := GT.set5 (T := fun x => x = w.heap.size) (GT.refl _ _) rfl _ _ _ _ _
        have gw : w.grownBy wr none := gb_more g1.out hgr.out (fun g e => .inr (by have := Option.some.inj e; omega))
        unfold NeK
        rw [if_neg (by decide), hn.out]
        exact ⟨rfl, hCh.out.gt gX (by omega), ((GT.of_none (T := fun x => x = w.heap.size) gw).trans gX (fun _ _ h => h)).grown (fun b hb e => by omega)⟩
      | fault st =>
        rw [hn] at hres
        obtain ⟨hs0, hw0⟩ := hres
        rw [hs0] at d9
        replace hn := Lib.hid hn
        clear hBr hmr hrb hzr hCr gr hs0
        go_wp2_with fail
        go_region
        all_goals
          go_wp2_with fail
          have hz5 := (hzh.out.kept (gb_setR (gb_refl wr (some C)) 2 (.bool true)) (by simp; omega)).set5 (.string ⟨#[]⟩) (.string ⟨#[]⟩) (.slice none 0 0) (.bool false) (.slice none 0 0)
          replace hz5 := hz5.drewL
          have y0 := hz5.c0
          have y1 := hz5.c1
          have y2 := hz5.c2
          have y3 := hz5.c3
          have y4 := hz5.c4
          refine bodyPost_ret (v := .tuple #[req0, .int .i64 st, .bool true]) (by simp [results, Tryz.results10, go_sem, y0, y1, y2, y3, y4]) rfl ?_
          have gX : GT (wr.setCell ⟨C, 2, none⟩ (.bool true)) (set5 (wr.setCell ⟨C, 2, none⟩ (.bool true)) w.heap.size (.string ⟨#[]⟩) (.string ⟨#[]⟩) (.slice none 0 0) (.bool false) (.slice none 0 0)).drew (fun x => x = w.heap.size) := (GT.set5 (T := fun x => x = w.heap.size) (GT.refl _ _) rfl _ _ _ _ _).drewL
          have gw : w.grownBy wr none := gb_more g1.out hgr.out (fun g e => .inr (by have := Option.some.inj e; omega))
          unfold NeK
          rw [if_neg (by decide), hn.out]
          refine ⟨rfl, (hCh.out.set2 true).gt gX (by omega), ?_⟩
          exact (((GT.of_none (T := fun x => x = w.heap.size ∨ x = C) gw).setL (.inr rfl) 2 (.bool true)).trans gX (fun _ _ h => .inl h)).one (fun b hb e => by rcases e with e | e; omega; exact e)
      | req r n =>
        rw [hn] at hres
        have hbne := next_ne hn
        obtain ⟨i, qm, qp, qv, qc, bv, qh, ql, qs, qw⟩ := σ
        dsimp only at hres d9 d10
        obtain ⟨rfl, rfl, rfl, hni, hqm, hqp, hqc, ho, b2, hb2, hb3⟩ := hres
        obtain ⟨A2, c2', rfl⟩ := row_shape ho
        obtain ⟨A3, c3', rfl, hc3⟩ := hb2.shape
        rcases hB.out with ⟨_, e⟩ | ⟨off, cap, cur, he, hcap, hcap2, hbh, hcs, hct⟩
        · exact absurd e hbne
        · cases he
          have d1r := hrb.c1
          have d2r := hrb.c2
          have d3r := hrb.c3
          have d4r := hrb.c4
          have d5r := hrb.c5
          have d6r := hrb.c6
          dsimp only at d1r d2r d3r d4r d5r d6r
          replace hn := Lib.hid hn
          replace hqm := Lib.hid hqm
          replace hqp := Lib.hid hqp
          replace hqc := Lib.hid hqc
          replace ho := Lib.hid ho
          replace hb2 := Lib.hid hb2
          have i0 : (0 : Int) ≤ (i : Int) := by omega
          have i1 : (i : Int) ≤ (bs.length : Int) := by omega
          have i2 : (i : Int) ≤ (c : Int) := by omega
          have i3 : (bs.length : Int) ≤ (c : Int) := by omega
          have hrh := Lib.hid hrb
          clear hBr hmr hrb hzr hCr gr hbne hcs hct hbh
          by_cases hcn : c = i
          · have e1 : bs.length - i = 0 := by omega
            have e2 : c - i = 0 := by omega
            have hie := Lib.hid hni
            have hie2 := Lib.hid (show bs.length - i = 0 ∧ c - i = 0 from ⟨e1, e2⟩)
            clear hcap hcap2 hc hni
            go_wp2_with fail
            go_still_tail 12, (by kernel_rfl)
            change wpList _ _ _ _ _ wr.drew
            obtain ⟨wd, hwd⟩ : ∃ wd, wr.drew = wd := ⟨_, rfl⟩
            have hzD : ZB wd w.heap.size := hwd ▸ hzh.out
            have hCD : CB wd C (.slice (some ⟨b, off, none⟩) bs.length c) false := hwd ▸ hCh.out
            have hRD : RB wd (w.heap.size + 1) (.slice (some ⟨b, off, none⟩) bs.length c) ⟨i, qm, qp, .slice A2 r.q.length c2', qc, .slice A3 r.body.length c3', qh, ql, 0, true⟩ := hwd ▸ hrh.out
            have hoD : Hid (wd.ownsRow W1.heap.size 60 2 (.slice A2 r.q.length c2') r.q.length (prCells r.q)) := hwd ▸ (World.ownsRow.drew ho.out)
            have hbD : Hid (BF wd (.slice A3 r.body.length c3') b2 r.body) := hwd ▸ hb2.out
            have gD : Hid (W1.grownBy wd (some (w.heap.size + 1))) := hwd ▸ gb_drew hgr.out
            rw [hwd]
            have hne2 : C ≠ w.heap.size + 1 := by omega
            have x1 := hCD.c1
            have x2 := hCD.c2
            have xf := fun i => hCD.f i
            have y2 := hRD.c2
            have y3 := hRD.c3
            have y4 := hRD.c4
            have y5 := hRD.c5
            have y6 := hRD.c6
            have u0 := hzD.c0
            have u1 := hzD.c1
            have u2 := hzD.c2
            have u3 := hzD.c3
            have u4 := hzD.c4
            have uf := fun i => hzD.f i
            dsimp only at y2 y3 y4 y5 y6
            clear hwd d1 d2 d9 d10 z0 z1 z2 z3 z4 zf cf d1r d2r d3r d4r d5r d6r hzh hCh hrh hgr ho hb2
            go_wp2_with fail
            have hz5 := ((hzD.kept (gb_setR (gb_refl wd (some C)) 1 (.slice (some ⟨b, off, none⟩) 0 0)) (by intro e; have := Option.some.inj e; omega)).kept (gb_setR (gb_refl _ (some C)) 2 (.bool qc)) (by intro e; have := Option.some.inj e; omega)).set5 (.string qm) (.string qp) (.slice A2 r.q.length c2') (.bool qc) (.slice A3 r.body.length c3')
            have v0 := hz5.c0
            have v1 := hz5.c1
            have v2 := hz5.c2
            have v3 := hz5.c3
            have v4 := hz5.c4
            refine bodyPost_ret (v := .tuple #[.agg #[.string qm, .string qp, .slice A2 r.q.length c2', .bool qc, .slice A3 r.body.length c3'], .int .i64 0, .bool true]) (by simp [results, Tryz.results10, go_sem, v0, v1, v2, v3, v4]) rfl ?_
            have gX : GT ((wd.setCell ⟨C, 1, none⟩ (.slice (some ⟨b, off, none⟩) 0 0)).setCell ⟨C, 2, none⟩ (.bool qc)) (set5 ((wd.setCell ⟨C, 1, none⟩ (.slice (some ⟨b, off, none⟩) 0 0)).setCell ⟨C, 2, none⟩ (.bool qc)) w.heap.size (.string qm) (.string qp) (.slice A2 r.q.length c2') (.bool qc) (.slice A3 r.body.length c3')) (fun x => x = C ∨ x = w.heap.size) := GT.set5 (T := fun x => x = C ∨ x = w.heap.size) (GT.refl _ _) (.inr rfl) _ _ _ _ _
            have gC : GT wd ((wd.setCell ⟨C, 1, none⟩ (.slice (some ⟨b, off, none⟩) 0 0)).setCell ⟨C, 2, none⟩ (.bool qc)) (fun x => x = C ∨ x = w.heap.size) := ((GT.refl wd _).setL (.inl rfl) _ _).setL (.inl rfl) _ _
            have gA := gC.trans gX (fun _ _ h => h)
            have gw : w.grownBy wd none := gb_more g1.out gD.out (fun g e => .inr (by have := Option.some.inj e; omega))
            unfold NeK
            rw [if_neg (by decide), hn.out]
            have hBD : BF wd (.slice (some ⟨b, off, none⟩) bs.length c) b bs := hB.out.grown gw (by simp)
            have hcut := (BF.cut (k := i) hBD (by have := hie.out; omega) (some ⟨b, off, none⟩) (by rw [if_pos hcn])).gt gA (by omega)
            refine ⟨_, .slice (some ⟨b, off, none⟩) 0 0, rfl, ⟨_, _, by rw [← hqm.out, ← hqp.out, hqc.out], own_base (own_gt hoD.out gA (by omega)) (by omega), b2, hbD.out.gt gA (by omega), by omega⟩, ?_, ?_, ?_⟩
            · rw [← hqc.out]
              refine ((hCD.set1 _).set2 qc).kept (row := some w.heap.size) ?_ (by intro e; have := Option.some.inj e; omega)
              exact gb_setR (gb_setR (gb_setR (gb_setR (gb_setR (gb_refl _ _) _ _) _ _) _ _) _ _) _ _
            · rw [hie2.out.1, hie2.out.2] at hcut; exact hcut
            · exact ((GT.of_none (T := fun x => x = C ∨ x = w.heap.size) gw).trans gA (fun _ _ h => h)).one (fun b hb e => by rcases e with e | e; exact e; omega)
          · have hie := Lib.hid hni
            clear hcap hcap2 hc hni
            go_wp2_with fail
            go_still_tail 12, (by kernel_rfl)
            change wpList _ _ _ _ _ wr.drew
            obtain ⟨wd, hwd⟩ : ∃ wd, wr.drew = wd := ⟨_, rfl⟩
            have hzD : ZB wd w.heap.size := hwd ▸ hzh.out
            have hCD : CB wd C (.slice (some ⟨b, off, none⟩) bs.length c) false := hwd ▸ hCh.out
            have hRD : RB wd (w.heap.size + 1) (.slice (some ⟨b, off, none⟩) bs.length c) ⟨i, qm, qp, .slice A2 r.q.length c2', qc, .slice A3 r.body.length c3', qh, ql, 0, true⟩ := hwd ▸ hrh.out
            have hoD : Hid (wd.ownsRow W1.heap.size 60 2 (.slice A2 r.q.length c2') r.q.length (prCells r.q)) := hwd ▸ (World.ownsRow.drew ho.out)
            have hbD : Hid (BF wd (.slice A3 r.body.length c3') b2 r.body) := hwd ▸ hb2.out
            have gD : Hid (W1.grownBy wd (some (w.heap.size + 1))) := hwd ▸ gb_drew hgr.out
            rw [hwd]
            have hne2 : C ≠ w.heap.size + 1 := by omega
            have x1 := hCD.c1
            have x2 := hCD.c2
            have xf := fun i => hCD.f i
            have y2 := hRD.c2
            have y3 := hRD.c3
            have y4 := hRD.c4
            have y5 := hRD.c5
            have y6 := hRD.c6
            have u0 := hzD.c0
            have u1 := hzD.c1
            have u2 := hzD.c2
            have u3 := hzD.c3
            have u4 := hzD.c4
            have uf := fun i => hzD.f i
            dsimp only at y2 y3 y4 y5 y6
            clear hwd d1 d2 d9 d10 z0 z1 z2 z3 z4 zf cf d1r d2r d3r d4r d5r d6r hzh hCh hrh hgr ho hb2
            go_wp2_with fail
            have hz5 := ((hzD.kept (gb_setR (gb_refl wd (some C)) 1 (.slice (some ⟨b, off + i, none⟩) (bs.length - i) (c - i))) (by intro e; have := Option.some.inj e; omega)).kept (gb_setR (gb_refl _ (some C)) 2 (.bool qc)) (by intro e; have := Option.some.inj e; omega)).set5 (.string qm) (.string qp) (.slice A2 r.q.length c2') (.bool qc) (.slice A3 r.body.length c3')
            have v0 := hz5.c0
            have v1 := hz5.c1
            have v2 := hz5.c2
            have v3 := hz5.c3
            have v4 := hz5.c4
            refine bodyPost_ret (v := .tuple #[.agg #[.string qm, .string qp, .slice A2 r.q.length c2', .bool qc, .slice A3 r.body.length c3'], .int .i64 0, .bool true]) (by simp [results, Tryz.results10, go_sem, v0, v1, v2, v3, v4]) rfl ?_
            have gX : GT ((wd.setCell ⟨C, 1, none⟩ (.slice (some ⟨b, off + i, none⟩) (bs.length - i) (c - i))).setCell ⟨C, 2, none⟩ (.bool qc)) (set5 ((wd.setCell ⟨C, 1, none⟩ (.slice (some ⟨b, off + i, none⟩) (bs.length - i) (c - i))).setCell ⟨C, 2, none⟩ (.bool qc)) w.heap.size (.string qm) (.string qp) (.slice A2 r.q.length c2') (.bool qc) (.slice A3 r.body.length c3')) (fun x => x = C ∨ x = w.heap.size) := GT.set5 (T := fun x => x = C ∨ x = w.heap.size) (GT.refl _ _) (.inr rfl) _ _ _ _ _
            have gC : GT wd ((wd.setCell ⟨C, 1, none⟩ (.slice (some ⟨b, off + i, none⟩) (bs.length - i) (c - i))).setCell ⟨C, 2, none⟩ (.bool qc)) (fun x => x = C ∨ x = w.heap.size) := ((GT.refl wd _).setL (.inl rfl) _ _).setL (.inl rfl) _ _
            have gA := gC.trans gX (fun _ _ h => h)
            have gw : w.grownBy wd none := gb_more g1.out gD.out (fun g e => .inr (by have := Option.some.inj e; omega))
            unfold NeK
            rw [if_neg (by decide), hn.out]
            have hBD : BF wd (.slice (some ⟨b, off, none⟩) bs.length c) b bs := hB.out.grown gw (by simp)
            have hcut := (BF.cut (k := i) hBD (by have := hie.out; omega) (some ⟨b, off + i, none⟩) (by rw [if_neg hcn])).gt gA (by omega)
            refine ⟨_, .slice (some ⟨b, off + i, none⟩) (bs.length - i) (c - i), rfl, ⟨_, _, by rw [← hqm.out, ← hqp.out, hqc.out], own_base (own_gt hoD.out gA (by omega)) (by omega), b2, hbD.out.gt gA (by omega), by omega⟩, ?_, ?_, ?_⟩
            · rw [← hqc.out]
              refine ((hCD.set1 _).set2 qc).kept (row := some w.heap.size) ?_ (by intro e; have := Option.some.inj e; omega)
              exact gb_setR (gb_setR (gb_setR (gb_setR (gb_setR (gb_refl _ _) _ _) _ _) _ _) _ _) _ _
            · exact hcut
            · exact ((GT.of_none (T := fun x => x = C ∨ x = w.heap.size) gw).trans gA (fun _ _ h => h)).one (fun b hb e => by rcases e with e | e; exact e; omega)
    · have hs := Lib.hid (start_step (w1 := W1) hBr hmr hl.out hR0 P gr)
      clear hCr hzr hBr hmr P
      go_wp2_with (first
        | (go_at_call 35; refine (hs.out).mono ?_; rintro e w5 ⟨v5, k5, rfl, hk5, h5⟩))
      go_roundg k5
      case measure => exact hk5
      case rel => exact ⟨h5, NS.gb h5⟩
    · have hs := Lib.hid (header_step (w1 := W1) hBr hmr hl.out hR0 hRl P)
      clear hCr hzr hBr hmr P
      go_wp2_with (first
        | (go_at_call 67; refine (hs.out).mono ?_; rintro e w5 ⟨v5, k5, rfl, hk5, h5⟩))
      go_roundg k5
      case measure => exact hk5
      case rel => exact ⟨h5, NS.gb h5⟩
    · have hs := Lib.hid (body_step (w1 := W1) hBr hl.out hRl P)
      clear hCr hzr hBr hmr P
      go_wp2_with (first
        | (go_at_call 91; refine (hs.out).mono ?_; rintro e w5 ⟨v5, k5, rfl, hk5, h5⟩))
      go_roundg k5
      case measure => exact hk5
      case rel => exact ⟨h5, NS.gb h5⟩
end Go.Proofs.YtdfgnoflohfnmaaGreatDoor.Hx
