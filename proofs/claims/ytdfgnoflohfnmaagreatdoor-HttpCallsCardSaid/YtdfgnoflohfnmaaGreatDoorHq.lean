/- HTTP: the next request, or a fault: (*bootprint/http.Conn).Next, walked. -/
import Derived.Test.YtdfgnoflohfnmaaGreatDoorHo
import Derived.StillTailTactics
namespace Go.Proofs.YtdfgnoflohfnmaaGreatDoor.Hx
open Go.RowKit Go.Maps

/-- the result's box -/
def ZB (w : World) (Z : Nat) : Prop := w.heap[Z]? = some (.cells #[.string ⟨#[]⟩, .string ⟨#[]⟩, .slice none 0 0, .bool false, .slice none 0 0] 32 (0, 0))
section
variable {w w' : World} {Z : Nat}
theorem ZB.lt (h : ZB w Z) : Z < w.heap.size := (Array.getElem?_eq_some_iff.1 h).1
theorem ZB.c0 (h : ZB w Z) : w.cell? ⟨Z, 0, none⟩ = some (.string ⟨#[]⟩) := by rw [cell_of_row w Z 0 _ _ _ h]; rfl
theorem ZB.c1 (h : ZB w Z) : w.cell? ⟨Z, 1, none⟩ = some (.string ⟨#[]⟩) := by rw [cell_of_row w Z 1 _ _ _ h]; rfl
theorem ZB.c2 (h : ZB w Z) : w.cell? ⟨Z, 2, none⟩ = some (.slice none 0 0) := by rw [cell_of_row w Z 2 _ _ _ h]; rfl
theorem ZB.c3 (h : ZB w Z) : w.cell? ⟨Z, 3, none⟩ = some (.bool false) := by rw [cell_of_row w Z 3 _ _ _ h]; rfl
theorem ZB.c4 (h : ZB w Z) : w.cell? ⟨Z, 4, none⟩ = some (.slice none 0 0) := by rw [cell_of_row w Z 4 _ _ _ h]; rfl
theorem ZB.f (h : ZB w Z) (i : Nat) : w.frozen? ⟨Z, i, none⟩ = false := by unfold ZB at h; simp [World.frozen?, h]
theorem ZB.kept (h : ZB w Z) {row : Option Nat} (hg : w.grownBy w' row) (hne : some Z ≠ row) : ZB w' Z := (hg.block Z h.lt hne).trans h
end
abbrev zO : Obj := .cells #[.string ⟨#[]⟩, .string ⟨#[]⟩, .slice none 0 0, .bool false, .slice none 0 0] 32 (0, 0)
abbrev rO (bw : Value) : Obj := .cells #[bw, .int .i64 0, .string ⟨#[]⟩, .string ⟨#[]⟩, .slice none 0 0, .bool false, .slice none 0 0, .int .i64 0, .int .i64 (-1), .int .i64 0, .bool false] 65 (0, 0)
set_option maxRecDepth 100000 in
set_option maxHeartbeats 6400000 in
theorem next_over (C b : Nat) (bw : Value) (bs : Bs) (w : World) (h : CB w C bw true) :
    Calls Tryz.prog 10 #[.pointer (some ⟨C, 0, none⟩)] w (NeK C b bw true bs w) := by
  have h' := h.alloc zO
  have hno := fun W (hW : W = w.alloc zO) => Lib.hid (none_any C bw true W (hW ▸ h'))
  have c2 := h'.c2
  have hz : ZB (w.alloc zO) w.heap.size := heap_alloc_new _ _
  have z0 := hz.c0
  have z1 := hz.c1
  have z2 := hz.c2
  have z3 := hz.c3
  have z4 := hz.c4
  have zf := fun i => hz.f i
  go_enter Tryz.func10, Tryz.ntmps10
  go_wp2_with (first
    | (go_at_call 34; refine ((hno _ rfl).out).mono ?_; rintro e w1 ⟨rfl, rfl⟩))
  refine bodyPost_ret (v := .tuple #[req0, .int .i64 0, .bool false]) (by simp [results, Tryz.results10, go_sem, z0, z1, z2, z3, z4]) rfl ?_
  unfold NeK
  rw [if_pos rfl]
  exact ⟨rfl, h', gb_alloc (gb_refl _ _) _⟩
section
variable {w w1 w' : World} {T : Nat → Prop}
theorem GT.setL (h : GT w w1 T) {L : Nat} (hT : T L) (i : Nat) (u : Value) : GT w (w1.setCell ⟨L, i, none⟩ u) T := h.gb (gb_setR (gb_refl w1 (some L)) i u) (fun b _ e => by have := Option.some.inj e; rw [← this]; exact hT)
theorem GT.drewL (h : GT w w1 T) : GT w w1.drew T := ⟨h.os, h.tape, h.output, h.size, h.block⟩
theorem GT.one (h : GT w w' T) {C : Nat} (hT : ∀ b, b < w.heap.size → T b → b = C) : w.grownBy w' (some C) := ⟨h.os, h.tape, h.output, h.size, fun k hk hn => h.block k hk (fun e => hn (by rw [hT k hk e]))⟩
theorem own_gt {base e size n : Nat} {v : Value} {xs : List Value} (h : w.ownsRow base e size v n xs) (hg : GT w w' T) (hT : ∀ k, base ≤ k → ¬ T k) : w'.ownsRow base e size v n xs := by
  refine ⟨h.1, h.2.imp id ?_⟩
  rintro ⟨g, cap, cur, e, h1, h2, h3⟩
  exact ⟨g, cap, cur, e, h1, (hg.block g (Array.getElem?_eq_some_iff.1 h2).1 (hT g h1)).trans h2, h3⟩
end
abbrev set5 (W : World) (Z : Nat) (a b c d e : Value) : World := ((((W.setCell ⟨Z, 0, none⟩ a).setCell ⟨Z, 1, none⟩ b).setCell ⟨Z, 2, none⟩ c).setCell ⟨Z, 3, none⟩ d).setCell ⟨Z, 4, none⟩ e
/-- the result's box, filled -/
def ZF (w : World) (Z : Nat) (a b c d e : Value) : Prop := w.heap[Z]? = some (.cells #[a, b, c, d, e] 32 (0, 0))
section
variable {W W' : World} {Z : Nat} {a b c d e : Value}
theorem ZB.set5 (h : ZB W Z) (a b c d e : Value) : ZF (set5 W Z a b c d e) Z a b c d e := by unfold ZB at h; unfold ZF; simp [World.setCell, Array.getElem?_modify, h]
theorem ZF.drewL (h : ZF W Z a b c d e) : ZF W.drew Z a b c d e := h
theorem ZF.c0 (h : ZF W Z a b c d e) : W.cell? ⟨Z, 0, none⟩ = some a := by rw [cell_of_row W Z 0 _ _ _ h]; rfl
theorem ZF.c1 (h : ZF W Z a b c d e) : W.cell? ⟨Z, 1, none⟩ = some b := by rw [cell_of_row W Z 1 _ _ _ h]; rfl
theorem ZF.c2 (h : ZF W Z a b c d e) : W.cell? ⟨Z, 2, none⟩ = some c := by rw [cell_of_row W Z 2 _ _ _ h]; rfl
theorem ZF.c3 (h : ZF W Z a b c d e) : W.cell? ⟨Z, 3, none⟩ = some d := by rw [cell_of_row W Z 3 _ _ _ h]; rfl
theorem ZF.c4 (h : ZF W Z a b c d e) : W.cell? ⟨Z, 4, none⟩ = some e := by rw [cell_of_row W Z 4 _ _ _ h]; rfl
theorem GT.set5 {T : Nat → Prop} (h : GT W W' T) (hT : T Z) (a b c d e : Value) : GT W (set5 W' Z a b c d e) T := ((((h.setL hT _ _).setL hT _ _).setL hT _ _).setL hT _ _).setL hT _ _
end
theorem next_ne {bs : Bs} {r : Rq} {n : Nat} (h : nextP bs = .req r n) : bs ≠ [] := by
  rintro rfl
  have : nextP [] = .more := rfl
  rw [this] at h; cases h
set_option maxRecDepth 100000 in
set_option maxHeartbeats 6400000 in
theorem next_go (C b : Nat) (bw : Value) (bs : Bs) (m : Int) (w : World) (h : CB w C bw false) (hB : BF w bw b bs) (hbC : b ≠ C) (hbl : b < w.heap.size) (hm : MX w m) (hl : bs.length ≤ 2000000) :
    Calls Tryz.prog 10 #[.pointer (some ⟨C, 0, none⟩)] w (NeK C b bw false bs w) := by
  have h' := h.alloc zO
  have hno := fun W (hW : W = w.alloc zO) => Lib.hid (none_any C bw false W (hW ▸ h'))
  have c2 := h'.c2
  obtain ⟨A, c, rfl, hc⟩ := hB.shape
  have c1 := h'.c1
  have g1 : w.grownBy ((w.alloc zO).alloc (rO (.slice A bs.length c))) none := gb_alloc (gb_alloc (gb_refl _ _) _) _
  have h1 := h'.alloc (rO (.slice A bs.length c))
  have hz1 : ZB ((w.alloc zO).alloc (rO (.slice A bs.length c))) w.heap.size := ZB.kept (heap_alloc_new _ _) (gb_alloc (gb_refl _ none) _) (by simp)
  have hR1 : RB ((w.alloc zO).alloc (rO (.slice A bs.length c))) (w.heap.size + 1) (.slice A bs.length c) sig0 := by
    have := heap_alloc_new (w.alloc zO) (rO (.slice A bs.length c))
    rw [World.size_alloc] at this
    exact this
  have hB1 : BF ((w.alloc zO).alloc (rO (.slice A bs.length c))) (.slice A bs.length c) b bs := hB.grown g1 (by simp)
  have hm1 := hm.grown g1 (by simp)
  obtain ⟨W1, hW1⟩ : ∃ W1, (w.alloc zO).alloc (rO (.slice A bs.length c)) = W1 := ⟨_, rfl⟩
  have hs1 : W1.heap.size = w.heap.size + 2 := by rw [← hW1]; simp
  rw [hW1] at h1 hz1 hR1 hB1 hm1 g1
  have hCl := h.lt
  have hR0 : some 0 ≠ some (w.heap.size + 1) := by have := block_lt hm; intro e; have := Option.some.inj e; omega
  have fq1 := run_neq_func_nil Tryz.underlying67
  have fq2 := run_neq_nilFunc Tryz.underlying67
  replace h1 := Lib.hid h1
  replace hz1 := Lib.hid hz1
  replace hB1 := Lib.hid hB1
  replace hm1 := Lib.hid hm1
  replace g1 := Lib.hid g1
  replace hB := Lib.hid hB
  replace hl := Lib.hid hl
  clear hm
  go_enter Tryz.func10, Tryz.ntmps10
  go_wp2_with (first
    | (go_at_call 34; refine ((hno _ rfl).out).mono ?_; rintro e w1 ⟨rfl, rfl⟩))
  try rw [hW1]
  go_loopg [6] 40 (fun k v wr => NS W1 (w.heap.size + 1) (.slice A bs.length c) bs k v wr ∧ W1.grownBy wr (some (w.heap.size + 1)))
  case atStart => exact ⟨.inr (.inl ⟨rfl, rfl, hR1, gb_refl _ _⟩), gb_refl _ _⟩
  case round =>
    clear hW1 hR1 h' c1 c2 hno h
    obtain ⟨hn, gr⟩ := hrel
    have hCr := h1.out.kept gr (by simp; omega)
    have hzr := hz1.out.kept gr (by simp)
    have hBr := (hB1.out.rv (show b ≠ w.heap.size + 1 by omega)).grown gr (.inr rfl)
    have hmr := hm1.out.grown gr hR0
    have hRl : w.heap.size + 1 < W1.heap.size := by omega
    rcases hn with ⟨rfl, F⟩ | ⟨rfl, rfl, P, _⟩ | ⟨rfl, j, σ, mm, pp, qq, rfl, P⟩ | ⟨rfl, rfl, σ, mm, pp, qq, P⟩
    · obtain ⟨σ, hrb, _, hres⟩ := F
      have d9 := hrb.c9
      have d10 := hrb.c10
      have zf := fun i => hzr.f i
      have cf := fun i => hCr.f i
      have hzh := Lib.hid hzr
      have hCh := Lib.hid hCr
      have hgr := Lib.hid gr
      have hne : C ≠ w.heap.size := by omega
      have z0 := hzr.c0
      have z1 := hzr.c1
      have z2 := hzr.c2
      have z3 := hzr.c3
      have z4 := hzr.c4
      have d1 := hCr.c1
      have d2 := hCr.c2
      cases hn : nextP bs with
      | more =>
        rw [hn] at hres
        obtain ⟨hs0, hw0⟩ := hres
        rw [hs0] at d9
        rw [hw0] at d10
        replace hn := Lib.hid hn
        clear hBr hmr hrb hzr hCr gr hs0 hw0
        go_wp2_with fail
        have hz5 := hzh.out.set5 (.string ⟨#[]⟩) (.string ⟨#[]⟩) (.slice none 0 0) (.bool false) (.slice none 0 0)
        have y0 := hz5.c0
        have y1 := hz5.c1
        have y2 := hz5.c2
        have y3 := hz5.c3
        have y4 := hz5.c4
        refine bodyPost_ret (v := .tuple #[req0, .int .i64 0, .bool false]) (by simp [results, Tryz.results10, go_sem, y0, y1, y2, y3, y4]) rfl ?_
        have gX : GT wr (set5 wr w.heap.size (.string ⟨#[]⟩) (.string ⟨#[]⟩) (.slice none 0 0) (.bool false) (.slice none 0 0)) (fun x => x = w.heap.size) := GT.set5 (T := fun x => x = w.heap.size) (GT.refl _ _) rfl _ _ _ _ _
        have gw : w.grownBy wr none := gb_more g1.out hgr.out (fun g e => .inr (by have := Option.some.inj e; omega))
        unfold NeK
        rw [if_neg (by decide), hn.out]
        exact ⟨rfl, hCh.out.gt gX (by omega), ((GT.of_none (T := fun x => x = w.heap.size) gw).trans gX (fun _ _ h => h)).grown (fun b hb e => by omega)⟩
      | fault st =>
        rw [hn] at hres
        obtain ⟨hs0, hw0⟩ := hres
        rw [hs0] at d9
        replace hn := Lib.hid hn
        clear hBr hmr hrb hzr hCr gr hs0
        go_wp2_with fail
        go_region
        all_goals
          go_wp2_with fail
          have hz5 := (hzh.out.kept (gb_setR (gb_refl wr (some C)) 2 (.bool true)) (by simp; omega)).set5 (.string ⟨#[]⟩) (.string ⟨#[]⟩) (.slice none 0 0) (.bool false) (.slice none 0 0)
          replace hz5 := hz5.drewL
          have y0 := hz5.c0
          have y1 := hz5.c1
          have y2 := hz5.c2
          have y3 := hz5.c3
          have y4 := hz5.c4
          refine bodyPost_ret (v := .tuple #[req0, .int .i64 st, .bool true]) (by simp [results, Tryz.results10, go_sem, y0, y1, y2, y3, y4]) rfl ?_
          have gX : GT (wr.setCell ⟨C, 2, none⟩ (.bool true)) (set5 (wr.setCell ⟨C, 2, none⟩ (.bool true)) w.heap.size (.string ⟨#[]⟩) (.string ⟨#[]⟩) (.slice none 0 0) (.bool false) (.slice none 0 0)).drew (fun x => x = w.heap.size) := (GT.set5 (T := fun x => x = w.heap.size) (GT.refl _ _) rfl _ _ _ _ _).drewL
          have gw : w.grownBy wr none := gb_more g1.out hgr.out (fun g e => .inr (by have := Option.some.inj e; omega))
          unfold NeK
          rw [if_neg (by decide), hn.out]
          refine ⟨rfl, (hCh.out.set2 true).gt gX (by omega), ?_⟩
          exact (((GT.of_none (T := fun x => x = w.heap.size ∨ x = C) gw).setL (.inr rfl) 2 (.bool true)).trans gX (fun _ _ h => .inl h)).one (fun b hb e => by rcases e with e | e; omega; exact e)
      | req r n =>
        rw [hn] at hres
        have hbne := next_ne hn
        obtain ⟨i, qm, qp, qv, qc, bv, qh, ql, qs, qw⟩ := σ
        dsimp only at hres d9 d10
        obtain ⟨rfl, rfl, rfl, hni, hqm, hqp, hqc, ho, b2, hb2, hb3⟩ := hres
        obtain ⟨A2, c2', rfl⟩ := row_shape ho
        obtain ⟨A3, c3', rfl, hc3⟩ := hb2.shape
        rcases hB.out with ⟨_, e⟩ | ⟨off, cap, cur, he, hcap, hcap2, hbh, hcs, hct⟩
        · exact absurd e hbne
        · cases he
          have d1r := hrb.c1
          have d2r := hrb.c2
          have d3r := hrb.c3
          have d4r := hrb.c4
          have d5r := hrb.c5
          have d6r := hrb.c6
          dsimp only at d1r d2r d3r d4r d5r d6r
          replace hn := Lib.hid hn
          replace hqm := Lib.hid hqm
          replace hqp := Lib.hid hqp
          replace hqc := Lib.hid hqc
          replace ho := Lib.hid ho
          replace hb2 := Lib.hid hb2
          have i0 : (0 : Int) ≤ (i : Int) := by omega
          have i1 : (i : Int) ≤ (bs.length : Int) := by omega
          have i2 : (i : Int) ≤ (c : Int) := by omega
          have i3 : (bs.length : Int) ≤ (c : Int) := by omega
          have hrh := Lib.hid hrb
          clear hBr hmr hrb hzr hCr gr hbne hcs hct hbh
          by_cases hcn : c = i
          · have e1 : bs.length - i = 0 := by omega
            have e2 : c - i = 0 := by omega
            have hie := Lib.hid hni
            have hie2 := Lib.hid (show bs.length - i = 0 ∧ c - i = 0 from ⟨e1, e2⟩)
            clear hcap hcap2 hc hni
            go_wp2_with fail
            go_still_tail 12, (by kernel_rfl)
            change wpList _ _ _ _ _ wr.drew
            obtain ⟨wd, hwd⟩ : ∃ wd, wr.drew = wd := ⟨_, rfl⟩
            have hzD : ZB wd w.heap.size := hwd ▸ hzh.out
            have hCD : CB wd C (.slice (some ⟨b, off, none⟩) bs.length c) false := hwd ▸ hCh.out
            have hRD : RB wd (w.heap.size + 1) (.slice (some ⟨b, off, none⟩) bs.length c) ⟨i, qm, qp, .slice A2 r.q.length c2', qc, .slice A3 r.body.length c3', qh, ql, 0, true⟩ := hwd ▸ hrh.out
            have hoD : Hid (wd.ownsRow W1.heap.size 60 2 (.slice A2 r.q.length c2') r.q.length (prCells r.q)) := hwd ▸ (World.ownsRow.drew ho.out)
            have hbD : Hid (BF wd (.slice A3 r.body.length c3') b2 r.body) := hwd ▸ hb2.out
            have gD : Hid (W1.grownBy wd (some (w.heap.size + 1))) := hwd ▸ gb_drew hgr.out
            rw [hwd]
            have hne2 : C ≠ w.heap.size + 1 := by omega
            have x1 := hCD.c1
            have x2 := hCD.c2
            have xf := fun i => hCD.f i
            have y2 := hRD.c2
            have y3 := hRD.c3
            have y4 := hRD.c4
            have y5 := hRD.c5
            have y6 := hRD.c6
            have u0 := hzD.c0
            have u1 := hzD.c1
            have u2 := hzD.c2
            have u3 := hzD.c3
            have u4 := hzD.c4
            have uf := fun i => hzD.f i
            dsimp only at y2 y3 y4 y5 y6
            clear hwd d1 d2 d9 d10 z0 z1 z2 z3 z4 zf cf d1r d2r d3r d4r d5r d6r hzh hCh hrh hgr ho hb2
            go_wp2_with fail
            have hz5 := ((hzD.kept (gb_setR (gb_refl wd (some C)) 1 (.slice (some ⟨b, off, none⟩) 0 0)) (by intro e; have := Option.some.inj e; omega)).kept (gb_setR (gb_refl _ (some C)) 2 (.bool qc)) (by intro e; have := Option.some.inj e; omega)).set5 (.string qm) (.string qp) (.slice A2 r.q.length c2') (.bool qc) (.slice A3 r.body.length c3')
            have v0 := hz5.c0
            have v1 := hz5.c1
            have v2 := hz5.c2
            have v3 := hz5.c3
            have v4 := hz5.c4
            refine bodyPost_ret (v := .tuple #[.agg #[.string qm, .string qp, .slice A2 r.q.length c2', .bool qc, .slice A3 r.body.length c3'], .int .i64 0, .bool true]) (by simp [results, Tryz.results10, go_sem, v0, v1, v2, v3, v4]) rfl ?_
            have gX : GT ((wd.setCell ⟨C, 1, none⟩ (.slice (some ⟨b, off, none⟩) 0 0)).setCell ⟨C, 2, none⟩ (.bool qc)) (set5 ((wd.setCell ⟨C, 1, none⟩ (.slice (some ⟨b, off, none⟩) 0 0)).setCell ⟨C, 2, none⟩ (.bool qc)) w.heap.size (.string qm) (.string qp) (.slice A2 r.q.length c2') (.bool qc) (.slice A3 r.body.length c3')) (fun x => x = C ∨ x = w.heap.size) := GT.set5 (T := fun x => x = C ∨ x = w.heap.size) (GT.refl _ _) (.inr rfl) _ _ _ _ _
            have gC : GT wd ((wd.setCell ⟨C, 1, none⟩ (.slice (some ⟨b, off, none⟩) 0 0)).setCell ⟨C, 2, none⟩ (.bool qc)) (fun x => x = C ∨ x = w.heap.size) := ((GT.refl wd _).setL (.inl rfl) _ _).setL (.inl rfl) _ _
            have gA := gC.trans gX (fun _ _ h => h)
            have gw : w.grownBy wd none := gb_more g1.out gD.out (fun g e => .inr (by have := Option.some.inj e; omega))
            unfold NeK
            rw [if_neg (by decide), hn.out]
            have hBD : BF wd (.slice (some ⟨b, off, none⟩) bs.length c) b bs := hB.out.grown gw (by simp)
            have hcut := (BF.cut (k := i) hBD (by have := hie.out; omega) (some ⟨b, off, none⟩) (by rw [if_pos hcn])).gt gA (by omega)
            refine ⟨_, .slice (some ⟨b, off, none⟩) 0 0, rfl, ⟨_, _, by rw [← hqm.out, ← hqp.out, hqc.out], own_base (own_gt hoD.out gA (by omega)) (by omega), b2, hbD.out.gt gA (by omega), by omega⟩, ?_, ?_, ?_⟩
            · rw [← hqc.out]
              refine ((hCD.set1 _).set2 qc).kept (row := some w.heap.size) ?_ (by intro e; have := Option.some.inj e; omega)
              exact gb_setR (gb_setR (gb_setR (gb_setR (gb_setR (gb_refl _ _) _ _) _ _) _ _) _ _) _ _
            · rw [hie2.out.1, hie2.out.2] at hcut; exact hcut
            · exact ((GT.of_none (T := fun x => x = C ∨ x = w.heap.size) gw).trans gA (fun _ _ h => h)).one (fun b hb e => by rcases e with e | e; exact e; omega)
          · have hie := Lib.hid hni
            clear hcap hcap2 hc hni
            go_wp2_with fail
            go_still_tail 12, (by kernel_rfl)
            change wpList _ _ _ _ _ wr.drew
            obtain ⟨wd, hwd⟩ : ∃ wd, wr.drew = wd := ⟨_, rfl⟩
            have hzD : ZB wd w.heap.size := hwd ▸ hzh.out
            have hCD : CB wd C (.slice (some ⟨b, off, none⟩) bs.length c) false := hwd ▸ hCh.out
            have hRD : RB wd (w.heap.size + 1) (.slice (some ⟨b, off, none⟩) bs.length c) ⟨i, qm, qp, .slice A2 r.q.length c2', qc, .slice A3 r.body.length c3', qh, ql, 0, true⟩ := hwd ▸ hrh.out
            have hoD : Hid (wd.ownsRow W1.heap.size 60 2 (.slice A2 r.q.length c2') r.q.length (prCells r.q)) := hwd ▸ (World.ownsRow.drew ho.out)
            have hbD : Hid (BF wd (.slice A3 r.body.length c3') b2 r.body) := hwd ▸ hb2.out
            have gD : Hid (W1.grownBy wd (some (w.heap.size + 1))) := hwd ▸ gb_drew hgr.out
            rw [hwd]
            have hne2 : C ≠ w.heap.size + 1 := by omega
            have x1 := hCD.c1
            have x2 := hCD.c2
            have xf := fun i => hCD.f i
            have y2 := hRD.c2
            have y3 := hRD.c3
            have y4 := hRD.c4
            have y5 := hRD.c5
            have y6 := hRD.c6
            have u0 := hzD.c0
            have u1 := hzD.c1
            have u2 := hzD.c2
            have u3 := hzD.c3
            have u4 := hzD.c4
            have uf := fun i => hzD.f i
            dsimp only at y2 y3 y4 y5 y6
            clear hwd d1 d2 d9 d10 z0 z1 z2 z3 z4 zf cf d1r d2r d3r d4r d5r d6r hzh hCh hrh hgr ho hb2
            go_wp2_with fail
            have hz5 := ((hzD.kept (gb_setR (gb_refl wd (some C)) 1 (.slice (some ⟨b, off + i, none⟩) (bs.length - i) (c - i))) (by intro e; have := Option.some.inj e; omega)).kept (gb_setR (gb_refl _ (some C)) 2 (.bool qc)) (by intro e; have := Option.some.inj e; omega)).set5 (.string qm) (.string qp) (.slice A2 r.q.length c2') (.bool qc) (.slice A3 r.body.length c3')
            have v0 := hz5.c0
            have v1 := hz5.c1
            have v2 := hz5.c2
            have v3 := hz5.c3
            have v4 := hz5.c4
            refine bodyPost_ret (v := .tuple #[.agg #[.string qm, .string qp, .slice A2 r.q.length c2', .bool qc, .slice A3 r.body.length c3'], .int .i64 0, .bool true]) (by simp [results, Tryz.results10, go_sem, v0, v1, v2, v3, v4]) rfl ?_
            have gX : GT ((wd.setCell ⟨C, 1, none⟩ (.slice (some ⟨b, off + i, none⟩) (bs.length - i) (c - i))).setCell ⟨C, 2, none⟩ (.bool qc)) (set5 ((wd.setCell ⟨C, 1, none⟩ (.slice (some ⟨b, off + i, none⟩) (bs.length - i) (c - i))).setCell ⟨C, 2, none⟩ (.bool qc)) w.heap.size (.string qm) (.string qp) (.slice A2 r.q.length c2') (.bool qc) (.slice A3 r.body.length c3')) (fun x => x = C ∨ x = w.heap.size) := GT.set5 (T := fun x => x = C ∨ x = w.heap.size) (GT.refl _ _) (.inr rfl) _ _ _ _ _
            have gC : GT wd ((wd.setCell ⟨C, 1, none⟩ (.slice (some ⟨b, off + i, none⟩) (bs.length - i) (c - i))).setCell ⟨C, 2, none⟩ (.bool qc)) (fun x => x = C ∨ x = w.heap.size) := ((GT.refl wd _).setL (.inl rfl) _ _).setL (.inl rfl) _ _
            have gA := gC.trans gX (fun _ _ h => h)
            have gw : w.grownBy wd none := gb_more g1.out gD.out (fun g e => .inr (by have := Option.some.inj e; omega))
            unfold NeK
            rw [if_neg (by decide), hn.out]
            have hBD : BF wd (.slice (some ⟨b, off, none⟩) bs.length c) b bs := hB.out.grown gw (by simp)
            have hcut := (BF.cut (k := i) hBD (by have := hie.out; omega) (some ⟨b, off + i, none⟩) (by rw [if_neg hcn])).gt gA (by omega)
            refine ⟨_, .slice (some ⟨b, off + i, none⟩) (bs.length - i) (c - i), rfl, ⟨_, _, by rw [← hqm.out, ← hqp.out, hqc.out], own_base (own_gt hoD.out gA (by omega)) (by omega), b2, hbD.out.gt gA (by omega), by omega⟩, ?_, ?_, ?_⟩
            · rw [← hqc.out]
              refine ((hCD.set1 _).set2 qc).kept (row := some w.heap.size) ?_ (by intro e; have := Option.some.inj e; omega)
              exact gb_setR (gb_setR (gb_setR (gb_setR (gb_setR (gb_refl _ _) _ _) _ _) _ _) _ _) _ _
            · exact hcut
            · exact ((GT.of_none (T := fun x => x = C ∨ x = w.heap.size) gw).trans gA (fun _ _ h => h)).one (fun b hb e => by rcases e with e | e; exact e; omega)
    · have hs := Lib.hid (start_step (w1 := W1) hBr hmr hl.out hR0 P gr)
      clear hCr hzr hBr hmr P
      go_wp2_with (first
        | (go_at_call 35; refine (hs.out).mono ?_; rintro e w5 ⟨v5, k5, rfl, hk5, h5⟩))
      go_roundg k5
      case measure => exact hk5
      case rel => exact ⟨h5, NS.gb h5⟩
    · have hs := Lib.hid (header_step (w1 := W1) hBr hmr hl.out hR0 hRl P)
      clear hCr hzr hBr hmr P
      go_wp2_with (first
        | (go_at_call 67; refine (hs.out).mono ?_; rintro e w5 ⟨v5, k5, rfl, hk5, h5⟩))
      go_roundg k5
      case measure => exact hk5
      case rel => exact ⟨h5, NS.gb h5⟩
    · have hs := Lib.hid (body_step (w1 := W1) hBr hl.out hRl P)
      clear hCr hzr hBr hmr P
      go_wp2_with (first
        | (go_at_call 91; refine (hs.out).mono ?_; rintro e w5 ⟨v5, k5, rfl, hk5, h5⟩))
      go_roundg k5
      case measure => exact hk5
      case rel => exact ⟨h5, NS.gb h5⟩
end Go.Proofs.YtdfgnoflohfnmaaGreatDoor.Hx
/-! HTTP: requests as values; the kit's SameRequest and Pick, walked. -/
namespace Go.Proofs.YtdfgnoflohfnmaaGreatDoor.Hx
open Go.RowKit Go.Maps

/-- parameters as a slice, in one of some blocks -/
def QAt (w : World) (S : Nat → Prop) (qv : Value) (q : Pr) : Prop :=
  ∃ A c b o, qv = .slice A q.length c ∧ q.length ≤ maxLen ∧ (0 < q.length → A = some ⟨b, o, none⟩ ∧ S b ∧ b < w.heap.size) ∧
    ∀ i (h : i < q.length), w.cell? ⟨b, o + i * 2, none⟩ = some (.string ⟨q[i].1.toArray⟩) ∧ w.cell? ⟨b, o + i * 2 + 1, none⟩ = some (.string ⟨q[i].2.toArray⟩)
theorem prCells_at : ∀ (q : Pr) (i : Nat) (h : i < q.length), (prCells q)[i * 2]? = some (.string ⟨q[i].1.toArray⟩) ∧ (prCells q)[i * 2 + 1]? = some (.string ⟨q[i].2.toArray⟩)
  | a :: t, 0, _ => ⟨rfl, rfl⟩
  | a :: t, i + 1, h => by
    have := prCells_at t i (by simpa using h)
    have e : prCells (a :: t) = .string ⟨a.1.toArray⟩ :: .string ⟨a.2.toArray⟩ :: prCells t := rfl
    rw [e, show (i + 1) * 2 = i * 2 + 1 + 1 from by omega, show i * 2 + 1 + 1 + 1 = (i * 2 + 1) + 1 + 1 from rfl]
    simpa using this
theorem QAt.of_own {w : World} {base : Nat} {qv : Value} {q : Pr} {S : Nat → Prop} (h : w.ownsRow base 60 2 qv q.length (prCells q)) (hS : ∀ k, base ≤ k → k < w.heap.size → S k) : QAt w S qv q := by
  rcases h.2 with ⟨rfl, h0⟩ | ⟨g, cap, cur, rfl, hb, hh, hn1, hn2, _, ht⟩
  · exact ⟨none, 0, 0, 0, by rw [h0], by omega, fun h => by omega, fun i h => by omega⟩
  · have hl : g < w.heap.size := (Array.getElem?_eq_some_iff.1 hh).1
    refine ⟨_, cap, g, 0, rfl, Nat.le_trans hn1 hn2, fun _ => ⟨rfl, hS g hb hl, hl⟩, fun i hi => ?_⟩
    rw [Nat.zero_add]
    obtain ⟨h1, h2⟩ := prCells_at q i hi
    rw [cell_of_row w g _ cur _ (0, 0) hh, cell_of_row w g _ cur _ (0, 0) hh]
    rw [← ht, List.getElem?_take_of_lt (by omega)] at h1 h2
    exact ⟨by simpa using h1, by simpa using h2⟩
theorem QAt.gt {w w' : World} {S T : Nat → Prop} {qv : Value} {q : Pr} (h : QAt w S qv q) (hg : GT w w' T) (hT : ∀ b, S b → ¬ T b) : QAt w' S qv q := by
  obtain ⟨A, c, b, o, e, hm, ha, hc⟩ := h
  refine ⟨A, c, b, o, e, hm, fun h0 => ⟨(ha h0).1, (ha h0).2.1, Nat.lt_of_lt_of_le (ha h0).2.2 hg.size⟩, fun i hi => ?_⟩
  have := ha (by omega)
  exact ⟨hg.cell (hc i hi).1 (hT b this.2.1), hg.cell (hc i hi).2 (hT b this.2.1)⟩
theorem QAt.mono {w : World} {S S' : Nat → Prop} {qv : Value} {q : Pr} (h : QAt w S qv q) (hS : ∀ b, b < w.heap.size → S b → S' b) : QAt w S' qv q := by
  obtain ⟨A, c, b, o, e, hm, ha, hc⟩ := h
  exact ⟨A, c, b, o, e, hm, fun h0 => ⟨(ha h0).1, hS b (ha h0).2.2 (ha h0).2.1, (ha h0).2.2⟩, hc⟩
/-- the cells of a request -/
structure R5 where
  m : ByteArray
  p : ByteArray
  qv : Value
  cl : Bool
  bv : Value
def R5.cells (x : R5) : List Value := [.string x.m, .string x.p, x.qv, .bool x.cl, x.bv]
def R5.val (x : R5) : Value := .agg #[.string x.m, .string x.p, x.qv, .bool x.cl, x.bv]
/-- a request's cells tell it; its rows lie in some blocks -/
structure RA (w : World) (S : Nat → Prop) (r : Rq) (x : R5) : Prop where
  m : x.m = ⟨r.m.toArray⟩
  p : x.p = ⟨r.p.toArray⟩
  cl : x.cl = r.cl
  q : QAt w S x.qv r.q
  b : BS w S x.bv r.body
theorem RA.gt {w w' : World} {S T : Nat → Prop} {r : Rq} {x : R5} (h : RA w S r x) (hg : GT w w' T) (hT : ∀ b, S b → ¬ T b) : RA w' S r x := ⟨h.m, h.p, h.cl, h.q.gt hg hT, h.b.gt hg hT⟩
theorem RA.mono {w : World} {S S' : Nat → Prop} {r : Rq} {x : R5} (h : RA w S r x) (hS : ∀ b, b < w.heap.size → S b → S' b) : RA w S' r x := ⟨h.m, h.p, h.cl, h.q.mono hS, h.b.mono hS⟩
theorem RA.grown {w w' : World} {S : Nat → Prop} {r : Rq} {x : R5} (h : RA w S r x) (hg : w.grownBy w' none) : RA w' S r x := h.gt (T := fun _ => False) (.of_none hg) (fun _ _ h => h)
def rq0 : Rq := ⟨[], [], [], [], false⟩
def x0 : R5 := ⟨⟨#[]⟩, ⟨#[]⟩, .slice none 0 0, false, .slice none 0 0⟩
theorem RA.zero (w : World) (S : Nat → Prop) : RA w S rq0 x0 := ⟨rfl, rfl, rfl, ⟨none, 0, 0, 0, rfl, Nat.zero_le _, fun h => by simp [rq0] at h, fun i h => by simp [rq0] at h⟩, ⟨none, 0, rfl, Nat.le_refl _, fun h => absurd rfl h⟩⟩
theorem BF.bs {w : World} {v : Value} {b : Nat} {bs : Bs} {S : Nat → Prop} (h : BF w v b bs) (hS : b < w.heap.size → S b) : BS w S v bs := by
  by_cases h0 : bs = []
  · obtain ⟨A, c, rfl, hc⟩ := h.shape
    exact ⟨A, c, rfl, hc, fun h => absurd h0 h⟩
  · obtain ⟨off, cap, rfl, hc, _, ha⟩ := h.ba h0
    exact ⟨_, cap, rfl, hc, fun _ => ⟨b, off, rfl, hS (ha.lt h0), ha⟩⟩
theorem RQ0.ra {B : Nat} {w : World} {r : Rq} {rv : Value} (h : RQ0 B w r rv) {S : Nat → Prop} (hS : ∀ k, B ≤ k → k < w.heap.size → S k) : ∃ x : R5, rv = x.val ∧ RA w S r x := by
  obtain ⟨qv, bv, rfl, ho, b, hb, hB⟩ := h
  exact ⟨⟨_, _, qv, _, bv⟩, rfl, rfl, rfl, rfl, .of_own ho hS, hb.bs (hS b hB)⟩
/-- bytes made a text -/
theorem BV.str {w : World} {v : Value} {bs : Bs} (h : BV w v bs) : (convert 22 9 v).run Tryz.prog w = .ok (.string ⟨bs.toArray⟩) w := by
  obtain ⟨A, c, rfl, hc, h⟩ := h
  by_cases h0 : bs = []
  · subst h0
    cases A with
    | none => exact run_convert_bytes_nil w 22 5 Tryz.underlying22 Tryz.underlying5 0 c _ Tryz.underlying9
    | some a =>
      refine run_convert_bytes_back (P := Tryz.prog) w 22 9 5 a c [] Tryz.underlying22 Tryz.underlying5 Tryz.underlying9 ?_
      intro j hj; simp at hj
  · obtain ⟨b, o, rfl, hb⟩ := h h0
    exact hb.str c
set_option maxRecDepth 100000 in
set_option maxHeartbeats 6400000 in
theorem same_req (r : Rq) (x y : R5) (w : World) (hx : RA w (fun _ => True) r x) (hy : RA w (fun _ => True) r y) :
    Calls Tryz.prog 13 #[x.val, y.val] w fun e w' => e = .returned (.bool true) ∧ w.grownBy w' none := by
  obtain ⟨rm, rp, q, body, cl⟩ := r
  obtain ⟨m, p, qv, cl1, bv⟩ := x
  obtain ⟨m2, p2, qv2, cl2, bv2⟩ := y
  have hm1 := hx.m
  have hm2 := hy.m
  have hp1 := hx.p
  have hp2 := hy.p
  have hc1 := hx.cl
  have hc2 := hy.cl
  dsimp only at hm1 hm2 hp1 hp2 hc1 hc2
  rw [← hm1] at hm2
  rw [← hp1] at hp2
  rw [← hc1] at hc2
  replace hm2 := hm2.symm
  replace hp2 := hp2.symm
  replace hc2 := hc2.symm
  subst hm2 hp2 hc2
  obtain ⟨A, c, b, o, hA0, hl, hA, hcl⟩ := hx.q
  obtain ⟨X, d, g, o2, hX0, _, hX, hdl⟩ := hy.q
  unfold maxLen at hl
  dsimp only at hA0 hX0 hA hX hcl hdl hl
  subst hA0 hX0
  have sb1 := hx.b.bv
  have sb2 := hy.b.bv
  dsimp only at sb1 sb2
  obtain ⟨S, hS⟩ : ∃ S : ByteArray, S = ⟨body.toArray⟩ := ⟨_, rfl⟩
  obtain ⟨W1, hW1⟩ : ∃ W1, (w.alloc (.cells #[.string m, .string p, .slice A q.length c, .bool cl1, bv] 32)).alloc (.cells #[.string m, .string p, .slice X q.length d, .bool cl1, bv2] 32) = W1 := ⟨_, rfl⟩
  have hgw : w.grownBy W1 none := hW1 ▸ gb_alloc (gb_alloc (gb_refl w none) _) _
  have cv1 : (convert 22 9 bv).run Tryz.prog W1 = .ok (.string S) W1 := by
    rw [hS]
    obtain ⟨A', c', e, h1, h2⟩ := sb1
    exact BV.str ⟨A', c', e, h1, fun h0 => by obtain ⟨b, o, e, hb⟩ := h2 h0; exact ⟨b, o, e, hb.grown hgw (by simp)⟩⟩
  have cv2 : (convert 22 9 bv2).run Tryz.prog W1 = .ok (.string S) W1 := by
    rw [hS]
    obtain ⟨A', c', e, h1, h2⟩ := sb2
    exact BV.str ⟨A', c', e, h1, fun h0 => by obtain ⟨b, o, e, hb⟩ := h2 h0; exact ⟨b, o, e, hb.grown hgw (by simp)⟩⟩
  obtain ⟨B1, k1, rfl, _⟩ := sb1
  obtain ⟨B2, k2, rfl, _⟩ := sb2
  have e0 := heap_alloc_new w (.cells #[.string m, .string p, .slice A q.length c, .bool cl1, .slice B1 body.length k1] 32)
  have e1 := heap_alloc_new (w.alloc (.cells #[.string m, .string p, .slice A q.length c, .bool cl1, .slice B1 body.length k1] 32)) (.cells #[.string m, .string p, .slice X q.length d, .bool cl1, .slice B2 body.length k2] 32)
  have e0' := (Below.heap_alloc (w.alloc (.cells #[.string m, .string p, .slice A q.length c, .bool cl1, .slice B1 body.length k1] 32)) (.cells #[.string m, .string p, .slice X q.length d, .bool cl1, .slice B2 body.length k2] 32) w.heap.size (by simp)).trans e0
  rw [show (w.alloc (.cells #[.string m, .string p, .slice A q.length c, .bool cl1, .slice B1 body.length k1] 32)).heap.size = w.heap.size + 1 from by simp] at e1
  rw [hW1] at e1 e0'
  have FA : ∀ (W : World), W1.grownBy W none → W.cell? ⟨w.heap.size, 2, none⟩ = some (.slice A q.length c) := fun W hg => cell_grown (by rw [cell_of_row _ _ _ _ _ _ e0']; rfl) hg (by simp)
  have FB : ∀ (W : World), W1.grownBy W none → W.cell? ⟨w.heap.size + 1, 2, none⟩ = some (.slice X q.length d) := fun W hg => cell_grown (by rw [cell_of_row _ _ _ _ _ _ e1]; rfl) hg (by simp)
  have a0 : W1.cell? ⟨w.heap.size, 0, none⟩ = some (.string m) := by rw [cell_of_row _ _ _ _ _ _ e0']; rfl
  have a1 : W1.cell? ⟨w.heap.size, 1, none⟩ = some (.string p) := by rw [cell_of_row _ _ _ _ _ _ e0']; rfl
  have a2 := FA W1 (gb_refl _ _)
  have a3 : W1.cell? ⟨w.heap.size, 3, none⟩ = some (.bool cl1) := by rw [cell_of_row _ _ _ _ _ _ e0']; rfl
  have a4 : W1.cell? ⟨w.heap.size, 4, none⟩ = some (.slice B1 body.length k1) := by rw [cell_of_row _ _ _ _ _ _ e0']; rfl
  have b0 : W1.cell? ⟨w.heap.size + 1, 0, none⟩ = some (.string m) := by rw [cell_of_row _ _ _ _ _ _ e1]; rfl
  have b1 : W1.cell? ⟨w.heap.size + 1, 1, none⟩ = some (.string p) := by rw [cell_of_row _ _ _ _ _ _ e1]; rfl
  have b2 := FB W1 (gb_refl _ _)
  have b3 : W1.cell? ⟨w.heap.size + 1, 3, none⟩ = some (.bool cl1) := by rw [cell_of_row _ _ _ _ _ _ e1]; rfl
  have b4 : W1.cell? ⟨w.heap.size + 1, 4, none⟩ = some (.slice B2 body.length k2) := by rw [cell_of_row _ _ _ _ _ _ e1]; rfl
  replace hl := Lib.hid hl
  clear e0 e0' e1 hx hy hm1 hp1 hc1 hS
  show Calls Tryz.prog 13 #[.agg #[.string m, .string p, .slice A q.length c, .bool cl1, .slice B1 body.length k1], .agg #[.string m, .string p, .slice X q.length d, .bool cl1, .slice B2 body.length k2]] w _
  go_enter Tryz.func13, Tryz.ntmps13
  go_wp2_with fail
  try rw [hW1]
  clear hW1 a0 a1 a2 a3 a4 b0 b1 b2 b3 b4 cv1 cv2
  go_loopg [5] q.length (fun z uk wr => ∃ k : Nat, k ≤ q.length ∧ z = q.length - k ∧ uk = .int .i64 k ∧ W1.grownBy wr none)
  case atStart => exact ⟨0, Nat.zero_le _, rfl, rfl, gb_refl _ _⟩
  case round =>
    obtain ⟨k, hk, rfl, rfl, hg⟩ := hrel
    have fa := FA _ hg
    have fb := FB _ hg
    have hgr := gb_trans hgw hg
    by_cases hlt : k < q.length
    · obtain ⟨rfl, _⟩ := hA (by omega)
      obtain ⟨rfl, _⟩ := hX (by omega)
      have hqi : (k : Int) < (q.length : Int) := by omega
      have g0 := cell_grown (hcl k hlt).1 hgr (by simp)
      have g1 := cell_grown (hcl k hlt).2 hgr (by simp)
      have k0 := cell_grown (hdl k hlt).1 hgr (by simp)
      have k1 := cell_grown (hdl k hlt).2 hgr (by simp)
      have hq1 := Lib.hid (show wrap64 ((k : Int) + 1) = ((k + 1 : Nat) : Int) from (wrap64_id (by omega) (by have := hl.out; omega)).trans (by omega))
      clear hcl hdl hA hX FA FB
      generalize (⟨q[k].1.toArray⟩ : ByteArray) = ta at *
      generalize (⟨q[k].2.toArray⟩ : ByteArray) = tb at *
      go_wp2_with fail
      go_region
      all_goals go_wp2_with fail
      all_goals go_roundg (q.length - (k + 1))
      all_goals first
        | omega
        | exact ⟨k + 1, hlt, rfl, by first | rw [hq1.out] | go_num, gb_drew hg⟩
    · have hqi : ¬ (k : Int) < (q.length : Int) := by omega
      clear hcl hdl hA hX FA FB
      go_wp2_with fail
      go_ret
      exact ⟨rfl, hgr⟩
end Go.Proofs.YtdfgnoflohfnmaaGreatDoor.Hx
