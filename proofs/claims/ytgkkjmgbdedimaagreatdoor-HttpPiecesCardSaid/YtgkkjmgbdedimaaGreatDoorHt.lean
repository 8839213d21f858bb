/- HTTP: bytes in pieces: the statement's own walk. -/
import Derived.Test.YtgkkjmgbdedimaaGreatDoorHs
import Derived.Test.YtgkkjmgbdedimaaGreatDoorG1
namespace Go.Proofs.YtgkkjmgbdedimaaGreatDoor.Hx
open Go.RowKit Go.Maps

theorem RA.shape {w : World} {S : Nat → Prop} {r : Rq} {x : R5} (h : RA w S r x) : ∃ xm xp A n c xc A2 n2 c2, x = ⟨xm, xp, .slice A n c, xc, .slice A2 n2 c2⟩ := by
  obtain ⟨m, p, qv, cl, bv⟩ := x
  obtain ⟨A, c, _, e, _⟩ := h.q
  obtain ⟨A2, c2, e2, _⟩ := h.b
  dsimp only at e e2
  subst e e2
  exact ⟨_, _, _, _, _, _, _, _, _, rfl⟩
/-- nothing is told -/
theorem next_stop (C : Nat) (bo : Option Nat) (bs : Bs) (ov : Bool) (m : Int) (w : World) (h : CN w C bo bs ov) (hm : MX w m) (hl : bs.length ≤ 2000000) (hs : ov = true ∨ nextP bs = .more) :
    Calls Tryz.prog 10 #[.pointer (some ⟨C, 0, none⟩)] w fun e w' => e = .returned (.tuple #[req0, .int .i64 0, .bool false]) ∧ w.grownBy w' none := by
  refine (next_cn C bo bs ov m w h hm hl).mono ?_
  intro e w' hk
  unfold NcK at hk
  cases ov with
  | true =>
    rw [if_pos rfl] at hk
    exact ⟨hk.1, hk.2.2⟩
  | false =>
    rcases hs with e | hn
    · cases e
    · rw [if_neg (by decide), hn] at hk
      exact ⟨hk.1, hk.2.2⟩
/-- how much may be told yet -/
def lft (ov : Bool) (bs : Bs) : Nat := if ov then 0 else bs.length + 1
/-- something is told -/
theorem next_tell (C : Nat) (bo : Option Nat) (bs : Bs) (m : Int) (w : World) (h : CN w C bo bs false) (hm : MX w m) (hl : bs.length ≤ 2000000) (hs : nextP bs ≠ .more) :
    Calls Tryz.prog 10 #[.pointer (some ⟨C, 0, none⟩)] w fun e w' => ∃ xm xp A n c xc A2 n2 c2 st o bs' ov',
      e = .returned (.tuple #[.agg #[.string xm, .string xp, .slice A n c, .bool xc, .slice A2 n2 c2], .int .i64 st, .bool true]) ∧ RA w' (fun k => w.heap.size ≤ k) (o.getD rq0) ⟨xm, xp, .slice A n c, xc, .slice A2 n2 c2⟩ ∧
      CN w' C bo bs' ov' ∧ w.grownBy w' (some C) ∧ (∀ b L, DR b L bs false → DR b (L ++ [(o, st)]) bs' ov') ∧ lft ov' bs' < bs.length + 1 ∧ bs'.length ≤ bs.length := by
  refine (next_cn C bo bs false m w h hm hl).mono ?_
  intro e w' hk
  unfold NcK at hk
  rw [if_neg (by decide)] at hk
  cases hn : nextP bs with
  | more => exact absurd hn hs
  | fault st =>
    rw [hn] at hk
    obtain ⟨rfl, hc, hg⟩ := hk
    exact ⟨_, _, _, _, _, _, _, _, _, st, none, bs, true, rfl, RA.zero _ _, hc, hg, fun b L hd => hd.fault hn, by unfold lft; simp, Nat.le_refl _⟩
  | req r n =>
    rw [hn] at hk
    obtain ⟨x, rfl, hx, hc, hg⟩ := hk
    obtain ⟨xm, xp, A, n1, c, xc, A2, n2, c2, rfl⟩ := hx.shape
    obtain ⟨_, h2, h3⟩ := (next_app bs []).2 r n hn
    refine ⟨xm, xp, A, n1, c, xc, A2, n2, c2, 0, some r, bs.drop n, r.cl, rfl, hx, hc, hg, fun b L hd => hd.req hn, ?_, by rw [List.length_drop]; omega⟩
    unfold lft
    split
    · omega
    · rw [List.length_drop]; omega
theorem PS.init {w w2 w3 : World} {C D : Nat} {bo : Option Nat} {bs : Bs} (g : w.grownBy w2 none) (hC : w.heap.size ≤ C) (hD : w.heap.size ≤ D) (hCD : C ≠ D) (d : CN w2 D none [] false) (c : CN w3 C bo bs false)
    (hg : GT w2 w3 (fun k => k = C ∨ none = some k)) (hb : bo = none ∨ bo = none ∨ ∃ k, bo = some k ∧ w2.heap.size ≤ k) : PS w w3 C D bo none bs [] false false (.slice none 0 0) (.slice none 0 0) [] [] := by
  have hbk : ∀ k, bo = some k → w2.heap.size ≤ k := fun k hk => by
    rcases hb with e | e | ⟨j, e, hj⟩
    · rw [e] at hk; cases hk
    · rw [e] at hk; cases hk
    · rw [e] at hk; cases hk; exact hj
  have hdl := d.lt
  have hgs := g.size
  exact ⟨((GT.of_none (T := fun k => k = C ∨ (none : Option Nat) = some k) g).trans hg (fun _ _ h => h)).grown (fun b hb e => by rcases e with e | e; omega; cases e), hC, hD, hCD, c, d.gt hg (fun e => by rcases e with e | e; exact hCD e.symm; cases e) (fun _ h => by cases h),
    fun k hk => ⟨by have := hbk k hk; omega, by have := hbk k hk; omega, by simp⟩, (fun k hk => by cases hk), LT.nil _ _ _, LT.nil _ _ _, (fun k hk => by simp [Value.ownBlock] at hk), (fun k hk => by simp [Value.ownBlock] at hk)⟩
/-- the pieces' relations -/
def L2 (w : World) (bs : Bs) (C D : Nat) (bo : Option Nat) (bc : Bs) (oc : Bool) (u7 : Value) (L : Tl) (gk : Nat) (v0 v8 v10 v15 : Value) (wr : World) : Prop :=
  ∃ (p t : Bs) (M : Tl) (bp : Option Nat) (bd : Bs) (od : Bool) (n : Nat), bs = p ++ t ∧ BV w v0 t ∧ v15 = .int .i64 (n : Nat) ∧ n ≤ p.length ∧ PS w wr C D bo bp bc bd oc od u7 v8 (tlR L) (tlR M) ∧ v10 = .int .i64 (tlS M) ∧ drain p = (M, ⟨bd, od⟩) ∧ M.length + lft od bd ≤ p.length + 1 ∧ bd.length ≤ p.length ∧ gk = t.length
def L3 (w : World) (q : Bs) (C D : Nat) (bo : Option Nat) (bc : Bs) (oc : Bool) (u7 : Value) (L : Tl) (gk : Nat) (v8 v10 : Value) (wr : World) : Prop :=
  ∃ (M : Tl) (bp : Option Nat) (bd : Bs) (od : Bool), PS w wr C D bo bp bc bd oc od u7 v8 (tlR L) (tlR M) ∧ v10 = .int .i64 (tlS M) ∧ DR q M bd od ∧ M.length + lft od bd ≤ q.length + 1 ∧ bd.length ≤ q.length ∧ gk = lft od bd
theorem piece_nums {a p t l k : Nat} (h1 : a ≤ p) (h2 : l ≤ 20000) (h3 : l = p + t) (hk : k ≤ t) : a ≤ 1048576 ∧ k ≤ 1000000 ∧ ¬ 1048576 < a + k := ⟨by omega, by omega, by omega⟩
theorem lft_step {a N : Nat} {ov : Bool} {b0 b1 : Bs} (h1 : a + lft false b0 ≤ N) (h2 : lft ov b1 < b0.length + 1) : a + 1 + lft ov b1 ≤ N := by
  have : lft false b0 = b0.length + 1 := rfl
  omega
theorem piece_lft {a : Nat} {p t bd : Bs} (h1 : a + lft false bd ≤ p.length + 1) (h2 : bd.length ≤ p.length) : a + lft false (bd ++ t) ≤ (p ++ t).length + 1 ∧ (bd ++ t).length ≤ (p ++ t).length := by
  have e1 : lft false bd = bd.length + 1 := rfl
  have e2 : lft false (bd ++ t) = bd.length + t.length + 1 := by show (bd ++ t).length + 1 = _; rw [List.length_append]
  rw [List.length_append, List.length_append]
  omega
theorem exact_i {a b : Int} (h : a = b) : Value.int .i64 a = .int .i64 b := by rw [h]
/-- a list's element -/
theorem R5.cells_at : ∀ (xs : List R5) (i : Nat) (h : i < xs.length) (j : Nat), j < 5 → (xs.flatMap R5.cells)[i * 5 + j]? = xs[i].cells[j]?
  | a :: t, 0, _, j, hj => by
    rw [List.flatMap_cons, Nat.zero_mul, Nat.zero_add, List.getElem?_append_left (by simpa [R5.cells] using hj)]; rfl
  | a :: t, i + 1, h, j, hj => by
    have := R5.cells_at t i (by simpa using h) j hj
    rw [List.flatMap_cons, List.getElem?_append_right (by simp [R5.cells]; omega), show (i + 1) * 5 + j - a.cells.length = i * 5 + j from by simp [R5.cells]; omega, this]
    rfl
theorem LT.at {w : World} {base : Nat} {S : Nat → Prop} {v : Value} {l : List Rq} (h : LT w base S v l) (i : Nat) (hi : i < l.length) : ∃ g cap x, v = .slice (some ⟨g, 0, none⟩) l.length cap ∧ RA w S l[i] x ∧
    w.cell? ⟨g, i * 5, none⟩ = some (.string x.m) ∧ w.cell? ⟨g, i * 5 + 1, none⟩ = some (.string x.p) ∧ w.cell? ⟨g, i * 5 + 2, none⟩ = some x.qv ∧ w.cell? ⟨g, i * 5 + 3, none⟩ = some (.bool x.cl) ∧ w.cell? ⟨g, i * 5 + 4, none⟩ = some x.bv := by
  obtain ⟨xs, ho, hl, ha⟩ := h
  rcases ho.2 with ⟨_, h0⟩ | ⟨g, cap, cur, rfl, hb, hh, hn, _, hc, ht⟩
  · omega
  · have hx : i < xs.length := by omega
    refine ⟨g, cap, xs[i], rfl, ha i hi hx, ?_⟩
    have hcell : ∀ j, j < 5 → w.cell? ⟨g, i * 5 + j, none⟩ = xs[i].cells[j]? := fun j hj => by
      rw [cell_of_row w g _ cur _ (0, 0) hh, ← R5.cells_at xs i hx j hj, ← ht, List.getElem?_take_of_lt (by omega)]
      simp
    exact ⟨hcell 0 (by omega), hcell 1 (by omega), hcell 2 (by omega), hcell 3 (by omega), hcell 4 (by omega)⟩
theorem LT.shape {w : World} {base : Nat} {S : Nat → Prop} {v : Value} {l : List Rq} (h : LT w base S v l) : ∃ A c, v = .slice A l.length c := by
  obtain ⟨xs, ho, _⟩ := h
  exact row_shape ho
/-- the first loop's relation -/
def L1 (w : World) (bs : Bs) (C D : Nat) (gk : Nat) (v7 v9 v11 : Value) (wr : World) : Prop :=
  ∃ (L : Tl) (bo : Option Nat) (bc : Bs) (oc : Bool), PS w wr C D bo none bc [] oc false v7 (.slice none 0 0) (tlR L) [] ∧ v9 = .int .i64 (tlS L) ∧ v11 = .int .i64 (L.length : Nat) ∧ DR bs L bc oc ∧ L.length + lft oc bc ≤ bs.length + 1 ∧ gk = lft oc bc ∧ bc.length ≤ bs.length
theorem info_rq : (Tryz.prog.info? 32).map (fun i => (i.zero, i.size, i.bytes)) = some (some req0, 5, 88) := by kernel_rfl
set_option maxRecDepth 100000 in
set_option maxHeartbeats 6400000 in
theorem pieces_long (x : Value) (cv : Value) (bs : Bs) (w : World) (hx : BV w x bs) (hl : 20000 < bs.length) (hlv : Calls Tryz.prog 7 #[] w fun e w' => e = .returned (.bool true) ∧ w.grownBy w' none) :
    Calls Tryz.prog 3 #[x, cv] w fun e w' => e = .returned (.bool true) ∧ w.grownBy w' none := by
  obtain ⟨A, c, rfl, _⟩ := hx
  have hl' : (20000 : Int) < (bs.length : Int) := by omega
  replace hlv := Lib.hid hlv
  go_enter Tryz.func3, Tryz.ntmps3
  go_wp2_with (first
    | (go_at_call 7; refine (hlv.out).mono ?_; rintro e w0 ⟨rfl, g0⟩))
  go_ret
  exact ⟨rfl, g0⟩
set_option maxRecDepth 100000 in
set_option maxHeartbeats 6400000 in
theorem pieces_go (x : Value) (cv : Value) (bs : Bs) (cuts : List Int) (m : Int) (w : World) (hx : BV w x bs) (hcv : IV w cv cuts) (hm : MX w m) (hl : ¬ 20000 < bs.length) (hlv : Calls Tryz.prog 7 #[] w fun e w' => e = .returned (.bool true) ∧ w.grownBy w' none) :
    Calls Tryz.prog 3 #[x, cv] w fun e w' => e = .returned (.bool true) ∧ w.grownBy w' none := by
  have hl' : ¬ (20000 : Int) < (bs.length : Int) := by omega
  have hl2 := Lib.hid (show bs.length ≤ 20000 by omega)
  have hfd := fun C W (hc : CN W C none [] false) (hX : BV W x bs) => Lib.hid (feed_cn C none [] bs false x W hc hX (Nat.zero_le _) (by omega))
  have hxh := Lib.hid hx
  have hmh := Lib.hid hm
  obtain ⟨Ac, cc, rfl, hcv2⟩ := hcv
  replace hcv2 := Lib.hid hcv2
  obtain ⟨A, c, rfl, _⟩ := hx
  replace hlv := Lib.hid hlv
  clear hl hm
  go_enter Tryz.func3, Tryz.ntmps3
  go_wp2_with (first
    | (go_at_call 7; refine (hlv.out).mono ?_; rintro e w0 ⟨rfl, g0⟩)
    | (go_at_call 8; have hh := z1; clear hh; refine (new_cn _).mono ?_; rintro e w2 ⟨rfl, c2, g2, z2⟩; have hb2 := hxh.out.grown (gb_trans (gb_trans g0 g1) g2); have c1' := Lib.hid (c1.grown g2))
    | (go_at_call 8; refine (new_cn _).mono ?_; rintro e w1 ⟨rfl, c1, g1, z1⟩)
    | (go_at_call 9; refine ((hfd _ _ c1'.out hb2).out).mono ?_; intro e w3 hf; unfold FcK at hf; rw [if_neg (by decide), if_neg (by simp; have := hl2.out; omega)] at hf; obtain ⟨rfl, bo, c3, g3, hbo⟩ := hf))
  have hC0 : w.heap.size ≤ w0.heap.size := g0.size
  have hz3 := z1
  rw [z1] at c2
  have hps := PS.init (gb_trans (gb_trans g0 g1) g2) hC0 (Nat.le_trans hC0 (by omega)) (by omega) c2 (by simpa using c3) g3 hbo
  clear c3 g3 hbo c2 c1 c1' hb2 g2 g1 hfd hlv z1 z2 hz3
  obtain ⟨i0, hi0, hi1, hi2, hi3⟩ := info_parts info_rq
  go_loopg [7, 9, 11] (bs.length + 1) (fun gk v7 v9 v11 wr => L1 w bs w0.heap.size (w0.heap.size + 1) gk v7 v9 v11 wr)
  case atStart => exact ⟨[], bo, bs, false, hps, rfl, rfl, DR.start bs, by unfold lft; simp, by unfold lft; simp, Nat.le_refl _⟩
  case round =>
    clear hps
    obtain ⟨L, bo1, bc, oc, hps, rfl, rfl, hdr, hLl, rfl, hbc⟩ := hrel
    have hmr := hmh.out.grown hps.gb (by simp)
    have hl3 := hl2.out
    by_cases hstop : oc = true ∨ nextP bc = .more
    · have hnx := Lib.hid (next_stop w0.heap.size bo1 bc oc m wr hps.c hmr (by omega) hstop)
      have hdone := Lib.hid (hdr.stop hstop)
      replace hps := Lib.hid hps
      clear hmr hdr hstop hl3
      go_wp2_with (first
        | (go_at_call 10; refine (hnx.out).mono ?_; rintro e w4 ⟨rfl, g4⟩))
      have hd := hdone.out
      go_loopg [0, 8, 10, 15] bs.length (fun gk v0 v8 v10 v15 wr => L2 w bs w0.heap.size (w0.heap.size + 1) bo1 bc oc u7 L gk v0 v8 v10 v15 wr)
      case atStart =>
        have hpA := (hps.out.grown g4).grown (gb_alloc (gb_refl w4 none) (.cells #[.string ⟨#[]⟩, .string ⟨#[]⟩, .slice none 0 0, .bool false, .slice none 0 0] 32))
        exact ⟨[], bs, [], none, [], false, 0, rfl, hxh.out, rfl, Nat.le_refl _, hpA, rfl, rfl, Nat.le_refl _, Nat.le_refl _, rfl⟩
      case round =>
        clear hps hnx g4
        obtain ⟨p, t, M, bp, bd, od, n, hbs, hv0, rfl, hnp, hps, rfl, hdp, hMl, hbd, rfl⟩ := hrel
        have hl3 := hl2.out
        have hbl : bs.length = p.length + t.length := by rw [hbs, List.length_append]
        have hmr := hmh.out.grown hps.gb (by simp)
        by_cases hgo : t ≠ [] ∧ od = false
        · obtain ⟨ht0, rfl⟩ := hgo
          have htp : 0 < t.length := List.length_pos_iff.mpr ht0
          obtain ⟨A0, c0, rfl, hc0, ha0⟩ := hv0
          obtain ⟨b0, o0, rfl, hba0⟩ := ha0 ht0
          have hov := Lib.hid (over_cn (w0.heap.size + 1) bp bd false wr hps.d)
          have htI : (0 : Int) < (t.length : Int) := by omega
          have htc : (t.length : Int) ≤ (c0 : Int) := by omega
          have hnI : (0 : Int) ≤ (n : Int) := by omega
          replace hbs := Lib.hid hbs
          replace hps := Lib.hid hps
          replace hdp := Lib.hid hdp
          replace hMl := Lib.hid hMl
          replace hbd := Lib.hid hbd
          replace hmr := Lib.hid hmr
          replace hc0 := Lib.hid hc0
          replace hba0 := Lib.hid hba0
          replace hnp := Lib.hid hnp
          replace hbl := Lib.hid hbl
          replace hl3 := Lib.hid hl3
          replace htp := Lib.hid htp
          replace ht0 := Lib.hid ht0
          clear hd ha0
          go_upto_if 61 with (first
            | (go_at_call 11; refine (hov.out).mono ?_; rintro e w4 ⟨rfl, hw4⟩; rw [hw4]; clear hw4))
          go_cut [16] from 46 to 90 (fun u16 wx => ∃ k : Nat, 1 ≤ k ∧ k ≤ t.length ∧ u16 = .int .i64 (k : Nat) ∧ wx = wr)
          case first =>
            by_cases hin : n < cuts.length
            · obtain ⟨⟨gc, oc2, rfl, hcell⟩, _, _⟩ := hcv2.out n hin
              have hcell2 := cell_grown hcell hps.out.gb (by simp)
              have hinI : (n : Int) < (cuts.length : Int) := by omega
              have htz : (t.length : Int) ≤ 1000000 := by have := hl3.out; have := hbl.out; omega
              have hpk := fun W => Lib.hid (pick_any (cuts[n]) (t.length : Int) W (by omega) htz)
              generalize cuts[n] = cn at *
              clear hcell htz
              go_wp2_with (first
                | (go_at_call 12; refine ((hpk _).out).mono ?_; rintro e w5 ⟨⟨k0, rfl, hk0, hk1⟩, hw5⟩; rw [hw5]; clear hw5; obtain ⟨kn, rfl⟩ := Int.eq_ofNat_of_zero_le hk0; have hkn : kn < t.length := (by omega); have hw8 : wrap64 ((kn : Int) + 1) = ((kn + 1 : Nat) : Int) := ((wrap64_id (by omega) (by have := hl3.out; have := hbl.out; omega)).trans (by omega))))
              go_meet
              exact ⟨kn + 1, Nat.le_add_left 1 kn, hkn, exact_i hw8, rfl⟩
            · have hinI : ¬ (n : Int) < (cuts.length : Int) := by omega
              go_wp2_with fail
              go_meet
              exact ⟨t.length, htp.out, Nat.le_refl _, rfl, rfl⟩
          case rest =>
            obtain ⟨k, hk1, hk2, rfl, hwx⟩ := hcut
            replace hwx := hwx.symm
            subst hwx
            have htk : (t.take k).length = k := List.length_take_of_le hk2
            obtain ⟨n1, n2', n3⟩ := piece_nums hbd.out hl3.out hbl.out hk2
            have hbt : BV w (.slice (some ⟨b0, o0, none⟩) k c0) (t.take k) := ⟨_, c0, by rw [htk], by rw [htk]; exact Nat.le_trans hk2 hc0.out, fun _ => ⟨b0, o0, rfl, hba0.out.take k⟩⟩
            have hfd2 := Lib.hid (feed_cn (w0.heap.size + 1) bp bd (t.take k) false _ wr hps.out.d (hbt.grown hps.out.gb) n1 (by rw [htk]; exact n2'))
            have hbig := Lib.hid (show ¬ 1048576 < bd.length + (t.take k).length from by rw [htk]; exact n3)
            have hkI : (k : Int) ≤ (c0 : Int) := Int.ofNat_le.mpr (Nat.le_trans hk2 hc0.out)
            have hkT : (k : Int) ≤ (t.length : Int) := Int.ofNat_le.mpr hk2
            have hk0 : (0 : Int) ≤ (k : Int) := Int.natCast_nonneg k
            replace hk1 := Lib.hid hk1
            replace hk2 := Lib.hid hk2
            clear htk hbt hov htI n1 n2' n3
            by_cases hck : c0 = k
            · have e1 : t.length - k = 0 := by have := hc0.out; omega
              have e2 : k - k = 0 := by omega
              replace hck := hck.symm
              subst hck
              have hdn : Hid (t.drop k = []) := List.drop_eq_nil_of_le (Nat.le_of_sub_eq_zero e1)
              go_wp2_with (first
                | (go_at_call 9; refine (hfd2.out).mono ?_; clear hfd2; intro e w5 hf; unfold FcK at hf; rw [if_neg (by decide), if_neg hbig.out] at hf; obtain ⟨rfl, bp5, c5, g5, hb5⟩ := hf; have hp5 := Lib.hid ((hps.out.swap.feed c5 g5 hb5).swap); clear c5 g5 hb5))
              go_loopg [8, 10] (lft false (bd ++ t.take k)) (fun gk v8 v10 wr => L3 w (p ++ t.take k) w0.heap.size (w0.heap.size + 1) bo1 bc oc u7 L gk v8 v10 wr)
              case atStart =>
                have h1 := hMl.out
                have h2 := hbd.out
                refine ⟨M, bp5, bd ++ t.take k, false, hp5.out, rfl, DR.piece hdp.out _, ?_, ?_, rfl⟩
                · exact (piece_lft h1 h2).1
                · exact (piece_lft (t := t.take k) h1 h2).2
              case round =>
                clear hp5 hmr
                obtain ⟨M3, bp3, bd3, od3, hps3, rfl, hdr3, hM3, hbd3, rfl⟩ := hrel
                have hmr := hmh.out.grown hps3.gb (by simp)
                have hl9 : bd3.length ≤ 20000 := by
                  have h1 := hl3.out
                  have h2 := hbl.out
                  simp only [List.length_append, List.length_take] at hbd3
                  omega
                by_cases hstop : od3 = true ∨ nextP bd3 = .more
                · have hnx := Lib.hid (next_stop (w0.heap.size + 1) bp3 bd3 od3 m wr hps3.d hmr (by omega) hstop)
                  have hdone3 := Lib.hid (hdr3.stop hstop)
                  replace hps3 := Lib.hid hps3
                  replace hM3 := Lib.hid hM3
                  replace hbd3 := Lib.hid hbd3
                  have hw9 := Lib.hid (show wrap64 ((n : Int) + 1) = ((n + 1 : Nat) : Int) from (wrap64_id (by omega) (by have := hnp.out; have := hl3.out; have := hbl.out; omega)).trans (by omega))
                  clear hmr hdr3 hstop hl9
                  go_wp2_with (first
                    | (go_at_call 10; refine (hnx.out).mono ?_; rintro e w6 ⟨rfl, g6⟩))
                  go_roundg (t.length - k)
                  case measure => exact Nat.sub_lt htp.out hk1.out
                  case rel =>
                    have hpA := (hps3.out.grown g6).grown (gb_alloc (gb_refl w6 none) (.cells #[.string ⟨#[]⟩, .string ⟨#[]⟩, .slice none 0 0, .bool false, .slice none 0 0] 32))
                    have h1 := hM3.out
                    have h2 := hbd3.out
                    have h3 := hnp.out
                    have htk : (t.take k).length = k := List.length_take_of_le hk2.out
                    refine ⟨p ++ t.take k, t.drop k, M3, bp3, bd3, od3, n + 1, by rw [hbs.out, List.append_assoc, List.take_append_drop], (by rw [hdn.out]; exact ⟨_, _, rfl, Nat.le_refl _, fun h => absurd rfl h⟩), exact_i hw9.out, ?_, hpA, rfl, hdone3.out, h1, h2, by rw [List.length_drop]⟩
                    rw [List.length_append, htk]; exact Nat.add_le_add h3 hk1.out
                · have hoc : od3 = false := by cases od3; rfl; exact absurd (.inl rfl) hstop
                  subst hoc
                  have hnx := Lib.hid (next_tell (w0.heap.size + 1) bp3 bd3 m wr hps3.d hmr (by omega) (fun e => hstop (.inr e)))
                  have hLL := Lib.hid (show (tlR M3).length ≤ 20000 from by
                    have h1 := hl3.out
                    have h2 := hbl.out
                    have h3 := tlR_length M3
                    unfold lft at hM3
                    simp only [List.length_append, List.length_take, Bool.false_eq_true, if_false] at hM3
                    omega)
                  replace hdr3 := Lib.hid hdr3
                  replace hM3 := Lib.hid hM3
                  replace hbd3 := Lib.hid hbd3
                  replace hps3 := Lib.hid hps3
                  clear hmr hstop hl9
                  go_wp2_with (first
                    | (go_at_call 10; refine (hnx.out).mono ?_; clear hnx; rintro e w4 ⟨xm, xp, A2, n2, k2, xc, A3, n3, k3, st, o, bc', oc', rfl, hx, c4, g4, hd4, hm4, hl4⟩; have hp4 := ((hps3.out.swap.next c4 g4).grown (gb_alloc (gb_alloc (gb_refl w4 none) (.cells #[.string xm, .string xp, .slice A2 n2 k2, .bool xc, .slice A3 n3 k3] 32)) (.cells #[.string xm, .string xp, .slice A2 n2 k2, .bool xc, .slice A3 n3 k3] 32))); obtain ⟨xs, ho, hl, ha⟩ := hp4.lv; replace hl := Lib.hid hl; replace ha := Lib.hid ha; replace hp4 := Lib.hid hp4; replace hx := Lib.hid hx; replace hd4 := Lib.hid hd4; replace hm4 := Lib.hid hm4; replace hl4 := Lib.hid hl4; clear c4)
                    | (at_builtin; refine wpList_append_own_at _ rfl _ _ 29 rfl w.heap.size 32 i0 req0 5 88 Tryz.underlying29 hi0 hi1 hi2 hi3 rfl (by decide) _ _ _ rfl ho ⟨_, 0, none⟩ 1 1 [.string xm, .string xp, .slice A2 n2 k2, .bool xc, .slice A3 n3 k3] rfl rfl (news_new _ _ (by simp)) (by simp [Value.oneCell']) (by have := hLL.out; unfold maxLen; omega) (by have := hLL.out; omega) (by have := hp4.out.gb.size; exact this) ?_; intro v9 w9 o9 g9 _ at9; have o9' := Lib.hid o9; obtain ⟨gg, cap2, rfl⟩ := ownsRow_succ o9; clear o9))
                  go_roundg (lft oc' bc')
                  case measure => have := hm4.out; exact this
                  case rel =>
                    have hn4 : RA ((w4.alloc (.cells #[.string xm, .string xp, .slice A2 n2 k2, .bool xc, .slice A3 n3 k3] 32)).alloc (.cells #[.string xm, .string xp, .slice A2 n2 k2, .bool xc, .slice A3 n3 k3] 32)) (SS (w0.heap.size + 1) w0.heap.size bp3 bo1 u8 u7) (o.getD rq0) ⟨xm, xp, .slice A2 n2 k2, xc, .slice A3 n3 k3⟩ :=
                      (hx.out.mono (fun b _ hb => hps3.out.swap.fresh hb)).grown (gb_alloc (gb_alloc (gb_refl w4 none) _) _)
                    have hput := (hp4.out.put hl.out ha.out hn4 g9 o9'.out at9).swap
                    have h1 := hM3.out
                    have h2 := hm4.out
                    have h3 := hl4.out
                    have h4 := hbd3.out
                    refine ⟨M3 ++ [(o, st)], bp3, bc', oc', ?_, by rw [tlS_app], hd4.out _ M3 hdr3.out, ?_, Nat.le_trans h3 h4, rfl⟩
                    · rw [tlR_app]; exact hput
                    · rw [List.length_append]; exact lft_step h1 h2
            · have hrest : Hid (BV w (.slice (some ⟨b0, o0 + k, none⟩) (t.length - k) (c0 - k)) (t.drop k)) := ⟨_, c0 - k, by rw [List.length_drop], by rw [List.length_drop]; exact Nat.sub_le_sub_right hc0.out k, fun _ => ⟨b0, o0 + k, rfl, hba0.out.drop k⟩⟩
              go_wp2_with (first
                | (go_at_call 9; refine (hfd2.out).mono ?_; clear hfd2; intro e w5 hf; unfold FcK at hf; rw [if_neg (by decide), if_neg hbig.out] at hf; obtain ⟨rfl, bp5, c5, g5, hb5⟩ := hf; have hp5 := Lib.hid ((hps.out.swap.feed c5 g5 hb5).swap); clear c5 g5 hb5))
              go_loopg [8, 10] (lft false (bd ++ t.take k)) (fun gk v8 v10 wr => L3 w (p ++ t.take k) w0.heap.size (w0.heap.size + 1) bo1 bc oc u7 L gk v8 v10 wr)
              case atStart =>
                have h1 := hMl.out
                have h2 := hbd.out
                refine ⟨M, bp5, bd ++ t.take k, false, hp5.out, rfl, DR.piece hdp.out _, ?_, ?_, rfl⟩
                · exact (piece_lft h1 h2).1
                · exact (piece_lft (t := t.take k) h1 h2).2
              case round =>
                clear hp5 hmr
                obtain ⟨M3, bp3, bd3, od3, hps3, rfl, hdr3, hM3, hbd3, rfl⟩ := hrel
                have hmr := hmh.out.grown hps3.gb (by simp)
                have hl9 : bd3.length ≤ 20000 := by
                  have h1 := hl3.out
                  have h2 := hbl.out
                  simp only [List.length_append, List.length_take] at hbd3
                  omega
                by_cases hstop : od3 = true ∨ nextP bd3 = .more
                · have hnx := Lib.hid (next_stop (w0.heap.size + 1) bp3 bd3 od3 m wr hps3.d hmr (by omega) hstop)
                  have hdone3 := Lib.hid (hdr3.stop hstop)
                  replace hps3 := Lib.hid hps3
                  replace hM3 := Lib.hid hM3
                  replace hbd3 := Lib.hid hbd3
                  have hw9 := Lib.hid (show wrap64 ((n : Int) + 1) = ((n + 1 : Nat) : Int) from (wrap64_id (by omega) (by have := hnp.out; have := hl3.out; have := hbl.out; omega)).trans (by omega))
                  clear hmr hdr3 hstop hl9
                  go_wp2_with (first
                    | (go_at_call 10; refine (hnx.out).mono ?_; rintro e w6 ⟨rfl, g6⟩))
                  go_roundg (t.length - k)
                  case measure => exact Nat.sub_lt htp.out hk1.out
                  case rel =>
                    have hpA := (hps3.out.grown g6).grown (gb_alloc (gb_refl w6 none) (.cells #[.string ⟨#[]⟩, .string ⟨#[]⟩, .slice none 0 0, .bool false, .slice none 0 0] 32))
                    have h1 := hM3.out
                    have h2 := hbd3.out
                    have h3 := hnp.out
                    have htk : (t.take k).length = k := List.length_take_of_le hk2.out
                    refine ⟨p ++ t.take k, t.drop k, M3, bp3, bd3, od3, n + 1, by rw [hbs.out, List.append_assoc, List.take_append_drop], hrest.out, exact_i hw9.out, ?_, hpA, rfl, hdone3.out, h1, h2, by rw [List.length_drop]⟩
                    rw [List.length_append, htk]; exact Nat.add_le_add h3 hk1.out
                · have hoc : od3 = false := by cases od3; rfl; exact absurd (.inl rfl) hstop
                  subst hoc
                  have hnx := Lib.hid (next_tell (w0.heap.size + 1) bp3 bd3 m wr hps3.d hmr (by omega) (fun e => hstop (.inr e)))
                  have hLL := Lib.hid (show (tlR M3).length ≤ 20000 from by
                    have h1 := hl3.out
                    have h2 := hbl.out
                    have h3 := tlR_length M3
                    unfold lft at hM3
                    simp only [List.length_append, List.length_take, Bool.false_eq_true, if_false] at hM3
                    omega)
                  replace hdr3 := Lib.hid hdr3
                  replace hM3 := Lib.hid hM3
                  replace hbd3 := Lib.hid hbd3
                  replace hps3 := Lib.hid hps3
                  clear hmr hstop hl9
                  go_wp2_with (first
                    | (go_at_call 10; refine (hnx.out).mono ?_; clear hnx; rintro e w4 ⟨xm, xp, A2, n2, k2, xc, A3, n3, k3, st, o, bc', oc', rfl, hx, c4, g4, hd4, hm4, hl4⟩; have hp4 := ((hps3.out.swap.next c4 g4).grown (gb_alloc (gb_alloc (gb_refl w4 none) (.cells #[.string xm, .string xp, .slice A2 n2 k2, .bool xc, .slice A3 n3 k3] 32)) (.cells #[.string xm, .string xp, .slice A2 n2 k2, .bool xc, .slice A3 n3 k3] 32))); obtain ⟨xs, ho, hl, ha⟩ := hp4.lv; replace hl := Lib.hid hl; replace ha := Lib.hid ha; replace hp4 := Lib.hid hp4; replace hx := Lib.hid hx; replace hd4 := Lib.hid hd4; replace hm4 := Lib.hid hm4; replace hl4 := Lib.hid hl4; clear c4)
                    | (at_builtin; refine wpList_append_own_at _ rfl _ _ 29 rfl w.heap.size 32 i0 req0 5 88 Tryz.underlying29 hi0 hi1 hi2 hi3 rfl (by decide) _ _ _ rfl ho ⟨_, 0, none⟩ 1 1 [.string xm, .string xp, .slice A2 n2 k2, .bool xc, .slice A3 n3 k3] rfl rfl (news_new _ _ (by simp)) (by simp [Value.oneCell']) (by have := hLL.out; unfold maxLen; omega) (by have := hLL.out; omega) (by have := hp4.out.gb.size; exact this) ?_; intro v9 w9 o9 g9 _ at9; have o9' := Lib.hid o9; obtain ⟨gg, cap2, rfl⟩ := ownsRow_succ o9; clear o9))
                  go_roundg (lft oc' bc')
                  case measure => have := hm4.out; exact this
                  case rel =>
                    have hn4 : RA ((w4.alloc (.cells #[.string xm, .string xp, .slice A2 n2 k2, .bool xc, .slice A3 n3 k3] 32)).alloc (.cells #[.string xm, .string xp, .slice A2 n2 k2, .bool xc, .slice A3 n3 k3] 32)) (SS (w0.heap.size + 1) w0.heap.size bp3 bo1 u8 u7) (o.getD rq0) ⟨xm, xp, .slice A2 n2 k2, xc, .slice A3 n3 k3⟩ :=
                      (hx.out.mono (fun b _ hb => hps3.out.swap.fresh hb)).grown (gb_alloc (gb_alloc (gb_refl w4 none) _) _)
                    have hput := (hp4.out.put hl.out ha.out hn4 g9 o9'.out at9).swap
                    have h1 := hM3.out
                    have h2 := hm4.out
                    have h3 := hl4.out
                    have h4 := hbd3.out
                    refine ⟨M3 ++ [(o, st)], bp3, bc', oc', ?_, by rw [tlS_app], hd4.out _ M3 hdr3.out, ?_, Nat.le_trans h3 h4, rfl⟩
                    · rw [tlR_app]; exact hput
                    · rw [List.length_append]; exact lft_step h1 h2
        · have hex : L = M ∧ oc = od := by
            rcases Classical.em (t = []) with rfl | ht
            · rw [List.append_nil] at hbs
              rw [hbs, hdp] at hd
              cases hd
              exact ⟨rfl, rfl⟩
            · have hod : od = true := by cases od; exact absurd ⟨ht, rfl⟩ hgo; rfl
              subst hod
              obtain ⟨e1, e2⟩ := drain_over hdp t
              rw [← hbs, hd] at e1 e2
              exact ⟨e1, e2⟩
          have hexit : t = [] ∨ (t ≠ [] ∧ od = true) := by
            rcases Classical.em (t = []) with h | h
            · exact .inl h
            · exact .inr ⟨h, by cases od; exact absurd ⟨h, rfl⟩ hgo; rfl⟩
          obtain ⟨rfl, rfl⟩ := hex
          have hlL : (tlR L).length ≤ 1000000 := by
            have := tlR_length L
            clear hmr hgo
            omega
          obtain ⟨A7, k7, rfl⟩ := hps.lv.shape
          obtain ⟨A8, k8, rfl⟩ := hps.lv'.shape
          have hoC := Lib.hid (over_cn w0.heap.size bo1 bc oc wr hps.c)
          have hoD := Lib.hid (over_cn (w0.heap.size + 1) bp bd oc wr hps.d)
          replace hps := Lib.hid hps
          clear hgo hdp hMl hbd hbs hbl hnp hmr hd hl3 hdone
          rcases hexit with rfl | ⟨ht0, rfl⟩
          · obtain ⟨A0, c0, rfl, _⟩ := hv0
            go_wp2_with (first
              | (go_at_call 11; have hh := hmark; clear hh; refine (hoD.out).mono ?_; rintro e w6 ⟨rfl, hw6⟩; rw [hw6]; clear hw6)
              | (go_at_call 11; refine (hoC.out).mono ?_; rintro e w6 ⟨rfl, hw6⟩; rw [hw6]; clear hw6; have hmark : True := trivial))
            clear hoC hoD
            obtain ⟨wq, hwq⟩ : ∃ wq, wq = wr := ⟨_, rfl⟩
            subst hwq
            go_loopg [20] (tlR L).length (fun z uk wr => ∃ k : Nat, k ≤ (tlR L).length ∧ z = (tlR L).length - k ∧ uk = .int .i64 (k : Nat) ∧ wq.grownBy wr none)
            case atStart => exact ⟨0, Nat.zero_le _, rfl, rfl, gb_refl _ _⟩
            case round =>
              obtain ⟨k, hk, rfl, rfl, hg⟩ := hrel
              by_cases hlt : k < (tlR L).length
              · have hpr := hps.out.grown hg
                obtain ⟨gx, cx, x, ex, hx, a0, a1, a2, a3, a4⟩ := hpr.lv.at k hlt
                obtain ⟨gy, cy, y, ey, hy, b0, b1, b2, b3, b4⟩ := hpr.lv'.at k hlt
                cases ex
                cases ey
                obtain ⟨xm, xp, A2, n2, k2, xc, A3, n3, k3, rfl⟩ := hx.shape
                obtain ⟨ym, yp, A4, n4, k4, yc, A5, n5, k5, rfl⟩ := hy.shape
                dsimp only at a0 a1 a2 a3 a4 b0 b1 b2 b3 b4
                have q1 : Hid (QC Tryz.prog wr 13 #[.agg #[.string xm, .string xp, .slice A2 n2 k2, .bool xc, .slice A3 n3 k3], .agg #[.string ym, .string yp, .slice A4 n4 k4, .bool yc, .slice A5 n5 k5]] (.bool true)) := fun G =>
                  (same_req ((tlR L)[k]) _ _ G.W ((hx.grown G.h).mono (fun _ _ _ => trivial)) ((hy.grown G.h).mono (fun _ _ _ => trivial))).mono fun e w' h => ⟨h.1, gb_trans G.h h.2⟩
                have P0 : ∀ G : Grown wr, G.W.cell? ⟨gx, k * 5, none⟩ = some (.string xm) := fun G => cell_grown a0 G.h (by simp)
                have P1 : ∀ G : Grown wr, G.W.cell? ⟨gx, k * 5 + 1, none⟩ = some (.string xp) := fun G => cell_grown a1 G.h (by simp)
                have P2 : ∀ G : Grown wr, G.W.cell? ⟨gx, k * 5 + 2, none⟩ = some (.slice A2 n2 k2) := fun G => cell_grown a2 G.h (by simp)
                have P3 : ∀ G : Grown wr, G.W.cell? ⟨gx, k * 5 + 3, none⟩ = some (.bool xc) := fun G => cell_grown a3 G.h (by simp)
                have P4 : ∀ G : Grown wr, G.W.cell? ⟨gx, k * 5 + 4, none⟩ = some (.slice A3 n3 k3) := fun G => cell_grown a4 G.h (by simp)
                have R0 : ∀ G : Grown wr, G.W.cell? ⟨gy, k * 5, none⟩ = some (.string ym) := fun G => cell_grown b0 G.h (by simp)
                have R1 : ∀ G : Grown wr, G.W.cell? ⟨gy, k * 5 + 1, none⟩ = some (.string yp) := fun G => cell_grown b1 G.h (by simp)
                have R2 : ∀ G : Grown wr, G.W.cell? ⟨gy, k * 5 + 2, none⟩ = some (.slice A4 n4 k4) := fun G => cell_grown b2 G.h (by simp)
                have R3 : ∀ G : Grown wr, G.W.cell? ⟨gy, k * 5 + 3, none⟩ = some (.bool yc) := fun G => cell_grown b3 G.h (by simp)
                have R4 : ∀ G : Grown wr, G.W.cell? ⟨gy, k * 5 + 4, none⟩ = some (.slice A5 n5 k5) := fun G => cell_grown b4 G.h (by simp)
                have hqi : (k : Int) < ((tlR L).length : Int) := Int.ofNat_lt.mpr hlt
                have hq0 : (0 : Int) ≤ (k : Int) := Int.natCast_nonneg k
                have hq1 := Lib.hid (show wrap64 ((k : Int) + 1) = ((k + 1 : Nat) : Int) from (wrap64_id (by clear hpr hx hy; omega) (by clear hpr hx hy; omega)).trans (by clear hpr hx hy; omega))
                replace hlt := Lib.hid hlt
                clear a0 a1 a2 a3 a4 b0 b1 b2 b3 b4 hx hy hpr hps hk hlL
                go_wp2_with fail
                refine wp_region_grown 10 0 (by simp only [List.take_succ_cons, List.take_zero]; rfl) (by kernel_rfl) (gb_drew (gb_refl _ _)) (by kernel_rfl) (by kernel_rfl) (by kernel_rfl) (by kernel_rfl) ?_
                repeat go_big_quiet_step (first
                  | (rename_i G; with_reducible exact q1.out.at G))
                refine wpQuiet_nil ?_
                intro G
                refine wpAny_done (by kernel_rfl) ?_ _
                go_wp2_with fail
                go_roundg ((tlR L).length - (k + 1))
                case measure => exact Nat.sub_lt_sub_left hlt.out (Nat.lt_succ_self k)
                case rel => exact ⟨k + 1, hlt.out, rfl, exact_i hq1.out, gb_trans hg G.h⟩
              · have hqi : ¬ (k : Int) < ((tlR L).length : Int) := fun e => hlt (Int.ofNat_lt.mp e)
                have hgb := gb_trans hps.out.gb hg
                clear hlt hk hps
                go_wp2_with fail
                go_ret
                exact ⟨rfl, hgb⟩
          · have htp : (0 : Int) < (t.length : Int) := Int.ofNat_lt.mpr (List.length_pos_iff.mpr ht0)
            obtain ⟨A0, c0, rfl, _⟩ := hv0
            clear ht0
            go_wp2_with (first
              | (go_at_call 11; have hh := hmark2; clear hh; refine (hoD.out).mono ?_; rintro e w6 ⟨rfl, hw6⟩; rw [hw6]; clear hw6)
              | (go_at_call 11; have hh := hmark; clear hh; refine (hoC.out).mono ?_; rintro e w6 ⟨rfl, hw6⟩; rw [hw6]; clear hw6; have hmark2 : True := trivial)
              | (go_at_call 11; refine (hoD.out).mono ?_; rintro e w6 ⟨rfl, hw6⟩; rw [hw6]; clear hw6; have hmark : True := trivial))
            clear hoC hoD
            obtain ⟨wq, hwq⟩ : ∃ wq, wq = wr := ⟨_, rfl⟩
            subst hwq
            go_loopg [20] (tlR L).length (fun z uk wr => ∃ k : Nat, k ≤ (tlR L).length ∧ z = (tlR L).length - k ∧ uk = .int .i64 (k : Nat) ∧ wq.grownBy wr none)
            case atStart => exact ⟨0, Nat.zero_le _, rfl, rfl, gb_refl _ _⟩
            case round =>
              obtain ⟨k, hk, rfl, rfl, hg⟩ := hrel
              by_cases hlt : k < (tlR L).length
              · have hpr := hps.out.grown hg
                obtain ⟨gx, cx, x, ex, hx, a0, a1, a2, a3, a4⟩ := hpr.lv.at k hlt
                obtain ⟨gy, cy, y, ey, hy, b0, b1, b2, b3, b4⟩ := hpr.lv'.at k hlt
                cases ex
                cases ey
                obtain ⟨xm, xp, A2, n2, k2, xc, A3, n3, k3, rfl⟩ := hx.shape
                obtain ⟨ym, yp, A4, n4, k4, yc, A5, n5, k5, rfl⟩ := hy.shape
                dsimp only at a0 a1 a2 a3 a4 b0 b1 b2 b3 b4
                have q1 : Hid (QC Tryz.prog wr 13 #[.agg #[.string xm, .string xp, .slice A2 n2 k2, .bool xc, .slice A3 n3 k3], .agg #[.string ym, .string yp, .slice A4 n4 k4, .bool yc, .slice A5 n5 k5]] (.bool true)) := fun G =>
                  (same_req ((tlR L)[k]) _ _ G.W ((hx.grown G.h).mono (fun _ _ _ => trivial)) ((hy.grown G.h).mono (fun _ _ _ => trivial))).mono fun e w' h => ⟨h.1, gb_trans G.h h.2⟩
                have P0 : ∀ G : Grown wr, G.W.cell? ⟨gx, k * 5, none⟩ = some (.string xm) := fun G => cell_grown a0 G.h (by simp)
                have P1 : ∀ G : Grown wr, G.W.cell? ⟨gx, k * 5 + 1, none⟩ = some (.string xp) := fun G => cell_grown a1 G.h (by simp)
                have P2 : ∀ G : Grown wr, G.W.cell? ⟨gx, k * 5 + 2, none⟩ = some (.slice A2 n2 k2) := fun G => cell_grown a2 G.h (by simp)
                have P3 : ∀ G : Grown wr, G.W.cell? ⟨gx, k * 5 + 3, none⟩ = some (.bool xc) := fun G => cell_grown a3 G.h (by simp)
                have P4 : ∀ G : Grown wr, G.W.cell? ⟨gx, k * 5 + 4, none⟩ = some (.slice A3 n3 k3) := fun G => cell_grown a4 G.h (by simp)
                have R0 : ∀ G : Grown wr, G.W.cell? ⟨gy, k * 5, none⟩ = some (.string ym) := fun G => cell_grown b0 G.h (by simp)
                have R1 : ∀ G : Grown wr, G.W.cell? ⟨gy, k * 5 + 1, none⟩ = some (.string yp) := fun G => cell_grown b1 G.h (by simp)
                have R2 : ∀ G : Grown wr, G.W.cell? ⟨gy, k * 5 + 2, none⟩ = some (.slice A4 n4 k4) := fun G => cell_grown b2 G.h (by simp)
                have R3 : ∀ G : Grown wr, G.W.cell? ⟨gy, k * 5 + 3, none⟩ = some (.bool yc) := fun G => cell_grown b3 G.h (by simp)
                have R4 : ∀ G : Grown wr, G.W.cell? ⟨gy, k * 5 + 4, none⟩ = some (.slice A5 n5 k5) := fun G => cell_grown b4 G.h (by simp)
                have hqi : (k : Int) < ((tlR L).length : Int) := Int.ofNat_lt.mpr hlt
                have hq0 : (0 : Int) ≤ (k : Int) := Int.natCast_nonneg k
                have hq1 := Lib.hid (show wrap64 ((k : Int) + 1) = ((k + 1 : Nat) : Int) from (wrap64_id (by clear hpr hx hy; omega) (by clear hpr hx hy; omega)).trans (by clear hpr hx hy; omega))
                replace hlt := Lib.hid hlt
                clear a0 a1 a2 a3 a4 b0 b1 b2 b3 b4 hx hy hpr hps hk hlL
                go_wp2_with fail
                refine wp_region_grown 10 0 (by simp only [List.take_succ_cons, List.take_zero]; rfl) (by kernel_rfl) (gb_drew (gb_refl _ _)) (by kernel_rfl) (by kernel_rfl) (by kernel_rfl) (by kernel_rfl) ?_
                repeat go_big_quiet_step (first
                  | (rename_i G; with_reducible exact q1.out.at G))
                refine wpQuiet_nil ?_
                intro G
                refine wpAny_done (by kernel_rfl) ?_ _
                go_wp2_with fail
                go_roundg ((tlR L).length - (k + 1))
                case measure => exact Nat.sub_lt_sub_left hlt.out (Nat.lt_succ_self k)
                case rel => exact ⟨k + 1, hlt.out, rfl, exact_i hq1.out, gb_trans hg G.h⟩
              · have hqi : ¬ (k : Int) < ((tlR L).length : Int) := fun e => hlt (Int.ofNat_lt.mp e)
                have hgb := gb_trans hps.out.gb hg
                clear hlt hk hps
                go_wp2_with fail
                go_ret
                exact ⟨rfl, hgb⟩
    · have hoc : oc = false := by cases oc; rfl; exact absurd (.inl rfl) hstop
      subst hoc
      have hnx := Lib.hid (next_tell w0.heap.size bo1 bc m wr hps.c hmr (by omega) (fun e => hstop (.inr e)))
      have hLn : L.length ≤ 20000 := by unfold lft at hLl; simp at hLl; omega
      have hLr := tlR_length L
      have hw := Lib.hid (show wrap64 ((L.length : Int) + 1) = ((L.length + 1 : Nat) : Int) from (wrap64_id (by omega) (by omega)).trans (by omega))
      have hdrh := Lib.hid hdr
      have hLh := Lib.hid hLl
      have hbh := Lib.hid hbc
      have hLL := Lib.hid (show (tlR L).length ≤ 20000 from by omega)
      replace hps := Lib.hid hps
      clear hmr hdr hstop hLl hbc hLn hLr hl3
      go_wp2_with (first
        | (go_at_call 10; refine (hnx.out).mono ?_; clear hnx; rintro e w4 ⟨xm, xp, A2, n2, k2, xc, A3, n3, k3, st, o, bc', oc', rfl, hx, c4, g4, hd4, hm4, hl4⟩; have hp4 := ((hps.out.next c4 g4).grown (gb_alloc (gb_alloc (gb_refl w4 none) (.cells #[.string xm, .string xp, .slice A2 n2 k2, .bool xc, .slice A3 n3 k3] 32)) (.cells #[.string xm, .string xp, .slice A2 n2 k2, .bool xc, .slice A3 n3 k3] 32))); obtain ⟨xs, ho, hl, ha⟩ := hp4.lv; replace hl := Lib.hid hl; replace ha := Lib.hid ha; replace hp4 := Lib.hid hp4; replace hx := Lib.hid hx; replace hd4 := Lib.hid hd4; replace hm4 := Lib.hid hm4; replace hl4 := Lib.hid hl4; clear c4)
        | (at_builtin; refine wpList_append_own_at _ rfl _ _ 29 rfl w.heap.size 32 i0 req0 5 88 Tryz.underlying29 hi0 hi1 hi2 hi3 rfl (by decide) _ _ _ rfl ho ⟨_, 0, none⟩ 1 1 [.string xm, .string xp, .slice A2 n2 k2, .bool xc, .slice A3 n3 k3] rfl rfl (news_new _ _ (by simp)) (by simp [Value.oneCell']) (by have := hLL.out; unfold maxLen; omega) (by have := hLL.out; omega) (by have := hp4.out.gb.size; exact this) ?_; intro v9 w9 o9 g9 _ at9; have o9' := Lib.hid o9; obtain ⟨gg, cap2, rfl⟩ := ownsRow_succ o9; clear o9))
      go_roundg (lft oc' bc')
      case measure => have := hm4.out; exact this
      case rel =>
        have hn4 : RA ((w4.alloc (.cells #[.string xm, .string xp, .slice A2 n2 k2, .bool xc, .slice A3 n3 k3] 32)).alloc (.cells #[.string xm, .string xp, .slice A2 n2 k2, .bool xc, .slice A3 n3 k3] 32)) (SS w0.heap.size (w0.heap.size + 1) bo1 none u7 (.slice none 0 0)) (o.getD rq0) ⟨xm, xp, .slice A2 n2 k2, xc, .slice A3 n3 k3⟩ :=
          (hx.out.mono (fun b _ hb => hps.out.fresh hb)).grown (gb_alloc (gb_alloc (gb_refl w4 none) _) _)
        have hput := hp4.out.put hl.out ha.out hn4 g9 o9'.out at9
        have h1 := hLh.out
        have h2 := hm4.out
        have h3 := hl4.out
        have h4 := hbh.out
        refine ⟨L ++ [(o, st)], bo1, bc', oc', ?_, by rw [tlS_app], by rw [List.length_append]; exact congrArg _ hw.out, hd4.out bs L hdrh.out, ?_, rfl, by omega⟩
        · rw [tlR_app]; exact hput
        · rw [List.length_append]; exact lft_step h1 h2
end Go.Proofs.YtgkkjmgbdedimaaGreatDoor.Hx
