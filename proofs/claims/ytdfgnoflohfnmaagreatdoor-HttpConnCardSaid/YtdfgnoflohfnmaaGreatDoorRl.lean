/- HTTP, the document's side: a request out of what waits: walked. -/
import Derived.Test.YtdfgnoflohfnmaaGreatDoorRk
namespace Go.Proofs.YtdfgnoflohfnmaaGreatDoor.Hx
open Go.RowKit Go.Maps Go.Shelf

theorem exact_j {a b : Int} (h : a = b) : Value.int .i64 a = .int .i64 b := by rw [h]
theorem head_len {S nm vv : Bs} (h : headR S = some (nm, vv)) : vv.length ≤ S.length := by
  unfold headR at h
  split at h
  · cases h
  · cases h
    exact Nat.le_trans (trim_sub _ _).length_le (cut_len2 _ _)
theorem RdK.good {bs m p body : Bs} {q : Pr} {cl : Bool} {w wE : World} {M P : ByteArray} {A A9 : Option Addr} {c k9 b9 n : Nat} (hn : nextP bs = .req ⟨m, p, q, body, cl⟩ n) (hMP : M = ⟨m.toArray⟩ ∧ P = ⟨p.toArray⟩)
    (ro : wE.ownsRow (w.heap.size + 1) 60 2 (.slice A q.length c) q.length (prCells q)) (h9 : BF wE (.slice A9 body.length k9) b9 body) (hb : w.heap.size + 1 ≤ b9) (hg : w.grownBy wE none) {N : Nat} (hN : Hid (body.length = N)) :
    RdK bs w (.returned (.tuple #[.agg #[.string M, .string P, .slice A q.length c, .bool cl, .slice A9 N k9], .int .i64 (n : Nat), .int .i64 0])) (set5 wE w.heap.size (.string M) (.string P) (.slice A q.length c) (.bool cl) (.slice A9 N k9)) := by
  have hN := hN.out
  subst hN
  unfold RdK
  rw [hn]
  have hx : RA wE (fun k => w.heap.size + 1 ≤ k) ⟨m, p, q, body, cl⟩ ⟨M, P, .slice A q.length c, cl, .slice A9 body.length k9⟩ := ⟨hMP.1, hMP.2, rfl, QAt.of_own ro (fun k hk _ => hk), h9.bs (fun _ => hb)⟩
  have gT : GT wE (set5 wE w.heap.size (.string M) (.string P) (.slice A q.length c) (.bool cl) (.slice A9 body.length k9)) (fun x => x = w.heap.size) := GT.set5 (T := fun x => x = w.heap.size) (GT.refl wE _) rfl _ _ _ _ _
  exact ⟨⟨M, P, .slice A q.length c, cl, .slice A9 body.length k9⟩, rfl, (hx.gt gT (fun b h1 h2 => by omega)).mono (fun b _ h => by omega), ((GT.of_none (T := fun x => x = w.heap.size) hg).trans gT (fun _ _ h => h)).grown (fun b hb e => by omega)⟩
def RL (w : World) (bs : Bs) (K : Nat) (M P : ByteArray) (A : Option Addr) (c : Nat) (q : Pr) (m p : Bs) (gk : Nat) (u6 u9 u10 u11 : Value) (W : World) : Prop :=
  ∃ (i n : Nat) (size : Int) (told cl : Bool), u6 = .int .i64 (i : Nat) ∧ u9 = .int .i64 size ∧ u10 = .bool told ∧ u11 = .int .i64 (n : Nat) ∧ gk = 40 - n ∧ RW w bs K M P A c q m p i n size told cl W ∧ 0 < i
set_option maxRecDepth 100000 in
set_option maxHeartbeats 6400000 in
theorem rread_line0 (v : Value) (bs : Bs) (w : World) (hv : BV w v bs) (hl : bs.length ≤ 2000000) (h : lineR bs = ([], 0)) : Calls Tryz.prog 37 #[v] w (RdK bs w) := by
  have hzn := heap_alloc_new w zO
  have gz : w.grownBy (w.alloc zO) none := gb_alloc (gb_refl w none) zO
  have hzs : (w.alloc zO).heap.size = w.heap.size + 1 := by simp
  obtain ⟨W0, hW0⟩ : ∃ W0, w.alloc zO = W0 := ⟨_, rfl⟩
  rw [hW0] at hzn gz hzs
  have hZ : ZB W0 w.heap.size := hzn
  have hgz := Lib.hid gz
  have hv0 := hv.up gz
  clear hzn gz
  have hn := Lib.hid (next_line0 h)
  have hln := fun W (hW : BV W v bs) => Lib.hid (rline_is hW hl h)
  clear h hv
  have z0 := hZ.c0
  have z1 := hZ.c1
  have z2 := hZ.c2
  have z3 := hZ.c3
  have z4 := hZ.c4
  have zf := fun i => hZ.f i
  go_enter Tryz.func37, Tryz.ntmps37
  go_wp2_with (first
    | (go_at_call 68; refine ((hln _ hv0).out).mono ?_; rintro e w4 ⟨rfl, hw4⟩; rw [hw4]; clear hw4))
  have hz5 := hZ.set5 (.string ⟨#[]⟩) (.string ⟨#[]⟩) (.slice none 0 0) (.bool false) (.slice none 0 0)
  have y0 := hz5.c0
  have y1 := hz5.c1
  have y2 := hz5.c2
  have y3 := hz5.c3
  have y4 := hz5.c4
  refine bodyPost_ret (v := .tuple #[req0, .int .i64 0, .int .i64 0]) (by simp [results, Tryz.results37, go_sem, y0, y1, y2, y3, y4]) rfl ?_
  exact RdK.more hn.out (z5_gb hgz.out)
set_option maxRecDepth 100000 in
set_option maxHeartbeats 6400000 in
theorem rread_line1 (v : Value) (bs : Bs) (w : World) (hv : BV w v bs) (hl : bs.length ≤ 2000000) (h : lineR bs = ([], -1)) : Calls Tryz.prog 37 #[v] w (RdK bs w) := by
  have hzn := heap_alloc_new w zO
  have gz : w.grownBy (w.alloc zO) none := gb_alloc (gb_refl w none) zO
  have hzs : (w.alloc zO).heap.size = w.heap.size + 1 := by simp
  obtain ⟨W0, hW0⟩ : ∃ W0, w.alloc zO = W0 := ⟨_, rfl⟩
  rw [hW0] at hzn gz hzs
  have hZ : ZB W0 w.heap.size := hzn
  have hgz := Lib.hid gz
  have hv0 := hv.up gz
  clear hzn gz
  have hn := Lib.hid (next_line1 h)
  have hln := fun W (hW : BV W v bs) => Lib.hid (rline_is hW hl h)
  clear h hv
  have z0 := hZ.c0
  have z1 := hZ.c1
  have z2 := hZ.c2
  have z3 := hZ.c3
  have z4 := hZ.c4
  have zf := fun i => hZ.f i
  go_enter Tryz.func37, Tryz.ntmps37
  go_wp2_with (first
    | (go_at_call 68; refine ((hln _ hv0).out).mono ?_; rintro e w4 ⟨rfl, hw4⟩; rw [hw4]; clear hw4))
  have hz5 := hZ.set5 (.string ⟨#[]⟩) (.string ⟨#[]⟩) (.slice none 0 0) (.bool false) (.slice none 0 0)
  have y0 := hz5.c0
  have y1 := hz5.c1
  have y2 := hz5.c2
  have y3 := hz5.c3
  have y4 := hz5.c4
  refine bodyPost_ret (v := .tuple #[req0, .int .i64 0, .int .i64 400]) (by simp [results, Tryz.results37, go_sem, y0, y1, y2, y3, y4]) rfl ?_
  exact RdK.fault hn.out (z5_gb hgz.out)
set_option maxRecDepth 100000 in
set_option maxHeartbeats 6400000 in
theorem rread_first (v : Value) (bs : Bs) (w : World) (hv : BV w v bs) (hl : bs.length ≤ 2000000) (S : Bs) (k : Nat) (h : lineR bs = (S, (k : Int))) (hk : 2 ≤ k) (hS : S.length ≤ 4096) (hf : firstR S = none) : Calls Tryz.prog 37 #[v] w (RdK bs w) := by
  have hzn := heap_alloc_new w zO
  have gz : w.grownBy (w.alloc zO) none := gb_alloc (gb_refl w none) zO
  have hzs : (w.alloc zO).heap.size = w.heap.size + 1 := by simp
  obtain ⟨W0, hW0⟩ : ∃ W0, w.alloc zO = W0 := ⟨_, rfl⟩
  rw [hW0] at hzn gz hzs
  have hZ : ZB W0 w.heap.size := hzn
  have hgz := Lib.hid gz
  have hv0 := hv.up gz
  clear hzn gz
  have hn := Lib.hid (show nextP bs = .fault 400 from by rw [next_of bs h (by omega), hf])
  have hln := fun W (hW : BV W v bs) => Lib.hid (rline_is hW hl h)
  obtain ⟨SB, hSB⟩ : ∃ SB : ByteArray, SB = ⟨S.toArray⟩ := ⟨_, rfl⟩
  rw [← hSB] at hln
  have hfi : ∀ W, Hid (Calls Tryz.prog 69 #[.string SB] W (FnK W)) := fun W => by
    have := rfirst_any SB W (by rw [hSB]; show S.toArray.size ≤ _; simp; omega)
    unfold FrK at this
    rw [hSB] at this
    dsimp only at this
    rw [hf] at this
    rw [hSB]
    exact this
  have hkI : ¬ (k : Int) ≤ 0 := by omega
  clear h hv hf hSB hS
  go_enter Tryz.func37, Tryz.ntmps37
  go_wp2_with (first
    | (go_at_call 68; refine ((hln _ hv0).out).mono ?_; rintro e w4 ⟨rfl, hw4⟩; rw [hw4]; clear hw4)
    | (go_at_call 69; refine ((hfi _).out).mono ?_; rintro e w5 ⟨M, P, A, n, c, rfl, g5⟩; have g6 := gb_alloc g5 (.cells #[.string M, .string P, .slice A n c, .bool false, .slice none 0 0] 32); have hz := hZ.kept g6 (by simp); have z0 := hz.c0; have z1 := hz.c1; have z2 := hz.c2; have z3 := hz.c3; have z4 := hz.c4; have zf := fun i => hz.f i))
  have hz5 := hz.set5 (.string ⟨#[]⟩) (.string ⟨#[]⟩) (.slice none 0 0) (.bool false) (.slice none 0 0)
  have y0 := hz5.c0
  have y1 := hz5.c1
  have y2 := hz5.c2
  have y3 := hz5.c3
  have y4 := hz5.c4
  refine bodyPost_ret (v := .tuple #[req0, .int .i64 0, .int .i64 400]) (by simp [results, Tryz.results37, go_sem, y0, y1, y2, y3, y4]) rfl ?_
  exact RdK.fault hn.out (z5_gb (gb_trans hgz.out g6))
set_option maxRecDepth 100000 in
set_option maxHeartbeats 6400000 in
theorem rread_main (v : Value) (bs : Bs) (w : World) (hv : BV w v bs) (hl : bs.length ≤ 2000000) (S : Bs) (k : Nat) (h : lineR bs = (S, (k : Int))) (hk : 2 ≤ k) (hkl : k ≤ bs.length) (hS : S.length ≤ 4096) (m p : Bs) (q : Pr) (hf : firstR S = some (m, p, q)) : Calls Tryz.prog 37 #[v] w (RdK bs w) := by
  have hzn := heap_alloc_new w zO
  have gz : w.grownBy (w.alloc zO) none := gb_alloc (gb_refl w none) zO
  have hzs : (w.alloc zO).heap.size = w.heap.size + 1 := by simp
  obtain ⟨W0, hW0⟩ : ∃ W0, w.alloc zO = W0 := ⟨_, rfl⟩
  rw [hW0] at hzn gz hzs
  have hZ : ZB W0 w.heap.size := hzn
  have hgz := Lib.hid gz
  have hv0 := hv.up gz
  clear hzn gz
  have hn := Lib.hid (show nextP bs = tlX bs m p q (hdrsR bs 34 k 0 0 false false) from by rw [next_of bs h (by omega), hf])
  have hln := fun W (hW : BV W v bs) => Lib.hid (rline_is hW hl h)
  obtain ⟨SB, hSB⟩ : ∃ SB : ByteArray, SB = ⟨S.toArray⟩ := ⟨_, rfl⟩
  rw [← hSB] at hln
  have hfi : ∀ W, Hid (Calls Tryz.prog 69 #[.string SB] W (FyK m p q W)) := fun W => by
    have := rfirst_any SB W (by rw [hSB]; show S.toArray.size ≤ _; simp; omega)
    unfold FrK at this
    rw [hSB] at this
    dsimp only at this
    rw [hf] at this
    rw [hSB]
    exact this
  unfold FyK at hfi
  obtain ⟨M, hM⟩ : ∃ M : ByteArray, M = ⟨m.toArray⟩ := ⟨_, rfl⟩
  obtain ⟨P, hP⟩ : ∃ P : ByteArray, P = ⟨p.toArray⟩ := ⟨_, rfl⟩
  rw [← hM, ← hP] at hfi
  have hMP := Lib.hid (And.intro hM hP)
  have hkI : ¬ (k : Int) ≤ 0 := by omega
  have hll := Lib.hid hl
  obtain ⟨A0, c0, rfl, hc0, ha0⟩ := hv
  obtain ⟨b0, o0, rfl, hba⟩ := ha0 (by rintro rfl; simp at hkl; omega)
  have hkh := Lib.hid (And.intro hk hkl)
  clear h hf hSB hS hM hP ha0 hk hkl hl
  go_enter Tryz.func37, Tryz.ntmps37
  go_wp2_with (first
    | (go_at_call 68; refine ((hln _ hv0).out).mono ?_; clear hln; rintro e w4 ⟨rfl, hw4⟩; rw [hw4]; clear hw4)
    | (go_at_call 69; refine ((hfi _).out).mono ?_; rintro e w5 ⟨A, c, rfl, o5, g5⟩))
  have hRW : RW w bs w5.heap.size M P A c q m p k 0 0 false false (w5.alloc (.cells #[.string M, .string P, .slice A q.length c, .bool false, .slice none 0 0] 32)) := by
    have g6 := gb_alloc g5 (.cells #[.string M, .string P, .slice A q.length c, .bool false, .slice none 0 0] 32)
    rw [hzs] at o5
    exact ⟨gb_trans hgz.out g6, hZ.kept g6 (by simp), heap_alloc_new _ _, o5.alloc _, fun g hg e => by have := (o5.lt g hg).2; omega, by have := g5.size; omega, hkh.out.2, Nat.zero_le _, ⟨Int.le_refl _, by decide⟩, hn.out⟩
  clear hfi hZ hgz hv0 hn o5 g5 hW0 hzs
  go_loopg [6, 9, 10, 11] 40 (fun gk u6 u9 u10 u11 wr => RL w bs w5.heap.size M P A c q m p gk u6 u9 u10 u11 wr)
  case atStart => exact ⟨k, 0, 0, false, false, rfl, rfl, rfl, rfl, rfl, hRW, by have := hkh.out.1; omega⟩
  case round =>
    clear hRW
    obtain ⟨i, n, size, told, cl, rfl, rfl, rfl, rfl, rfl, hR, hi0⟩ := hrel
    have hRi := hR.hi
    have hRn := hR.hn
    have hbr := hba.grown hR.gb (by simp)
    have j0 : (0 : Int) ≤ (i : Int) := Int.natCast_nonneg i
    have j1 : (i : Int) ≤ (bs.length : Int) := Int.ofNat_le.mpr hRi
    have j2 : (i : Int) ≤ (c0 : Int) := Int.ofNat_le.mpr (Nat.le_trans hRi hc0)
    have hc0h := Lib.hid hc0
    have hbah := Lib.hid hba
    by_cases hci : c0 = i
    · have hdn : bs.drop i = [] := List.drop_eq_nil_of_le (by omega)
      have e1 : bs.length - i = 0 := by omega
      have e2 : c0 - i = 0 := by omega
      have hln := Lib.hid (rline_is (W := wr) (v := .slice (some ⟨b0, o0, none⟩) 0 0) (d := []) (S := []) (k := 0) ⟨_, 0, rfl, Nat.le_refl _, fun h => absurd rfl h⟩ (Nat.zero_le _) rfl)
      clear hbr hba hc0
      have hnn := Lib.hid (show nextP bs = .more from by rw [hR.next, hdrs_line0 hRn (by rw [hdn]; rfl)]; rfl)
      have hzR := hR.z
      have z0 := hzR.c0
      have z1 := hzR.c1
      have z2 := hzR.c2
      have z3 := hzR.c3
      have z4 := hzR.c4
      have zf := fun i => hzR.f i
      have hgR := Lib.hid hR.gb
      clear hR
      go_wp2_with (first
        | (go_at_call 68; refine (hln.out).mono ?_; rintro e w7 ⟨rfl, hw7⟩; rw [hw7]; clear hw7))
      have hz5 := hzR.set5 (.string ⟨#[]⟩) (.string ⟨#[]⟩) (.slice none 0 0) (.bool false) (.slice none 0 0)
      have y0 := hz5.c0
      have y1 := hz5.c1
      have y2 := hz5.c2
      have y3 := hz5.c3
      have y4 := hz5.c4
      refine bodyPost_ret (v := .tuple #[req0, .int .i64 0, .int .i64 0]) (by simp [results, Tryz.results37, go_sem, y0, y1, y2, y3, y4]) rfl ?_
      exact RdK.more hnn.out (z5_gb hgR.out)
    · have hsv : BV wr (.slice (some ⟨b0, o0 + i, none⟩) (bs.length - i) (c0 - i)) (bs.drop i) := ⟨_, c0 - i, by rw [List.length_drop], by rw [List.length_drop]; exact Nat.sub_le_sub_right hc0 i, fun _ => ⟨b0, o0 + i, rfl, hbr.drop i⟩⟩
      have hdl : (bs.drop i).length ≤ 2000000 := by rw [List.length_drop]; have := hll.out; omega
      clear hbr hba hc0
      rcases line_cases (bs.drop i) with h0 | h1 | ⟨S2, k2, h2, hk2, hkl2, hSl2⟩
      · have hln := Lib.hid (rline_is hsv hdl h0)
        clear hsv
        have hnn := Lib.hid (show nextP bs = .more from by rw [hR.next, hdrs_line0 hRn h0]; rfl)
        have hzR := hR.z
        have z0 := hzR.c0
        have z1 := hzR.c1
        have z2 := hzR.c2
        have z3 := hzR.c3
        have z4 := hzR.c4
        have zf := fun i => hzR.f i
        have hgR := Lib.hid hR.gb
        clear hR
        go_wp2_with (first
          | (go_at_call 68; refine (hln.out).mono ?_; rintro e w7 ⟨rfl, hw7⟩; rw [hw7]; clear hw7))
        have hz5 := hzR.set5 (.string ⟨#[]⟩) (.string ⟨#[]⟩) (.slice none 0 0) (.bool false) (.slice none 0 0)
        have y0 := hz5.c0
        have y1 := hz5.c1
        have y2 := hz5.c2
        have y3 := hz5.c3
        have y4 := hz5.c4
        refine bodyPost_ret (v := .tuple #[req0, .int .i64 0, .int .i64 0]) (by simp [results, Tryz.results37, go_sem, y0, y1, y2, y3, y4]) rfl ?_
        exact RdK.more hnn.out (z5_gb hgR.out)
      · have hln := Lib.hid (rline_is hsv hdl h1)
        clear hsv
        have hnn := Lib.hid (show nextP bs = .fault 400 from by rw [hR.next, hdrs_line1 hRn h1]; rfl)
        have hzR := hR.z
        have z0 := hzR.c0
        have z1 := hzR.c1
        have z2 := hzR.c2
        have z3 := hzR.c3
        have z4 := hzR.c4
        have zf := fun i => hzR.f i
        have hgR := Lib.hid hR.gb
        clear hR
        go_wp2_with (first
          | (go_at_call 68; refine (hln.out).mono ?_; rintro e w7 ⟨rfl, hw7⟩; rw [hw7]; clear hw7))
        have hz5 := hzR.set5 (.string ⟨#[]⟩) (.string ⟨#[]⟩) (.slice none 0 0) (.bool false) (.slice none 0 0)
        have y0 := hz5.c0
        have y1 := hz5.c1
        have y2 := hz5.c2
        have y3 := hz5.c3
        have y4 := hz5.c4
        refine bodyPost_ret (v := .tuple #[req0, .int .i64 0, .int .i64 400]) (by simp [results, Tryz.results37, go_sem, y0, y1, y2, y3, y4]) rfl ?_
        exact RdK.fault hnn.out (z5_gb hgR.out)
      · have hln0 := rline_is hsv hdl h2
        rw [List.length_drop] at hkl2
        have hi2 := Lib.hid (show wrap64 ((i : Int) + (k2 : Int)) = ((i + k2 : Nat) : Int) from (wrap64_id (by omega) (by have := hll.out; omega)).trans (by omega))
        have hn1 := Lib.hid (show wrap64 ((n : Int) + 1) = ((n + 1 : Nat) : Int) from (wrap64_id (by omega) (by omega)).trans (by omega))
        have hkI2 : ¬ (k2 : Int) ≤ 0 := by omega
        have hi2le := Lib.hid (show i + k2 ≤ bs.length by omega)
        have hw := Lib.hid (hdrs_line (size := size) (told := told) (cl := cl) hRn h2 hk2)
        clear hsv hdl h2
        by_cases hS2 : S2 = []
        · subst hS2
          have hln := Lib.hid hln0
          have hdone := Lib.hid (show nextP bs = tlX bs m p q (.done (i + k2) size cl) from by rw [hR.next, hw.out, if_pos rfl])
          clear hln0 hw
          obtain ⟨hs0, hs1⟩ := hR.sz
          obtain ⟨sz, rfl⟩ : ∃ sz : Nat, size = (sz : Int) := ⟨size.toNat, by omega⟩
          have hi3 := hi2.out
          have hzR := hR.z
          have hgR := Lib.hid hR.gb
          have hwl : wrap64 ((bs.length : Int) - ((i + k2 : Nat) : Int)) = (bs.length : Int) - ((i + k2 : Nat) : Int) := wrap64_id (by omega) (by have := hll.out; omega)
          by_cases hb : (262144 : Int) < (sz : Int)
          · have hnn := Lib.hid (show nextP bs = .fault 413 from by rw [hdone.out]; unfold tlX; exact if_pos hb)
            replace hR := Lib.hid hR
            clear hdone
            have z0 := hzR.c0
            have z1 := hzR.c1
            have z2 := hzR.c2
            have z3 := hzR.c3
            have z4 := hzR.c4
            have zf := fun i => hzR.f i
            go_wp2_with (first
              | (go_at_call 68; refine (hln.out).mono ?_; rintro e w7 ⟨rfl, hw7⟩; rw [hw7]; clear hw7))
            have hz5 := hzR.set5 (.string ⟨#[]⟩) (.string ⟨#[]⟩) (.slice none 0 0) (.bool false) (.slice none 0 0)
            have y0 := hz5.c0
            have y1 := hz5.c1
            have y2 := hz5.c2
            have y3 := hz5.c3
            have y4 := hz5.c4
            refine bodyPost_ret (v := .tuple #[req0, .int .i64 0, .int .i64 413]) (by simp [results, Tryz.results37, go_sem, y0, y1, y2, y3, y4]) rfl ?_
            exact RdK.fault hnn.out (z5_gb hgR.out)
          · by_cases hm : (bs.length : Int) - ((i + k2 : Nat) : Int) < (sz : Int)
            · have hnn := Lib.hid (show nextP bs = .more from by rw [hdone.out]; unfold tlX; dsimp only; rw [if_neg hb, if_pos (by rw [Int.toNat_natCast]; have := hi2le.out; omega)])
              replace hR := Lib.hid hR
              clear hdone
              have z0 := hzR.c0
              have z1 := hzR.c1
              have z2 := hzR.c2
              have z3 := hzR.c3
              have z4 := hzR.c4
              have zf := fun i => hzR.f i
              go_wp2_with (first
                | (go_at_call 68; refine (hln.out).mono ?_; rintro e w7 ⟨rfl, hw7⟩; rw [hw7]; clear hw7))
              have hz5 := hzR.set5 (.string ⟨#[]⟩) (.string ⟨#[]⟩) (.slice none 0 0) (.bool false) (.slice none 0 0)
              have y0 := hz5.c0
              have y1 := hz5.c1
              have y2 := hz5.c2
              have y3 := hz5.c3
              have y4 := hz5.c4
              refine bodyPost_ret (v := .tuple #[req0, .int .i64 0, .int .i64 0]) (by simp [results, Tryz.results37, go_sem, y0, y1, y2, y3, y4]) rfl ?_
              exact RdK.more hnn.out (z5_gb hgR.out)
            · obtain ⟨j, hj⟩ : ∃ j : Nat, j = i + k2 := ⟨_, rfl⟩
              have hji := Lib.hid (show wrap64 ((i : Int) + (k2 : Int)) = (j : Int) from by rw [hi3, hj])
              have hjw := Lib.hid (show wrap64 ((bs.length : Int) - (j : Int)) = (bs.length : Int) - (j : Int) from by rw [hj]; exact hwl)
              clear hi3 hwl
              obtain ⟨e, he⟩ : ∃ e : Nat, e = j + sz := ⟨_, rfl⟩
              have hnn := Lib.hid (show nextP bs = .req ⟨m, p, q, (bs.drop j).take sz, cl⟩ e from by rw [hdone.out, he, hj]; unfold tlX; dsimp only; rw [if_neg hb, if_neg (by rw [Int.toNat_natCast]; have := hi2le.out; omega), Int.toNat_natCast])
              have hRk := Lib.hid hR.k
              have hRKh := Lib.hid hR.hK
              have hle := hi2le.out
              have hslh := Lib.hid (show j + sz ≤ bs.length from by omega)
              have hBl := Lib.hid (show ((bs.drop j).take sz).length = sz from by rw [List.length_take, List.length_drop]; omega)
              have hroom := Lib.hid (show ([] : Bs).length + ((bs.drop j).take sz).length ≤ 1000000000 from by rw [hBl.out, List.length_nil]; omega)
              have hje := Lib.hid he
              have hm : ¬ (bs.length : Int) - (j : Int) < (sz : Int) := by rw [hj]; exact hm
              have hws := Lib.hid (show wrap64 ((j : Int) + (sz : Int)) = (e : Int) from (wrap64_id (by omega) (by have := hll.out; have := hslh.out; omega)).trans (by omega))
              have s1 : (0 : Int) ≤ (j : Int) := by omega
              have s2 : (j : Int) ≤ (e : Int) := by omega
              have s3 : (e : Int) ≤ (c0 : Int) := by have := hc0h.out; have := hslh.out; omega
              have hsub : e - j = sz := by omega
              replace hR := Lib.hid hR
              clear hdone hle hRi hRn hs0 hs1 he hj hn1 hi2 hi2le hSl2 hkl2 hk2 hi0
              have hb0 : BF (wr.alloc (.cells #[] 5)) (.slice (some ⟨wr.heap.size, 0, none⟩) 0 0) wr.heap.size [] := .inr ⟨0, 0, #[], rfl, Nat.le_refl _, by unfold maxLen; omega, heap_alloc_new _ _, Nat.le_refl _, rfl⟩
              replace hji := hji.out
              replace hjw := hjw.out
              go_upto_region 29 with (first
                | (go_at_call 68; refine (hln.out).mono ?_; rintro e7 w7 ⟨rfl, hw7⟩; rw [hw7]; clear hw7))
              rw [hji]
              clear hji hjw hm hb hln hkI2 hci j0 j1 j2
              by_cases hcj : c0 = j
              · have hz0 : sz = 0 := by have := hc0h.out; have := hslh.out; have := hje.out; omega
                subst hz0
                have hwj : wrap64 (j : Int) = (j : Int) := wrap64_id (by omega) (by have := hll.out; have := hslh.out; omega)
                have hej : j = e := hje.out.symm
                subst hej
                replace hcj := hcj.symm
                subst hcj
                have hx1 : BV (wr.alloc (.cells #[] 5)) (.slice (some ⟨b0, o0, none⟩) 0 0) ((bs.drop j).take 0) := ⟨_, 0, rfl, Nat.le_refl _, fun h => absurd rfl h⟩
                replace hx1 := Lib.hid hx1
                replace hb0 := Lib.hid hb0
                go_upto_region 30 with (first
                  | (at_builtin; refine wpList_append_bf rfl _ _ rfl rfl rfl hb0.out hx1.out hroom.out ?_; intro v9 w9 b9 h9 g9 hb9; rw [List.nil_append] at h9; obtain ⟨A9, k9, rfl, _⟩ := h9.shape; have g10 := gb_new (gb_alloc (gb_refl wr none) _) g9 (Nat.le_refl _); have hk9 := hRk.out.kept g10 (by simp); have hz9 := hzR.kept g10 (by simp); have q4 := hk9.c4; have qf := fun i => hk9.f i; replace h9 := Lib.hid h9; replace g10 := Lib.hid g10; replace hk9 := Lib.hid hk9; replace hb9 := Lib.hid hb9; replace hz9 := Lib.hid hz9; clear g9))
                clear q4 qf
                rw [hBl.out] at h9
                have hkE := hk9.out.set4 (.slice A9 0 k9)
                have gE := gb_setR (gb_refl w9 (some w5.heap.size)) 4 (.slice A9 0 k9)
                have hKZ := hRKh.out
                have hKr := hRk.out.lt
                have hzE := hz9.out.kept gE (by intro h; have := Option.some.inj h; omega)
                have h9b : w.heap.size + 1 ≤ b9 ∧ b9 ≠ w5.heap.size := by have := hb9.out; rw [World.size_alloc] at this; omega
                have h9E := h9.out.grown gE (by intro h; exact h9b.2 (Option.some.inj h))
                have roE := (hR.out.row.kept g10.out (by cases h : (Value.slice A q.length c).ownBlock <;> simp)).kept gE (by
                  cases h : (Value.slice A q.length c).ownBlock with
                  | none => exact .inl rfl
                  | some g => exact .inr (by intro h2; exact hR.out.ne g h (Option.some.inj h2)))
                have gwE := gb_more (gb_trans hgR.out g10.out) gE (fun g h => .inr (by have := Option.some.inj h; omega))
                obtain ⟨wE, hwE⟩ : ∃ W, w9.setCell ⟨w5.heap.size, 4, none⟩ (.slice A9 0 k9) = W := ⟨_, rfl⟩
                rw [hwE] at hkE hzE h9E roE gwE
                rw [hwE]
                have q0 := hkE.c0
                have q1 := hkE.c1
                have q2 := hkE.c2
                have q3 := hkE.c3
                have q4 := hkE.c4
                have z0 := hzE.c0
                have z1 := hzE.c1
                have z2 := hzE.c2
                have z3 := hzE.c3
                have z4 := hzE.c4
                have zf := fun i => hzE.f i
                have hzEh := Lib.hid hzE
                replace h9E := Lib.hid h9E
                replace roE := Lib.hid roE
                replace gwE := Lib.hid gwE
                have h9bh := Lib.hid h9b.1
                clear hkE hzE hwE gE h9b hKZ hKr h9 g10 hk9 hb9 hz9 hR hRk
                go_wp2_with fail
                have hz5 := hzEh.out.set5 (.string M) (.string P) (.slice A q.length c) (.bool cl) (.slice A9 0 k9)
                have y0 := hz5.c0
                have y1 := hz5.c1
                have y2 := hz5.c2
                have y3 := hz5.c3
                have y4 := hz5.c4
                refine bodyPost_ret (v := .tuple #[.agg #[.string M, .string P, .slice A q.length c, .bool cl, .slice A9 0 k9], .int .i64 (j : Nat), .int .i64 0]) (by simp [results, Tryz.results37, go_sem, y0, y1, y2, y3, y4, hwj]) rfl ?_
                exact RdK.good hnn.out hMP.out roE.out (by rw [hBl.out]; exact h9E.out) h9bh.out gwE.out hBl
              · have hx1 : BV (wr.alloc (.cells #[] 5)) (.slice (some ⟨b0, o0 + j, none⟩) sz (c0 - j)) ((bs.drop j).take sz) := ⟨_, c0 - j, by rw [hBl.out], by rw [hBl.out]; have := hc0h.out; have := hslh.out; have := hje.out; omega, fun _ => ⟨b0, o0 + j, rfl, (((hbah.out.grown hgR.out (by simp)).grown (gb_alloc (gb_refl wr none) _) (by simp)).drop j).take sz⟩⟩
                replace hx1 := Lib.hid hx1
                replace hb0 := Lib.hid hb0
                replace hws := hws.out
                go_upto_region 30 with (first
                  | (at_builtin; refine wpList_append_bf rfl _ _ rfl rfl rfl hb0.out hx1.out hroom.out ?_; intro v9 w9 b9 h9 g9 hb9; rw [List.nil_append] at h9; obtain ⟨A9, k9, rfl, _⟩ := h9.shape; have g10 := gb_new (gb_alloc (gb_refl wr none) _) g9 (Nat.le_refl _); have hk9 := hRk.out.kept g10 (by simp); have hz9 := hzR.kept g10 (by simp); have q4 := hk9.c4; have qf := fun i => hk9.f i; replace h9 := Lib.hid h9; replace g10 := Lib.hid g10; replace hk9 := Lib.hid hk9; replace hb9 := Lib.hid hb9; replace hz9 := Lib.hid hz9; clear g9))
                clear q4 qf
                rw [hBl.out] at h9
                rw [show min sz (bs.length - j) = sz from by have := hslh.out; omega]
                have hkE := hk9.out.set4 (.slice A9 sz k9)
                have gE := gb_setR (gb_refl w9 (some w5.heap.size)) 4 (.slice A9 sz k9)
                have hKZ := hRKh.out
                have hKr := hRk.out.lt
                have hzE := hz9.out.kept gE (by intro h; have := Option.some.inj h; omega)
                have h9b : w.heap.size + 1 ≤ b9 ∧ b9 ≠ w5.heap.size := by have := hb9.out; rw [World.size_alloc] at this; omega
                have h9E := h9.out.grown gE (by intro h; exact h9b.2 (Option.some.inj h))
                have roE := (hR.out.row.kept g10.out (by cases h : (Value.slice A q.length c).ownBlock <;> simp)).kept gE (by
                  cases h : (Value.slice A q.length c).ownBlock with
                  | none => exact .inl rfl
                  | some g => exact .inr (by intro h2; exact hR.out.ne g h (Option.some.inj h2)))
                have gwE := gb_more (gb_trans hgR.out g10.out) gE (fun g h => .inr (by have := Option.some.inj h; omega))
                obtain ⟨wE, hwE⟩ : ∃ W, w9.setCell ⟨w5.heap.size, 4, none⟩ (.slice A9 sz k9) = W := ⟨_, rfl⟩
                rw [hwE] at hkE hzE h9E roE gwE
                rw [hwE]
                have q0 := hkE.c0
                have q1 := hkE.c1
                have q2 := hkE.c2
                have q3 := hkE.c3
                have q4 := hkE.c4
                have z0 := hzE.c0
                have z1 := hzE.c1
                have z2 := hzE.c2
                have z3 := hzE.c3
                have z4 := hzE.c4
                have zf := fun i => hzE.f i
                have hzEh := Lib.hid hzE
                replace h9E := Lib.hid h9E
                replace roE := Lib.hid roE
                replace gwE := Lib.hid gwE
                have h9bh := Lib.hid h9b.1
                clear hkE hzE hwE gE h9b hKZ hKr h9 g10 hk9 hb9 hz9 hR hRk
                go_wp2_with fail
                have hz5 := hzEh.out.set5 (.string M) (.string P) (.slice A q.length c) (.bool cl) (.slice A9 sz k9)
                have y0 := hz5.c0
                have y1 := hz5.c1
                have y2 := hz5.c2
                have y3 := hz5.c3
                have y4 := hz5.c4
                refine bodyPost_ret (v := .tuple #[.agg #[.string M, .string P, .slice A q.length c, .bool cl, .slice A9 sz k9], .int .i64 (e : Nat), .int .i64 0]) (by simp [results, Tryz.results37, go_sem, y0, y1, y2, y3, y4, hws]) rfl ?_
                exact RdK.good hnn.out hMP.out roE.out (by rw [hBl.out]; exact h9E.out) h9bh.out gwE.out hBl
        · have hSh := Lib.hid hS2
          obtain ⟨SB2, hSB2⟩ : ∃ SB2 : ByteArray, SB2 = ⟨S2.toArray⟩ := ⟨_, rfl⟩
          have hSe : (SB2.toList == []) = false := by rw [Lib.toList_data, hSB2, beq_eq_false_iff_ne]; exact hS2
          rw [← hSB2] at hln0
          have hln := Lib.hid hln0
          rw [if_neg hS2] at hw
          have hhd0 := fun W => rheader_any SB2 W (by rw [hSB2]; show S2.toArray.size ≤ _; simp; omega)
          unfold hdrV at hhd0
          rw [show SB2.data.toList = S2 from by rw [hSB2]] at hhd0
          replace hR := Lib.hid hR
          have hSlh := Lib.hid hSl2
          clear hln0 hSB2 hS2 hSl2
          cases hh : headR S2 with
          | none =>
            rw [hh] at hhd0 hw
            have hhd := fun W => Lib.hid (hhd0 W)
            clear hhd0 hh
            have hnn := Lib.hid (show nextP bs = .fault 400 from by rw [hR.out.next, hw.out]; rfl)
            clear hw
            go_wp2_with (first
              | (go_at_call 68; refine (hln.out).mono ?_; rintro e w7 ⟨rfl, hw7⟩; rw [hw7]; clear hw7)
              | (go_at_call 70; refine ((hhd _).out).mono ?_; rintro e w8 ⟨rfl, g8⟩; have hR8 := hR.out.grown g8; have hzR := hR8.z; have z0 := hzR.c0; have z1 := hzR.c1; have z2 := hzR.c2; have z3 := hzR.c3; have z4 := hzR.c4; have zf := fun i => hzR.f i; have kc := hR8.k.c3; have kf := hR8.k.f 3; replace hR8 := Lib.hid hR8))
            have hz5 := hzR.set5 (.string ⟨#[]⟩) (.string ⟨#[]⟩) (.slice none 0 0) (.bool false) (.slice none 0 0)
            have y0 := hz5.c0
            have y1 := hz5.c1
            have y2 := hz5.c2
            have y3 := hz5.c3
            have y4 := hz5.c4
            refine bodyPost_ret (v := .tuple #[req0, .int .i64 0, .int .i64 400]) (by simp [results, Tryz.results37, go_sem, y0, y1, y2, y3, y4]) rfl ?_
            exact RdK.fault hnn.out (z5_gb hR8.out.gb)
          | some x =>
            obtain ⟨nm, vv⟩ := x
            rw [hh] at hhd0 hw
            dsimp only at hhd0 hw
            obtain ⟨NB, hNB⟩ : ∃ NB : ByteArray, NB = ⟨nm.toArray⟩ := ⟨_, rfl⟩
            obtain ⟨VB, hVB⟩ : ∃ VB : ByteArray, VB = ⟨vv.toArray⟩ := ⟨_, rfl⟩
            rw [← hNB, ← hVB] at hhd0
            have hhd := fun W => Lib.hid (hhd0 W)
            have eT := lit_eq NB [116, 114, 97, 110, 115, 102, 101, 114, 45, 101, 110, 99, 111, 100, 105, 110, 103]
            have eL := lit_eq NB [99, 111, 110, 116, 101, 110, 116, 45, 108, 101, 110, 103, 116, 104]
            have eC := lit_eq NB [99, 111, 110, 110, 101, 99, 116, 105, 111, 110]
            rw [show NB.data.toList = nm from by rw [hNB]] at eT eL eC
            have hvl := head_len hh
            have hVz : VB.size ≤ 1000000 := by rw [hVB]; show vv.toArray.size ≤ _; rw [List.size_toArray]; have := hSlh.out; omega
            have hVlh := Lib.hid (show VB.data.toList = vv from by rw [hVB])
            clear hhd0 hh hNB hVB
            by_cases c32 : 32 ≤ n
            · have cI : (32 : Int) ≤ (n : Int) := by omega
              have hnn := Lib.hid (show nextP bs = .fault 400 from by rw [hR.out.next, hw.out, if_pos (.inl c32)]; rfl)
              clear hw eT eL eC
              go_wp2_with (first
                | (go_at_call 68; refine (hln.out).mono ?_; rintro e w7 ⟨rfl, hw7⟩; rw [hw7]; clear hw7)
                | (go_at_call 70; refine ((hhd _).out).mono ?_; rintro e w8 ⟨rfl, g8⟩; have hR8 := hR.out.grown g8; have hzR := hR8.z; have z0 := hzR.c0; have z1 := hzR.c1; have z2 := hzR.c2; have z3 := hzR.c3; have z4 := hzR.c4; have zf := fun i => hzR.f i; have kc := hR8.k.c3; have kf := hR8.k.f 3; replace hR8 := Lib.hid hR8))
              have hz5 := hzR.set5 (.string ⟨#[]⟩) (.string ⟨#[]⟩) (.slice none 0 0) (.bool false) (.slice none 0 0)
              have y0 := hz5.c0
              have y1 := hz5.c1
              have y2 := hz5.c2
              have y3 := hz5.c3
              have y4 := hz5.c4
              refine bodyPost_ret (v := .tuple #[req0, .int .i64 0, .int .i64 400]) (by simp [results, Tryz.results37, go_sem, y0, y1, y2, y3, y4]) rfl ?_
              exact RdK.fault hnn.out (z5_gb hR8.out.gb)
            · have cI : ¬ (32 : Int) ≤ (n : Int) := by omega
              have hn32 : n + 1 ≤ 32 := by omega
              by_cases cT : nm = hTra
              · rw [show decide (nm = [116, 114, 97, 110, 115, 102, 101, 114, 45, 101, 110, 99, 111, 100, 105, 110, 103]) = true from decide_eq_true cT] at eT
                have hnn := Lib.hid (show nextP bs = .fault 400 from by rw [hR.out.next, hw.out, if_pos (.inr cT)]; rfl)
                clear hw eL eC
                go_wp2_with (first
                  | (go_at_call 68; refine (hln.out).mono ?_; rintro e w7 ⟨rfl, hw7⟩; rw [hw7]; clear hw7)
                  | (go_at_call 70; refine ((hhd _).out).mono ?_; rintro e w8 ⟨rfl, g8⟩; have hR8 := hR.out.grown g8; have hzR := hR8.z; have z0 := hzR.c0; have z1 := hzR.c1; have z2 := hzR.c2; have z3 := hzR.c3; have z4 := hzR.c4; have zf := fun i => hzR.f i; have kc := hR8.k.c3; have kf := hR8.k.f 3; replace hR8 := Lib.hid hR8))
                have hz5 := hzR.set5 (.string ⟨#[]⟩) (.string ⟨#[]⟩) (.slice none 0 0) (.bool false) (.slice none 0 0)
                have y0 := hz5.c0
                have y1 := hz5.c1
                have y2 := hz5.c2
                have y3 := hz5.c3
                have y4 := hz5.c4
                refine bodyPost_ret (v := .tuple #[req0, .int .i64 0, .int .i64 400]) (by simp [results, Tryz.results37, go_sem, y0, y1, y2, y3, y4]) rfl ?_
                exact RdK.fault hnn.out (z5_gb hR8.out.gb)
              · rw [show decide (nm = [116, 114, 97, 110, 115, 102, 101, 114, 45, 101, 110, 99, 111, 100, 105, 110, 103]) = false from decide_eq_false cT] at eT
                rw [if_neg (fun e => by rcases e with e | e; exact c32 e; exact cT e)] at hw
                by_cases cL : nm = hLen
                · rw [show decide (nm = [99, 111, 110, 116, 101, 110, 116, 45, 108, 101, 110, 103, 116, 104]) = true from decide_eq_true cL] at eL
                  have cC : nm ≠ hCon := by rw [cL]; exact hCon_ne
                  rw [show decide (nm = [99, 111, 110, 110, 101, 99, 116, 105, 111, 110]) = false from decide_eq_false cC] at eC
                  rw [if_pos cL] at hw
                  have hle0 := fun W => rlength_any VB W (by omega)
                  unfold lenV at hle0
                  rw [hVlh.out] at hle0
                  cases hx : lengthR vv with
                  | none =>
                    rw [hx] at hle0 hw
                    dsimp only at hle0 hw
                    have hle := fun W => Lib.hid (hle0 W)
                    clear hle0 hx
                    have hnn := Lib.hid (show nextP bs = .fault 400 from by rw [hR.out.next, hw.out]; rfl)
                    clear hw
                    go_wp2_with (first
                      | (go_at_call 68; refine (hln.out).mono ?_; rintro e w7 ⟨rfl, hw7⟩; rw [hw7]; clear hw7)
                      | (go_at_call 70; refine ((hhd _).out).mono ?_; rintro e w8 ⟨rfl, g8⟩; have hR8 := hR.out.grown g8; have hzR := hR8.z; have z0 := hzR.c0; have z1 := hzR.c1; have z2 := hzR.c2; have z3 := hzR.c3; have z4 := hzR.c4; have zf := fun i => hzR.f i; have kc := hR8.k.c3; have kf := hR8.k.f 3; replace hR8 := Lib.hid hR8)
                      | (go_at_call 71; refine ((hle _).out).mono ?_; rintro e w9 ⟨rfl, hw9⟩; rw [hw9]; clear hw9))
                    have hz5 := hzR.set5 (.string ⟨#[]⟩) (.string ⟨#[]⟩) (.slice none 0 0) (.bool false) (.slice none 0 0)
                    have y0 := hz5.c0
                    have y1 := hz5.c1
                    have y2 := hz5.c2
                    have y3 := hz5.c3
                    have y4 := hz5.c4
                    refine bodyPost_ret (v := .tuple #[req0, .int .i64 0, .int .i64 400]) (by simp [results, Tryz.results37, go_sem, y0, y1, y2, y3, y4]) rfl ?_
                    exact RdK.fault hnn.out (z5_gb hR8.out.gb)
                  | some x =>
                    rw [hx] at hle0 hw
                    dsimp only at hle0 hw
                    have hle := fun W => Lib.hid (hle0 W)
                    have hxr := Lib.hid (lengthR_rng hx)
                    clear hle0 hx
                    cases told with
                    | true =>
                      have hnn := Lib.hid (show nextP bs = .fault 400 from by rw [hR.out.next, hw.out]; rfl)
                      clear hw
                      go_wp2_with (first
                        | (go_at_call 68; refine (hln.out).mono ?_; rintro e w7 ⟨rfl, hw7⟩; rw [hw7]; clear hw7)
                        | (go_at_call 70; refine ((hhd _).out).mono ?_; rintro e w8 ⟨rfl, g8⟩; have hR8 := hR.out.grown g8; have hzR := hR8.z; have z0 := hzR.c0; have z1 := hzR.c1; have z2 := hzR.c2; have z3 := hzR.c3; have z4 := hzR.c4; have zf := fun i => hzR.f i; have kc := hR8.k.c3; have kf := hR8.k.f 3; replace hR8 := Lib.hid hR8)
                        | (go_at_call 71; refine ((hle _).out).mono ?_; rintro e w9 ⟨rfl, hw9⟩; rw [hw9]; clear hw9))
                      have hz5 := hzR.set5 (.string ⟨#[]⟩) (.string ⟨#[]⟩) (.slice none 0 0) (.bool false) (.slice none 0 0)
                      have y0 := hz5.c0
                      have y1 := hz5.c1
                      have y2 := hz5.c2
                      have y3 := hz5.c3
                      have y4 := hz5.c4
                      refine bodyPost_ret (v := .tuple #[req0, .int .i64 0, .int .i64 400]) (by simp [results, Tryz.results37, go_sem, y0, y1, y2, y3, y4]) rfl ?_
                      exact RdK.fault hnn.out (z5_gb hR8.out.gb)
                    | false =>
                      rw [if_neg (by decide)] at hw
                      have hst := hw
                      clear hw
                      go_wp2_with (first
                        | (go_at_call 68; refine (hln.out).mono ?_; rintro e w7 ⟨rfl, hw7⟩; rw [hw7]; clear hw7)
                        | (go_at_call 70; refine ((hhd _).out).mono ?_; rintro e w8 ⟨rfl, g8⟩; have hR8 := hR.out.grown g8; have hzR := hR8.z; have z0 := hzR.c0; have z1 := hzR.c1; have z2 := hzR.c2; have z3 := hzR.c3; have z4 := hzR.c4; have zf := fun i => hzR.f i; have kc := hR8.k.c3; have kf := hR8.k.f 3; replace hR8 := Lib.hid hR8)
                        | (go_at_call 71; refine ((hle _).out).mono ?_; rintro e w9 ⟨rfl, hw9⟩; rw [hw9]; clear hw9))
                      go_roundg (40 - (n + 1))
                      case measure => omega
                      case rel => exact ⟨i + k2, n + 1, x, true, cl, by first | exact exact_j hi2.out | rfl, rfl, rfl, by first | exact exact_j hn1.out | rfl, rfl, hR8.out.step hi2le.out hn32 hxr.out hst.out, by omega⟩
                · rw [show decide (nm = [99, 111, 110, 116, 101, 110, 116, 45, 108, 101, 110, 103, 116, 104]) = false from decide_eq_false cL] at eL
                  rw [if_neg cL] at hw
                  by_cases cC : nm = hCon
                  · rw [show decide (nm = [99, 111, 110, 110, 101, 99, 116, 105, 111, 110]) = true from decide_eq_true cC] at eC
                    obtain ⟨LB, hLB⟩ : ∃ LB : ByteArray, LB = ⟨(Lib.toLowerA VB.data.toList).toArray⟩ := ⟨_, rfl⟩
                    have hlo0 := fun W => rlower_any VB W (by omega)
                    rw [← hLB] at hlo0
                    have hlo := fun W => Lib.hid (hlo0 W)
                    have eQ := lit_eq LB [99, 108, 111, 115, 101]
                    rw [show LB.data.toList = Lib.toLowerA vv from by rw [hLB, hVlh.out]] at eQ
                    clear hlo0 hLB
                    by_cases cQ : Lib.toLowerA vv = hClo
                    · rw [show decide (Lib.toLowerA vv = [99, 108, 111, 115, 101]) = true from decide_eq_true cQ] at eQ
                      rw [decide_eq_true cC, decide_eq_true cQ, Bool.and_self, Bool.or_true] at hw
                      have hst := hw
                      clear hw
                      go_wp2_with (first
                        | (go_at_call 68; refine (hln.out).mono ?_; rintro e w7 ⟨rfl, hw7⟩; rw [hw7]; clear hw7)
                        | (go_at_call 70; refine ((hhd _).out).mono ?_; rintro e w8 ⟨rfl, g8⟩; have hR8 := hR.out.grown g8; have hzR := hR8.z; have z0 := hzR.c0; have z1 := hzR.c1; have z2 := hzR.c2; have z3 := hzR.c3; have z4 := hzR.c4; have zf := fun i => hzR.f i; have kc := hR8.k.c3; have kf := hR8.k.f 3; replace hR8 := Lib.hid hR8)
                        | (go_at_call 72; refine ((hlo _).out).mono ?_; rintro e w9 ⟨rfl, g9⟩; have hR9 := hR8.out.grown g9; have kc9 := hR9.k.c3; have kf9 := hR9.k.f 3; replace hR9 := Lib.hid hR9))
                      go_roundg (40 - (n + 1))
                      case measure => omega
                      case rel => exact ⟨i + k2, n + 1, size, told, true, by first | exact exact_j hi2.out | rfl, rfl, rfl, by first | exact exact_j hn1.out | rfl, rfl, hR9.out.close hi2le.out hn32 hst.out, by omega⟩
                    · rw [show decide (Lib.toLowerA vv = [99, 108, 111, 115, 101]) = false from decide_eq_false cQ] at eQ
                      rw [decide_eq_false cQ, Bool.and_false, Bool.or_false] at hw
                      have hst := hw
                      clear hw
                      go_wp2_with (first
                        | (go_at_call 68; refine (hln.out).mono ?_; rintro e w7 ⟨rfl, hw7⟩; rw [hw7]; clear hw7)
                        | (go_at_call 70; refine ((hhd _).out).mono ?_; rintro e w8 ⟨rfl, g8⟩; have hR8 := hR.out.grown g8; have hzR := hR8.z; have z0 := hzR.c0; have z1 := hzR.c1; have z2 := hzR.c2; have z3 := hzR.c3; have z4 := hzR.c4; have zf := fun i => hzR.f i; have kc := hR8.k.c3; have kf := hR8.k.f 3; replace hR8 := Lib.hid hR8)
                        | (go_at_call 72; refine ((hlo _).out).mono ?_; rintro e w9 ⟨rfl, g9⟩; have hR9 := hR8.out.grown g9; have kc9 := hR9.k.c3; have kf9 := hR9.k.f 3; replace hR9 := Lib.hid hR9))
                      go_roundg (40 - (n + 1))
                      case measure => omega
                      case rel => exact ⟨i + k2, n + 1, size, told, cl, by first | exact exact_j hi2.out | rfl, rfl, rfl, by first | exact exact_j hn1.out | rfl, rfl, hR9.out.step hi2le.out hn32 hR9.out.sz hst.out, by omega⟩
                  · rw [show decide (nm = [99, 111, 110, 110, 101, 99, 116, 105, 111, 110]) = false from decide_eq_false cC] at eC
                    rw [decide_eq_false cC, Bool.false_and, Bool.or_false] at hw
                    have hst := hw
                    clear hw
                    go_wp2_with (first
                      | (go_at_call 68; refine (hln.out).mono ?_; rintro e w7 ⟨rfl, hw7⟩; rw [hw7]; clear hw7)
                      | (go_at_call 70; refine ((hhd _).out).mono ?_; rintro e w8 ⟨rfl, g8⟩; have hR8 := hR.out.grown g8; have hzR := hR8.z; have z0 := hzR.c0; have z1 := hzR.c1; have z2 := hzR.c2; have z3 := hzR.c3; have z4 := hzR.c4; have zf := fun i => hzR.f i; have kc := hR8.k.c3; have kf := hR8.k.f 3; replace hR8 := Lib.hid hR8))
                    go_roundg (40 - (n + 1))
                    case measure => omega
                    case rel => exact ⟨i + k2, n + 1, size, told, cl, by first | exact exact_j hi2.out | rfl, rfl, rfl, by first | exact exact_j hn1.out | rfl, rfl, hR8.out.step hi2le.out hn32 hR8.out.sz hst.out, by omega⟩
theorem rread_any (v : Value) (bs : Bs) (w : World) (hv : BV w v bs) (hl : bs.length ≤ 2000000) : Calls Tryz.prog 37 #[v] w (RdK bs w) := by
  rcases line_cases bs with h | h | ⟨S, k, h, hk, hkl, hS⟩
  · exact rread_line0 v bs w hv hl h
  · exact rread_line1 v bs w hv hl h
  · cases hf : firstR S with
    | none => exact rread_first v bs w hv hl S k h hk hS hf
    | some x => obtain ⟨m, p, q⟩ := x; exact rread_main v bs w hv hl S k h hk hkl hS m p q hf
end Go.Proofs.YtdfgnoflohfnmaaGreatDoor.Hx
