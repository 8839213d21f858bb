/- Policies: Parse: the walk. -/
import Derived.Test.YtnnhkajjifmlfaaDoorPs
namespace Go.Proofs.YtnnhkajjifmlfaaDoor.Pl
open Go.RowKit Go.Maps

/-- a policy in new memory, a place, an error -/
def RP (w : World) (x : List PN × Int × Int) (e : Ending) (w' : World) : Prop :=
  ∃ (v : Value) (S : Nat → Prop), e = .returned (.tuple #[.agg #[v], .int .i64 x.2.1, .int .i64 x.2.2]) ∧ NodesAt w' S v x.1 ∧ (∀ b, S b → w.heap.size ≤ b ∧ b < w'.heap.size) ∧ w.grownBy w' none
theorem NodesAt.nil (w : World) (S : Nat → Prop) : NodesAt w S (.slice none 0 0) [] := ⟨none, 0, rfl, fun h => absurd h (by simp)⟩
theorem RP.none {w w' : World} {a e : Int} (hg : w.grownBy w' none) : RP w ([], a, e) (.returned (.tuple #[.agg #[.slice none 0 0], .int .i64 a, .int .i64 e])) w' :=
  ⟨_, fun _ => False, rfl, NodesAt.nil _ _, fun _ h => h.elim, hg⟩
theorem next_pr {B R : Nat} {s : ByteArray} {σ : PQ} {w : World} (h : PR B R s σ w) (hp : σ.p ≤ s.size) (hs : s.size ≤ 2000000) :
    Calls Tryd.prog 63 #[.pointer (some ⟨R, 0, none⟩)] w (SI B R s w (.tuple #[]) (nextP s σ)) :=
  si_of_ps1 h (next_gr s σ).2 fun nv hR => next_any R s σ nv w hR hp hs
theorem pr_start (w : World) (s : ByteArray) : PR (w.heap.size + 1) (w.heap.size + 1) s startP ((w.alloc (.cells #[.slice none 0 0] 48)).alloc (.cells #[.string s, .int .i64 0, .int .i64 0, .string ⟨#[]⟩, .int .i64 0, .slice none 0 0, .int .i64 (-1), .bool false] 95)) := by
  refine ⟨Nat.le_refl _, none, 0, ?_, World.ownsRow_nil _ _ _ _, by simp [Value.ownBlock]⟩
  have := heap_alloc_new (w.alloc (.cells #[.slice none 0 0] 48)) (.cells #[.string s, .int .i64 0, .int .i64 0, .string ⟨#[]⟩, .int .i64 0, .slice none 0 0, .int .i64 (-1), .bool false] 95)
  have e : (w.alloc (.cells #[.slice none 0 0] 48)).heap.size = w.heap.size + 1 := by simp
  rw [e] at this
  exact this
/-- a block that holds a policy -/
def QB (w : World) (P : Nat) (v : Value) : Prop := w.heap[P]? = some (.cells #[v] 48 (0, 0))
theorem QB.lt {w : World} {P : Nat} {v : Value} (h : QB w P v) : P < w.heap.size := (Array.getElem?_eq_some_iff.1 h).1
theorem QB.c0 {w : World} {P : Nat} {v : Value} (h : QB w P v) : w.cell? ⟨P, 0, none⟩ = some v := by rw [cell_of_row w P 0 _ _ _ h]; rfl
theorem QB.f0 {w : World} {P : Nat} {v : Value} (h : QB w P v) : w.frozen? ⟨P, 0, none⟩ = false := by unfold QB at h; simp [World.frozen?, h]
theorem QB.alloc {w : World} {P : Nat} {v : Value} (h : QB w P v) (o : Obj) : QB (w.alloc o) P v := (Below.heap_alloc w o P h.lt).trans h
theorem QB.set {w : World} {P : Nat} {v : Value} (h : QB w P v) (u : Value) : QB (w.setCell ⟨P, 0, none⟩ u) P u := by
  unfold QB at h ⊢; simp [World.setCell, Array.getElem?_modify, h]
theorem qb_start (w : World) (o : Obj) : QB ((w.alloc (.cells #[.slice none 0 0] 48)).alloc o) w.heap.size (.slice none 0 0) :=
  (Below.heap_alloc _ o w.heap.size (by simp)).trans (heap_alloc_new w _)
set_option maxHeartbeats 1600000 in
theorem parse_long (s : ByteArray) (w : World) (hs : 8192 < s.size) (hs2 : s.size ≤ 9223372036854775807) : Calls Tryd.prog 33 #[.string s] w (RP w (parseP s)) := by
  have HP : parseP s = ([], -1, 3) := by unfold parseP; rw [if_pos hs]
  rw [HP]; clear HP
  have hsI : (8192 : Int) < (s.size : Int) := by omega
  go_enter Tryd.func33, Tryd.ntmps33
  go_wp2_with fail
  refine bodyPost_ret (v := .tuple #[.agg #[.slice none 0 0], .int .i64 (-1), .int .i64 3]) (by simp [results, Tryd.results33, go_sem]) rfl ?_
  exact RP.none (gb_alloc (gb_refl w _) _)
theorem gb_below2 {B : Nat} {w W w' : World} (h0 : w.grownBy W none) (hb : Below B W w') (hB : w.heap.size ≤ B) : w.grownBy w' none :=
  ⟨hb.os.trans h0.os, hb.tape.trans h0.tape, hb.output.trans h0.output, Nat.le_trans h0.size hb.size, fun i hi hn => (hb.block i (Nat.lt_of_lt_of_le hi hB)).trans (h0.block i hi hn)⟩
set_option maxRecDepth 100000 in
set_option maxHeartbeats 3200000 in
theorem parse_k0_bad (s : ByteArray) (w : World) (hs : s.size ≤ 8192) (hG : Gv w) (hw6 : 6 ≤ w.heap.size) (hk : (orD s (s.size + 2) (nextP s startP)).2.k = 0) (hb : 0 ≤ (topP s).bad) : Calls Tryd.prog 33 #[.string s] w (RP w (parseP s)) := by
  have hsI : ¬ (8192 : Int) < (s.size : Int) := by omega
  have hPR0 := pr_start w s
  have hQ0 := qb_start w (.cells #[.string s, .int .i64 0, .int .i64 0, .string ⟨#[]⟩, .int .i64 0, .slice none 0 0, .int .i64 (-1), .bool false] 95)
  have hl1 := (lk_next (s := s) (σ := startP) (Nat.zero_le _)).1
  have hN := Lib.hid (next_pr hPR0 (Nat.zero_le _) (by omega))
  have hO := fun (W : World) (hh : PR (w.heap.size + 1) (w.heap.size + 1) s (nextP s startP) W) (hGW : Gv W) => Lib.hid (orD_any (B := w.heap.size + 1) (by omega : s.size ≤ 100000) (by omega) (s.size + 2) 0 (by omega) (w.heap.size + 1) (nextP s startP) W hh hl1 (by rw [(next_gr s startP).2]; exact Nat.zero_le _) (Nat.zero_le _) hGW)
  have hgo := gn_orD s (s.size + 2) (nextP s startP) hl1
  have hlen : (topP s).ns.length ≤ 100000 := by
    have h1 := hgo.ns
    have h2 := hgo.lk.ta_le
    rw [(next_gr s startP).2] at h1
    have h3 : (topP s).ns = (orD s (s.size + 2) (nextP s startP)).2.ns := by unfold topP endP; split <;> first | rfl | exact fault_ns _
    rw [h3]
    have h4 : startP.ns.length = 0 := rfl
    omega
  have hTop : Hid (topP s = endP (orD s (s.size + 2) (nextP s startP)).2) := rfl
  have hPa : Hid (parseP s = if 0 ≤ (topP s).bad then ([], (topP s).bad, 4) else if (topP s).gr then ([], -1, 3) else if checkN (topP s).ns ≠ 0 then ([], -1, checkN (topP s).ns) else ((topP s).ns, 0, 0)) := by
    unfold Hid parseP; rw [if_neg (by omega)]
  obtain ⟨res, hres, hPa1⟩ : ∃ res, parseP s = res ∧ Hid (parseP s = res) := ⟨_, rfl, rfl⟩
  rw [hres]
  clear hres
  have hPa2 := Lib.hid (hPa.out.symm.trans hPa1.out)
  clear hPa hPa1 hgo
  generalize topP s = τ at *
  generalize orD s (s.size + 2) (nextP s startP) = y at *
  obtain ⟨v, υ⟩ := y
  simp only at *
  have hT2 : τ = υ := by rw [hTop.out]; unfold endP; rw [if_pos hk]
  subst hT2
  have hkb : (τ.k != 0) = false := by simp [hk]
  clear hTop hk
  obtain rfl : res = ([], τ.bad, 4) := by rw [← hPa2.out, if_pos hb]
  clear hPa2
  go_enter Tryd.func33, Tryd.ntmps33
  go_wp2_with (first
    | (go_at_call 63; refine (hN.out).mono ?_; rintro e w1 ⟨rfl, hp1, hb1⟩)
    | (go_at_call 64; refine ((hO _ hp1 (gv_below (gv_below ((hG.alloc _).alloc _) (Below.refl (w.heap.size + 1) _) (by omega)) hb1 (by omega))).out).mono ?_; rintro e w2 ⟨rfl, hp2, hb2⟩; obtain ⟨_, A, c, hR, hown, hne⟩ := hp2; have d2 := hR.c2; have d5 := hR.c5; have d6 := hR.c6; have d7 := hR.c7; have hRl := hR.lt; have hbl := (hb1.trans hb2); have hQ2 : QB w2 w.heap.size (.slice none 0 0) := (hbl.block w.heap.size (by omega)).trans hQ0; have hPl := hQ2.lt; have q0 := hQ2.c0; have qf := hQ2.f0; have hg : w.grownBy w2 none := gb_below2 (gb_alloc (gb_alloc (gb_refl w none) _) _) hbl (by omega)))
  go_region
  go_wp2_with fail
  have qs := (hQ2.set (.slice none 0 0)).c0
  refine bodyPost_ret (v := .tuple #[.agg #[.slice none 0 0], .int .i64 τ.bad, .int .i64 4]) (by simp [results, Tryd.results33, go_sem, qs]) rfl ?_
  exact RP.none (gb_drew (gb_setN hg (Nat.le_refl _) 0 _))
set_option maxRecDepth 100000 in
set_option maxHeartbeats 3200000 in
theorem parse_k0_great (s : ByteArray) (w : World) (hs : s.size ≤ 8192) (hG : Gv w) (hw6 : 6 ≤ w.heap.size) (hk : (orD s (s.size + 2) (nextP s startP)).2.k = 0) (hb : ¬ 0 ≤ (topP s).bad) (hgr : (topP s).gr = true) : Calls Tryd.prog 33 #[.string s] w (RP w (parseP s)) := by
  have hsI : ¬ (8192 : Int) < (s.size : Int) := by omega
  have hPR0 := pr_start w s
  have hQ0 := qb_start w (.cells #[.string s, .int .i64 0, .int .i64 0, .string ⟨#[]⟩, .int .i64 0, .slice none 0 0, .int .i64 (-1), .bool false] 95)
  have hl1 := (lk_next (s := s) (σ := startP) (Nat.zero_le _)).1
  have hN := Lib.hid (next_pr hPR0 (Nat.zero_le _) (by omega))
  have hO := fun (W : World) (hh : PR (w.heap.size + 1) (w.heap.size + 1) s (nextP s startP) W) (hGW : Gv W) => Lib.hid (orD_any (B := w.heap.size + 1) (by omega : s.size ≤ 100000) (by omega) (s.size + 2) 0 (by omega) (w.heap.size + 1) (nextP s startP) W hh hl1 (by rw [(next_gr s startP).2]; exact Nat.zero_le _) (Nat.zero_le _) hGW)
  have hgo := gn_orD s (s.size + 2) (nextP s startP) hl1
  have hlen : (topP s).ns.length ≤ 100000 := by
    have h1 := hgo.ns
    have h2 := hgo.lk.ta_le
    rw [(next_gr s startP).2] at h1
    have h3 : (topP s).ns = (orD s (s.size + 2) (nextP s startP)).2.ns := by unfold topP endP; split <;> first | rfl | exact fault_ns _
    rw [h3]
    have h4 : startP.ns.length = 0 := rfl
    omega
  have hTop : Hid (topP s = endP (orD s (s.size + 2) (nextP s startP)).2) := rfl
  have hPa : Hid (parseP s = if 0 ≤ (topP s).bad then ([], (topP s).bad, 4) else if (topP s).gr then ([], -1, 3) else if checkN (topP s).ns ≠ 0 then ([], -1, checkN (topP s).ns) else ((topP s).ns, 0, 0)) := by
    unfold Hid parseP; rw [if_neg (by omega)]
  obtain ⟨res, hres, hPa1⟩ : ∃ res, parseP s = res ∧ Hid (parseP s = res) := ⟨_, rfl, rfl⟩
  rw [hres]
  clear hres
  have hPa2 := Lib.hid (hPa.out.symm.trans hPa1.out)
  clear hPa hPa1 hgo
  generalize topP s = τ at *
  generalize orD s (s.size + 2) (nextP s startP) = y at *
  obtain ⟨v, υ⟩ := y
  simp only at *
  have hT2 : τ = υ := by rw [hTop.out]; unfold endP; rw [if_pos hk]
  subst hT2
  have hkb : (τ.k != 0) = false := by simp [hk]
  clear hTop hk
  have hbI : ¬ (0 : Int) ≤ τ.bad := hb
  obtain rfl : res = ([], -1, 3) := by rw [← hPa2.out, if_neg hb, if_pos hgr]
  clear hPa2
  go_enter Tryd.func33, Tryd.ntmps33
  go_wp2_with (first
    | (go_at_call 63; refine (hN.out).mono ?_; rintro e w1 ⟨rfl, hp1, hb1⟩)
    | (go_at_call 64; refine ((hO _ hp1 (gv_below (gv_below ((hG.alloc _).alloc _) (Below.refl (w.heap.size + 1) _) (by omega)) hb1 (by omega))).out).mono ?_; rintro e w2 ⟨rfl, hp2, hb2⟩; obtain ⟨_, A, c, hR, hown, hne⟩ := hp2; have d2 := hR.c2; have d5 := hR.c5; have d6 := hR.c6; have d7 := hR.c7; rw [hgr] at d7; have hRl := hR.lt; have hbl := (hb1.trans hb2); have hQ2 : QB w2 w.heap.size (.slice none 0 0) := (hbl.block w.heap.size (by omega)).trans hQ0; have hPl := hQ2.lt; have q0 := hQ2.c0; have qf := hQ2.f0; have hg : w.grownBy w2 none := gb_below2 (gb_alloc (gb_alloc (gb_refl w none) _) _) hbl (by omega)))
  have qs := ((hQ2.set (.slice none 0 0)).alloc (.cells #[.slice A τ.ns.length c] 48)).c0
  refine bodyPost_ret (v := .tuple #[.agg #[.slice none 0 0], .int .i64 (-1), .int .i64 3]) (by simp [results, Tryd.results33, go_sem, qs]) rfl ?_
  exact RP.none (gb_alloc (gb_setN hg (Nat.le_refl _) 0 _) _)
set_option maxRecDepth 100000 in
set_option maxHeartbeats 3200000 in
theorem parse_k0_arg (s : ByteArray) (w : World) (hs : s.size ≤ 8192) (hG : Gv w) (hw6 : 6 ≤ w.heap.size) (hk : (orD s (s.size + 2) (nextP s startP)).2.k = 0) (hb : ¬ 0 ≤ (topP s).bad) (hgr : (topP s).gr = false) (he : checkN (topP s).ns ≠ 0) : Calls Tryd.prog 33 #[.string s] w (RP w (parseP s)) := by
  have hsI : ¬ (8192 : Int) < (s.size : Int) := by omega
  have hPR0 := pr_start w s
  have hQ0 := qb_start w (.cells #[.string s, .int .i64 0, .int .i64 0, .string ⟨#[]⟩, .int .i64 0, .slice none 0 0, .int .i64 (-1), .bool false] 95)
  have hl1 := (lk_next (s := s) (σ := startP) (Nat.zero_le _)).1
  have hN := Lib.hid (next_pr hPR0 (Nat.zero_le _) (by omega))
  have hO := fun (W : World) (hh : PR (w.heap.size + 1) (w.heap.size + 1) s (nextP s startP) W) (hGW : Gv W) => Lib.hid (orD_any (B := w.heap.size + 1) (by omega : s.size ≤ 100000) (by omega) (s.size + 2) 0 (by omega) (w.heap.size + 1) (nextP s startP) W hh hl1 (by rw [(next_gr s startP).2]; exact Nat.zero_le _) (Nat.zero_le _) hGW)
  have hgo := gn_orD s (s.size + 2) (nextP s startP) hl1
  have hlen : (topP s).ns.length ≤ 100000 := by
    have h1 := hgo.ns
    have h2 := hgo.lk.ta_le
    rw [(next_gr s startP).2] at h1
    have h3 : (topP s).ns = (orD s (s.size + 2) (nextP s startP)).2.ns := by unfold topP endP; split <;> first | rfl | exact fault_ns _
    rw [h3]
    have h4 : startP.ns.length = 0 := rfl
    omega
  have hTop : Hid (topP s = endP (orD s (s.size + 2) (nextP s startP)).2) := rfl
  have hPa : Hid (parseP s = if 0 ≤ (topP s).bad then ([], (topP s).bad, 4) else if (topP s).gr then ([], -1, 3) else if checkN (topP s).ns ≠ 0 then ([], -1, checkN (topP s).ns) else ((topP s).ns, 0, 0)) := by
    unfold Hid parseP; rw [if_neg (by omega)]
  obtain ⟨res, hres, hPa1⟩ : ∃ res, parseP s = res ∧ Hid (parseP s = res) := ⟨_, rfl, rfl⟩
  rw [hres]
  clear hres
  have hPa2 := Lib.hid (hPa.out.symm.trans hPa1.out)
  clear hPa hPa1 hgo
  generalize topP s = τ at *
  generalize orD s (s.size + 2) (nextP s startP) = y at *
  obtain ⟨v, υ⟩ := y
  simp only at *
  have hT2 : τ = υ := by rw [hTop.out]; unfold endP; rw [if_pos hk]
  subst hT2
  have hkb : (τ.k != 0) = false := by simp [hk]
  clear hTop hk
  have hbI : ¬ (0 : Int) ≤ τ.bad := hb
  obtain rfl : res = ([], -1, checkN τ.ns) := by rw [← hPa2.out, if_neg hb, if_neg (by rw [hgr]; decide), if_pos he]
  have heb : (checkN τ.ns != 0) = true := by simpa using he
  clear hPa2
  have hCk := fun {W : World} {A : Option Addr} {c : Nat} (W' : World) (_ : Nat) (hown : W.ownsRow (w.heap.size + 1) 64 6 (.slice A τ.ns.length c) τ.ns.length (nodesC τ.ns)) (hg : W.grownBy W' none) => Lib.hid (check_any τ.ns _ _ W' (by omega) ((NodesAt.of_own hown).grown hg (fun b hb => ⟨(hown.lt b hb).2, by simp⟩)) (fun b hb => Nat.lt_of_lt_of_le (hown.lt b hb).2 hg.size))
  go_enter Tryd.func33, Tryd.ntmps33
  go_wp2_with (first
    | (go_at_call 39; refine ((hCk _ 0 hown (by exact gb_alloc (gb_refl _ _) _)).out).mono ?_; rintro e w4 ⟨rfl, hg4⟩; have hP4 : QB w4 w2.heap.size (.slice A τ.ns.length c) := (hg4.block _ (by simp) (by simp)).trans (heap_alloc_new w2 _); have p0 := hP4.c0; have hQ4 : QB w4 w.heap.size (.slice none 0 0) := (hg4.block w.heap.size (by have := hQ2.lt; simp; omega) (by simp)).trans ((Below.heap_alloc _ _ _ hQ2.lt).trans hQ2); have r0 := hQ4.c0; have rf := hQ4.f0)
    | (go_at_call 63; refine (hN.out).mono ?_; rintro e w1 ⟨rfl, hp1, hb1⟩)
    | (go_at_call 64; refine ((hO _ hp1 (gv_below (gv_below ((hG.alloc _).alloc _) (Below.refl (w.heap.size + 1) _) (by omega)) hb1 (by omega))).out).mono ?_; rintro e w2 ⟨rfl, hp2, hb2⟩; obtain ⟨_, A, c, hR, hown, hne⟩ := hp2; have d2 := hR.c2; have d5 := hR.c5; have d6 := hR.c6; have d7 := hR.c7; rw [hgr] at d7; have hRl := hR.lt; have hbl := (hb1.trans hb2); have hQ2 : QB w2 w.heap.size (.slice none 0 0) := (hbl.block w.heap.size (by omega)).trans hQ0; have hPl := hQ2.lt; have q0 := hQ2.c0; have qf := hQ2.f0; have hg : w.grownBy w2 none := gb_below2 (gb_alloc (gb_alloc (gb_refl w none) _) _) hbl (by omega)))
  have qs := (hQ4.set (.slice none 0 0)).c0
  refine bodyPost_ret (v := .tuple #[.agg #[.slice none 0 0], .int .i64 (-1), .int .i64 (checkN τ.ns)]) (by simp [results, Tryd.results33, go_sem, qs]) rfl ?_
  exact RP.none (gb_setN (gb_trans (gb_alloc hg _) hg4) (Nat.le_refl _) 0 _)
set_option maxRecDepth 100000 in
set_option maxHeartbeats 3200000 in
theorem parse_k0_ok (s : ByteArray) (w : World) (hs : s.size ≤ 8192) (hG : Gv w) (hw6 : 6 ≤ w.heap.size) (hk : (orD s (s.size + 2) (nextP s startP)).2.k = 0) (hb : ¬ 0 ≤ (topP s).bad) (hgr : (topP s).gr = false) (he : checkN (topP s).ns = 0) : Calls Tryd.prog 33 #[.string s] w (RP w (parseP s)) := by
  have hsI : ¬ (8192 : Int) < (s.size : Int) := by omega
  have hPR0 := pr_start w s
  have hQ0 := qb_start w (.cells #[.string s, .int .i64 0, .int .i64 0, .string ⟨#[]⟩, .int .i64 0, .slice none 0 0, .int .i64 (-1), .bool false] 95)
  have hl1 := (lk_next (s := s) (σ := startP) (Nat.zero_le _)).1
  have hN := Lib.hid (next_pr hPR0 (Nat.zero_le _) (by omega))
  have hO := fun (W : World) (hh : PR (w.heap.size + 1) (w.heap.size + 1) s (nextP s startP) W) (hGW : Gv W) => Lib.hid (orD_any (B := w.heap.size + 1) (by omega : s.size ≤ 100000) (by omega) (s.size + 2) 0 (by omega) (w.heap.size + 1) (nextP s startP) W hh hl1 (by rw [(next_gr s startP).2]; exact Nat.zero_le _) (Nat.zero_le _) hGW)
  have hgo := gn_orD s (s.size + 2) (nextP s startP) hl1
  have hlen : (topP s).ns.length ≤ 100000 := by
    have h1 := hgo.ns
    have h2 := hgo.lk.ta_le
    rw [(next_gr s startP).2] at h1
    have h3 : (topP s).ns = (orD s (s.size + 2) (nextP s startP)).2.ns := by unfold topP endP; split <;> first | rfl | exact fault_ns _
    rw [h3]
    have h4 : startP.ns.length = 0 := rfl
    omega
  have hTop : Hid (topP s = endP (orD s (s.size + 2) (nextP s startP)).2) := rfl
  have hPa : Hid (parseP s = if 0 ≤ (topP s).bad then ([], (topP s).bad, 4) else if (topP s).gr then ([], -1, 3) else if checkN (topP s).ns ≠ 0 then ([], -1, checkN (topP s).ns) else ((topP s).ns, 0, 0)) := by
    unfold Hid parseP; rw [if_neg (by omega)]
  obtain ⟨res, hres, hPa1⟩ : ∃ res, parseP s = res ∧ Hid (parseP s = res) := ⟨_, rfl, rfl⟩
  rw [hres]
  clear hres
  have hPa2 := Lib.hid (hPa.out.symm.trans hPa1.out)
  clear hPa hPa1 hgo
  generalize topP s = τ at *
  generalize orD s (s.size + 2) (nextP s startP) = y at *
  obtain ⟨v, υ⟩ := y
  simp only at *
  have hT2 : τ = υ := by rw [hTop.out]; unfold endP; rw [if_pos hk]
  subst hT2
  have hkb : (τ.k != 0) = false := by simp [hk]
  clear hTop hk
  have hbI : ¬ (0 : Int) ≤ τ.bad := hb
  obtain rfl : res = (τ.ns, 0, 0) := by rw [← hPa2.out, if_neg hb, if_neg (by rw [hgr]; decide), if_neg (fun h => h he)]
  have heb : (checkN τ.ns != 0) = false := by simp [he]
  clear hPa2
  have hCk := fun {W : World} {A : Option Addr} {c : Nat} (W' : World) (_ : Nat) (hown : W.ownsRow (w.heap.size + 1) 64 6 (.slice A τ.ns.length c) τ.ns.length (nodesC τ.ns)) (hg : W.grownBy W' none) => Lib.hid (check_any τ.ns _ _ W' (by omega) ((NodesAt.of_own hown).grown hg (fun b hb => ⟨(hown.lt b hb).2, by simp⟩)) (fun b hb => Nat.lt_of_lt_of_le (hown.lt b hb).2 hg.size))
  go_enter Tryd.func33, Tryd.ntmps33
  go_wp2_with (first
    | (go_at_call 39; refine ((hCk _ 0 hown (by exact gb_alloc (gb_refl _ _) _)).out).mono ?_; rintro e w4 ⟨rfl, hg4⟩; have hP4 : QB w4 w2.heap.size (.slice A τ.ns.length c) := (hg4.block _ (by simp) (by simp)).trans (heap_alloc_new w2 _); have p0 := hP4.c0; have hQ4 : QB w4 w.heap.size (.slice none 0 0) := (hg4.block w.heap.size (by have := hQ2.lt; simp; omega) (by simp)).trans ((Below.heap_alloc _ _ _ hQ2.lt).trans hQ2); have r0 := hQ4.c0; have rf := hQ4.f0)
    | (go_at_call 63; refine (hN.out).mono ?_; rintro e w1 ⟨rfl, hp1, hb1⟩)
    | (go_at_call 64; refine ((hO _ hp1 (gv_below (gv_below ((hG.alloc _).alloc _) (Below.refl (w.heap.size + 1) _) (by omega)) hb1 (by omega))).out).mono ?_; rintro e w2 ⟨rfl, hp2, hb2⟩; obtain ⟨_, A, c, hR, hown, hne⟩ := hp2; have d2 := hR.c2; have d5 := hR.c5; have d6 := hR.c6; have d7 := hR.c7; rw [hgr] at d7; have hRl := hR.lt; have hbl := (hb1.trans hb2); have hQ2 : QB w2 w.heap.size (.slice none 0 0) := (hbl.block w.heap.size (by omega)).trans hQ0; have hPl := hQ2.lt; have q0 := hQ2.c0; have qf := hQ2.f0; have hg : w.grownBy w2 none := gb_below2 (gb_alloc (gb_alloc (gb_refl w none) _) _) hbl (by omega)))
  have qs := (hQ4.set (.slice A τ.ns.length c)).c0
  have hNA := NodesAt.of_own hown
  refine bodyPost_ret (v := .tuple #[.agg #[.slice A τ.ns.length c], .int .i64 0, .int .i64 0]) (by simp [results, Tryd.results33, go_sem, qs]) rfl ?_
  refine ⟨_, _, rfl, hNA.keep (S' := fun b => (Value.slice A τ.ns.length c).ownBlock = some b) (fun b hb => ?_) (fun _ => id), fun b hb => ?_, gb_setN (gb_trans (gb_alloc hg _) hg4) (Nat.le_refl _) 0 _⟩
  · have h1 := hown.lt b hb
    rw [Below.heap_setCell _ _ _ _ (by simp; omega), hg4.block b (by simp; omega) (by simp), Below.heap_alloc _ _ _ h1.2]
  · have h1 := hown.lt b hb
    have h2 := hg4.size
    simp only [World.setCell, Array.size_modify]
    simp at h2
    omega
set_option maxRecDepth 100000 in
set_option maxHeartbeats 3200000 in
theorem parse_k1_bad (s : ByteArray) (w : World) (hs : s.size ≤ 8192) (hG : Gv w) (hw6 : 6 ≤ w.heap.size) (hk : (orD s (s.size + 2) (nextP s startP)).2.k ≠ 0) (hb : 0 ≤ (topP s).bad) : Calls Tryd.prog 33 #[.string s] w (RP w (parseP s)) := by
  have hsI : ¬ (8192 : Int) < (s.size : Int) := by omega
  have hPR0 := pr_start w s
  have hQ0 := qb_start w (.cells #[.string s, .int .i64 0, .int .i64 0, .string ⟨#[]⟩, .int .i64 0, .slice none 0 0, .int .i64 (-1), .bool false] 95)
  have hl1 := (lk_next (s := s) (σ := startP) (Nat.zero_le _)).1
  have hN := Lib.hid (next_pr hPR0 (Nat.zero_le _) (by omega))
  have hO := fun (W : World) (hh : PR (w.heap.size + 1) (w.heap.size + 1) s (nextP s startP) W) (hGW : Gv W) => Lib.hid (orD_any (B := w.heap.size + 1) (by omega : s.size ≤ 100000) (by omega) (s.size + 2) 0 (by omega) (w.heap.size + 1) (nextP s startP) W hh hl1 (by rw [(next_gr s startP).2]; exact Nat.zero_le _) (Nat.zero_le _) hGW)
  have hgo := gn_orD s (s.size + 2) (nextP s startP) hl1
  have hlen : (topP s).ns.length ≤ 100000 := by
    have h1 := hgo.ns
    have h2 := hgo.lk.ta_le
    rw [(next_gr s startP).2] at h1
    have h3 : (topP s).ns = (orD s (s.size + 2) (nextP s startP)).2.ns := by unfold topP endP; split <;> first | rfl | exact fault_ns _
    rw [h3]
    have h4 : startP.ns.length = 0 := rfl
    omega
  have hTop : Hid (topP s = endP (orD s (s.size + 2) (nextP s startP)).2) := rfl
  have hPa : Hid (parseP s = if 0 ≤ (topP s).bad then ([], (topP s).bad, 4) else if (topP s).gr then ([], -1, 3) else if checkN (topP s).ns ≠ 0 then ([], -1, checkN (topP s).ns) else ((topP s).ns, 0, 0)) := by
    unfold Hid parseP; rw [if_neg (by omega)]
  obtain ⟨res, hres, hPa1⟩ : ∃ res, parseP s = res ∧ Hid (parseP s = res) := ⟨_, rfl, rfl⟩
  rw [hres]
  clear hres
  have hPa2 := Lib.hid (hPa.out.symm.trans hPa1.out)
  clear hPa hPa1 hgo
  generalize topP s = τ at *
  generalize orD s (s.size + 2) (nextP s startP) = y at *
  obtain ⟨v, υ⟩ := y
  simp only at *
  have hT2 : Hid (τ = faultP υ) := by unfold Hid; rw [hTop.out]; unfold endP; rw [if_neg hk]
  have hkb : (υ.k != 0) = true := by simpa using hk
  clear hTop hk
  obtain rfl : res = ([], τ.bad, 4) := by rw [← hPa2.out, if_pos hb]
  clear hPa2
  go_enter Tryd.func33, Tryd.ntmps33
  go_wp2_with (first
    | (go_at_call 63; refine (hN.out).mono ?_; rintro e w1 ⟨rfl, hp1, hb1⟩)
    | (go_at_call 64; refine ((hO _ hp1 (gv_below (gv_below ((hG.alloc _).alloc _) (Below.refl (w.heap.size + 1) _) (by omega)) hb1 (by omega))).out).mono ?_; rintro e w2 ⟨rfl, hp2, hb2⟩; have d2 : w2.cell? ⟨w.heap.size + 1, 2, none⟩ = some (.int .i64 υ.k) := by obtain ⟨_, A, c, hR, _, _⟩ := hp2; exact hR.c2)
    | (go_at_call 65; refine (fault_pr hp2).mono ?_; rintro e w3 ⟨rfl, hp3, hb3⟩; rw [← hT2.out] at hp3; clear d2; obtain ⟨_, A, c, hR, hown, hne⟩ := hp3; have d2 := hR.c2; have d5 := hR.c5; have d6 := hR.c6; have d7 := hR.c7; have hRl := hR.lt; have hbl := ((hb1.trans hb2).trans hb3); have hQ2 : QB w3 w.heap.size (.slice none 0 0) := (hbl.block w.heap.size (by omega)).trans hQ0; have hPl := hQ2.lt; have q0 := hQ2.c0; have qf := hQ2.f0; have hg : w.grownBy w3 none := gb_below2 (gb_alloc (gb_alloc (gb_refl w none) _) _) hbl (by omega)))
  go_region
  go_wp2_with fail
  have qs := (hQ2.set (.slice none 0 0)).c0
  refine bodyPost_ret (v := .tuple #[.agg #[.slice none 0 0], .int .i64 τ.bad, .int .i64 4]) (by simp [results, Tryd.results33, go_sem, qs]) rfl ?_
  exact RP.none (gb_drew (gb_setN hg (Nat.le_refl _) 0 _))
set_option maxRecDepth 100000 in
set_option maxHeartbeats 3200000 in
theorem parse_k1_great (s : ByteArray) (w : World) (hs : s.size ≤ 8192) (hG : Gv w) (hw6 : 6 ≤ w.heap.size) (hk : (orD s (s.size + 2) (nextP s startP)).2.k ≠ 0) (hb : ¬ 0 ≤ (topP s).bad) (hgr : (topP s).gr = true) : Calls Tryd.prog 33 #[.string s] w (RP w (parseP s)) := by
  have hsI : ¬ (8192 : Int) < (s.size : Int) := by omega
  have hPR0 := pr_start w s
  have hQ0 := qb_start w (.cells #[.string s, .int .i64 0, .int .i64 0, .string ⟨#[]⟩, .int .i64 0, .slice none 0 0, .int .i64 (-1), .bool false] 95)
  have hl1 := (lk_next (s := s) (σ := startP) (Nat.zero_le _)).1
  have hN := Lib.hid (next_pr hPR0 (Nat.zero_le _) (by omega))
  have hO := fun (W : World) (hh : PR (w.heap.size + 1) (w.heap.size + 1) s (nextP s startP) W) (hGW : Gv W) => Lib.hid (orD_any (B := w.heap.size + 1) (by omega : s.size ≤ 100000) (by omega) (s.size + 2) 0 (by omega) (w.heap.size + 1) (nextP s startP) W hh hl1 (by rw [(next_gr s startP).2]; exact Nat.zero_le _) (Nat.zero_le _) hGW)
  have hgo := gn_orD s (s.size + 2) (nextP s startP) hl1
  have hlen : (topP s).ns.length ≤ 100000 := by
    have h1 := hgo.ns
    have h2 := hgo.lk.ta_le
    rw [(next_gr s startP).2] at h1
    have h3 : (topP s).ns = (orD s (s.size + 2) (nextP s startP)).2.ns := by unfold topP endP; split <;> first | rfl | exact fault_ns _
    rw [h3]
    have h4 : startP.ns.length = 0 := rfl
    omega
  have hTop : Hid (topP s = endP (orD s (s.size + 2) (nextP s startP)).2) := rfl
  have hPa : Hid (parseP s = if 0 ≤ (topP s).bad then ([], (topP s).bad, 4) else if (topP s).gr then ([], -1, 3) else if checkN (topP s).ns ≠ 0 then ([], -1, checkN (topP s).ns) else ((topP s).ns, 0, 0)) := by
    unfold Hid parseP; rw [if_neg (by omega)]
  obtain ⟨res, hres, hPa1⟩ : ∃ res, parseP s = res ∧ Hid (parseP s = res) := ⟨_, rfl, rfl⟩
  rw [hres]
  clear hres
  have hPa2 := Lib.hid (hPa.out.symm.trans hPa1.out)
  clear hPa hPa1 hgo
  generalize topP s = τ at *
  generalize orD s (s.size + 2) (nextP s startP) = y at *
  obtain ⟨v, υ⟩ := y
  simp only at *
  have hT2 : Hid (τ = faultP υ) := by unfold Hid; rw [hTop.out]; unfold endP; rw [if_neg hk]
  have hkb : (υ.k != 0) = true := by simpa using hk
  clear hTop hk
  have hbI : ¬ (0 : Int) ≤ τ.bad := hb
  obtain rfl : res = ([], -1, 3) := by rw [← hPa2.out, if_neg hb, if_pos hgr]
  clear hPa2
  go_enter Tryd.func33, Tryd.ntmps33
  go_wp2_with (first
    | (go_at_call 63; refine (hN.out).mono ?_; rintro e w1 ⟨rfl, hp1, hb1⟩)
    | (go_at_call 64; refine ((hO _ hp1 (gv_below (gv_below ((hG.alloc _).alloc _) (Below.refl (w.heap.size + 1) _) (by omega)) hb1 (by omega))).out).mono ?_; rintro e w2 ⟨rfl, hp2, hb2⟩; have d2 : w2.cell? ⟨w.heap.size + 1, 2, none⟩ = some (.int .i64 υ.k) := by obtain ⟨_, A, c, hR, _, _⟩ := hp2; exact hR.c2)
    | (go_at_call 65; refine (fault_pr hp2).mono ?_; rintro e w3 ⟨rfl, hp3, hb3⟩; rw [← hT2.out] at hp3; clear d2; obtain ⟨_, A, c, hR, hown, hne⟩ := hp3; have d2 := hR.c2; have d5 := hR.c5; have d6 := hR.c6; have d7 := hR.c7; rw [hgr] at d7; have hRl := hR.lt; have hbl := ((hb1.trans hb2).trans hb3); have hQ2 : QB w3 w.heap.size (.slice none 0 0) := (hbl.block w.heap.size (by omega)).trans hQ0; have hPl := hQ2.lt; have q0 := hQ2.c0; have qf := hQ2.f0; have hg : w.grownBy w3 none := gb_below2 (gb_alloc (gb_alloc (gb_refl w none) _) _) hbl (by omega)))
  have qs := ((hQ2.set (.slice none 0 0)).alloc (.cells #[.slice A τ.ns.length c] 48)).c0
  refine bodyPost_ret (v := .tuple #[.agg #[.slice none 0 0], .int .i64 (-1), .int .i64 3]) (by simp [results, Tryd.results33, go_sem, qs]) rfl ?_
  exact RP.none (gb_alloc (gb_setN hg (Nat.le_refl _) 0 _) _)
set_option maxRecDepth 100000 in
set_option maxHeartbeats 3200000 in
theorem parse_k1_arg (s : ByteArray) (w : World) (hs : s.size ≤ 8192) (hG : Gv w) (hw6 : 6 ≤ w.heap.size) (hk : (orD s (s.size + 2) (nextP s startP)).2.k ≠ 0) (hb : ¬ 0 ≤ (topP s).bad) (hgr : (topP s).gr = false) (he : checkN (topP s).ns ≠ 0) : Calls Tryd.prog 33 #[.string s] w (RP w (parseP s)) := by
  have hsI : ¬ (8192 : Int) < (s.size : Int) := by omega
  have hPR0 := pr_start w s
  have hQ0 := qb_start w (.cells #[.string s, .int .i64 0, .int .i64 0, .string ⟨#[]⟩, .int .i64 0, .slice none 0 0, .int .i64 (-1), .bool false] 95)
  have hl1 := (lk_next (s := s) (σ := startP) (Nat.zero_le _)).1
  have hN := Lib.hid (next_pr hPR0 (Nat.zero_le _) (by omega))
  have hO := fun (W : World) (hh : PR (w.heap.size + 1) (w.heap.size + 1) s (nextP s startP) W) (hGW : Gv W) => Lib.hid (orD_any (B := w.heap.size + 1) (by omega : s.size ≤ 100000) (by omega) (s.size + 2) 0 (by omega) (w.heap.size + 1) (nextP s startP) W hh hl1 (by rw [(next_gr s startP).2]; exact Nat.zero_le _) (Nat.zero_le _) hGW)
  have hgo := gn_orD s (s.size + 2) (nextP s startP) hl1
  have hlen : (topP s).ns.length ≤ 100000 := by
    have h1 := hgo.ns
    have h2 := hgo.lk.ta_le
    rw [(next_gr s startP).2] at h1
    have h3 : (topP s).ns = (orD s (s.size + 2) (nextP s startP)).2.ns := by unfold topP endP; split <;> first | rfl | exact fault_ns _
    rw [h3]
    have h4 : startP.ns.length = 0 := rfl
    omega
  have hTop : Hid (topP s = endP (orD s (s.size + 2) (nextP s startP)).2) := rfl
  have hPa : Hid (parseP s = if 0 ≤ (topP s).bad then ([], (topP s).bad, 4) else if (topP s).gr then ([], -1, 3) else if checkN (topP s).ns ≠ 0 then ([], -1, checkN (topP s).ns) else ((topP s).ns, 0, 0)) := by
    unfold Hid parseP; rw [if_neg (by omega)]
  obtain ⟨res, hres, hPa1⟩ : ∃ res, parseP s = res ∧ Hid (parseP s = res) := ⟨_, rfl, rfl⟩
  rw [hres]
  clear hres
  have hPa2 := Lib.hid (hPa.out.symm.trans hPa1.out)
  clear hPa hPa1 hgo
  generalize topP s = τ at *
  generalize orD s (s.size + 2) (nextP s startP) = y at *
  obtain ⟨v, υ⟩ := y
  simp only at *
  have hT2 : Hid (τ = faultP υ) := by unfold Hid; rw [hTop.out]; unfold endP; rw [if_neg hk]
  have hkb : (υ.k != 0) = true := by simpa using hk
  clear hTop hk
  have hbI : ¬ (0 : Int) ≤ τ.bad := hb
  obtain rfl : res = ([], -1, checkN τ.ns) := by rw [← hPa2.out, if_neg hb, if_neg (by rw [hgr]; decide), if_pos he]
  have heb : (checkN τ.ns != 0) = true := by simpa using he
  clear hPa2
  have hCk := fun {W : World} {A : Option Addr} {c : Nat} (W' : World) (_ : Nat) (hown : W.ownsRow (w.heap.size + 1) 64 6 (.slice A τ.ns.length c) τ.ns.length (nodesC τ.ns)) (hg : W.grownBy W' none) => Lib.hid (check_any τ.ns _ _ W' (by omega) ((NodesAt.of_own hown).grown hg (fun b hb => ⟨(hown.lt b hb).2, by simp⟩)) (fun b hb => Nat.lt_of_lt_of_le (hown.lt b hb).2 hg.size))
  go_enter Tryd.func33, Tryd.ntmps33
  go_wp2_with (first
    | (go_at_call 39; refine ((hCk _ 0 hown (by exact gb_alloc (gb_refl _ _) _)).out).mono ?_; rintro e w4 ⟨rfl, hg4⟩; have hP4 : QB w4 w3.heap.size (.slice A τ.ns.length c) := (hg4.block _ (by simp) (by simp)).trans (heap_alloc_new w3 _); have p0 := hP4.c0; have hQ4 : QB w4 w.heap.size (.slice none 0 0) := (hg4.block w.heap.size (by have := hQ2.lt; simp; omega) (by simp)).trans ((Below.heap_alloc _ _ _ hQ2.lt).trans hQ2); have r0 := hQ4.c0; have rf := hQ4.f0)
    | (go_at_call 63; refine (hN.out).mono ?_; rintro e w1 ⟨rfl, hp1, hb1⟩)
    | (go_at_call 64; refine ((hO _ hp1 (gv_below (gv_below ((hG.alloc _).alloc _) (Below.refl (w.heap.size + 1) _) (by omega)) hb1 (by omega))).out).mono ?_; rintro e w2 ⟨rfl, hp2, hb2⟩; have d2 : w2.cell? ⟨w.heap.size + 1, 2, none⟩ = some (.int .i64 υ.k) := by obtain ⟨_, A, c, hR, _, _⟩ := hp2; exact hR.c2)
    | (go_at_call 65; refine (fault_pr hp2).mono ?_; rintro e w3 ⟨rfl, hp3, hb3⟩; rw [← hT2.out] at hp3; clear d2; obtain ⟨_, A, c, hR, hown, hne⟩ := hp3; have d2 := hR.c2; have d5 := hR.c5; have d6 := hR.c6; have d7 := hR.c7; rw [hgr] at d7; have hRl := hR.lt; have hbl := ((hb1.trans hb2).trans hb3); have hQ2 : QB w3 w.heap.size (.slice none 0 0) := (hbl.block w.heap.size (by omega)).trans hQ0; have hPl := hQ2.lt; have q0 := hQ2.c0; have qf := hQ2.f0; have hg : w.grownBy w3 none := gb_below2 (gb_alloc (gb_alloc (gb_refl w none) _) _) hbl (by omega)))
  have qs := (hQ4.set (.slice none 0 0)).c0
  refine bodyPost_ret (v := .tuple #[.agg #[.slice none 0 0], .int .i64 (-1), .int .i64 (checkN τ.ns)]) (by simp [results, Tryd.results33, go_sem, qs]) rfl ?_
  exact RP.none (gb_setN (gb_trans (gb_alloc hg _) hg4) (Nat.le_refl _) 0 _)
set_option maxRecDepth 100000 in
set_option maxHeartbeats 3200000 in
theorem parse_k1_ok (s : ByteArray) (w : World) (hs : s.size ≤ 8192) (hG : Gv w) (hw6 : 6 ≤ w.heap.size) (hk : (orD s (s.size + 2) (nextP s startP)).2.k ≠ 0) (hb : ¬ 0 ≤ (topP s).bad) (hgr : (topP s).gr = false) (he : checkN (topP s).ns = 0) : Calls Tryd.prog 33 #[.string s] w (RP w (parseP s)) := by
  have hsI : ¬ (8192 : Int) < (s.size : Int) := by omega
  have hPR0 := pr_start w s
  have hQ0 := qb_start w (.cells #[.string s, .int .i64 0, .int .i64 0, .string ⟨#[]⟩, .int .i64 0, .slice none 0 0, .int .i64 (-1), .bool false] 95)
  have hl1 := (lk_next (s := s) (σ := startP) (Nat.zero_le _)).1
  have hN := Lib.hid (next_pr hPR0 (Nat.zero_le _) (by omega))
  have hO := fun (W : World) (hh : PR (w.heap.size + 1) (w.heap.size + 1) s (nextP s startP) W) (hGW : Gv W) => Lib.hid (orD_any (B := w.heap.size + 1) (by omega : s.size ≤ 100000) (by omega) (s.size + 2) 0 (by omega) (w.heap.size + 1) (nextP s startP) W hh hl1 (by rw [(next_gr s startP).2]; exact Nat.zero_le _) (Nat.zero_le _) hGW)
  have hgo := gn_orD s (s.size + 2) (nextP s startP) hl1
  have hlen : (topP s).ns.length ≤ 100000 := by
    have h1 := hgo.ns
    have h2 := hgo.lk.ta_le
    rw [(next_gr s startP).2] at h1
    have h3 : (topP s).ns = (orD s (s.size + 2) (nextP s startP)).2.ns := by unfold topP endP; split <;> first | rfl | exact fault_ns _
    rw [h3]
    have h4 : startP.ns.length = 0 := rfl
    omega
  have hTop : Hid (topP s = endP (orD s (s.size + 2) (nextP s startP)).2) := rfl
  have hPa : Hid (parseP s = if 0 ≤ (topP s).bad then ([], (topP s).bad, 4) else if (topP s).gr then ([], -1, 3) else if checkN (topP s).ns ≠ 0 then ([], -1, checkN (topP s).ns) else ((topP s).ns, 0, 0)) := by
    unfold Hid parseP; rw [if_neg (by omega)]
  obtain ⟨res, hres, hPa1⟩ : ∃ res, parseP s = res ∧ Hid (parseP s = res) := ⟨_, rfl, rfl⟩
  rw [hres]
  clear hres
  have hPa2 := Lib.hid (hPa.out.symm.trans hPa1.out)
  clear hPa hPa1 hgo
  generalize topP s = τ at *
  generalize orD s (s.size + 2) (nextP s startP) = y at *
  obtain ⟨v, υ⟩ := y
  simp only at *
  have hT2 : Hid (τ = faultP υ) := by unfold Hid; rw [hTop.out]; unfold endP; rw [if_neg hk]
  have hkb : (υ.k != 0) = true := by simpa using hk
  clear hTop hk
  have hbI : ¬ (0 : Int) ≤ τ.bad := hb
  obtain rfl : res = (τ.ns, 0, 0) := by rw [← hPa2.out, if_neg hb, if_neg (by rw [hgr]; decide), if_neg (fun h => h he)]
  have heb : (checkN τ.ns != 0) = false := by simp [he]
  clear hPa2
  have hCk := fun {W : World} {A : Option Addr} {c : Nat} (W' : World) (_ : Nat) (hown : W.ownsRow (w.heap.size + 1) 64 6 (.slice A τ.ns.length c) τ.ns.length (nodesC τ.ns)) (hg : W.grownBy W' none) => Lib.hid (check_any τ.ns _ _ W' (by omega) ((NodesAt.of_own hown).grown hg (fun b hb => ⟨(hown.lt b hb).2, by simp⟩)) (fun b hb => Nat.lt_of_lt_of_le (hown.lt b hb).2 hg.size))
  go_enter Tryd.func33, Tryd.ntmps33
  go_wp2_with (first
    | (go_at_call 39; refine ((hCk _ 0 hown (by exact gb_alloc (gb_refl _ _) _)).out).mono ?_; rintro e w4 ⟨rfl, hg4⟩; have hP4 : QB w4 w3.heap.size (.slice A τ.ns.length c) := (hg4.block _ (by simp) (by simp)).trans (heap_alloc_new w3 _); have p0 := hP4.c0; have hQ4 : QB w4 w.heap.size (.slice none 0 0) := (hg4.block w.heap.size (by have := hQ2.lt; simp; omega) (by simp)).trans ((Below.heap_alloc _ _ _ hQ2.lt).trans hQ2); have r0 := hQ4.c0; have rf := hQ4.f0)
    | (go_at_call 63; refine (hN.out).mono ?_; rintro e w1 ⟨rfl, hp1, hb1⟩)
    | (go_at_call 64; refine ((hO _ hp1 (gv_below (gv_below ((hG.alloc _).alloc _) (Below.refl (w.heap.size + 1) _) (by omega)) hb1 (by omega))).out).mono ?_; rintro e w2 ⟨rfl, hp2, hb2⟩; have d2 : w2.cell? ⟨w.heap.size + 1, 2, none⟩ = some (.int .i64 υ.k) := by obtain ⟨_, A, c, hR, _, _⟩ := hp2; exact hR.c2)
    | (go_at_call 65; refine (fault_pr hp2).mono ?_; rintro e w3 ⟨rfl, hp3, hb3⟩; rw [← hT2.out] at hp3; clear d2; obtain ⟨_, A, c, hR, hown, hne⟩ := hp3; have d2 := hR.c2; have d5 := hR.c5; have d6 := hR.c6; have d7 := hR.c7; rw [hgr] at d7; have hRl := hR.lt; have hbl := ((hb1.trans hb2).trans hb3); have hQ2 : QB w3 w.heap.size (.slice none 0 0) := (hbl.block w.heap.size (by omega)).trans hQ0; have hPl := hQ2.lt; have q0 := hQ2.c0; have qf := hQ2.f0; have hg : w.grownBy w3 none := gb_below2 (gb_alloc (gb_alloc (gb_refl w none) _) _) hbl (by omega)))
  have qs := (hQ4.set (.slice A τ.ns.length c)).c0
  have hNA := NodesAt.of_own hown
  refine bodyPost_ret (v := .tuple #[.agg #[.slice A τ.ns.length c], .int .i64 0, .int .i64 0]) (by simp [results, Tryd.results33, go_sem, qs]) rfl ?_
  refine ⟨_, _, rfl, hNA.keep (S' := fun b => (Value.slice A τ.ns.length c).ownBlock = some b) (fun b hb => ?_) (fun _ => id), fun b hb => ?_, gb_setN (gb_trans (gb_alloc hg _) hg4) (Nat.le_refl _) 0 _⟩
  · have h1 := hown.lt b hb
    rw [Below.heap_setCell _ _ _ _ (by simp; omega), hg4.block b (by simp; omega) (by simp), Below.heap_alloc _ _ _ h1.2]
  · have h1 := hown.lt b hb
    have h2 := hg4.size
    simp only [World.setCell, Array.size_modify]
    simp at h2
    omega
theorem parse_any (s : ByteArray) (w : World) (hs2 : s.size ≤ 9223372036854775807) (hG : Gv w) (hw6 : 6 ≤ w.heap.size) : Calls Tryd.prog 33 #[.string s] w (RP w (parseP s)) := by
  rcases Nat.lt_or_ge 8192 s.size with h | hs
  · exact parse_long s w h hs2
  by_cases hk : (orD s (s.size + 2) (nextP s startP)).2.k = 0
  · by_cases hb : 0 ≤ (topP s).bad
    · exact parse_k0_bad s w hs hG hw6 hk hb
    cases hgr : (topP s).gr with
    | true => exact parse_k0_great s w hs hG hw6 hk hb hgr
    | false =>
      by_cases he : checkN (topP s).ns = 0
      · exact parse_k0_ok s w hs hG hw6 hk hb hgr he
      · exact parse_k0_arg s w hs hG hw6 hk hb hgr he
  · by_cases hb : 0 ≤ (topP s).bad
    · exact parse_k1_bad s w hs hG hw6 hk hb
    cases hgr : (topP s).gr with
    | true => exact parse_k1_great s w hs hG hw6 hk hb hgr
    | false =>
      by_cases he : checkN (topP s).ns = 0
      · exact parse_k1_ok s w hs hG hw6 hk hb hgr he
      · exact parse_k1_arg s w hs hG hw6 hk hb hgr he
end Go.Proofs.YtnnhkajjifmlfaaDoor.Pl
