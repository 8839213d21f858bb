/- Policies, the document's: Parse: the walk. -/
import Derived.Test.YtnnhkajjifmlfaaDoorDp
import Derived.Test.YtnnhkajjifmlfaaDoorDt
import Derived.Test.YtnnhkajjifmlfaaDoorPt
namespace Go.Proofs.YtnnhkajjifmlfaaDoor.Pl
open Go.RowKit Go.Maps

theorem qr_start (w : World) (s : ByteArray) : QR (w.heap.size + 1) (w.heap.size + 1) s startR ((w.alloc (.cells #[.slice none 0 0] 48)).alloc (.cells #[.string s, .int .i64 0, .int .i64 0, .string ⟨#[]⟩, .int .i64 0, .int .i64 (-1), .bool false, .slice none 0 0] 101)) := by
  refine ⟨Nat.le_refl _, none, 0, ?_, World.ownsRow_nil _ _ _ _, by simp [Value.ownBlock]⟩
  have := heap_alloc_new (w.alloc (.cells #[.slice none 0 0] 48)) (.cells #[.string s, .int .i64 0, .int .i64 0, .string ⟨#[]⟩, .int .i64 0, .int .i64 (-1), .bool false, .slice none 0 0] 101)
  have e : (w.alloc (.cells #[.slice none 0 0] 48)).heap.size = w.heap.size + 1 := by simp
  rw [e] at this
  exact this
theorem rl_start (s : ByteArray) : RL s startR := ⟨Nat.zero_le _, Int.le_refl _, Int.le_refl _, fun h => absurd rfl h, Nat.zero_le _, fun h => by simp [startR] at h, fun _ => rfl⟩
set_option maxHeartbeats 1600000 in
theorem rparse_long (s : ByteArray) (w : World) (hs : 8192 < s.size) (hs2 : s.size ≤ 9223372036854775807) : Calls Tryd.prog 35 #[.string s] w (RP w (parseR s)) := by
  have HP : parseR s = ([], -1, 3) := by unfold parseR; rw [if_pos hs]
  rw [HP]; clear HP
  have hsI : (8192 : Int) < (s.size : Int) := by omega
  go_enter Tryd.func35, Tryd.ntmps35
  go_wp2_with fail
  refine bodyPost_ret (v := .tuple #[.agg #[.slice none 0 0], .int .i64 (-1), .int .i64 3]) (by simp [results, Tryd.results35, go_sem]) rfl ?_
  exact RP.none (gb_alloc (gb_refl w _) _)
set_option maxRecDepth 100000 in
set_option maxHeartbeats 3200000 in
theorem rparse_bad (s : ByteArray) (w : World) (hs : s.size ≤ 8192) (hb : 0 ≤ (anyD s (s.size + 2) (onR s startR)).2.bad) : Calls Tryd.prog 35 #[.string s] w (RP w (parseR s)) := by
  have hsI : ¬ (8192 : Int) < (s.size : Int) := by omega
  have hPR0 := qr_start w s
  have hQ0 := qb_start w (.cells #[.string s, .int .i64 0, .int .i64 0, .string ⟨#[]⟩, .int .i64 0, .int .i64 (-1), .bool false, .slice none 0 0] 101)
  have hl1 := (rl_on (rl_start s) (by decide)).1
  have hN := Lib.hid (on_q hPR0 (rl_start s) (by omega))
  have hO := fun (W : World) (hh : QR (w.heap.size + 1) (w.heap.size + 1) s (onR s startR) W) => Lib.hid (anyD_any (B := w.heap.size + 1) (by omega : s.size ≤ 100000) (s.size + 2) 0 (by omega) (w.heap.size + 1) (onR s startR) W hh hl1 (by rw [onR_ns]; have := hl1.t0; show (0 : Int) ≤ _; omega) (by have := hl1.t0; omega))
  have hgo := gr_anyD s (s.size + 2) (onR s startR) hl1
  have hlen : (topR s).ns.length ≤ 100000 := by
    have h1 := hgo.ns
    have h2 := hgo.lk.ta_le
    have h5 := hl1.t0
    rw [onR_ns] at h1
    have h3 : (topR s).ns = (anyD s (s.size + 2) (onR s startR)).2.ns := by unfold topR endR; split <;> rfl
    rw [h3]
    have h4 : startR.ns.length = 0 := rfl
    omega
  have hTop : Hid (topR s = endR (anyD s (s.size + 2) (onR s startR)).2) := rfl
  have hta := hgo.lk.t0
  have hPa : Hid (parseR s = if 0 ≤ (topR s).bad then ([], (topR s).bad, 4) else if (topR s).lg then ([], -1, 3) else if checkN (topR s).ns ≠ 0 then ([], -1, checkN (topR s).ns) else ((topR s).ns, 0, 0)) := by
    unfold Hid parseR; rw [if_neg (by omega)]
  obtain ⟨res, hres, hPa1⟩ : ∃ res, parseR s = res ∧ Hid (parseR s = res) := ⟨_, rfl, rfl⟩
  rw [hres]
  clear hres
  have hPa2 := Lib.hid (hPa.out.symm.trans hPa1.out)
  clear hPa hPa1 hgo hl1
  generalize topR s = τ at *
  generalize anyD s (s.size + 2) (onR s startR) = y at *
  obtain ⟨v, υ⟩ := y
  simp only at *
  have hT2 : τ = υ := by rw [hTop.out]; unfold endR; rw [if_neg (by omega)]
  subst hT2
  clear hTop
  obtain rfl : res = ([], τ.bad, 4) := by rw [← hPa2.out, if_pos hb]
  have hbI : ¬ τ.bad < (0 : Int) := by omega
  clear hPa2
  go_enter Tryd.func35, Tryd.ntmps35
  go_wp2_with (first
    | (go_at_call 67; refine (hN.out).mono ?_; rintro e w1 ⟨rfl, hp1, hb1⟩)
    | (go_at_call 68; refine ((hO _ hp1).out).mono ?_; rintro e w2 ⟨rfl, hp2, hb2⟩; obtain ⟨_, A, c, hR, hown, hne⟩ := hp2; have d2 := hR.c2; have d5 := hR.c5; have d6 := hR.c6; have d7 := hR.c7; have hRl := hR.lt; have hbl := (hb1.trans hb2); have hQ2 : QB w2 w.heap.size (.slice none 0 0) := (hbl.block w.heap.size (by omega)).trans hQ0; have hPl := hQ2.lt; have q0 := hQ2.c0; have qf := hQ2.f0; have hg : w.grownBy w2 none := gb_below2 (gb_alloc (gb_alloc (gb_refl w none) _) _) hbl (by omega)))
  go_region
  go_wp2_with fail
  have qs := (hQ2.set (.slice none 0 0)).c0
  refine bodyPost_ret (v := .tuple #[.agg #[.slice none 0 0], .int .i64 τ.bad, .int .i64 4]) (by simp [results, Tryd.results35, go_sem, qs]) rfl ?_
  exact RP.none (gb_drew (gb_setN hg (Nat.le_refl _) 0 _))
set_option maxRecDepth 100000 in
set_option maxHeartbeats 3200000 in
theorem rparse_wrong (s : ByteArray) (w : World) (hs : s.size ≤ 8192) (hb0 : (anyD s (s.size + 2) (onR s startR)).2.bad < 0) (hk : (anyD s (s.size + 2) (onR s startR)).2.k ≠ 0) : Calls Tryd.prog 35 #[.string s] w (RP w (parseR s)) := by
  have hsI : ¬ (8192 : Int) < (s.size : Int) := by omega
  have hPR0 := qr_start w s
  have hQ0 := qb_start w (.cells #[.string s, .int .i64 0, .int .i64 0, .string ⟨#[]⟩, .int .i64 0, .int .i64 (-1), .bool false, .slice none 0 0] 101)
  have hl1 := (rl_on (rl_start s) (by decide)).1
  have hN := Lib.hid (on_q hPR0 (rl_start s) (by omega))
  have hO := fun (W : World) (hh : QR (w.heap.size + 1) (w.heap.size + 1) s (onR s startR) W) => Lib.hid (anyD_any (B := w.heap.size + 1) (by omega : s.size ≤ 100000) (s.size + 2) 0 (by omega) (w.heap.size + 1) (onR s startR) W hh hl1 (by rw [onR_ns]; have := hl1.t0; show (0 : Int) ≤ _; omega) (by have := hl1.t0; omega))
  have hgo := gr_anyD s (s.size + 2) (onR s startR) hl1
  have hlen : (topR s).ns.length ≤ 100000 := by
    have h1 := hgo.ns
    have h2 := hgo.lk.ta_le
    have h5 := hl1.t0
    rw [onR_ns] at h1
    have h3 : (topR s).ns = (anyD s (s.size + 2) (onR s startR)).2.ns := by unfold topR endR; split <;> rfl
    rw [h3]
    have h4 : startR.ns.length = 0 := rfl
    omega
  have hTop : Hid (topR s = endR (anyD s (s.size + 2) (onR s startR)).2) := rfl
  have hta := hgo.lk.t0
  have hPa : Hid (parseR s = if 0 ≤ (topR s).bad then ([], (topR s).bad, 4) else if (topR s).lg then ([], -1, 3) else if checkN (topR s).ns ≠ 0 then ([], -1, checkN (topR s).ns) else ((topR s).ns, 0, 0)) := by
    unfold Hid parseR; rw [if_neg (by omega)]
  obtain ⟨res, hres, hPa1⟩ : ∃ res, parseR s = res ∧ Hid (parseR s = res) := ⟨_, rfl, rfl⟩
  rw [hres]
  clear hres
  have hPa2 := Lib.hid (hPa.out.symm.trans hPa1.out)
  clear hPa hPa1 hgo hl1
  generalize topR s = τ at *
  generalize anyD s (s.size + 2) (onR s startR) = y at *
  obtain ⟨v, υ⟩ := y
  simp only at *
  have hT2 : Hid (τ = wrongR υ.ta υ) := by unfold Hid; rw [hTop.out]; unfold endR; rw [if_pos ⟨hb0, hk⟩]
  have hkb : (υ.k != 0) = true := by simpa using hk
  have hb : 0 ≤ τ.bad := by rw [hT2.out]; unfold wrongR; simp only; rw [if_pos hb0]; exact hta
  clear hTop hk
  obtain rfl : res = ([], τ.bad, 4) := by rw [← hPa2.out, if_pos hb]
  have hbI : ¬ τ.bad < (0 : Int) := by omega
  clear hPa2
  go_enter Tryd.func35, Tryd.ntmps35
  go_wp2_with (first
    | (go_at_call 67; refine (hN.out).mono ?_; rintro e w1 ⟨rfl, hp1, hb1⟩)
    | (go_at_call 68; refine ((hO _ hp1).out).mono ?_; rintro e w2 ⟨rfl, hp2, hb2⟩; have d5 : w2.cell? ⟨w.heap.size + 1, 5, none⟩ = some (.int .i64 υ.bad) := (by obtain ⟨_, A, c, hR, _, _⟩ := hp2; exact hR.c5); have d2 : w2.cell? ⟨w.heap.size + 1, 2, none⟩ = some (.int .i64 υ.k) := (by obtain ⟨_, A, c, hR, _, _⟩ := hp2; exact hR.c2); have d4 : w2.cell? ⟨w.heap.size + 1, 4, none⟩ = some (.int .i64 υ.ta) := (by obtain ⟨_, A, c, hR, _, _⟩ := hp2; exact hR.c4))
    | (go_at_call 69; refine (wrong_q hp2).mono ?_; rintro e w3 ⟨rfl, hp3, hb3⟩; rw [← hT2.out] at hp3; clear d2 d4 d5; obtain ⟨_, A, c, hR, hown, hne⟩ := hp3; have d2 := hR.c2; have d5 := hR.c5; have d6 := hR.c6; have d7 := hR.c7; have hRl := hR.lt; have hbl := ((hb1.trans hb2).trans hb3); have hQ2 : QB w3 w.heap.size (.slice none 0 0) := (hbl.block w.heap.size (by omega)).trans hQ0; have hPl := hQ2.lt; have q0 := hQ2.c0; have qf := hQ2.f0; have hg : w.grownBy w3 none := gb_below2 (gb_alloc (gb_alloc (gb_refl w none) _) _) hbl (by omega)))
  go_region
  go_wp2_with fail
  have qs := (hQ2.set (.slice none 0 0)).c0
  refine bodyPost_ret (v := .tuple #[.agg #[.slice none 0 0], .int .i64 τ.bad, .int .i64 4]) (by simp [results, Tryd.results35, go_sem, qs]) rfl ?_
  exact RP.none (gb_drew (gb_setN hg (Nat.le_refl _) 0 _))
set_option maxRecDepth 100000 in
set_option maxHeartbeats 3200000 in
theorem rparse_great (s : ByteArray) (w : World) (hs : s.size ≤ 8192) (hb : (anyD s (s.size + 2) (onR s startR)).2.bad < 0) (hk : (anyD s (s.size + 2) (onR s startR)).2.k = 0) (hgr : (topR s).lg = true) : Calls Tryd.prog 35 #[.string s] w (RP w (parseR s)) := by
  have hsI : ¬ (8192 : Int) < (s.size : Int) := by omega
  have hPR0 := qr_start w s
  have hQ0 := qb_start w (.cells #[.string s, .int .i64 0, .int .i64 0, .string ⟨#[]⟩, .int .i64 0, .int .i64 (-1), .bool false, .slice none 0 0] 101)
  have hl1 := (rl_on (rl_start s) (by decide)).1
  have hN := Lib.hid (on_q hPR0 (rl_start s) (by omega))
  have hO := fun (W : World) (hh : QR (w.heap.size + 1) (w.heap.size + 1) s (onR s startR) W) => Lib.hid (anyD_any (B := w.heap.size + 1) (by omega : s.size ≤ 100000) (s.size + 2) 0 (by omega) (w.heap.size + 1) (onR s startR) W hh hl1 (by rw [onR_ns]; have := hl1.t0; show (0 : Int) ≤ _; omega) (by have := hl1.t0; omega))
  have hgo := gr_anyD s (s.size + 2) (onR s startR) hl1
  have hlen : (topR s).ns.length ≤ 100000 := by
    have h1 := hgo.ns
    have h2 := hgo.lk.ta_le
    have h5 := hl1.t0
    rw [onR_ns] at h1
    have h3 : (topR s).ns = (anyD s (s.size + 2) (onR s startR)).2.ns := by unfold topR endR; split <;> rfl
    rw [h3]
    have h4 : startR.ns.length = 0 := rfl
    omega
  have hTop : Hid (topR s = endR (anyD s (s.size + 2) (onR s startR)).2) := rfl
  have hta := hgo.lk.t0
  have hPa : Hid (parseR s = if 0 ≤ (topR s).bad then ([], (topR s).bad, 4) else if (topR s).lg then ([], -1, 3) else if checkN (topR s).ns ≠ 0 then ([], -1, checkN (topR s).ns) else ((topR s).ns, 0, 0)) := by
    unfold Hid parseR; rw [if_neg (by omega)]
  obtain ⟨res, hres, hPa1⟩ : ∃ res, parseR s = res ∧ Hid (parseR s = res) := ⟨_, rfl, rfl⟩
  rw [hres]
  clear hres
  have hPa2 := Lib.hid (hPa.out.symm.trans hPa1.out)
  clear hPa hPa1 hgo hl1
  generalize topR s = τ at *
  generalize anyD s (s.size + 2) (onR s startR) = y at *
  obtain ⟨v, υ⟩ := y
  simp only at *
  have hT2 : τ = υ := by rw [hTop.out]; unfold endR; rw [if_neg (by rintro ⟨_, h⟩; exact h hk)]
  subst hT2
  have hkb : (τ.k != 0) = false := by simp [hk]
  clear hTop hk
  have hbI : ¬ (0 : Int) ≤ τ.bad := by omega
  obtain rfl : res = ([], -1, 3) := by rw [← hPa2.out, if_neg hbI, if_pos hgr]
  clear hPa2
  go_enter Tryd.func35, Tryd.ntmps35
  go_wp2_with (first
    | (go_at_call 67; refine (hN.out).mono ?_; rintro e w1 ⟨rfl, hp1, hb1⟩)
    | (go_at_call 68; refine ((hO _ hp1).out).mono ?_; rintro e w2 ⟨rfl, hp2, hb2⟩; obtain ⟨_, A, c, hR, hown, hne⟩ := hp2; have d2 := hR.c2; have d5 := hR.c5; have d6 := hR.c6; rw [hgr] at d6; have d7 := hR.c7; have hRl := hR.lt; have hbl := (hb1.trans hb2); have hQ2 : QB w2 w.heap.size (.slice none 0 0) := (hbl.block w.heap.size (by omega)).trans hQ0; have hPl := hQ2.lt; have q0 := hQ2.c0; have qf := hQ2.f0; have hg : w.grownBy w2 none := gb_below2 (gb_alloc (gb_alloc (gb_refl w none) _) _) hbl (by omega)))
  have qs := ((hQ2.set (.slice none 0 0)).alloc (.cells #[.slice A τ.ns.length c] 48)).c0
  refine bodyPost_ret (v := .tuple #[.agg #[.slice none 0 0], .int .i64 (-1), .int .i64 3]) (by simp [results, Tryd.results35, go_sem, qs]) rfl ?_
  exact RP.none (gb_alloc (gb_setN hg (Nat.le_refl _) 0 _) _)
set_option maxRecDepth 100000 in
set_option maxHeartbeats 3200000 in
theorem rparse_arg (s : ByteArray) (w : World) (hs : s.size ≤ 8192) (hb : (anyD s (s.size + 2) (onR s startR)).2.bad < 0) (hk : (anyD s (s.size + 2) (onR s startR)).2.k = 0) (hgr : (topR s).lg = false) (he : checkN (topR s).ns ≠ 0) : Calls Tryd.prog 35 #[.string s] w (RP w (parseR s)) := by
  have hsI : ¬ (8192 : Int) < (s.size : Int) := by omega
  have hPR0 := qr_start w s
  have hQ0 := qb_start w (.cells #[.string s, .int .i64 0, .int .i64 0, .string ⟨#[]⟩, .int .i64 0, .int .i64 (-1), .bool false, .slice none 0 0] 101)
  have hl1 := (rl_on (rl_start s) (by decide)).1
  have hN := Lib.hid (on_q hPR0 (rl_start s) (by omega))
  have hO := fun (W : World) (hh : QR (w.heap.size + 1) (w.heap.size + 1) s (onR s startR) W) => Lib.hid (anyD_any (B := w.heap.size + 1) (by omega : s.size ≤ 100000) (s.size + 2) 0 (by omega) (w.heap.size + 1) (onR s startR) W hh hl1 (by rw [onR_ns]; have := hl1.t0; show (0 : Int) ≤ _; omega) (by have := hl1.t0; omega))
  have hgo := gr_anyD s (s.size + 2) (onR s startR) hl1
  have hlen : (topR s).ns.length ≤ 100000 := by
    have h1 := hgo.ns
    have h2 := hgo.lk.ta_le
    have h5 := hl1.t0
    rw [onR_ns] at h1
    have h3 : (topR s).ns = (anyD s (s.size + 2) (onR s startR)).2.ns := by unfold topR endR; split <;> rfl
    rw [h3]
    have h4 : startR.ns.length = 0 := rfl
    omega
  have hTop : Hid (topR s = endR (anyD s (s.size + 2) (onR s startR)).2) := rfl
  have hta := hgo.lk.t0
  have hPa : Hid (parseR s = if 0 ≤ (topR s).bad then ([], (topR s).bad, 4) else if (topR s).lg then ([], -1, 3) else if checkN (topR s).ns ≠ 0 then ([], -1, checkN (topR s).ns) else ((topR s).ns, 0, 0)) := by
    unfold Hid parseR; rw [if_neg (by omega)]
  obtain ⟨res, hres, hPa1⟩ : ∃ res, parseR s = res ∧ Hid (parseR s = res) := ⟨_, rfl, rfl⟩
  rw [hres]
  clear hres
  have hPa2 := Lib.hid (hPa.out.symm.trans hPa1.out)
  clear hPa hPa1 hgo hl1
  generalize topR s = τ at *
  generalize anyD s (s.size + 2) (onR s startR) = y at *
  obtain ⟨v, υ⟩ := y
  simp only at *
  have hT2 : τ = υ := by rw [hTop.out]; unfold endR; rw [if_neg (by rintro ⟨_, h⟩; exact h hk)]
  subst hT2
  have hkb : (τ.k != 0) = false := by simp [hk]
  clear hTop hk
  have hbI : ¬ (0 : Int) ≤ τ.bad := by omega
  obtain rfl : res = ([], -1, checkN τ.ns) := by rw [← hPa2.out, if_neg hbI, if_neg (by rw [hgr]; decide), if_pos he]
  have heb : (checkN τ.ns != 0) = true := by simpa using he
  clear hPa2
  have hCk := fun {W : World} {A : Option Addr} {c : Nat} (W' : World) (_ : Nat) (hown : W.ownsRow (w.heap.size + 1) 64 6 (.slice A τ.ns.length c) τ.ns.length (nodesC τ.ns)) (hg : W.grownBy W' none) => Lib.hid (rcheck_any τ.ns _ _ W' (by omega) ((NodesAt.of_own hown).grown hg (fun b hb => ⟨(hown.lt b hb).2, by simp⟩)) (fun b hb => Nat.lt_of_lt_of_le (hown.lt b hb).2 hg.size))
  go_enter Tryd.func35, Tryd.ntmps35
  go_wp2_with (first
    | (go_at_call 70; refine ((hCk _ 0 hown (by exact gb_alloc (gb_refl _ _) _)).out).mono ?_; rintro e w4 ⟨rfl, hg4⟩; have hP4 : QB w4 w2.heap.size (.slice A τ.ns.length c) := (hg4.block _ (by simp) (by simp)).trans (heap_alloc_new w2 _); have p0 := hP4.c0; have hQ4 : QB w4 w.heap.size (.slice none 0 0) := (hg4.block w.heap.size (by have := hQ2.lt; simp; omega) (by simp)).trans ((Below.heap_alloc _ _ _ hQ2.lt).trans hQ2); have r0 := hQ4.c0; have rf := hQ4.f0)
    | (go_at_call 67; refine (hN.out).mono ?_; rintro e w1 ⟨rfl, hp1, hb1⟩)
    | (go_at_call 68; refine ((hO _ hp1).out).mono ?_; rintro e w2 ⟨rfl, hp2, hb2⟩; obtain ⟨_, A, c, hR, hown, hne⟩ := hp2; have d2 := hR.c2; have d5 := hR.c5; have d6 := hR.c6; rw [hgr] at d6; have d7 := hR.c7; have hRl := hR.lt; have hbl := (hb1.trans hb2); have hQ2 : QB w2 w.heap.size (.slice none 0 0) := (hbl.block w.heap.size (by omega)).trans hQ0; have hPl := hQ2.lt; have q0 := hQ2.c0; have qf := hQ2.f0; have hg : w.grownBy w2 none := gb_below2 (gb_alloc (gb_alloc (gb_refl w none) _) _) hbl (by omega)))
  have qs := (hQ4.set (.slice none 0 0)).c0
  refine bodyPost_ret (v := .tuple #[.agg #[.slice none 0 0], .int .i64 (-1), .int .i64 (checkN τ.ns)]) (by simp [results, Tryd.results35, go_sem, qs]) rfl ?_
  exact RP.none (gb_setN (gb_trans (gb_alloc hg _) hg4) (Nat.le_refl _) 0 _)
set_option maxRecDepth 100000 in
set_option maxHeartbeats 3200000 in
theorem rparse_ok (s : ByteArray) (w : World) (hs : s.size ≤ 8192) (hb : (anyD s (s.size + 2) (onR s startR)).2.bad < 0) (hk : (anyD s (s.size + 2) (onR s startR)).2.k = 0) (hgr : (topR s).lg = false) (he : checkN (topR s).ns = 0) : Calls Tryd.prog 35 #[.string s] w (RP w (parseR s)) := by
  have hsI : ¬ (8192 : Int) < (s.size : Int) := by omega
  have hPR0 := qr_start w s
  have hQ0 := qb_start w (.cells #[.string s, .int .i64 0, .int .i64 0, .string ⟨#[]⟩, .int .i64 0, .int .i64 (-1), .bool false, .slice none 0 0] 101)
  have hl1 := (rl_on (rl_start s) (by decide)).1
  have hN := Lib.hid (on_q hPR0 (rl_start s) (by omega))
  have hO := fun (W : World) (hh : QR (w.heap.size + 1) (w.heap.size + 1) s (onR s startR) W) => Lib.hid (anyD_any (B := w.heap.size + 1) (by omega : s.size ≤ 100000) (s.size + 2) 0 (by omega) (w.heap.size + 1) (onR s startR) W hh hl1 (by rw [onR_ns]; have := hl1.t0; show (0 : Int) ≤ _; omega) (by have := hl1.t0; omega))
  have hgo := gr_anyD s (s.size + 2) (onR s startR) hl1
  have hlen : (topR s).ns.length ≤ 100000 := by
    have h1 := hgo.ns
    have h2 := hgo.lk.ta_le
    have h5 := hl1.t0
    rw [onR_ns] at h1
    have h3 : (topR s).ns = (anyD s (s.size + 2) (onR s startR)).2.ns := by unfold topR endR; split <;> rfl
    rw [h3]
    have h4 : startR.ns.length = 0 := rfl
    omega
  have hTop : Hid (topR s = endR (anyD s (s.size + 2) (onR s startR)).2) := rfl
  have hta := hgo.lk.t0
  have hPa : Hid (parseR s = if 0 ≤ (topR s).bad then ([], (topR s).bad, 4) else if (topR s).lg then ([], -1, 3) else if checkN (topR s).ns ≠ 0 then ([], -1, checkN (topR s).ns) else ((topR s).ns, 0, 0)) := by
    unfold Hid parseR; rw [if_neg (by omega)]
  obtain ⟨res, hres, hPa1⟩ : ∃ res, parseR s = res ∧ Hid (parseR s = res) := ⟨_, rfl, rfl⟩
  rw [hres]
  clear hres
  have hPa2 := Lib.hid (hPa.out.symm.trans hPa1.out)
  clear hPa hPa1 hgo hl1
  generalize topR s = τ at *
  generalize anyD s (s.size + 2) (onR s startR) = y at *
  obtain ⟨v, υ⟩ := y
  simp only at *
  have hT2 : τ = υ := by rw [hTop.out]; unfold endR; rw [if_neg (by rintro ⟨_, h⟩; exact h hk)]
  subst hT2
  have hkb : (τ.k != 0) = false := by simp [hk]
  clear hTop hk
  have hbI : ¬ (0 : Int) ≤ τ.bad := by omega
  obtain rfl : res = (τ.ns, 0, 0) := by rw [← hPa2.out, if_neg hbI, if_neg (by rw [hgr]; decide), if_neg (fun h => h he)]
  have heb : (checkN τ.ns != 0) = false := by simp [he]
  clear hPa2
  have hCk := fun {W : World} {A : Option Addr} {c : Nat} (W' : World) (_ : Nat) (hown : W.ownsRow (w.heap.size + 1) 64 6 (.slice A τ.ns.length c) τ.ns.length (nodesC τ.ns)) (hg : W.grownBy W' none) => Lib.hid (rcheck_any τ.ns _ _ W' (by omega) ((NodesAt.of_own hown).grown hg (fun b hb => ⟨(hown.lt b hb).2, by simp⟩)) (fun b hb => Nat.lt_of_lt_of_le (hown.lt b hb).2 hg.size))
  go_enter Tryd.func35, Tryd.ntmps35
  go_wp2_with (first
    | (go_at_call 70; refine ((hCk _ 0 hown (by exact gb_alloc (gb_refl _ _) _)).out).mono ?_; rintro e w4 ⟨rfl, hg4⟩; have hP4 : QB w4 w2.heap.size (.slice A τ.ns.length c) := (hg4.block _ (by simp) (by simp)).trans (heap_alloc_new w2 _); have p0 := hP4.c0; have hQ4 : QB w4 w.heap.size (.slice none 0 0) := (hg4.block w.heap.size (by have := hQ2.lt; simp; omega) (by simp)).trans ((Below.heap_alloc _ _ _ hQ2.lt).trans hQ2); have r0 := hQ4.c0; have rf := hQ4.f0)
    | (go_at_call 67; refine (hN.out).mono ?_; rintro e w1 ⟨rfl, hp1, hb1⟩)
    | (go_at_call 68; refine ((hO _ hp1).out).mono ?_; rintro e w2 ⟨rfl, hp2, hb2⟩; obtain ⟨_, A, c, hR, hown, hne⟩ := hp2; have d2 := hR.c2; have d5 := hR.c5; have d6 := hR.c6; rw [hgr] at d6; have d7 := hR.c7; have hRl := hR.lt; have hbl := (hb1.trans hb2); have hQ2 : QB w2 w.heap.size (.slice none 0 0) := (hbl.block w.heap.size (by omega)).trans hQ0; have hPl := hQ2.lt; have q0 := hQ2.c0; have qf := hQ2.f0; have hg : w.grownBy w2 none := gb_below2 (gb_alloc (gb_alloc (gb_refl w none) _) _) hbl (by omega)))
  have qs := (hQ4.set (.slice A τ.ns.length c)).c0
  have hNA := NodesAt.of_own hown
  refine bodyPost_ret (v := .tuple #[.agg #[.slice A τ.ns.length c], .int .i64 0, .int .i64 0]) (by simp [results, Tryd.results35, go_sem, qs]) rfl ?_
  refine ⟨_, _, rfl, hNA.keep (S' := fun b => (Value.slice A τ.ns.length c).ownBlock = some b) (fun b hb => ?_) (fun _ => id), fun b hb => ?_, gb_setN (gb_trans (gb_alloc hg _) hg4) (Nat.le_refl _) 0 _⟩
  · have h1 := hown.lt b hb
    rw [Below.heap_setCell _ _ _ _ (by simp; omega), hg4.block b (by simp; omega) (by simp), Below.heap_alloc _ _ _ h1.2]
  · have h1 := hown.lt b hb
    have h2 := hg4.size
    simp only [World.setCell, Array.size_modify]
    simp at h2
    omega
theorem rparse_any (s : ByteArray) (w : World) (hs2 : s.size ≤ 9223372036854775807) : Calls Tryd.prog 35 #[.string s] w (RP w (parseR s)) := by
  rcases Nat.lt_or_ge 8192 s.size with h | hs
  · exact rparse_long s w h hs2
  by_cases hb : 0 ≤ (anyD s (s.size + 2) (onR s startR)).2.bad
  · exact rparse_bad s w hs hb
  by_cases hk : (anyD s (s.size + 2) (onR s startR)).2.k = 0
  · cases hg : (topR s).lg with
    | true => exact rparse_great s w hs (by omega) hk hg
    | false =>
      by_cases he : checkN (topR s).ns = 0
      · exact rparse_ok s w hs (by omega) hk hg he
      · exact rparse_arg s w hs (by omega) hk hg he
  · exact rparse_wrong s w hs (by omega) hk
end Go.Proofs.YtnnhkajjifmlfaaDoor.Pl
