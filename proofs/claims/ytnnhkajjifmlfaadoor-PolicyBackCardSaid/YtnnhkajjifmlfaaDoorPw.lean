/- Policies: a node's text: one thing: the walks. -/
import Derived.Test.YtnnhkajjifmlfaaDoorPv
namespace Go.Proofs.YtnnhkajjifmlfaaDoor.Pl
open Go.RowKit Go.Maps

theorem quot_size {a : ByteArray} (h : quotB a = true) : a.size ≤ 128 := by
  unfold quotB textB at h
  simp only [Bool.and_eq_true, decide_eq_true_eq] at h
  exact h.1.1
theorem itoa_len {n : Int} (h0 : 0 ≤ n) (h1 : n ≤ 9223372036854775807) : (Lib.itoa n).length ≤ 21 := Lib.itoa_length_le n (by omega) h1
theorem leafT_len {x : PN} (h : leafOk x = true) : (leafT x).length ≤ 400 := by
  have hn := top_n (t := .leaf x) h 0
  have hl := itoa_len hn.1 hn.2
  simp only [leafOk, Bool.and_eq_true] at h
  have hf := fineN_iff h.1.1
  have ha := quot_size hf.qa
  have hb := quot_size hf.qb
  have ea : x.a.data.toList.length = x.a.size := by rw [Array.length_toList]; rfl
  have eb : x.b.data.toList.length = x.b.size := by rw [Array.length_toList]; rfl
  have w1 : wAlways.data.toList.length = 6 := rfl
  have w2 : wError.data.toList.length = 5 := rfl
  have w3 : wSlow.data.toList.length = 4 := rfl
  have w4 : wService.data.toList.length = 7 := rfl
  have w5 : wTag.data.toList.length = 3 := rfl
  have w6 : wRatio.data.toList.length = 5 := rfl
  have e : (PT.leaf x).top 0 = x := rfl
  rw [e] at hl
  unfold leafT
  repeat' split
  all_goals (try simp only [List.length_append, List.length_cons, List.length_nil])
  all_goals omega
theorem tx_len : ∀ t : PT, t.ok = true → t.tx.length ≤ 400 * t.size
  | .leaf x, h => by have := leafT_len (x := x) h; simp only [PT.size, PT.tx]; omega
  | .not t, h => by
    have := tx_len t h
    simp only [PT.size, PT.tx, List.length_cons]
    unfold par
    split <;> simp <;> omega
  | .bin k t u, h => by
    simp only [PT.ok, Bool.and_eq_true] at h
    have h1 := tx_len t h.1.2
    have h2 := tx_len u h.2
    have hp : ∀ (p : Bool) (l : List UInt8), (par p l).length ≤ l.length + 2 := fun p l => by unfold par; split <;> simp
    have p1 := hp t.isOr t.tx
    have p2 := hp u.isBin u.tx
    have p3 := hp u.isOr u.tx
    simp only [PT.size]
    rw [PT.tx]
    split <;> simp only [List.length_append, List.length_cons] <;> omega
theorem node_c0 (w : World) (x : PN) : (w.alloc (.cells #[.int .i64 x.k, .int .i64 x.n, .string x.a, .string x.b, .int .i64 x.l, .int .i64 x.r] 64)).cell? ⟨w.heap.size, 0, none⟩ = some (.int .i64 x.k) := by
  rw [cell_of_row _ _ 0 _ _ _ (heap_alloc_new w _)]; rfl
theorem node_c2 (w : World) (x : PN) : (w.alloc (.cells #[.int .i64 x.k, .int .i64 x.n, .string x.a, .string x.b, .int .i64 x.l, .int .i64 x.r] 64)).cell? ⟨w.heap.size, 2, none⟩ = some (.string x.a) := by
  rw [cell_of_row _ _ 2 _ _ _ (heap_alloc_new w _)]; rfl
theorem node_c3 (w : World) (x : PN) : (w.alloc (.cells #[.int .i64 x.k, .int .i64 x.n, .string x.a, .string x.b, .int .i64 x.l, .int .i64 x.r] 64)).cell? ⟨w.heap.size, 3, none⟩ = some (.string x.b) := by
  rw [cell_of_row _ _ 3 _ _ _ (heap_alloc_new w _)]; rfl
set_option maxRecDepth 100000 in
set_option maxHeartbeats 3200000 in
theorem leaf_1 {l : List PN} {lo : Nat} (n : Int) (a b : ByteArray) (y r : Int) (hx : leafOk ⟨1, n, a, b, y, r⟩ = true) (hlen : l.length ≤ 1000000) (ht : Stands l lo (.leaf ⟨1, n, a, b, y, r⟩)) : TellT l lo (.leaf ⟨1, n, a, b, y, r⟩) := by
  intro S v w h hS hP
  have hn := top_n (t := .leaf ⟨1, n, a, b, y, r⟩) hx lo
  have htl := leafT_len hx
  have hle := ht.len
  have htop := ht.top (by simp only [PT.size] at *; omega)
  obtain ⟨A, c2, rfl, hA⟩ := h
  simp only [PT.size] at hle htop ⊢
  obtain ⟨bb, o, rfl, hSb, hcell⟩ := hA (by omega)
  obtain ⟨c0, c1, c2', c3, c4, c5⟩ := hcell (lo + 1 - 1) (by omega)
  rw [htop] at c0 c1 c2' c3 c4 c5
  have e1 : ((lo + 1 : Nat) : Int) - 1 = (lo : Int) := by omega
  rw [e1]
  rw [show lo + 1 - 1 = lo by omega] at c0 c1 c2' c3 c4 c5
  have hiI : (lo : Int) < (l.length : Int) := by omega
  simp only [PT.top] at c0 c1 c2' c3 c4 c5 hn
  have hF := fun (W : World) (hg : w.grownBy W none) => Lib.hid (formatInt_w n (by omega) hn.2 W (hP.to hg))
  have hT : Hid ((PT.leaf ⟨1, n, a, b, y, r⟩).tx = leafT ⟨1, n, a, b, y, r⟩) := rfl
  rw [hT.out]
  simp only [leafOk, Bool.and_eq_true] at hx
  have hfi := fineN_iff hx.1.1
  have hqa := quot_size hfi.qa
  have hqb := quot_size hfi.qb
  have hil := itoa_len hn.1 hn.2
  simp only at hqa hqb
  clear hA hcell htop hT e1 hn hfi hx
  have hR : Hid (bs (leafT ⟨1, n, a, b, y, r⟩) = ⟨#[97, 108, 119, 97, 121, 115]⟩) := rfl
  rw [hR.out]
  clear hR htl
  generalize bs (Lib.itoa n) = N at *
  go_enter Tryd.func66, Tryd.ntmps66
  go_wp2_with (first
    | (go_at_call 95; refine ((hF _ (gb_alloc (gb_refl _ _) _)).out).mono ?_; rintro e w1 ⟨rfl, hg1⟩; have d2 := cell_grown (w' := w1) (node_c2 w ⟨1, n, a, b, y, r⟩) hg1 (by simp); have d3 := cell_grown (w' := w1) (node_c3 w ⟨1, n, a, b, y, r⟩) hg1 (by simp); have d0 := cell_grown (w' := w1) (node_c0 w ⟨1, n, a, b, y, r⟩) hg1 (by simp)))
  go_ret
  exact ⟨rfl, gb_trans (gb_alloc (gb_refl _ _) _) hg1⟩
set_option maxRecDepth 100000 in
set_option maxHeartbeats 3200000 in
theorem leaf_2 {l : List PN} {lo : Nat} (n : Int) (a b : ByteArray) (y r : Int) (hx : leafOk ⟨2, n, a, b, y, r⟩ = true) (hlen : l.length ≤ 1000000) (ht : Stands l lo (.leaf ⟨2, n, a, b, y, r⟩)) : TellT l lo (.leaf ⟨2, n, a, b, y, r⟩) := by
  intro S v w h hS hP
  have hn := top_n (t := .leaf ⟨2, n, a, b, y, r⟩) hx lo
  have htl := leafT_len hx
  have hle := ht.len
  have htop := ht.top (by simp only [PT.size] at *; omega)
  obtain ⟨A, c2, rfl, hA⟩ := h
  simp only [PT.size] at hle htop ⊢
  obtain ⟨bb, o, rfl, hSb, hcell⟩ := hA (by omega)
  obtain ⟨c0, c1, c2', c3, c4, c5⟩ := hcell (lo + 1 - 1) (by omega)
  rw [htop] at c0 c1 c2' c3 c4 c5
  have e1 : ((lo + 1 : Nat) : Int) - 1 = (lo : Int) := by omega
  rw [e1]
  rw [show lo + 1 - 1 = lo by omega] at c0 c1 c2' c3 c4 c5
  have hiI : (lo : Int) < (l.length : Int) := by omega
  simp only [PT.top] at c0 c1 c2' c3 c4 c5 hn
  have hF := fun (W : World) (hg : w.grownBy W none) => Lib.hid (formatInt_w n (by omega) hn.2 W (hP.to hg))
  have hT : Hid ((PT.leaf ⟨2, n, a, b, y, r⟩).tx = leafT ⟨2, n, a, b, y, r⟩) := rfl
  rw [hT.out]
  simp only [leafOk, Bool.and_eq_true] at hx
  have hfi := fineN_iff hx.1.1
  have hqa := quot_size hfi.qa
  have hqb := quot_size hfi.qb
  have hil := itoa_len hn.1 hn.2
  simp only at hqa hqb
  clear hA hcell htop hT e1 hn hfi hx
  have hR : Hid (bs (leafT ⟨2, n, a, b, y, r⟩) = ⟨#[101, 114, 114, 111, 114]⟩) := rfl
  rw [hR.out]
  clear hR htl
  generalize bs (Lib.itoa n) = N at *
  go_enter Tryd.func66, Tryd.ntmps66
  go_wp2_with (first
    | (go_at_call 95; refine ((hF _ (gb_alloc (gb_refl _ _) _)).out).mono ?_; rintro e w1 ⟨rfl, hg1⟩; have d2 := cell_grown (w' := w1) (node_c2 w ⟨2, n, a, b, y, r⟩) hg1 (by simp); have d3 := cell_grown (w' := w1) (node_c3 w ⟨2, n, a, b, y, r⟩) hg1 (by simp); have d0 := cell_grown (w' := w1) (node_c0 w ⟨2, n, a, b, y, r⟩) hg1 (by simp)))
  go_ret
  exact ⟨rfl, gb_trans (gb_alloc (gb_refl _ _) _) hg1⟩
set_option maxRecDepth 100000 in
set_option maxHeartbeats 3200000 in
theorem leaf_3 {l : List PN} {lo : Nat} (n : Int) (a b : ByteArray) (y r : Int) (hx : leafOk ⟨3, n, a, b, y, r⟩ = true) (hlen : l.length ≤ 1000000) (ht : Stands l lo (.leaf ⟨3, n, a, b, y, r⟩)) : TellT l lo (.leaf ⟨3, n, a, b, y, r⟩) := by
  intro S v w h hS hP
  have hn := top_n (t := .leaf ⟨3, n, a, b, y, r⟩) hx lo
  have htl := leafT_len hx
  have hle := ht.len
  have htop := ht.top (by simp only [PT.size] at *; omega)
  obtain ⟨A, c2, rfl, hA⟩ := h
  simp only [PT.size] at hle htop ⊢
  obtain ⟨bb, o, rfl, hSb, hcell⟩ := hA (by omega)
  obtain ⟨c0, c1, c2', c3, c4, c5⟩ := hcell (lo + 1 - 1) (by omega)
  rw [htop] at c0 c1 c2' c3 c4 c5
  have e1 : ((lo + 1 : Nat) : Int) - 1 = (lo : Int) := by omega
  rw [e1]
  rw [show lo + 1 - 1 = lo by omega] at c0 c1 c2' c3 c4 c5
  have hiI : (lo : Int) < (l.length : Int) := by omega
  simp only [PT.top] at c0 c1 c2' c3 c4 c5 hn
  have hF := fun (W : World) (hg : w.grownBy W none) => Lib.hid (formatInt_w n (by omega) hn.2 W (hP.to hg))
  have hT : Hid ((PT.leaf ⟨3, n, a, b, y, r⟩).tx = leafT ⟨3, n, a, b, y, r⟩) := rfl
  rw [hT.out]
  simp only [leafOk, Bool.and_eq_true] at hx
  have hfi := fineN_iff hx.1.1
  have hqa := quot_size hfi.qa
  have hqb := quot_size hfi.qb
  have hil := itoa_len hn.1 hn.2
  simp only at hqa hqb
  clear hA hcell htop hT e1 hn hfi hx
  have h1 : ∀ W, (Op.stringOp .add ⟨#[115, 108, 111, 119, 32]⟩ (bs (Lib.itoa n))).run Tryd.prog W = .ok (.string (bs (leafT ⟨3, n, a, b, y, r⟩))) W := fun W => add_run (a := [115, 108, 111, 119, 32]) rfl (by simp) (by omega) W
  clear htl
  generalize bs (leafT ⟨3, n, a, b, y, r⟩) = Z at *
  generalize bs (Lib.itoa n) = N at *
  go_enter Tryd.func66, Tryd.ntmps66
  go_wp2_with (first
    | (go_at_call 95; refine ((hF _ (gb_alloc (gb_refl _ _) _)).out).mono ?_; rintro e w1 ⟨rfl, hg1⟩; have d2 := cell_grown (w' := w1) (node_c2 w ⟨3, n, a, b, y, r⟩) hg1 (by simp); have d3 := cell_grown (w' := w1) (node_c3 w ⟨3, n, a, b, y, r⟩) hg1 (by simp); have d0 := cell_grown (w' := w1) (node_c0 w ⟨3, n, a, b, y, r⟩) hg1 (by simp)))
  go_ret
  exact ⟨rfl, gb_trans (gb_alloc (gb_refl _ _) _) hg1⟩
set_option maxRecDepth 100000 in
set_option maxHeartbeats 3200000 in
theorem leaf_6 {l : List PN} {lo : Nat} (n : Int) (a b : ByteArray) (y r : Int) (hx : leafOk ⟨6, n, a, b, y, r⟩ = true) (hlen : l.length ≤ 1000000) (ht : Stands l lo (.leaf ⟨6, n, a, b, y, r⟩)) : TellT l lo (.leaf ⟨6, n, a, b, y, r⟩) := by
  intro S v w h hS hP
  have hn := top_n (t := .leaf ⟨6, n, a, b, y, r⟩) hx lo
  have htl := leafT_len hx
  have hle := ht.len
  have htop := ht.top (by simp only [PT.size] at *; omega)
  obtain ⟨A, c2, rfl, hA⟩ := h
  simp only [PT.size] at hle htop ⊢
  obtain ⟨bb, o, rfl, hSb, hcell⟩ := hA (by omega)
  obtain ⟨c0, c1, c2', c3, c4, c5⟩ := hcell (lo + 1 - 1) (by omega)
  rw [htop] at c0 c1 c2' c3 c4 c5
  have e1 : ((lo + 1 : Nat) : Int) - 1 = (lo : Int) := by omega
  rw [e1]
  rw [show lo + 1 - 1 = lo by omega] at c0 c1 c2' c3 c4 c5
  have hiI : (lo : Int) < (l.length : Int) := by omega
  simp only [PT.top] at c0 c1 c2' c3 c4 c5 hn
  have hF := fun (W : World) (hg : w.grownBy W none) => Lib.hid (formatInt_w n (by omega) hn.2 W (hP.to hg))
  have hT : Hid ((PT.leaf ⟨6, n, a, b, y, r⟩).tx = leafT ⟨6, n, a, b, y, r⟩) := rfl
  rw [hT.out]
  simp only [leafOk, Bool.and_eq_true] at hx
  have hfi := fineN_iff hx.1.1
  have hqa := quot_size hfi.qa
  have hqb := quot_size hfi.qb
  have hil := itoa_len hn.1 hn.2
  simp only at hqa hqb
  clear hA hcell htop hT e1 hn hfi hx
  have h1 : ∀ W, (Op.stringOp .add ⟨#[114, 97, 116, 105, 111, 32]⟩ (bs (Lib.itoa n))).run Tryd.prog W = .ok (.string (bs (leafT ⟨6, n, a, b, y, r⟩))) W := fun W => add_run (a := [114, 97, 116, 105, 111, 32]) rfl (by simp) (by omega) W
  clear htl
  generalize bs (leafT ⟨6, n, a, b, y, r⟩) = Z at *
  generalize bs (Lib.itoa n) = N at *
  go_enter Tryd.func66, Tryd.ntmps66
  go_wp2_with (first
    | (go_at_call 95; refine ((hF _ (gb_alloc (gb_refl _ _) _)).out).mono ?_; rintro e w1 ⟨rfl, hg1⟩; have d2 := cell_grown (w' := w1) (node_c2 w ⟨6, n, a, b, y, r⟩) hg1 (by simp); have d3 := cell_grown (w' := w1) (node_c3 w ⟨6, n, a, b, y, r⟩) hg1 (by simp); have d0 := cell_grown (w' := w1) (node_c0 w ⟨6, n, a, b, y, r⟩) hg1 (by simp)))
  go_ret
  exact ⟨rfl, gb_trans (gb_alloc (gb_refl _ _) _) hg1⟩
set_option maxRecDepth 100000 in
set_option maxHeartbeats 3200000 in
theorem leaf_4 {l : List PN} {lo : Nat} (n : Int) (a b : ByteArray) (y r : Int) (hx : leafOk ⟨4, n, a, b, y, r⟩ = true) (hlen : l.length ≤ 1000000) (ht : Stands l lo (.leaf ⟨4, n, a, b, y, r⟩)) : TellT l lo (.leaf ⟨4, n, a, b, y, r⟩) := by
  intro S v w h hS hP
  have hn := top_n (t := .leaf ⟨4, n, a, b, y, r⟩) hx lo
  have htl := leafT_len hx
  have hle := ht.len
  have htop := ht.top (by simp only [PT.size] at *; omega)
  obtain ⟨A, c2, rfl, hA⟩ := h
  simp only [PT.size] at hle htop ⊢
  obtain ⟨bb, o, rfl, hSb, hcell⟩ := hA (by omega)
  obtain ⟨c0, c1, c2', c3, c4, c5⟩ := hcell (lo + 1 - 1) (by omega)
  rw [htop] at c0 c1 c2' c3 c4 c5
  have e1 : ((lo + 1 : Nat) : Int) - 1 = (lo : Int) := by omega
  rw [e1]
  rw [show lo + 1 - 1 = lo by omega] at c0 c1 c2' c3 c4 c5
  have hiI : (lo : Int) < (l.length : Int) := by omega
  simp only [PT.top] at c0 c1 c2' c3 c4 c5 hn
  have hF := fun (W : World) (hg : w.grownBy W none) => Lib.hid (formatInt_w n (by omega) hn.2 W (hP.to hg))
  have hT : Hid ((PT.leaf ⟨4, n, a, b, y, r⟩).tx = leafT ⟨4, n, a, b, y, r⟩) := rfl
  rw [hT.out]
  simp only [leafOk, Bool.and_eq_true] at hx
  have hfi := fineN_iff hx.1.1
  have hqa := quot_size hfi.qa
  have hqb := quot_size hfi.qb
  have hil := itoa_len hn.1 hn.2
  simp only at hqa hqb
  clear hA hcell htop hT e1 hn hfi hx
  obtain ⟨la, hla⟩ : ∃ la, a = bs la := ⟨_, ba_bs a⟩
  subst hla
  rw [bs_size] at hqa
  have h1 : ∀ W, (Op.stringOp .add ⟨#[115, 101, 114, 118, 105, 99, 101, 32, 34]⟩ (bs la)).run Tryd.prog W = .ok (.string (bs ([115, 101, 114, 118, 105, 99, 101, 32, 34] ++ la))) W := fun W => add_run (a := [115, 101, 114, 118, 105, 99, 101, 32, 34]) rfl (by simp) (by omega) W
  have h2 : ∀ W, (Op.stringOp .add (bs ([115, 101, 114, 118, 105, 99, 101, 32, 34] ++ la)) ⟨#[34]⟩).run Tryd.prog W = .ok (.string (bs (leafT ⟨4, n, bs la, b, y, r⟩))) W := fun W => add_run (b := [34]) (by show _ = leafT _; unfold leafT; simp [wService, bs]) (by simp; omega) (by simp) W
  clear htl
  generalize bs (leafT ⟨4, n, bs la, b, y, r⟩) = Z at *
  generalize bs ([115, 101, 114, 118, 105, 99, 101, 32, 34] ++ la) = Y at *
  generalize bs la = a at *
  generalize bs (Lib.itoa n) = N at *
  go_enter Tryd.func66, Tryd.ntmps66
  go_wp2_with (first
    | (go_at_call 95; refine ((hF _ (gb_alloc (gb_refl _ _) _)).out).mono ?_; rintro e w1 ⟨rfl, hg1⟩; have d2 := cell_grown (w' := w1) (node_c2 w ⟨4, n, a, b, y, r⟩) hg1 (by simp); have d3 := cell_grown (w' := w1) (node_c3 w ⟨4, n, a, b, y, r⟩) hg1 (by simp); have d0 := cell_grown (w' := w1) (node_c0 w ⟨4, n, a, b, y, r⟩) hg1 (by simp)))
  go_ret
  exact ⟨rfl, gb_trans (gb_alloc (gb_refl _ _) _) hg1⟩
set_option maxRecDepth 100000 in
set_option maxHeartbeats 3200000 in
theorem leaf_5 {l : List PN} {lo : Nat} (n : Int) (a b : ByteArray) (y r : Int) (hx : leafOk ⟨5, n, a, b, y, r⟩ = true) (hlen : l.length ≤ 1000000) (ht : Stands l lo (.leaf ⟨5, n, a, b, y, r⟩)) : TellT l lo (.leaf ⟨5, n, a, b, y, r⟩) := by
  intro S v w h hS hP
  have hn := top_n (t := .leaf ⟨5, n, a, b, y, r⟩) hx lo
  have htl := leafT_len hx
  have hle := ht.len
  have htop := ht.top (by simp only [PT.size] at *; omega)
  obtain ⟨A, c2, rfl, hA⟩ := h
  simp only [PT.size] at hle htop ⊢
  obtain ⟨bb, o, rfl, hSb, hcell⟩ := hA (by omega)
  obtain ⟨c0, c1, c2', c3, c4, c5⟩ := hcell (lo + 1 - 1) (by omega)
  rw [htop] at c0 c1 c2' c3 c4 c5
  have e1 : ((lo + 1 : Nat) : Int) - 1 = (lo : Int) := by omega
  rw [e1]
  rw [show lo + 1 - 1 = lo by omega] at c0 c1 c2' c3 c4 c5
  have hiI : (lo : Int) < (l.length : Int) := by omega
  simp only [PT.top] at c0 c1 c2' c3 c4 c5 hn
  have hF := fun (W : World) (hg : w.grownBy W none) => Lib.hid (formatInt_w n (by omega) hn.2 W (hP.to hg))
  have hT : Hid ((PT.leaf ⟨5, n, a, b, y, r⟩).tx = leafT ⟨5, n, a, b, y, r⟩) := rfl
  rw [hT.out]
  simp only [leafOk, Bool.and_eq_true] at hx
  have hfi := fineN_iff hx.1.1
  have hqa := quot_size hfi.qa
  have hqb := quot_size hfi.qb
  have hil := itoa_len hn.1 hn.2
  simp only at hqa hqb
  clear hA hcell htop hT e1 hn hfi hx
  obtain ⟨la, hla⟩ : ∃ la, a = bs la := ⟨_, ba_bs a⟩
  subst hla
  obtain ⟨lb, hlb⟩ : ∃ lb, b = bs lb := ⟨_, ba_bs b⟩
  subst hlb
  rw [bs_size] at hqa hqb
  have h1 : ∀ W, (Op.stringOp .add ⟨#[116, 97, 103, 32, 34]⟩ (bs la)).run Tryd.prog W = .ok (.string (bs ([116, 97, 103, 32, 34] ++ la))) W := fun W => add_run (a := [116, 97, 103, 32, 34]) rfl (by simp) (by omega) W
  have h2 : ∀ W, (Op.stringOp .add (bs ([116, 97, 103, 32, 34] ++ la)) ⟨#[34, 61, 34]⟩).run Tryd.prog W = .ok (.string (bs (([116, 97, 103, 32, 34] ++ la) ++ [34, 61, 34]))) W := fun W => add_run (b := [34, 61, 34]) rfl (by simp; omega) (by simp) W
  have h3 : ∀ W, (Op.stringOp .add (bs (([116, 97, 103, 32, 34] ++ la) ++ [34, 61, 34])) (bs lb)).run Tryd.prog W = .ok (.string (bs ((([116, 97, 103, 32, 34] ++ la) ++ [34, 61, 34]) ++ lb))) W := fun W => add_run rfl (by simp; omega) (by omega) W
  have h4 : ∀ W, (Op.stringOp .add (bs ((([116, 97, 103, 32, 34] ++ la) ++ [34, 61, 34]) ++ lb)) ⟨#[34]⟩).run Tryd.prog W = .ok (.string (bs (leafT ⟨5, n, bs la, bs lb, y, r⟩))) W := fun W => add_run (b := [34]) (by show _ = leafT _; unfold leafT; simp [wTag, bs]) (by simp; omega) (by simp) W
  clear htl
  generalize bs (leafT ⟨5, n, bs la, bs lb, y, r⟩) = Z at *
  generalize bs ((([116, 97, 103, 32, 34] ++ la) ++ [34, 61, 34]) ++ lb) = Y3 at *
  generalize bs (([116, 97, 103, 32, 34] ++ la) ++ [34, 61, 34]) = Y2 at *
  generalize bs ([116, 97, 103, 32, 34] ++ la) = Y at *
  generalize bs la = a at *
  generalize bs lb = b at *
  generalize bs (Lib.itoa n) = N at *
  go_enter Tryd.func66, Tryd.ntmps66
  go_wp2_with (first
    | (go_at_call 95; refine ((hF _ (gb_alloc (gb_refl _ _) _)).out).mono ?_; rintro e w1 ⟨rfl, hg1⟩; have d2 := cell_grown (w' := w1) (node_c2 w ⟨5, n, a, b, y, r⟩) hg1 (by simp); have d3 := cell_grown (w' := w1) (node_c3 w ⟨5, n, a, b, y, r⟩) hg1 (by simp); have d0 := cell_grown (w' := w1) (node_c0 w ⟨5, n, a, b, y, r⟩) hg1 (by simp)))
  go_ret
  exact ⟨rfl, gb_trans (gb_alloc (gb_refl _ _) _) hg1⟩
theorem leaf_any {l : List PN} {lo : Nat} (x : PN) (hx : leafOk x = true) (hlen : l.length ≤ 1000000) (ht : Stands l lo (.leaf x)) : TellT l lo (.leaf x) := by
  obtain ⟨k, n, a, b, y, r⟩ := x
  have h := hx
  simp only [leafOk, Bool.and_eq_true, decide_eq_true_eq] at h
  have hf := fineN_iff h.1.1
  have h1 := hf.k1
  have h7 := h.2
  simp only at h1 h7
  have : k = 1 ∨ k = 2 ∨ k = 3 ∨ k = 4 ∨ k = 5 ∨ k = 6 := by omega
  rcases this with rfl | rfl | rfl | rfl | rfl | rfl
  · exact leaf_1 n a b y r hx hlen ht
  · exact leaf_2 n a b y r hx hlen ht
  · exact leaf_3 n a b y r hx hlen ht
  · exact leaf_4 n a b y r hx hlen ht
  · exact leaf_5 n a b y r hx hlen ht
  · exact leaf_6 n a b y r hx hlen ht
end Go.Proofs.YtnnhkajjifmlfaaDoor.Pl
