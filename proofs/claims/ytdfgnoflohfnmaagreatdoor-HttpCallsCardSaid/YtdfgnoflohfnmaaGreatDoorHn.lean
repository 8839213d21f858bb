/- HTTP: a request's first line: bootprint/http.start, walked. -/
import Derived.Test.YtdfgnoflohfnmaaGreatDoorHl
namespace Go.Proofs.YtdfgnoflohfnmaaGreatDoor.Hx
open Go.RowKit Go.Maps Go.Shelf

/-- what the first line leaves -/
def SK (R : Nat) (bw : Value) (w : World) (bs : Bs) (σ : RS) (e : Ending) (w' : World) : Prop :=
  match lineP (bs.drop σ.i) with
  | .more => QS1 R bw w .nilFunc σ e w'
  | .bad => ∃ τ : RS, τ.st = 400 ∧ QS1 R bw w .nilFunc τ e w'
  | .got s n =>
    match startP s with
    | none => ∃ τ : RS, τ.st = 400 ∧ QS1 R bw w .nilFunc τ e w'
    | some (m, p, q) => ∃ v, w'.ownsRow w.heap.size 60 2 v q.length (prCells q) ∧ QS1 R bw w (.func (.func 67) #[] #[]) { σ with i := σ.i + n, m := ⟨m.toArray⟩, p := ⟨p.toArray⟩, qv := v } e w'
section
variable {R : Nat} {bw : Value} {w : World} {bs : Bs} {σ : RS} {e : Ending} {w' : World} {s : Bs} {n : Nat}
theorem SK.wrong (hp : lineP (bs.drop σ.i) = .got s n) (hs : startP s = none) (τ : RS) (h1 : τ.st = 400) (h : QS1 R bw w .nilFunc τ e w') : SK R bw w bs σ e w' := by
  unfold SK; rw [hp]; dsimp only; rw [hs]; exact ⟨τ, h1, h⟩
theorem SK.good {m p : Bs} {q : List (Bs × Bs)} (hp : lineP (bs.drop σ.i) = .got s n) (hs : startP s = some (m, p, q)) (v : Value) (ho : w'.ownsRow w.heap.size 60 2 v q.length (prCells q)) (h : QS1 R bw w (.func (.func 67) #[] #[]) { σ with i := σ.i + n, m := ⟨m.toArray⟩, p := ⟨p.toArray⟩, qv := v } e w') : SK R bw w bs σ e w' := by
  unfold SK; rw [hp]; dsimp only; rw [hs]; exact ⟨v, ho, h⟩
end
theorem split_eq (s : Bs) : (Lib.splitB ⟨#[32]⟩ 0 (Lib.countB ⟨s.toArray⟩ ⟨#[32]⟩) ⟨s.toArray⟩).map (·.data.toList) = Lib.split s [32] := by
  rw [Lib.splitB_data]; rfl
theorem split_len3 (s : ByteArray) : (Lib.splitB ⟨#[32]⟩ 0 (Lib.countB s ⟨#[32]⟩) s).length = Lib.countB s ⟨#[32]⟩ + 1 := Lib.splitB_all _ (by decide) 0 _ s rfl
theorem start_three {s : Bs} {M T V : ByteArray} (h : Lib.splitB ⟨#[32]⟩ 0 (Lib.countB ⟨s.toArray⟩ ⟨#[32]⟩) ⟨s.toArray⟩ = [M, T, V]) :
    startP s = if V.data.toList ≠ vers ∨ M.data.toList.length < 1 ∨ 16 < M.data.toList.length ∨ M.data.toList.all capB = false then none else (tgtP T.data.toList).map fun x => (M.data.toList, x.1, x.2) := by
  have e := split_eq s
  rw [h] at e
  unfold startP
  rw [← e]
  rfl
theorem start_other {s : Bs} (h : Lib.countB ⟨s.toArray⟩ ⟨#[32]⟩ + 1 ≠ 3) : startP s = none := by
  have e := split_eq s
  have hl := split_len3 ⟨s.toArray⟩
  have hl2 : (Lib.split s [32]).length ≠ 3 := by rw [← e, List.length_map, hl]; exact h
  unfold startP
  split
  · next h3 => rw [h3] at hl2; exact absurd rfl hl2
  · rfl
theorem split_mem_len : ∀ (n : Nat) {s x : Bs}, s.length ≤ n → x ∈ Lib.split s [32] → x.length ≤ s.length
  | 0, s, x, h, hx => by
    have : s = [] := List.length_eq_zero_iff.mp (by omega)
    subst this
    rw [split_cut, cut_miss (by rcases idx_cases ([] : Bs) 32 with h | ⟨i, _, h⟩; exact h; simp at h)] at hx
    simp at hx
    rw [hx]; simp
  | n + 1, s, x, h, hx => by
    rcases idx_cases s 32 with hk | ⟨i, hk, hi⟩
    · rw [split_cut, cut_miss hk] at hx
      simp at hx
      rw [hx]; exact Nat.le_refl _
    · rw [split_cut, cut_hit hk] at hx
      simp only [if_true, List.mem_cons] at hx
      rcases hx with rfl | hx
      · rw [List.length_take]; omega
      · have := split_mem_len n (s := s.drop (i + 1)) (by rw [List.length_drop]; omega) hx
        rw [List.length_drop] at this
        omega
theorem part_size {s : Bs} {M T V : ByteArray} (h : Lib.splitB ⟨#[32]⟩ 0 (Lib.countB ⟨s.toArray⟩ ⟨#[32]⟩) ⟨s.toArray⟩ = [M, T, V]) (hs : s.length ≤ 4096) : M.size ≤ 4096 ∧ T.size ≤ 4096 ∧ V.size ≤ 4096 := by
  have e := split_eq s
  rw [h] at e
  have hm : ∀ x ∈ Lib.split s [32], x.length ≤ s.length := fun x hx => split_mem_len _ (Nat.le_refl _) hx
  rw [← e] at hm
  have h1 := hm M.data.toList (by simp)
  have h2 := hm T.data.toList (by simp)
  have h3 := hm V.data.toList (by simp)
  have e1 : M.data.toList.length = M.size := Array.length_toList
  have e2 : T.data.toList.length = T.size := Array.length_toList
  have e3 : V.data.toList.length = V.size := Array.length_toList
  omega
theorem cells_three (W : World) (M T V : ByteArray) : (W.alloc (.cells #[.string M, .string T, .string V] 9)).cell? ⟨W.heap.size, 0, none⟩ = some (.string M) ∧ (W.alloc (.cells #[.string M, .string T, .string V] 9)).cell? ⟨W.heap.size, 1, none⟩ = some (.string T) ∧ (W.alloc (.cells #[.string M, .string T, .string V] 9)).cell? ⟨W.heap.size, 2, none⟩ = some (.string V) := by
  refine ⟨?_, ?_, ?_⟩ <;> (rw [cell_of_row _ _ _ _ _ _ (heap_alloc_new W _)]; rfl)
set_option maxRecDepth 100000 in
set_option maxHeartbeats 6400000 in
theorem start_line (R : Nat) (bw : Value) (bs : Bs) (σ : RS) (m : Int) (w : World) (h : RB w R bw σ) (hB : RV w R bw bs) (hm : MX w m) (hi : σ.i ≤ bs.length) (hl : bs.length ≤ 2000000) (hL : ∀ s n, lineP (bs.drop σ.i) ≠ .got s n) :
    Calls Tryz.prog 35 #[.pointer (some ⟨R, 0, none⟩)] w (SK R bw w bs σ) := by
  have hl := line_any R bw bs σ m w h hB hm hi hl
  unfold LK at hl
  unfold SK
  cases hp : lineP (bs.drop σ.i) with
  | more =>
    rw [hp] at hl
    replace hl := Lib.hid hl
    clear hL hp hi hm h
    go_enter Tryz.func35, Tryz.ntmps35
    go_wp2_with (first
      | (go_at_call 63; refine (hl.out).mono ?_; rintro e w1 ⟨rfl, h1, g1⟩))
    go_ret
    exact ⟨rfl, h1, g1⟩
  | bad =>
    rw [hp] at hl
    replace hl := Lib.hid hl
    clear hL hp hi hm h
    go_enter Tryz.func35, Tryz.ntmps35
    go_wp2_with (first
      | (go_at_call 63; refine (hl.out).mono ?_; rintro e w1 ⟨i1, rfl, h1, g1⟩))
    go_ret
    exact ⟨{ σ with i := i1, st := 400 }, rfl, rfl, h1, g1⟩
  | got s n => exact absurd hp (hL s n)
set_option maxRecDepth 100000 in
set_option maxHeartbeats 6400000 in
theorem start_parts (R : Nat) (bw : Value) (bs : Bs) (σ : RS) (m : Int) (w : World) (h : RB w R bw σ) (hB : RV w R bw bs) (hm : MX w m) (hi : σ.i ≤ bs.length) (hl : bs.length ≤ 2000000) (hR0 : some 0 ≠ some R) (s : Bs) (n : Nat) (hp : lineP (bs.drop σ.i) = .got s n)
    (hk : Lib.countB ⟨s.toArray⟩ ⟨#[32]⟩ + 1 ≠ 3) :
    Calls Tryz.prog 35 #[.pointer (some ⟨R, 0, none⟩)] w (SK R bw w bs σ) := by
  have hl := line_any R bw bs σ m w h hB hm hi hl
  unfold LK at hl
  rw [hp] at hl
  dsimp only at hl
  replace hl := Lib.hid hl
  have hbad := start_other hk
  obtain ⟨hs1, hs2, hs3, hs4⟩ := lineP_got hp
  obtain ⟨S, hS⟩ : ∃ S : ByteArray, S = ⟨s.toArray⟩ := ⟨_, rfl⟩
  have hSz : S.size < 4294967281 := by rw [hS]; show s.toArray.size < _; simp; omega
  rw [← hS] at hl hk
  obtain ⟨k, hk0⟩ : ∃ k, Lib.countB S ⟨#[32]⟩ + 1 = k := ⟨_, rfl⟩
  rw [hk0] at hk
  have hk3 : ¬ (k : Int) = 3 := by omega
  obtain ⟨L, hL⟩ : ∃ L, ((Lib.splitB ⟨#[32]⟩ 0 (Lib.countB S ⟨#[32]⟩) S).map Value.string).toArray = L := ⟨_, rfl⟩
  have hspl : ∀ W, MX W m → Hid (Calls Tryz.prog 64 #[.string S, .string ⟨#[32]⟩] W fun e w' => e = .returned (.slice (some ⟨W.heap.size, 0, none⟩) k k) ∧ w' = W.alloc (.cells L 9)) := fun W hW => by
    have := Tryz.strings_Split S ⟨#[32]⟩ m W hSz hW (by decide)
    rw [hk0, hL] at this
    exact this
  replace hp := Lib.hid hp
  replace hbad := Lib.hid hbad
  clear hk hs1 hs2 hs3 hs4 hS hSz hi hL hk0
  go_enter Tryz.func35, Tryz.ntmps35
  go_wp2_with (first
    | (go_at_call 64; refine ((hspl _ (hm.grown g1 hR0)).out).mono ?_; rintro e w2 ⟨rfl, rfl⟩)
    | (go_at_call 63; refine (hl.out).mono ?_; rintro e w1 ⟨rfl, h1, g1⟩)
    | (go_at_call 66; refine (wrong_any R bw 400 _ _ (h1.alloc _)).mono ?_; rintro e w4 ⟨rfl, h4, g4⟩))
  go_ret
  exact SK.wrong hp.out hbad.out { σ with i := σ.i + n, st := 400 } rfl ⟨rfl, h4, gb_trans (gb_alloc g1 _) g4⟩
set_option maxRecDepth 100000 in
set_option maxHeartbeats 6400000 in
theorem start_vers (R : Nat) (bw : Value) (bs : Bs) (σ : RS) (m : Int) (w : World) (h : RB w R bw σ) (hB : RV w R bw bs) (hm : MX w m) (hi : σ.i ≤ bs.length) (hl : bs.length ≤ 2000000) (hR0 : some 0 ≠ some R) (s : Bs) (n : Nat) (hp : lineP (bs.drop σ.i) = .got s n)
    (M T V : ByteArray) (hk : Lib.splitB ⟨#[32]⟩ 0 (Lib.countB ⟨s.toArray⟩ ⟨#[32]⟩) ⟨s.toArray⟩ = [M, T, V]) (hv : V.data.toList ≠ vers) :
    Calls Tryz.prog 35 #[.pointer (some ⟨R, 0, none⟩)] w (SK R bw w bs σ) := by
  have hl := line_any R bw bs σ m w h hB hm hi hl
  unfold LK at hl
  rw [hp] at hl
  dsimp only at hl
  replace hl := Lib.hid hl
  have hst := start_three hk
  obtain ⟨hs1, hs2, hs3, hs4⟩ := lineP_got hp
  obtain ⟨hMz, hTz, hVz⟩ := part_size hk hs2
  have hlen := split_len3 ⟨s.toArray⟩
  rw [hk] at hlen
  have hMl : M.data.toList.length = M.size := Array.length_toList
  have hVl : (V.toList == [72, 84, 84, 80, 47, 49, 46, 49]) = decide (V = ⟨#[72, 84, 84, 80, 47, 49, 46, 49]⟩) := by
    have := ba_beq V ⟨#[72, 84, 84, 80, 47, 49, 46, 49]⟩
    rw [Lib.toList_data ⟨#[72, 84, 84, 80, 47, 49, 46, 49]⟩] at this
    exact this
  have hVv : V = ⟨#[72, 84, 84, 80, 47, 49, 46, 49]⟩ ↔ V.data.toList = vers := ⟨fun e => by rw [e]; rfl, fun e => ByteArray.ext (Array.toList_inj.1 (by rw [e]; rfl))⟩
  obtain ⟨S, hS⟩ : ∃ S : ByteArray, S = ⟨s.toArray⟩ := ⟨_, rfl⟩
  have hSz : S.size < 4294967281 := by rw [hS]; show s.toArray.size < _; simp; omega
  rw [← hS] at hl hk hlen
  have hspl : ∀ W, MX W m → Hid (Calls Tryz.prog 64 #[.string S, .string ⟨#[32]⟩] W fun e w' => e = .returned (.slice (some ⟨W.heap.size, 0, none⟩) 3 3) ∧ w' = W.alloc (.cells #[.string M, .string T, .string V] 9)) := fun W hW => by
    have := Tryz.strings_Split S ⟨#[32]⟩ m W hSz hW (by decide)
    rw [hk, ← hlen] at this
    exact this
  have hal := fun W => Lib.hid (all_cap M W (by omega))
  rw [decide_eq_false (fun e => hv (hVv.1 e))] at hVl
  have hbad := Lib.hid (hst.trans (if_pos (.inl hv)))
  clear hv
  replace hp := Lib.hid hp
  clear hs1 hs2 hs3 hs4 hS hSz hi hlen hk hVv hst hMl
  go_enter Tryz.func35, Tryz.ntmps35
  go_wp2_with (first
    | (go_at_call 66; refine (wrong_any R bw 400 _ _ h2).mono ?_; rintro e w4 ⟨rfl, h4, g4⟩)
    | (go_at_call 64; refine ((hspl _ (hm.grown g1 hR0)).out).mono ?_; rintro e w2 ⟨rfl, hw2⟩; obtain ⟨x0, x1, x2⟩ := cells_three w1 M T V; rw [← hw2] at x0 x1 x2; have h2 := h1.alloc (.cells #[.string M, .string T, .string V] 9); rw [← hw2] at h2; have g2 : w.grownBy w2 (some R) := (by rw [hw2]; exact gb_alloc g1 _); have hm2 := hm.grown g2 hR0; have hg1 := g1.size; have hz2 : w2.heap.size = w1.heap.size + 1 := (by rw [hw2]; simp); clear hw2 g1 h1)
    | (go_at_call 63; refine (hl.out).mono ?_; rintro e w1 ⟨rfl, h1, g1⟩))
  go_ret
  exact SK.wrong hp.out hbad.out { σ with i := σ.i + n, st := 400 } rfl ⟨rfl, h4, gb_trans g2 g4⟩
set_option maxRecDepth 100000 in
set_option maxHeartbeats 6400000 in
theorem start_empty (R : Nat) (bw : Value) (bs : Bs) (σ : RS) (m : Int) (w : World) (h : RB w R bw σ) (hB : RV w R bw bs) (hm : MX w m) (hi : σ.i ≤ bs.length) (hl : bs.length ≤ 2000000) (hR0 : some 0 ≠ some R) (s : Bs) (n : Nat) (hp : lineP (bs.drop σ.i) = .got s n)
    (M T V : ByteArray) (hk : Lib.splitB ⟨#[32]⟩ 0 (Lib.countB ⟨s.toArray⟩ ⟨#[32]⟩) ⟨s.toArray⟩ = [M, T, V]) (hv : V.data.toList = vers) (hz : M.data.toList.length < 1) :
    Calls Tryz.prog 35 #[.pointer (some ⟨R, 0, none⟩)] w (SK R bw w bs σ) := by
  have hl := line_any R bw bs σ m w h hB hm hi hl
  unfold LK at hl
  rw [hp] at hl
  dsimp only at hl
  replace hl := Lib.hid hl
  have hst := start_three hk
  obtain ⟨hs1, hs2, hs3, hs4⟩ := lineP_got hp
  obtain ⟨hMz, hTz, hVz⟩ := part_size hk hs2
  have hlen := split_len3 ⟨s.toArray⟩
  rw [hk] at hlen
  have hMl : M.data.toList.length = M.size := Array.length_toList
  have hVl : (V.toList == [72, 84, 84, 80, 47, 49, 46, 49]) = decide (V = ⟨#[72, 84, 84, 80, 47, 49, 46, 49]⟩) := by
    have := ba_beq V ⟨#[72, 84, 84, 80, 47, 49, 46, 49]⟩
    rw [Lib.toList_data ⟨#[72, 84, 84, 80, 47, 49, 46, 49]⟩] at this
    exact this
  have hVv : V = ⟨#[72, 84, 84, 80, 47, 49, 46, 49]⟩ ↔ V.data.toList = vers := ⟨fun e => by rw [e]; rfl, fun e => ByteArray.ext (Array.toList_inj.1 (by rw [e]; rfl))⟩
  obtain ⟨S, hS⟩ : ∃ S : ByteArray, S = ⟨s.toArray⟩ := ⟨_, rfl⟩
  have hSz : S.size < 4294967281 := by rw [hS]; show s.toArray.size < _; simp; omega
  rw [← hS] at hl hk hlen
  have hspl : ∀ W, MX W m → Hid (Calls Tryz.prog 64 #[.string S, .string ⟨#[32]⟩] W fun e w' => e = .returned (.slice (some ⟨W.heap.size, 0, none⟩) 3 3) ∧ w' = W.alloc (.cells #[.string M, .string T, .string V] 9)) := fun W hW => by
    have := Tryz.strings_Split S ⟨#[32]⟩ m W hSz hW (by decide)
    rw [hk, ← hlen] at this
    exact this
  have hal := fun W => Lib.hid (all_cap M W (by omega))
  rw [decide_eq_true (hVv.2 hv)] at hVl
  have hbad := Lib.hid (hst.trans (if_pos (.inr (.inl hz))))
  have z1 : (M.size : Int) < 1 := by omega
  clear hv hz
  replace hp := Lib.hid hp
  clear hs1 hs2 hs3 hs4 hS hSz hi hlen hk hVv hst hMl
  go_enter Tryz.func35, Tryz.ntmps35
  go_wp2_with (first
    | (go_at_call 66; refine (wrong_any R bw 400 _ _ h2).mono ?_; rintro e w4 ⟨rfl, h4, g4⟩)
    | (go_at_call 64; refine ((hspl _ (hm.grown g1 hR0)).out).mono ?_; rintro e w2 ⟨rfl, hw2⟩; obtain ⟨x0, x1, x2⟩ := cells_three w1 M T V; rw [← hw2] at x0 x1 x2; have h2 := h1.alloc (.cells #[.string M, .string T, .string V] 9); rw [← hw2] at h2; have g2 : w.grownBy w2 (some R) := (by rw [hw2]; exact gb_alloc g1 _); have hm2 := hm.grown g2 hR0; have hg1 := g1.size; have hz2 : w2.heap.size = w1.heap.size + 1 := (by rw [hw2]; simp); clear hw2 g1 h1)
    | (go_at_call 63; refine (hl.out).mono ?_; rintro e w1 ⟨rfl, h1, g1⟩))
  go_ret
  exact SK.wrong hp.out hbad.out { σ with i := σ.i + n, st := 400 } rfl ⟨rfl, h4, gb_trans g2 g4⟩
set_option maxRecDepth 100000 in
set_option maxHeartbeats 6400000 in
theorem start_long (R : Nat) (bw : Value) (bs : Bs) (σ : RS) (m : Int) (w : World) (h : RB w R bw σ) (hB : RV w R bw bs) (hm : MX w m) (hi : σ.i ≤ bs.length) (hl : bs.length ≤ 2000000) (hR0 : some 0 ≠ some R) (s : Bs) (n : Nat) (hp : lineP (bs.drop σ.i) = .got s n)
    (M T V : ByteArray) (hk : Lib.splitB ⟨#[32]⟩ 0 (Lib.countB ⟨s.toArray⟩ ⟨#[32]⟩) ⟨s.toArray⟩ = [M, T, V]) (hv : V.data.toList = vers) (hz2 : 16 < M.data.toList.length) :
    Calls Tryz.prog 35 #[.pointer (some ⟨R, 0, none⟩)] w (SK R bw w bs σ) := by
  have hl := line_any R bw bs σ m w h hB hm hi hl
  unfold LK at hl
  rw [hp] at hl
  dsimp only at hl
  replace hl := Lib.hid hl
  have hst := start_three hk
  obtain ⟨hs1, hs2, hs3, hs4⟩ := lineP_got hp
  obtain ⟨hMz, hTz, hVz⟩ := part_size hk hs2
  have hlen := split_len3 ⟨s.toArray⟩
  rw [hk] at hlen
  have hMl : M.data.toList.length = M.size := Array.length_toList
  have hVl : (V.toList == [72, 84, 84, 80, 47, 49, 46, 49]) = decide (V = ⟨#[72, 84, 84, 80, 47, 49, 46, 49]⟩) := by
    have := ba_beq V ⟨#[72, 84, 84, 80, 47, 49, 46, 49]⟩
    rw [Lib.toList_data ⟨#[72, 84, 84, 80, 47, 49, 46, 49]⟩] at this
    exact this
  have hVv : V = ⟨#[72, 84, 84, 80, 47, 49, 46, 49]⟩ ↔ V.data.toList = vers := ⟨fun e => by rw [e]; rfl, fun e => ByteArray.ext (Array.toList_inj.1 (by rw [e]; rfl))⟩
  obtain ⟨S, hS⟩ : ∃ S : ByteArray, S = ⟨s.toArray⟩ := ⟨_, rfl⟩
  have hSz : S.size < 4294967281 := by rw [hS]; show s.toArray.size < _; simp; omega
  rw [← hS] at hl hk hlen
  have hspl : ∀ W, MX W m → Hid (Calls Tryz.prog 64 #[.string S, .string ⟨#[32]⟩] W fun e w' => e = .returned (.slice (some ⟨W.heap.size, 0, none⟩) 3 3) ∧ w' = W.alloc (.cells #[.string M, .string T, .string V] 9)) := fun W hW => by
    have := Tryz.strings_Split S ⟨#[32]⟩ m W hSz hW (by decide)
    rw [hk, ← hlen] at this
    exact this
  have hal := fun W => Lib.hid (all_cap M W (by omega))
  rw [decide_eq_true (hVv.2 hv)] at hVl
  have hbad := Lib.hid (hst.trans (if_pos (.inr (.inr (.inl hz2)))))
  have z1 : ¬ (M.size : Int) < 1 := by omega
  have z2 : (16 : Int) < (M.size : Int) := by omega
  clear hv hz2
  replace hp := Lib.hid hp
  clear hs1 hs2 hs3 hs4 hS hSz hi hlen hk hVv hst hMl
  go_enter Tryz.func35, Tryz.ntmps35
  go_wp2_with (first
    | (go_at_call 66; refine (wrong_any R bw 400 _ _ h2).mono ?_; rintro e w4 ⟨rfl, h4, g4⟩)
    | (go_at_call 64; refine ((hspl _ (hm.grown g1 hR0)).out).mono ?_; rintro e w2 ⟨rfl, hw2⟩; obtain ⟨x0, x1, x2⟩ := cells_three w1 M T V; rw [← hw2] at x0 x1 x2; have h2 := h1.alloc (.cells #[.string M, .string T, .string V] 9); rw [← hw2] at h2; have g2 : w.grownBy w2 (some R) := (by rw [hw2]; exact gb_alloc g1 _); have hm2 := hm.grown g2 hR0; have hg1 := g1.size; have hz2 : w2.heap.size = w1.heap.size + 1 := (by rw [hw2]; simp); clear hw2 g1 h1)
    | (go_at_call 63; refine (hl.out).mono ?_; rintro e w1 ⟨rfl, h1, g1⟩))
  go_ret
  exact SK.wrong hp.out hbad.out { σ with i := σ.i + n, st := 400 } rfl ⟨rfl, h4, gb_trans g2 g4⟩
set_option maxRecDepth 100000 in
set_option maxHeartbeats 6400000 in
theorem start_small (R : Nat) (bw : Value) (bs : Bs) (σ : RS) (m : Int) (w : World) (h : RB w R bw σ) (hB : RV w R bw bs) (hm : MX w m) (hi : σ.i ≤ bs.length) (hl : bs.length ≤ 2000000) (hR0 : some 0 ≠ some R) (s : Bs) (n : Nat) (hp : lineP (bs.drop σ.i) = .got s n)
    (M T V : ByteArray) (hk : Lib.splitB ⟨#[32]⟩ 0 (Lib.countB ⟨s.toArray⟩ ⟨#[32]⟩) ⟨s.toArray⟩ = [M, T, V]) (hv : V.data.toList = vers) (hz : ¬ M.data.toList.length < 1) (hz2 : ¬ 16 < M.data.toList.length) (hc : M.data.toList.all capB = false) :
    Calls Tryz.prog 35 #[.pointer (some ⟨R, 0, none⟩)] w (SK R bw w bs σ) := by
  have hl := line_any R bw bs σ m w h hB hm hi hl
  unfold LK at hl
  rw [hp] at hl
  dsimp only at hl
  replace hl := Lib.hid hl
  have hst := start_three hk
  obtain ⟨hs1, hs2, hs3, hs4⟩ := lineP_got hp
  obtain ⟨hMz, hTz, hVz⟩ := part_size hk hs2
  have hlen := split_len3 ⟨s.toArray⟩
  rw [hk] at hlen
  have hMl : M.data.toList.length = M.size := Array.length_toList
  have hVl : (V.toList == [72, 84, 84, 80, 47, 49, 46, 49]) = decide (V = ⟨#[72, 84, 84, 80, 47, 49, 46, 49]⟩) := by
    have := ba_beq V ⟨#[72, 84, 84, 80, 47, 49, 46, 49]⟩
    rw [Lib.toList_data ⟨#[72, 84, 84, 80, 47, 49, 46, 49]⟩] at this
    exact this
  have hVv : V = ⟨#[72, 84, 84, 80, 47, 49, 46, 49]⟩ ↔ V.data.toList = vers := ⟨fun e => by rw [e]; rfl, fun e => ByteArray.ext (Array.toList_inj.1 (by rw [e]; rfl))⟩
  obtain ⟨S, hS⟩ : ∃ S : ByteArray, S = ⟨s.toArray⟩ := ⟨_, rfl⟩
  have hSz : S.size < 4294967281 := by rw [hS]; show s.toArray.size < _; simp; omega
  rw [← hS] at hl hk hlen
  have hspl : ∀ W, MX W m → Hid (Calls Tryz.prog 64 #[.string S, .string ⟨#[32]⟩] W fun e w' => e = .returned (.slice (some ⟨W.heap.size, 0, none⟩) 3 3) ∧ w' = W.alloc (.cells #[.string M, .string T, .string V] 9)) := fun W hW => by
    have := Tryz.strings_Split S ⟨#[32]⟩ m W hSz hW (by decide)
    rw [hk, ← hlen] at this
    exact this
  have hal := fun W => Lib.hid (all_cap M W (by omega))
  rw [decide_eq_true (hVv.2 hv)] at hVl
  have hbad := Lib.hid (hst.trans (if_pos (.inr (.inr (.inr hc)))))
  have z1 : ¬ (M.size : Int) < 1 := by omega
  have z2 : ¬ (16 : Int) < (M.size : Int) := by omega
  rw [hc] at hal
  clear hv hz hz2 hc
  replace hp := Lib.hid hp
  clear hs1 hs2 hs3 hs4 hS hSz hi hlen hk hVv hst hMl
  go_enter Tryz.func35, Tryz.ntmps35
  go_wp2_with (first
    | (go_at_call 38; refine ((hal _).out).mono ?_; rintro e w3 ⟨rfl, hw3⟩; rw [hw3]; clear hw3)
    | (go_at_call 66; refine (wrong_any R bw 400 _ _ h2).mono ?_; rintro e w4 ⟨rfl, h4, g4⟩)
    | (go_at_call 64; refine ((hspl _ (hm.grown g1 hR0)).out).mono ?_; rintro e w2 ⟨rfl, hw2⟩; obtain ⟨x0, x1, x2⟩ := cells_three w1 M T V; rw [← hw2] at x0 x1 x2; have h2 := h1.alloc (.cells #[.string M, .string T, .string V] 9); rw [← hw2] at h2; have g2 : w.grownBy w2 (some R) := (by rw [hw2]; exact gb_alloc g1 _); have hm2 := hm.grown g2 hR0; have hg1 := g1.size; have hz2 : w2.heap.size = w1.heap.size + 1 := (by rw [hw2]; simp); clear hw2 g1 h1)
    | (go_at_call 63; refine (hl.out).mono ?_; rintro e w1 ⟨rfl, h1, g1⟩))
  go_ret
  exact SK.wrong hp.out hbad.out { σ with i := σ.i + n, st := 400 } rfl ⟨rfl, h4, gb_trans g2 g4⟩
set_option maxRecDepth 100000 in
set_option maxHeartbeats 6400000 in
theorem start_target (R : Nat) (bw : Value) (bs : Bs) (σ : RS) (m : Int) (w : World) (h : RB w R bw σ) (hB : RV w R bw bs) (hm : MX w m) (hi : σ.i ≤ bs.length) (hl : bs.length ≤ 2000000) (hR0 : some 0 ≠ some R) (s : Bs) (n : Nat) (hp : lineP (bs.drop σ.i) = .got s n)
    (M T V : ByteArray) (hk : Lib.splitB ⟨#[32]⟩ 0 (Lib.countB ⟨s.toArray⟩ ⟨#[32]⟩) ⟨s.toArray⟩ = [M, T, V]) (hv : V.data.toList = vers) (hz : ¬ M.data.toList.length < 1) (hz2 : ¬ 16 < M.data.toList.length) (hc : M.data.toList.all capB = true) (ht : tgtP T.data.toList = none) :
    Calls Tryz.prog 35 #[.pointer (some ⟨R, 0, none⟩)] w (SK R bw w bs σ) := by
  have hl := line_any R bw bs σ m w h hB hm hi hl
  unfold LK at hl
  rw [hp] at hl
  dsimp only at hl
  replace hl := Lib.hid hl
  have hst := start_three hk
  obtain ⟨hs1, hs2, hs3, hs4⟩ := lineP_got hp
  obtain ⟨hMz, hTz, hVz⟩ := part_size hk hs2
  have hlen := split_len3 ⟨s.toArray⟩
  rw [hk] at hlen
  have hMl : M.data.toList.length = M.size := Array.length_toList
  have hVl : (V.toList == [72, 84, 84, 80, 47, 49, 46, 49]) = decide (V = ⟨#[72, 84, 84, 80, 47, 49, 46, 49]⟩) := by
    have := ba_beq V ⟨#[72, 84, 84, 80, 47, 49, 46, 49]⟩
    rw [Lib.toList_data ⟨#[72, 84, 84, 80, 47, 49, 46, 49]⟩] at this
    exact this
  have hVv : V = ⟨#[72, 84, 84, 80, 47, 49, 46, 49]⟩ ↔ V.data.toList = vers := ⟨fun e => by rw [e]; rfl, fun e => ByteArray.ext (Array.toList_inj.1 (by rw [e]; rfl))⟩
  obtain ⟨S, hS⟩ : ∃ S : ByteArray, S = ⟨s.toArray⟩ := ⟨_, rfl⟩
  have hSz : S.size < 4294967281 := by rw [hS]; show s.toArray.size < _; simp; omega
  rw [← hS] at hl hk hlen
  have hspl : ∀ W, MX W m → Hid (Calls Tryz.prog 64 #[.string S, .string ⟨#[32]⟩] W fun e w' => e = .returned (.slice (some ⟨W.heap.size, 0, none⟩) 3 3) ∧ w' = W.alloc (.cells #[.string M, .string T, .string V] 9)) := fun W hW => by
    have := Tryz.strings_Split S ⟨#[32]⟩ m W hSz hW (by decide)
    rw [hk, ← hlen] at this
    exact this
  have hal := fun W => Lib.hid (all_cap M W (by omega))
  rw [decide_eq_true (hVv.2 hv)] at hVl
  have hgood := hst.trans (if_neg (by rintro (e | e | e | e); exact e hv; exact hz e; exact hz2 e; rw [hc] at e; cases e))
  have z1 : ¬ (M.size : Int) < 1 := by omega
  have z2 : ¬ (16 : Int) < (M.size : Int) := by omega
  rw [hc] at hal
  have htg : ∀ W, MX W m → Calls Tryz.prog 21 #[.string T] W (TK T.data.toList W) := fun W hW => target_any T m W hW
  unfold TK at htg
  clear hv hz hz2 hc
  rw [ht] at hgood
  have hbad := Lib.hid (show startP s = none from hgood)
  rw [ht] at htg
  have htg := fun W hW => Lib.hid (htg W hW)
  clear ht hgood
  replace hp := Lib.hid hp
  clear hs1 hs2 hs3 hs4 hS hSz hi hlen hk hVv hst hMl
  go_enter Tryz.func35, Tryz.ntmps35
  go_wp2_with (first
    | (go_at_call 21; refine ((htg _ hm2).out).mono ?_; rintro e w3 ⟨rfl, g3⟩; have h3 := h2.kept g3 (by simp))
    | (go_at_call 38; refine ((hal _).out).mono ?_; rintro e w3 ⟨rfl, hw3⟩; rw [hw3]; clear hw3)
    | (go_at_call 66; refine (wrong_any R bw 400 _ _ h3).mono ?_; rintro e w4 ⟨rfl, h4, g4⟩)
    | (go_at_call 64; refine ((hspl _ (hm.grown g1 hR0)).out).mono ?_; rintro e w2 ⟨rfl, hw2⟩; obtain ⟨x0, x1, x2⟩ := cells_three w1 M T V; rw [← hw2] at x0 x1 x2; have h2 := h1.alloc (.cells #[.string M, .string T, .string V] 9); rw [← hw2] at h2; have g2 : w.grownBy w2 (some R) := (by rw [hw2]; exact gb_alloc g1 _); have hm2 := hm.grown g2 hR0; have hg1 := g1.size; have hz2 : w2.heap.size = w1.heap.size + 1 := (by rw [hw2]; simp); clear hw2 g1 h1)
    | (go_at_call 63; refine (hl.out).mono ?_; rintro e w1 ⟨rfl, h1, g1⟩))
  go_ret
  exact SK.wrong hp.out hbad.out { σ with i := σ.i + n, st := 400 } rfl ⟨rfl, h4, gb_trans (gb_trans g2 (gb_row g3 _)) g4⟩
set_option maxRecDepth 100000 in
set_option maxHeartbeats 6400000 in
theorem start_good (R : Nat) (bw : Value) (bs : Bs) (σ : RS) (m : Int) (w : World) (h : RB w R bw σ) (hB : RV w R bw bs) (hm : MX w m) (hi : σ.i ≤ bs.length) (hl : bs.length ≤ 2000000) (hR0 : some 0 ≠ some R) (s : Bs) (n : Nat) (hp : lineP (bs.drop σ.i) = .got s n)
    (M T V : ByteArray) (hk : Lib.splitB ⟨#[32]⟩ 0 (Lib.countB ⟨s.toArray⟩ ⟨#[32]⟩) ⟨s.toArray⟩ = [M, T, V]) (hv : V.data.toList = vers) (hz : ¬ M.data.toList.length < 1) (hz2 : ¬ 16 < M.data.toList.length) (hc : M.data.toList.all capB = true) (P : Bs) (Q : List (Bs × Bs)) (ht : tgtP T.data.toList = some (P, Q)) :
    Calls Tryz.prog 35 #[.pointer (some ⟨R, 0, none⟩)] w (SK R bw w bs σ) := by
  have hl := line_any R bw bs σ m w h hB hm hi hl
  unfold LK at hl
  rw [hp] at hl
  dsimp only at hl
  replace hl := Lib.hid hl
  have hst := start_three hk
  obtain ⟨hs1, hs2, hs3, hs4⟩ := lineP_got hp
  obtain ⟨hMz, hTz, hVz⟩ := part_size hk hs2
  have hlen := split_len3 ⟨s.toArray⟩
  rw [hk] at hlen
  have hMl : M.data.toList.length = M.size := Array.length_toList
  have hVl : (V.toList == [72, 84, 84, 80, 47, 49, 46, 49]) = decide (V = ⟨#[72, 84, 84, 80, 47, 49, 46, 49]⟩) := by
    have := ba_beq V ⟨#[72, 84, 84, 80, 47, 49, 46, 49]⟩
    rw [Lib.toList_data ⟨#[72, 84, 84, 80, 47, 49, 46, 49]⟩] at this
    exact this
  have hVv : V = ⟨#[72, 84, 84, 80, 47, 49, 46, 49]⟩ ↔ V.data.toList = vers := ⟨fun e => by rw [e]; rfl, fun e => ByteArray.ext (Array.toList_inj.1 (by rw [e]; rfl))⟩
  obtain ⟨S, hS⟩ : ∃ S : ByteArray, S = ⟨s.toArray⟩ := ⟨_, rfl⟩
  have hSz : S.size < 4294967281 := by rw [hS]; show s.toArray.size < _; simp; omega
  rw [← hS] at hl hk hlen
  have hspl : ∀ W, MX W m → Hid (Calls Tryz.prog 64 #[.string S, .string ⟨#[32]⟩] W fun e w' => e = .returned (.slice (some ⟨W.heap.size, 0, none⟩) 3 3) ∧ w' = W.alloc (.cells #[.string M, .string T, .string V] 9)) := fun W hW => by
    have := Tryz.strings_Split S ⟨#[32]⟩ m W hSz hW (by decide)
    rw [hk, ← hlen] at this
    exact this
  have hal := fun W => Lib.hid (all_cap M W (by omega))
  rw [decide_eq_true (hVv.2 hv)] at hVl
  have hgood := hst.trans (if_neg (by rintro (e | e | e | e); exact e hv; exact hz e; exact hz2 e; rw [hc] at e; cases e))
  have z1 : ¬ (M.size : Int) < 1 := by omega
  have z2 : ¬ (16 : Int) < (M.size : Int) := by omega
  rw [hc] at hal
  have htg : ∀ W, MX W m → Calls Tryz.prog 21 #[.string T] W (TK T.data.toList W) := fun W hW => target_any T m W hW
  unfold TK at htg
  clear hv hz hz2 hc
  rw [ht] at hgood
  have hgood := Lib.hid (show startP s = some (M.data.toList, P, Q) from hgood)
  rw [ht] at htg
  have htg := fun W hW => Lib.hid (htg W hW)
  clear ht
  obtain ⟨PB, hPB⟩ : ∃ PB : ByteArray, PB = ⟨P.toArray⟩ := ⟨_, rfl⟩
  dsimp only at htg
  rw [← hPB] at htg
  replace hPB := Lib.hid hPB
  have hRlt := h.lt
  replace hp := Lib.hid hp
  clear hs1 hs2 hs3 hs4 hS hSz hi hlen hk hVv hst hMl
  go_enter Tryz.func35, Tryz.ntmps35
  go_wp2_with (first
    | (go_at_call 21; refine ((htg _ hm2).out).mono ?_; rintro e w3 ⟨v, rfl, o3, g3⟩; obtain ⟨A3, c3, rfl⟩ := row_shape o3; have h3 := h2.kept g3 (by simp); have y0 := cell_grown x0 g3 (by simp); have f2 := h3.f 2; have f3 := h3.f 3; have f4 := h3.f 4; have k2 := h3.c2; have k3 := h3.c3; have k4 := h3.c4; have h6 := Lib.hid (((h3.set2 M).set3 PB).set4 (.slice A3 Q.length c3)); have hne : w1.heap.size ≠ R := (by omega))
    | (go_at_call 38; refine ((hal _).out).mono ?_; rintro e w3 ⟨rfl, hw3⟩; rw [hw3]; clear hw3)
    | (go_at_call 64; refine ((hspl _ (hm.grown g1 hR0)).out).mono ?_; rintro e w2 ⟨rfl, hw2⟩; obtain ⟨x0, x1, x2⟩ := cells_three w1 M T V; rw [← hw2] at x0 x1 x2; have h2 := h1.alloc (.cells #[.string M, .string T, .string V] 9); rw [← hw2] at h2; have g2 : w.grownBy w2 (some R) := (by rw [hw2]; exact gb_alloc g1 _); have hm2 := hm.grown g2 hR0; have hg1 := g1.size; have hz2 : w2.heap.size = w1.heap.size + 1 := (by rw [hw2]; simp); clear hw2 g1 h1)
    | (go_at_call 63; refine (hl.out).mono ?_; rintro e w1 ⟨rfl, h1, g1⟩))
  go_ret
  have hown := (((o3.kept (gb_setR (gb_refl w3 (some R)) 2 (.string M)) (own_ne' o3 (by omega))).kept (gb_setR (gb_refl _ (some R)) 3 (.string PB)) (own_ne' o3 (by omega))).kept (gb_setR (gb_refl _ (some R)) 4 (.slice A3 Q.length c3)) (own_ne' o3 (by omega)))
  refine SK.good hp.out hgood.out (.slice A3 Q.length c3) (own_base hown (by omega)) ⟨rfl, ?_, gb_setR (gb_setR (gb_setR (gb_trans g2 (gb_row g3 _)) _ _) _ _) _ _⟩
  rw [← hPB.out]
  exact h6.out
/-- the first line -/
theorem start_any (R : Nat) (bw : Value) (bs : Bs) (σ : RS) (m : Int) (w : World) (h : RB w R bw σ) (hB : RV w R bw bs) (hm : MX w m) (hi : σ.i ≤ bs.length) (hl : bs.length ≤ 2000000) (hR0 : some 0 ≠ some R) :
    Calls Tryz.prog 35 #[.pointer (some ⟨R, 0, none⟩)] w (SK R bw w bs σ) := by
  cases hp : lineP (bs.drop σ.i) with
  | more => exact start_line R bw bs σ m w h hB hm hi hl (fun s n e => by rw [hp] at e; cases e)
  | bad => exact start_line R bw bs σ m w h hB hm hi hl (fun s n e => by rw [hp] at e; cases e)
  | got s n =>
    by_cases hk : Lib.countB ⟨s.toArray⟩ ⟨#[32]⟩ + 1 = 3
    · have hlen := split_len3 ⟨s.toArray⟩
      rw [hk] at hlen
      obtain ⟨M, T, V, hk⟩ : ∃ M T V, Lib.splitB ⟨#[32]⟩ 0 (Lib.countB ⟨s.toArray⟩ ⟨#[32]⟩) ⟨s.toArray⟩ = [M, T, V] := by
        generalize Lib.splitB ⟨#[32]⟩ 0 (Lib.countB ⟨s.toArray⟩ ⟨#[32]⟩) ⟨s.toArray⟩ = l at hlen
        rcases l with _ | ⟨a, _ | ⟨b, _ | ⟨c, _ | ⟨d, l⟩⟩⟩⟩ <;> simp at hlen
        exact ⟨a, b, c, rfl⟩
      by_cases hv : V.data.toList = vers
      · by_cases hz : M.data.toList.length < 1
        · exact start_empty R bw bs σ m w h hB hm hi hl hR0 s n hp M T V hk hv hz
        · by_cases hz2 : 16 < M.data.toList.length
          · exact start_long R bw bs σ m w h hB hm hi hl hR0 s n hp M T V hk hv hz2
          · cases hc : M.data.toList.all capB with
            | false => exact start_small R bw bs σ m w h hB hm hi hl hR0 s n hp M T V hk hv hz hz2 hc
            | true =>
              cases ht : tgtP T.data.toList with
              | none => exact start_target R bw bs σ m w h hB hm hi hl hR0 s n hp M T V hk hv hz hz2 hc ht
              | some x => exact start_good R bw bs σ m w h hB hm hi hl hR0 s n hp M T V hk hv hz hz2 hc x.1 x.2 ht
      · exact start_vers R bw bs σ m w h hB hm hi hl hR0 s n hp M T V hk hv
    · exact start_parts R bw bs σ m w h hB hm hi hl hR0 s n hp hk
end Go.Proofs.YtdfgnoflohfnmaaGreatDoor.Hx
