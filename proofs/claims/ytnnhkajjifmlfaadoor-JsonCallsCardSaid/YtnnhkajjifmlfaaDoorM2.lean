/- json.Map (30): the walk. -/
import Derived.Test.YtnnhkajjifmlfaaDoorM1
namespace Go.Proofs.YtnnhkajjifmlfaaDoor
open Go.RowKit Go.Maps Go.Lib
/-- slices.Clone over names -/
theorem clone_strs (names : List ByteArray) (n : Nat) (A : Option Addr) (c : Nat) (S : Nat → Prop) (w : World) (hn : n ≤ names.length) (hl : names.length ≤ 100) (hu : StrsAt w S (.slice A names.length c) names) :
    Calls Tryd.prog 61 #[.slice A n c] w fun e w' => ∃ A1 n1 c1, e = .returned (.slice A1 n1 c1) ∧ w'.ownsRow w.heap.size 9 1 (.slice A1 n1 c1) n ((names.take n).map Value.string) ∧ w.grownBy w' none := by
  obtain ⟨A0, c0, e0, hc, hA⟩ := hu
  simp only [Value.slice.injEq, true_and] at e0
  obtain ⟨rfl, rfl⟩ := e0
  have shp : ∀ {w' : World} {v' : Value} {xs : List Value}, w'.ownsRow w.heap.size 9 1 v' n xs → ∃ A1 n1 c1, v' = .slice A1 n1 c1 := fun h => by
    rcases h.2 with ⟨rfl, _⟩ | ⟨g, cap, cur, rfl, _⟩ <;> exact ⟨_, _, _, rfl⟩
  by_cases h0 : n = 0
  · subst h0
    cases A with
    | none =>
      refine (Tryd.slices_Clone_string_nil 0 c w).mono ?_
      rintro e w' ⟨rfl, rfl⟩
      exact ⟨none, 0, 0, rfl, by simpa using World.ownsRow_nil _ _ _ _, gb_refl _ _⟩
    | some a =>
      refine (Tryd.slices_Clone_string_zero a c w).mono ?_
      rintro e w' ⟨v', rfl, ho, _, hb⟩
      obtain ⟨A1, n1, c1, rfl⟩ := shp ho
      exact ⟨A1, n1, c1, rfl, by simpa using ho, gb_of_below hb⟩
  · obtain ⟨b, o, rfl, _, hcA⟩ := hA (by omega)
    refine (Tryd.slices_Clone_string b o n c names w hn (by omega) (fun j hj => by rw [getD_strs hj]; exact hcA j hj)).mono ?_
    rintro e w' ⟨v', rfl, ho, _, hb⟩
    obtain ⟨A1, n1, c1, rfl⟩ := shp ho
    exact ⟨A1, n1, c1, rfl, ho, gb_of_below hb⟩
/-- a list's cells -/
theorem flat_of {w : World} {S : Nat → Prop} {list : List J} {b o : Nat} {V : Nat → Value}
    (hcell : ∀ i, i < list.length → ∃ a0 a1 a2 a3 a4, V i = .agg #[a0, a1, a2, a3, a4] ∧ w.cell? ⟨b, o + i * 5, none⟩ = some a0 ∧ w.cell? ⟨b, o + i * 5 + 1, none⟩ = some a1 ∧ w.cell? ⟨b, o + i * 5 + 2, none⟩ = some a2 ∧ w.cell? ⟨b, o + i * 5 + 3, none⟩ = some a3 ∧ w.cell? ⟨b, o + i * 5 + 4, none⟩ = some a4)
    (hrec : ∀ i (h : i < list.length), JAt w S list[i] (V i)) : ∀ n, n ≤ list.length → ∃ xs : List Value, Flat w S (list.take n) xs ∧ xs.length = n * 5 ∧ (∀ (j : Nat) (u : Value), xs[j]? = some u → w.cell? ⟨b, o + j, none⟩ = some u) ∧ (∀ u ∈ xs, u.oneCell' = true)
  | 0, _ => ⟨[], by simp [Flat], rfl, fun j u h => by simp at h, fun u h => by cases h⟩
  | n + 1, hn => by
    obtain ⟨xs, h1, h2, h3, h4⟩ := flat_of hcell hrec n (by omega)
    obtain ⟨a0, a1, a2, a3, a4, hV, c0, c1, c2, c3, c4⟩ := hcell n (by omega)
    have hj := hrec n (by omega)
    rw [hV] at hj
    refine ⟨xs ++ [a0, a1, a2, a3, a4], by rw [← take_snoc list n (by omega)]; exact Flat.snoc hj h1, by simp [h2]; omega, fun j u hu => ?_, fun u hu => ?_⟩
    · rcases Nat.lt_or_ge j xs.length with hlt | hge
      · rw [List.getElem?_append_left hlt] at hu; exact h3 j u hu
      · rw [List.getElem?_append_right hge] at hu
        obtain ⟨d, rfl⟩ : ∃ d, j = n * 5 + d := ⟨j - n * 5, by omega⟩
        rw [show n * 5 + d - xs.length = d by omega] at hu
        match d, hu with
        | 0, hu => injection hu with hu; subst hu; exact c0
        | 1, hu => injection hu with hu; subst hu; exact c1
        | 2, hu => injection hu with hu; subst hu; exact c2
        | 3, hu => injection hu with hu; subst hu; exact c3
        | 4, hu => injection hu with hu; subst hu; exact c4
        | d + 5, hu => simp at hu
    · rcases List.mem_append.1 hu with h | h
      · exact h4 u h
      · obtain ⟨xk, xn, xt, X1, x1, y1, X2, x2, y2, rfl, rfl, rfl, rfl, rfl⟩ := hj.shape
        simp only [List.mem_cons, List.not_mem_nil, or_false] at h
        rcases h with rfl | rfl | rfl | rfl | rfl <;> simp [Value.oneCell']
set_option maxHeartbeats 1000000 in
/-- slices.Clone over no values, of a slice that is not nil -/
theorem clone_zero (a : Addr) (c : Nat) (w : World) :
    Calls Tryd.prog 62 #[.slice (some a) 0 c] w fun e w' => ∃ A1 n1 c1, e = .returned (.slice A1 n1 c1) ∧ w'.ownsRow w.heap.size 26 5 (.slice A1 n1 c1) 0 [] ∧ w.grownBy w' none := by
  obtain ⟨i0, hi0, hz0, hz1, hz2⟩ := info_parts info26
  have q22 : ∀ (w : World) (n c n' c' : Nat), (Go.binOp .eql 24 (.slice (some a) n c) (.slice none n' c')).run Tryd.prog w = .ok (.bool false) w := fun w n c n' c' => Lib.run_eql_slice_nil w _ _ (some a) n c n' c' Tryd.underlying24
  go_enter Tryd.func62, Tryd.ntmps62
  go_wp2_with (at_builtin; refine wpList_append_own _ rfl _ _ 24 rfl w.heap.size 26 i0 _ 5 80 Tryd.underlying24 hi0 hz0 hz1 hz2 rfl (by omega) _ _ _ rfl (World.ownsRow_made w #[] 0 (Nat.le_refl _) (Nat.zero_le _) (by simp)) a 0 c [] rfl (by simp) (by simp) (by simp) (by unfold maxLen; omega) (by omega) (by simp) ?_; intro v' w1 hown hgrow hnil)
  go_ret
  rcases hown.2 with ⟨rfl, _⟩ | ⟨g, cap, cur, rfl, _⟩
  · exact ⟨_, _, _, rfl, hown, gb_more (gb_alloc (gb_refl _ _) _) hgrow (by intro k hk; cases hk; exact .inr (Nat.le_refl _))⟩
  · exact ⟨_, _, _, rfl, hown, gb_more (gb_alloc (gb_refl _ _) _) hgrow (by intro k hk; cases hk; exact .inr (Nat.le_refl _))⟩
/-- slices.Clone over values -/
theorem clone_js (list : List J) (n : Nat) (A : Option Addr) (c : Nat) (S : Nat → Prop) (w : World) (hn : n ≤ list.length) (hl : list.length ≤ 100) (hS : ∀ b, S b → b < w.heap.size) (hu : LAt w S list (.slice A list.length c)) :
    Calls Tryd.prog 62 #[.slice A n c] w fun e w' => ∃ A1 n1 c1 xs, e = .returned (.slice A1 n1 c1) ∧ w'.ownsRow w.heap.size 26 5 (.slice A1 n1 c1) n xs ∧ Flat w' S (list.take n) xs ∧ w.grownBy w' none := by
  obtain ⟨A0, c0, b, o, V, e0, hc, ha, hcell, hrec⟩ := hu
  simp only [Value.slice.injEq, true_and] at e0
  obtain ⟨rfl, rfl⟩ := e0
  obtain ⟨i0, hi0, hz0, hz1, hz2⟩ := info_parts info26
  have shp : ∀ {w' : World} {v' : Value} {xs : List Value}, w'.ownsRow w.heap.size 26 5 v' n xs → ∃ A1 n1 c1, v' = .slice A1 n1 c1 := fun h => by
    rcases h.2 with ⟨rfl, _⟩ | ⟨g, cap, cur, rfl, _⟩ <;> exact ⟨_, _, _, rfl⟩
  have main : ∀ (b o : Nat) (xs : List Value), A = some ⟨b, o, none⟩ → Flat w S (list.take n) xs → xs.length = n * 5 → (∀ (j : Nat) (u : Value), xs[j]? = some u → w.cell? ⟨b, o + j, none⟩ = some u) → (∀ u ∈ xs, u.oneCell' = true) →
      Calls Tryd.prog 62 #[.slice A n c] w fun e w' => ∃ A1 n1 c1 xs, e = .returned (.slice A1 n1 c1) ∧ w'.ownsRow w.heap.size 26 5 (.slice A1 n1 c1) n xs ∧ Flat w' S (list.take n) xs ∧ w.grownBy w' none := by
    intro b o xs hA h1 h2 h3 h4
    subst hA
    refine (Tryd.slices_CloneJ i0 _ 5 80 hi0 hz0 hz1 hz2 rfl (by omega) Tryd.sizeOf26 b o n c xs w h2 (by unfold maxLen; omega) (by omega) h3 h4).mono ?_
    rintro e w' ⟨v', rfl, ho, _, hb⟩
    obtain ⟨A1, n1, c1, rfl⟩ := shp ho
    have hg := gb_of_below hb
    exact ⟨A1, n1, c1, xs, rfl, ho, h1.keep (fun b hb => hg.block b (hS b hb) (by simp)) (fun _ => id), hg⟩
  cases hA : A with
  | none =>
    by_cases h0 : n = 0
    · subst h0
      refine (Tryd.slices_CloneJ_nil 0 c w).mono ?_
      rintro e w' ⟨rfl, rfl⟩
      exact ⟨none, 0, 0, [], rfl, World.ownsRow_nil _ _ _ _, by simp [Flat], gb_refl _ _⟩
    · have := (ha (by omega)).1
      rw [hA] at this; cases this
  | some a =>
    by_cases h0 : n = 0
    · subst h0
      refine (clone_zero a c w).mono ?_
      rintro e w' ⟨A1, n1, c1, rfl, ho, hg⟩
      exact ⟨A1, n1, c1, [], rfl, ho, by simp [Flat], hg⟩
    · have h5 := (ha (by omega)).1
      obtain ⟨xs, h1, h2, h3, h4⟩ := flat_of hcell hrec n hn
      rw [← hA]
      exact main b o xs h5 h1 h2 h3 h4
set_option maxRecDepth 100000 in
set_option maxHeartbeats 3200000 in
theorem map_any (names : List ByteArray) (list : List J) (S : Nat → Prop) (u v : Value) (w : World) (hnl : names.length ≤ 100) (hll : list.length ≤ 100) (hS : ∀ b, S b → b < w.heap.size) (hu : StrsAt w S u names) (hv : LAt w S list v) :
    Calls Tryd.prog 30 #[u, v] w (MapE w S (mapP names list)) := by
  have hu0 := hu
  have hv0 := hv
  obtain ⟨A, c, rfl, hcA, hA⟩ := hu
  obtain ⟨A', c', b', o', V', rfl, hc', hA', hcl', hrc'⟩ := hv
  clear hA hA' hcl' hrc'
  have hm1 : min names.length list.length ≤ names.length := Nat.min_le_left _ _
  have hm2 : min names.length list.length ≤ list.length := Nat.min_le_right _ _
  have hP : Hid (mapP names list = .mk 6 0 ⟨#[]⟩ (names.take (min names.length list.length)) (list.take (min names.length list.length))) := rfl
  have hmI : min (names.length : Int) (list.length : Int) = ((min names.length list.length : Nat) : Int) := by omega
  have hle1 : (names.take (min names.length list.length)).length = min names.length list.length := by simp
  have hle2 : (list.take (min names.length list.length)).length = min names.length list.length := by simp
  have HN := fun (W : World) (hgW : w.grownBy W none) => Lib.hid (clone_strs names (min names.length list.length) A c S W hm1 hnl (hu0.keep (fun b hb => hgW.block b (hS b hb) (by simp)) (fun _ => id)))
  have HL := fun (W : World) (hgW : w.grownBy W none) => Lib.hid (clone_js list (min names.length list.length) A' c' S W hm2 hll (fun b hb => Nat.lt_of_lt_of_le (hS b hb) hgW.size) (hv0.keep (fun b hb => hgW.block b (hS b hb) (by simp)) (fun _ => id)))
  have JZ := JB.new w (.int .i64 0) (.int .i64 0) (.string ⟨#[]⟩) (.slice none 0 0) (.slice none 0 0)
  have hgw : w.grownBy (w.alloc (.cells #[.int .i64 0, .int .i64 0, .string ⟨#[]⟩, .slice none 0 0, .slice none 0 0] 26)).drew none := gb_drew (gb_alloc (gb_refl w none) _)
  have hb1 : min names.length list.length ≤ c := by omega
  have hb2 : min names.length list.length ≤ c' := by omega
  have hb0 : (0 : Int) ≤ ((min names.length list.length : Nat) : Int) := by omega
  have hJl : names.take (min names.length list.length) = names.take (min names.length list.length) := rfl
  clear hu0 hv0
  generalize hT1 : names.take (min names.length list.length) = T1 at *
  generalize hT2 : list.take (min names.length list.length) = T2 at *
  generalize hm : min names.length list.length = m at *
  clear hm hT1 hT2 hJl
  go_enter Tryd.func30, Tryd.ntmps30
  go_wp2_with fail
  go_region_law (first
    | (go_simp; go_at_call 61; refine ((HN _ (by exact hgw)).out).mono ?_; rintro e w2 ⟨A1, n1, c1, rfl, ho1, hg1⟩; have JZ2 := (JZ.drew).kept hg1 (by simp); have hgx := gb_trans hgw hg1)
    | (go_simp; go_at_call 62; refine ((HL _ (by exact hgx)).out).mono ?_; rintro e w3 ⟨A2, n2, c2, xs, rfl, ho2, hF, hg2⟩; have JZ3 := JZ2.kept hg2 (by simp); obtain ⟨r0, r1, r2, r3, r4, rf⟩ := JZ3.all))
  all_goals go_wp2_with fail
  all_goals
    have JZ4 := JZ3.put5 (.int .i64 6) (.int .i64 0) (.string ⟨#[]⟩) (.slice A1 n1 c1) (.slice A2 n2 c2)
    obtain ⟨q0, q1, q2, q3, q4, qf⟩ := JZ4.all
    unfold put5 at q0 q1 q2 q3 q4
    refine bodyPost_ret (v := .agg #[.int .i64 6, .int .i64 0, .string ⟨#[]⟩, .slice A1 n1 c1, .slice A2 n2 c2]) (by simp [results, Tryd.results30, go_sem, q0, q1, q2, q3, q4]) rfl ?_
    rw [hP.out]
    have hgz := gb_trans hgx hg2
    have ho3 := ho1.kept hg2 (by cases e : (Value.slice A1 n1 c1).ownBlock <;> simp)
    have hz2 := hgx.size
    rw [← hle1] at ho3
    rw [← hle2] at ho2
    have hV : JAt w3 (fun b => S b ∨ (w.heap.size + 1 ≤ b ∧ b < w3.heap.size)) (.mk 6 0 ⟨#[]⟩ T1 T2) (.agg #[.int .i64 6, .int .i64 0, .string ⟨#[]⟩, .slice A1 n1 c1, .slice A2 n2 c2]) :=
      JAt.of_own ho3 ho2 hF (fun b hb => .inl hb) (fun g hg => .inr (by have := ho3.lt g hg; simp at this; omega)) (fun g hg => .inr (by have := ho2.lt g hg; have h9 := JZ2.lt; omega))
    refine ⟨_, rfl, hV.keep (fun b hb => put5_heap (by rcases hb with hb | hb <;> first | (have := hS b hb; omega) | omega) _ _ _ _ _) (fun b hb => ?_), gb_put5 hgz (Nat.le_refl _) _ _ _ _ _⟩
    rcases hb with hb | hb
    · exact .inl hb
    · exact .inr ⟨by omega, by show b < (put5 w3 w.heap.size _ _ _ _ _).heap.size; rw [put5_size]; exact hb.2⟩
end Go.Proofs.YtnnhkajjifmlfaaDoor
