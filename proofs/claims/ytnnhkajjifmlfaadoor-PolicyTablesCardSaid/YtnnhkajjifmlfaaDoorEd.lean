/- Policies: does a node hold of a span (policy.Holds$1): the walks. -/
import Derived.Test.YtnnhkajjifmlfaaDoorEc
import Derived.Test.YtnnhkajjifmlfaaDoorG1
namespace Go.Proofs.YtnnhkajjifmlfaaDoor.Pl
open Go.RowKit Go.Maps

/-- what Holds has for its closure: the askers, the node -/
structure KB (w : World) (Q L g : Nat) (x : PN) : Prop where
  q : w.cell? ⟨Q, 0, none⟩ = some (.slice (some ⟨g, 0, none⟩) 10 10)
  f2 : w.cell? ⟨g, 2, none⟩ = some (.func (.func 121) #[] #[])
  f3 : w.cell? ⟨g, 3, none⟩ = some (.func (.func 122) #[] #[])
  f4 : w.cell? ⟨g, 4, none⟩ = some (.func (.func 123) #[] #[])
  f5 : w.cell? ⟨g, 5, none⟩ = some (.func (.func 124) #[] #[])
  n : NB w L x
theorem KB.grown {w w' : World} {Q L g : Nat} {x : PN} (h : KB w Q L g x) (hg : w.grownBy w' none) : KB w' Q L g x :=
  ⟨cell_grown h.q hg (by simp), cell_grown h.f2 hg (by simp), cell_grown h.f3 hg (by simp), cell_grown h.f4 hg (by simp), cell_grown h.f5 hg (by simp), h.n.kept hg (by simp)⟩
/-- an adjusted span in its box -/
abbrev adO (a : Ad) (t : Value) : Obj := .cells #[.int .u64 a.sp.hi, .int .u64 a.sp.lo, .int .u64 a.sp.id, .int .u64 a.sp.parent, .string a.sp.service, .string a.sp.name, .int .i64 a.sp.kind, .int .i64 a.sp.start, .int .i64 a.sp.length, .bool a.sp.fails, t, .int .u64 a.up, .int .i64 a.shift, .int .i64 a.flag] 108
set_option maxRecDepth 100000 in
set_option maxHeartbeats 3200000 in
theorem holds1_2 (x : PN) (a : Ad) (t : Value) (Q L g : Nat) (w : World) (h : KB w Q L g x) (hk : x.k = 2) :
    Calls Tryd.prog 80 #[adV a t, .pointer (some ⟨Q, 0, none⟩), .pointer (some ⟨L, 0, none⟩)] w fun e w' => e = .returned (.bool (askN x a.sp)) ∧ w.grownBy w' none := by
  have hE : askN x a.sp = a.sp.fails := by unfold askN; rw [if_pos hk]
  rw [hE]
  have hg0 := gb_alloc (gb_refl w none) (adO a t)
  have h1 := h.grown hg0
  have e0 := heap_alloc_new w (adO a t)
  have Q1 := fun (wK : World) (_hgk : w.grownBy wK none) => Lib.hid (show QC Tryd.prog wK 121 #[.agg #[.int .i64 2, .int .i64 x.n, .string x.a, .string x.b, .int .i64 x.l, .int .i64 x.r], spV a.sp t] (.bool (a.sp.fails)) from fun G => by
    have := ask1_any x a.sp t G.W
    rw [show nodeV x = .agg #[.int .i64 2, .int .i64 x.n, .string x.a, .string x.b, .int .i64 x.l, .int .i64 x.r] from by rw [← hk]] at this
    exact this.mono fun e w' he => ⟨he.1, gb_trans G.h he.2⟩)
  generalize a.sp.fails = y at *
  have hn := h1.n
  unfold NB at hn
  rw [hk] at hn
  clear hE hk h
  go_enter Tryd.func80, Tryd.ntmps80
  go_wp2_with fail
  generalize hwK : World.alloc w _ = wK at *
  have P0 : ∀ G : Grown wK, G.W.cell? ⟨Q, 0, none⟩ = some (.slice (some ⟨g, 0, none⟩) 10 10) := fun G => cell_grown h1.q G.h (by simp)
  have P1 : ∀ G : Grown wK, G.W.cell? ⟨g, 2, none⟩ = some (.func (.func 121) #[] #[]) := fun G => cell_grown h1.f2 G.h (by simp)
  have PL : ∀ (G : Grown wK), G.W.cell? ⟨L, 0, none⟩ = some (.int .i64 2) ∧ G.W.cell? ⟨L, 1, none⟩ = some (.int .i64 x.n) ∧ G.W.cell? ⟨L, 2, none⟩ = some (.string x.a) ∧ G.W.cell? ⟨L, 3, none⟩ = some (.string x.b) ∧ G.W.cell? ⟨L, 4, none⟩ = some (.int .i64 x.l) ∧ G.W.cell? ⟨L, 5, none⟩ = some (.int .i64 x.r) := fun G => by
    refine ⟨cell_grown ?_ G.h (by simp), cell_grown ?_ G.h (by simp), cell_grown ?_ G.h (by simp), cell_grown ?_ G.h (by simp), cell_grown ?_ G.h (by simp), cell_grown ?_ G.h (by simp)⟩ <;> (rw [cell_of_row _ _ _ _ _ _ hn]; rfl)
  have L0 := fun G => (PL G).1
  have L1 := fun G => (PL G).2.1
  have L2 := fun G => (PL G).2.2.1
  have L3 := fun G => (PL G).2.2.2.1
  have L4 := fun G => (PL G).2.2.2.2.1
  have L5 := fun G => (PL G).2.2.2.2.2
  have PA : ∀ (G : Grown wK) (i : Nat) (u : Value), #[.int .u64 a.sp.hi, .int .u64 a.sp.lo, .int .u64 a.sp.id, .int .u64 a.sp.parent, .string a.sp.service, .string a.sp.name, .int .i64 a.sp.kind, .int .i64 a.sp.start, .int .i64 a.sp.length, .bool a.sp.fails, t, .int .u64 a.up, .int .i64 a.shift, .int .i64 a.flag][i]? = some u → G.W.cell? ⟨w.heap.size, i, none⟩ = some u := fun G i u hu => cell_grown (by rw [cell_of_row _ _ i _ _ _ e0]; exact hu) G.h (by simp)
  have A0 := fun G => PA G 0 _ rfl
  have A1 := fun G => PA G 1 _ rfl
  have A2 := fun G => PA G 2 _ rfl
  have A3 := fun G => PA G 3 _ rfl
  have A4 := fun G => PA G 4 _ rfl
  have A5 := fun G => PA G 5 _ rfl
  have A6 := fun G => PA G 6 _ rfl
  have A7 := fun G => PA G 7 _ rfl
  have A8 := fun G => PA G 8 _ rfl
  have A9 := fun G => PA G 9 _ rfl
  have A10 := fun G => PA G 10 _ rfl
  have q1 := Q1 wK hg0
  clear Q1 e0 hn PL PA h1
  refine wp_region_grown 9 1 (by simp only [List.take_succ_cons, List.take_zero]; rfl) (by kernel_rfl) (gb_drew (gb_refl _ _)) (by kernel_rfl) (by kernel_rfl) (by kernel_rfl) (by kernel_rfl) ?_
  repeat go_big_quiet_step (first
    | (rename_i G; with_reducible exact q1.out.at G))
  refine wpQuiet_nil ?_
  intro G
  refine wpAny_take (i := 9) (v := ?_) rfl (by kernel_rfl) (by kernel_rfl) (by kernel_rfl) (fun _ _ _ h => h) (Or.inl ⟨by rfl, ?_⟩) ?_
  rotate_left
  · intro W; go_simp; try with_reducible rfl
  refine wpAny_done (by kernel_rfl) ?_ _
  go_wp2_with fail
  go_ret
  exact ⟨rfl, gb_trans hg0 G.h⟩
set_option maxRecDepth 100000 in
set_option maxHeartbeats 3200000 in
theorem holds1_3 (x : PN) (a : Ad) (t : Value) (Q L g : Nat) (w : World) (h : KB w Q L g x) (hk : x.k = 3) :
    Calls Tryd.prog 80 #[adV a t, .pointer (some ⟨Q, 0, none⟩), .pointer (some ⟨L, 0, none⟩)] w fun e w' => e = .returned (.bool (askN x a.sp)) ∧ w.grownBy w' none := by
  have hE : askN x a.sp = decide (x.n ≤ a.sp.length) := by unfold askN; rw [if_neg (by omega), if_pos hk]
  rw [hE]
  have hg0 := gb_alloc (gb_refl w none) (adO a t)
  have h1 := h.grown hg0
  have e0 := heap_alloc_new w (adO a t)
  have Q1 := fun (wK : World) (_hgk : w.grownBy wK none) => Lib.hid (show QC Tryd.prog wK 122 #[.agg #[.int .i64 3, .int .i64 x.n, .string x.a, .string x.b, .int .i64 x.l, .int .i64 x.r], spV a.sp t] (.bool (decide (x.n ≤ a.sp.length))) from fun G => by
    have := ask2_any x a.sp t G.W
    rw [show nodeV x = .agg #[.int .i64 3, .int .i64 x.n, .string x.a, .string x.b, .int .i64 x.l, .int .i64 x.r] from by rw [← hk]] at this
    exact this.mono fun e w' he => ⟨he.1, gb_trans G.h he.2⟩)
  generalize decide (x.n ≤ a.sp.length) = y at *
  have hn := h1.n
  unfold NB at hn
  rw [hk] at hn
  clear hE hk h
  go_enter Tryd.func80, Tryd.ntmps80
  go_wp2_with fail
  generalize hwK : World.alloc w _ = wK at *
  have P0 : ∀ G : Grown wK, G.W.cell? ⟨Q, 0, none⟩ = some (.slice (some ⟨g, 0, none⟩) 10 10) := fun G => cell_grown h1.q G.h (by simp)
  have P1 : ∀ G : Grown wK, G.W.cell? ⟨g, 3, none⟩ = some (.func (.func 122) #[] #[]) := fun G => cell_grown h1.f3 G.h (by simp)
  have PL : ∀ (G : Grown wK), G.W.cell? ⟨L, 0, none⟩ = some (.int .i64 3) ∧ G.W.cell? ⟨L, 1, none⟩ = some (.int .i64 x.n) ∧ G.W.cell? ⟨L, 2, none⟩ = some (.string x.a) ∧ G.W.cell? ⟨L, 3, none⟩ = some (.string x.b) ∧ G.W.cell? ⟨L, 4, none⟩ = some (.int .i64 x.l) ∧ G.W.cell? ⟨L, 5, none⟩ = some (.int .i64 x.r) := fun G => by
    refine ⟨cell_grown ?_ G.h (by simp), cell_grown ?_ G.h (by simp), cell_grown ?_ G.h (by simp), cell_grown ?_ G.h (by simp), cell_grown ?_ G.h (by simp), cell_grown ?_ G.h (by simp)⟩ <;> (rw [cell_of_row _ _ _ _ _ _ hn]; rfl)
  have L0 := fun G => (PL G).1
  have L1 := fun G => (PL G).2.1
  have L2 := fun G => (PL G).2.2.1
  have L3 := fun G => (PL G).2.2.2.1
  have L4 := fun G => (PL G).2.2.2.2.1
  have L5 := fun G => (PL G).2.2.2.2.2
  have PA : ∀ (G : Grown wK) (i : Nat) (u : Value), #[.int .u64 a.sp.hi, .int .u64 a.sp.lo, .int .u64 a.sp.id, .int .u64 a.sp.parent, .string a.sp.service, .string a.sp.name, .int .i64 a.sp.kind, .int .i64 a.sp.start, .int .i64 a.sp.length, .bool a.sp.fails, t, .int .u64 a.up, .int .i64 a.shift, .int .i64 a.flag][i]? = some u → G.W.cell? ⟨w.heap.size, i, none⟩ = some u := fun G i u hu => cell_grown (by rw [cell_of_row _ _ i _ _ _ e0]; exact hu) G.h (by simp)
  have A0 := fun G => PA G 0 _ rfl
  have A1 := fun G => PA G 1 _ rfl
  have A2 := fun G => PA G 2 _ rfl
  have A3 := fun G => PA G 3 _ rfl
  have A4 := fun G => PA G 4 _ rfl
  have A5 := fun G => PA G 5 _ rfl
  have A6 := fun G => PA G 6 _ rfl
  have A7 := fun G => PA G 7 _ rfl
  have A8 := fun G => PA G 8 _ rfl
  have A9 := fun G => PA G 9 _ rfl
  have A10 := fun G => PA G 10 _ rfl
  have q1 := Q1 wK hg0
  clear Q1 e0 hn PL PA h1
  refine wp_region_grown 9 1 (by simp only [List.take_succ_cons, List.take_zero]; rfl) (by kernel_rfl) (gb_drew (gb_refl _ _)) (by kernel_rfl) (by kernel_rfl) (by kernel_rfl) (by kernel_rfl) ?_
  repeat go_big_quiet_step (first
    | (rename_i G; with_reducible exact q1.out.at G))
  refine wpQuiet_nil ?_
  intro G
  refine wpAny_take (i := 9) (v := ?_) rfl (by kernel_rfl) (by kernel_rfl) (by kernel_rfl) (fun _ _ _ h => h) (Or.inl ⟨by rfl, ?_⟩) ?_
  rotate_left
  · intro W; go_simp; try with_reducible rfl
  refine wpAny_done (by kernel_rfl) ?_ _
  go_wp2_with fail
  go_ret
  exact ⟨rfl, gb_trans hg0 G.h⟩
set_option maxRecDepth 100000 in
set_option maxHeartbeats 3200000 in
theorem holds1_4 (x : PN) (a : Ad) (t : Value) (Q L g : Nat) (w : World) (h : KB w Q L g x) (hk : x.k = 4) :
    Calls Tryd.prog 80 #[adV a t, .pointer (some ⟨Q, 0, none⟩), .pointer (some ⟨L, 0, none⟩)] w fun e w' => e = .returned (.bool (askN x a.sp)) ∧ w.grownBy w' none := by
  have hE : askN x a.sp = decide (a.sp.service = x.a) := by unfold askN; rw [if_neg (by omega), if_neg (by omega), if_pos hk]
  rw [hE]
  have hg0 := gb_alloc (gb_refl w none) (adO a t)
  have h1 := h.grown hg0
  have e0 := heap_alloc_new w (adO a t)
  have Q1 := fun (wK : World) (_hgk : w.grownBy wK none) => Lib.hid (show QC Tryd.prog wK 123 #[.agg #[.int .i64 4, .int .i64 x.n, .string x.a, .string x.b, .int .i64 x.l, .int .i64 x.r], spV a.sp t] (.bool (decide (a.sp.service = x.a))) from fun G => by
    have := ask3_any x a.sp t G.W
    rw [show nodeV x = .agg #[.int .i64 4, .int .i64 x.n, .string x.a, .string x.b, .int .i64 x.l, .int .i64 x.r] from by rw [← hk]] at this
    exact this.mono fun e w' he => ⟨he.1, gb_trans G.h he.2⟩)
  generalize decide (a.sp.service = x.a) = y at *
  have hn := h1.n
  unfold NB at hn
  rw [hk] at hn
  clear hE hk h
  go_enter Tryd.func80, Tryd.ntmps80
  go_wp2_with fail
  generalize hwK : World.alloc w _ = wK at *
  have P0 : ∀ G : Grown wK, G.W.cell? ⟨Q, 0, none⟩ = some (.slice (some ⟨g, 0, none⟩) 10 10) := fun G => cell_grown h1.q G.h (by simp)
  have P1 : ∀ G : Grown wK, G.W.cell? ⟨g, 4, none⟩ = some (.func (.func 123) #[] #[]) := fun G => cell_grown h1.f4 G.h (by simp)
  have PL : ∀ (G : Grown wK), G.W.cell? ⟨L, 0, none⟩ = some (.int .i64 4) ∧ G.W.cell? ⟨L, 1, none⟩ = some (.int .i64 x.n) ∧ G.W.cell? ⟨L, 2, none⟩ = some (.string x.a) ∧ G.W.cell? ⟨L, 3, none⟩ = some (.string x.b) ∧ G.W.cell? ⟨L, 4, none⟩ = some (.int .i64 x.l) ∧ G.W.cell? ⟨L, 5, none⟩ = some (.int .i64 x.r) := fun G => by
    refine ⟨cell_grown ?_ G.h (by simp), cell_grown ?_ G.h (by simp), cell_grown ?_ G.h (by simp), cell_grown ?_ G.h (by simp), cell_grown ?_ G.h (by simp), cell_grown ?_ G.h (by simp)⟩ <;> (rw [cell_of_row _ _ _ _ _ _ hn]; rfl)
  have L0 := fun G => (PL G).1
  have L1 := fun G => (PL G).2.1
  have L2 := fun G => (PL G).2.2.1
  have L3 := fun G => (PL G).2.2.2.1
  have L4 := fun G => (PL G).2.2.2.2.1
  have L5 := fun G => (PL G).2.2.2.2.2
  have PA : ∀ (G : Grown wK) (i : Nat) (u : Value), #[.int .u64 a.sp.hi, .int .u64 a.sp.lo, .int .u64 a.sp.id, .int .u64 a.sp.parent, .string a.sp.service, .string a.sp.name, .int .i64 a.sp.kind, .int .i64 a.sp.start, .int .i64 a.sp.length, .bool a.sp.fails, t, .int .u64 a.up, .int .i64 a.shift, .int .i64 a.flag][i]? = some u → G.W.cell? ⟨w.heap.size, i, none⟩ = some u := fun G i u hu => cell_grown (by rw [cell_of_row _ _ i _ _ _ e0]; exact hu) G.h (by simp)
  have A0 := fun G => PA G 0 _ rfl
  have A1 := fun G => PA G 1 _ rfl
  have A2 := fun G => PA G 2 _ rfl
  have A3 := fun G => PA G 3 _ rfl
  have A4 := fun G => PA G 4 _ rfl
  have A5 := fun G => PA G 5 _ rfl
  have A6 := fun G => PA G 6 _ rfl
  have A7 := fun G => PA G 7 _ rfl
  have A8 := fun G => PA G 8 _ rfl
  have A9 := fun G => PA G 9 _ rfl
  have A10 := fun G => PA G 10 _ rfl
  have q1 := Q1 wK hg0
  clear Q1 e0 hn PL PA h1
  refine wp_region_grown 9 1 (by simp only [List.take_succ_cons, List.take_zero]; rfl) (by kernel_rfl) (gb_drew (gb_refl _ _)) (by kernel_rfl) (by kernel_rfl) (by kernel_rfl) (by kernel_rfl) ?_
  repeat go_big_quiet_step (first
    | (rename_i G; with_reducible exact q1.out.at G))
  refine wpQuiet_nil ?_
  intro G
  refine wpAny_take (i := 9) (v := ?_) rfl (by kernel_rfl) (by kernel_rfl) (by kernel_rfl) (fun _ _ _ h => h) (Or.inl ⟨by rfl, ?_⟩) ?_
  rotate_left
  · intro W; go_simp; try with_reducible rfl
  refine wpAny_done (by kernel_rfl) ?_ _
  go_wp2_with fail
  go_ret
  exact ⟨rfl, gb_trans hg0 G.h⟩
set_option maxRecDepth 100000 in
set_option maxHeartbeats 3200000 in
theorem holds1_5 (x : PN) (a : Ad) (t : Value) (Q L g : Nat) (w : World) (h : KB w Q L g x) (hl : a.sp.tags.length ≤ 140737488355328) (hT : TAt w (fun _ => True) a.sp.tags t) (hk : x.k = 5) :
    Calls Tryd.prog 80 #[adV a t, .pointer (some ⟨Q, 0, none⟩), .pointer (some ⟨L, 0, none⟩)] w fun e w' => e = .returned (.bool (askN x a.sp)) ∧ w.grownBy w' none := by
  have hE : askN x a.sp = hasTag a.sp.tags (x.a, x.b) := by unfold askN; rw [if_neg (by omega), if_neg (by omega), if_neg (by omega), if_pos hk]
  rw [hE]
  have hg0 := gb_alloc (gb_refl w none) (adO a t)
  have h1 := h.grown hg0
  have e0 := heap_alloc_new w (adO a t)
  have Q1 := fun (wK : World) (hgk : w.grownBy wK none) => Lib.hid (show QC Tryd.prog wK 124 #[.agg #[.int .i64 5, .int .i64 x.n, .string x.a, .string x.b, .int .i64 x.l, .int .i64 x.r], spV a.sp t] (.bool (hasTag a.sp.tags (x.a, x.b))) from fun G => by
    have := ask4_any x a.sp t G.W hl (hT.grown (gb_trans hgk G.h))
    rw [show nodeV x = .agg #[.int .i64 5, .int .i64 x.n, .string x.a, .string x.b, .int .i64 x.l, .int .i64 x.r] from by rw [← hk]] at this
    exact this.mono fun e w' he => ⟨he.1, gb_trans G.h he.2⟩)
  generalize hasTag a.sp.tags (x.a, x.b) = y at *
  have hn := h1.n
  unfold NB at hn
  rw [hk] at hn
  clear hE hk h hT
  go_enter Tryd.func80, Tryd.ntmps80
  go_wp2_with fail
  generalize hwK : World.alloc w _ = wK at *
  have P0 : ∀ G : Grown wK, G.W.cell? ⟨Q, 0, none⟩ = some (.slice (some ⟨g, 0, none⟩) 10 10) := fun G => cell_grown h1.q G.h (by simp)
  have P1 : ∀ G : Grown wK, G.W.cell? ⟨g, 5, none⟩ = some (.func (.func 124) #[] #[]) := fun G => cell_grown h1.f5 G.h (by simp)
  have PL : ∀ (G : Grown wK), G.W.cell? ⟨L, 0, none⟩ = some (.int .i64 5) ∧ G.W.cell? ⟨L, 1, none⟩ = some (.int .i64 x.n) ∧ G.W.cell? ⟨L, 2, none⟩ = some (.string x.a) ∧ G.W.cell? ⟨L, 3, none⟩ = some (.string x.b) ∧ G.W.cell? ⟨L, 4, none⟩ = some (.int .i64 x.l) ∧ G.W.cell? ⟨L, 5, none⟩ = some (.int .i64 x.r) := fun G => by
    refine ⟨cell_grown ?_ G.h (by simp), cell_grown ?_ G.h (by simp), cell_grown ?_ G.h (by simp), cell_grown ?_ G.h (by simp), cell_grown ?_ G.h (by simp), cell_grown ?_ G.h (by simp)⟩ <;> (rw [cell_of_row _ _ _ _ _ _ hn]; rfl)
  have L0 := fun G => (PL G).1
  have L1 := fun G => (PL G).2.1
  have L2 := fun G => (PL G).2.2.1
  have L3 := fun G => (PL G).2.2.2.1
  have L4 := fun G => (PL G).2.2.2.2.1
  have L5 := fun G => (PL G).2.2.2.2.2
  have PA : ∀ (G : Grown wK) (i : Nat) (u : Value), #[.int .u64 a.sp.hi, .int .u64 a.sp.lo, .int .u64 a.sp.id, .int .u64 a.sp.parent, .string a.sp.service, .string a.sp.name, .int .i64 a.sp.kind, .int .i64 a.sp.start, .int .i64 a.sp.length, .bool a.sp.fails, t, .int .u64 a.up, .int .i64 a.shift, .int .i64 a.flag][i]? = some u → G.W.cell? ⟨w.heap.size, i, none⟩ = some u := fun G i u hu => cell_grown (by rw [cell_of_row _ _ i _ _ _ e0]; exact hu) G.h (by simp)
  have A0 := fun G => PA G 0 _ rfl
  have A1 := fun G => PA G 1 _ rfl
  have A2 := fun G => PA G 2 _ rfl
  have A3 := fun G => PA G 3 _ rfl
  have A4 := fun G => PA G 4 _ rfl
  have A5 := fun G => PA G 5 _ rfl
  have A6 := fun G => PA G 6 _ rfl
  have A7 := fun G => PA G 7 _ rfl
  have A8 := fun G => PA G 8 _ rfl
  have A9 := fun G => PA G 9 _ rfl
  have A10 := fun G => PA G 10 _ rfl
  have q1 := Q1 wK hg0
  clear Q1 e0 hn PL PA h1
  refine wp_region_grown 9 1 (by simp only [List.take_succ_cons, List.take_zero]; rfl) (by kernel_rfl) (gb_drew (gb_refl _ _)) (by kernel_rfl) (by kernel_rfl) (by kernel_rfl) (by kernel_rfl) ?_
  repeat go_big_quiet_step (first
    | (rename_i G; with_reducible exact q1.out.at G))
  refine wpQuiet_nil ?_
  intro G
  refine wpAny_take (i := 9) (v := ?_) rfl (by kernel_rfl) (by kernel_rfl) (by kernel_rfl) (fun _ _ _ h => h) (Or.inl ⟨by rfl, ?_⟩) ?_
  rotate_left
  · intro W; go_simp; try with_reducible rfl
  refine wpAny_done (by kernel_rfl) ?_ _
  go_wp2_with fail
  go_ret
  exact ⟨rfl, gb_trans hg0 G.h⟩
/-- what the closure answers -/
theorem holds1_any (x : PN) (a : Ad) (t : Value) (Q L g : Nat) (w : World) (h : KB w Q L g x) (hl : a.sp.tags.length ≤ 140737488355328) (hT : TAt w (fun _ => True) a.sp.tags t) (hk : 2 ≤ x.k ∧ x.k ≤ 5) :
    Calls Tryd.prog 80 #[adV a t, .pointer (some ⟨Q, 0, none⟩), .pointer (some ⟨L, 0, none⟩)] w fun e w' => e = .returned (.bool (askN x a.sp)) ∧ w.grownBy w' none := by
  have : x.k = 2 ∨ x.k = 3 ∨ x.k = 4 ∨ x.k = 5 := by omega
  rcases this with h2 | h2 | h2 | h2
  · exact holds1_2 x a t Q L g w h h2
  · exact holds1_3 x a t Q L g w h h2
  · exact holds1_4 x a t Q L g w h h2
  · exact holds1_5 x a t Q L g w h hl hT h2
end Go.Proofs.YtnnhkajjifmlfaaDoor.Pl
