/- span.Compare, span.Same: whether two spans are the same. -/
import Derived.Test.YtcmepallgchcjaaGreatC2
namespace Go.Proofs.YtcmepallgchcjaaGreat
open Go.RowKit

structure Sp where
  hi : Int
  lo : Int
  id : Int
  parent : Int
  service : ByteArray
  name : ByteArray
  kind : Int
  start : Int
  length : Int
  fails : Bool
  tags : List Tg
def spC (a b : Sp) : Int := orL [orL [cmpI a.hi b.hi, cmpI a.lo b.lo], cmpI a.id b.id, cmpI a.parent b.parent, cmpI a.start b.start, cmpI a.length b.length, cmpS a.service b.service, cmpS a.name b.name, cmpI a.kind b.kind, cmpI (truthN a.fails) (truthN b.fails), cmpL a.tags b.tags]
theorem truth_inj {a b : Bool} (h : truthN a = truthN b) : a = b := by
  cases a <;> cases b <;> first | rfl | (simp [truthN] at h)
theorem spC_zero {a b : Sp} : spC a b = 0 ↔ a = b := by
  unfold spC; rw [orL_zero]
  constructor
  · intro h
    have h0 := orL_zero.1 (h _ (List.mem_cons_self ..))
    obtain ⟨a1, a2, a3, a4, a5, a6, a7, a8, a9, a10, a11⟩ := a
    obtain ⟨b1, b2, b3, b4, b5, b6, b7, b8, b9, b10, b11⟩ := b
    simp only [List.mem_cons, List.not_mem_nil, or_false, forall_eq_or_imp, forall_eq] at h h0
    obtain ⟨_, h1, h2, h3, h4, h5, h6, h7, h8, h9⟩ := h
    rw [cmpI_zero.1 h0.1, cmpI_zero.1 h0.2, cmpI_zero.1 h1, cmpI_zero.1 h2, cmpI_zero.1 h3, cmpI_zero.1 h4, cmpS_zero.1 h5, cmpS_zero.1 h6, cmpI_zero.1 h7, truth_inj (cmpI_zero.1 h8), cmpL_zero.1 h9]
  · rintro rfl x hx
    simp only [List.mem_cons, List.not_mem_nil, or_false] at hx
    rcases hx with rfl | rfl | rfl | rfl | rfl | rfl | rfl | rfl | rfl | rfl
    · exact orL_zero.2 (fun x hx => by
        simp only [List.mem_cons, List.not_mem_nil, or_false] at hx
        rcases hx with rfl | rfl <;> exact cmpI_zero.2 rfl)
    all_goals first | exact cmpI_zero.2 rfl | exact cmpS_zero.2 rfl | exact cmpL_zero.2 rfl
/-- a span's cells -/
abbrev spV (a : Sp) (t : Value) : Value := .agg #[.int .u64 a.hi, .int .u64 a.lo, .int .u64 a.id, .int .u64 a.parent, .string a.service, .string a.name, .int .i64 a.kind, .int .i64 a.start, .int .i64 a.length, .bool a.fails, t]
abbrev spO (a : Sp) (t : Value) : Obj := .cells #[.int .u64 a.hi, .int .u64 a.lo, .int .u64 a.id, .int .u64 a.parent, .string a.service, .string a.name, .int .i64 a.kind, .int .i64 a.start, .int .i64 a.length, .bool a.fails, t] 43
theorem ten_cells (w : World) (a b c d e f g h i j : Int) : ∀ k (hk : k < [a, b, c, d, e, f, g, h, i, j].length), (w.alloc (.cells #[.int .i64 a, .int .i64 b, .int .i64 c, .int .i64 d, .int .i64 e, .int .i64 f, .int .i64 g, .int .i64 h, .int .i64 i, .int .i64 j] 3)).cell? ⟨w.heap.size, 0 + k, none⟩ = some (.int .i64 [a, b, c, d, e, f, g, h, i, j][k]) := by
  intro k hk
  rw [cell_of_row _ _ _ _ _ _ (heap_alloc_new w _)]
  match k, hk with
  | 0, _ => rfl
  | 1, _ => rfl
  | 2, _ => rfl
  | 3, _ => rfl
  | 4, _ => rfl
  | 5, _ => rfl
  | 6, _ => rfl
  | 7, _ => rfl
  | 8, _ => rfl
  | 9, _ => rfl
set_option maxRecDepth 100000 in
set_option maxHeartbeats 3200000 in
theorem compare_any (a b : Sp) (S : Nat → Prop) (u v : Value) (w : World) (hl : a.tags.length ≤ 140737488355328) (hm : b.tags.length ≤ 140737488355328) (hu : TAt w S a.tags u) (hv : TAt w S b.tags v) :
    Calls Tryz.prog 113 #[spV a u, spV b v] w fun e w' => e = .returned (.int .i64 (spC a b)) ∧ w.grownBy w' none := by
  have e0 := heap_alloc_new w (spO a u)
  have e1 := heap_alloc_new (w.alloc (spO a u)) (spO b v)
  have hgw : w.grownBy ((w.alloc (spO a u)).alloc (spO b v)) none := gb_alloc (gb_alloc (gb_refl w none) _) _
  have e0' := (Below.heap_alloc (w.alloc (spO a u)) (spO b v) w.heap.size (by simp)).trans e0
  rw [show (w.alloc (spO a u)).heap.size = w.heap.size + 1 from by simp] at e1
  have hC : Hid (spC a b = orL [orL [cmpI a.hi b.hi, cmpI a.lo b.lo], cmpI a.id b.id, cmpI a.parent b.parent, cmpI a.start b.start, cmpI a.length b.length, cmpS a.service b.service, cmpS a.name b.name, cmpI a.kind b.kind, cmpI (truthN a.fails) (truthN b.fails), cmpL a.tags b.tags]) := rfl
  have QT := fun (wK : World) => Lib.hid (show QC Tryz.prog wK 146 #[.agg #[.int .u64 a.hi, .int .u64 a.lo], .agg #[.int .u64 b.hi, .int .u64 b.lo]] (.int .i64 (orL [cmpI a.hi b.hi, cmpI a.lo b.lo])) from fun G => (traces_any _ _ _ _ G.W).mono fun e w' hh => ⟨hh.1, gb_trans G.h hh.2⟩)
  have QL := fun (wK : World) (hg : w.grownBy wK none) => Lib.hid (show QC Tryz.prog wK 149 #[u, v, .func (.func 150) #[] #[]] (.int .i64 (cmpL a.tags b.tags)) from fun G => (compareFunc_any _ _ S u v G.W hl hm (hu.grown (gb_trans hg G.h)) (hv.grown (gb_trans hg G.h))).mono fun e w' hh => ⟨hh.1, gb_trans G.h hh.2⟩)
  have Q_id := fun (wK : World) => Lib.hid (show QC Tryz.prog wK 82 #[.int .u64 a.id, .int .u64 b.id] (.int .i64 (cmpI a.id b.id)) from fun G => (cmp82_any _ _ G.W).mono fun e w' hh => ⟨hh.1, by rw [hh.2]; exact G.h⟩)
  have Q_parent := fun (wK : World) => Lib.hid (show QC Tryz.prog wK 82 #[.int .u64 a.parent, .int .u64 b.parent] (.int .i64 (cmpI a.parent b.parent)) from fun G => (cmp82_any _ _ G.W).mono fun e w' hh => ⟨hh.1, by rw [hh.2]; exact G.h⟩)
  have Q_start := fun (wK : World) => Lib.hid (show QC Tryz.prog wK 101 #[.int .i64 a.start, .int .i64 b.start] (.int .i64 (cmpI a.start b.start)) from fun G => (cmp101_any _ _ G.W).mono fun e w' hh => ⟨hh.1, by rw [hh.2]; exact G.h⟩)
  have Q_length := fun (wK : World) => Lib.hid (show QC Tryz.prog wK 101 #[.int .i64 a.length, .int .i64 b.length] (.int .i64 (cmpI a.length b.length)) from fun G => (cmp101_any _ _ G.W).mono fun e w' hh => ⟨hh.1, by rw [hh.2]; exact G.h⟩)
  have Q_service := fun (wK : World) => Lib.hid (show QC Tryz.prog wK 147 #[.string a.service, .string b.service] (.int .i64 (cmpS a.service b.service)) from fun G => (cmp147_any _ _ G.W).mono fun e w' hh => ⟨hh.1, by rw [hh.2]; exact G.h⟩)
  have Q_name := fun (wK : World) => Lib.hid (show QC Tryz.prog wK 147 #[.string a.name, .string b.name] (.int .i64 (cmpS a.name b.name)) from fun G => (cmp147_any _ _ G.W).mono fun e w' hh => ⟨hh.1, by rw [hh.2]; exact G.h⟩)
  have Q_kind := fun (wK : World) => Lib.hid (show QC Tryz.prog wK 148 #[.int .i64 a.kind, .int .i64 b.kind] (.int .i64 (cmpI a.kind b.kind)) from fun G => (cmp148_any _ _ G.W).mono fun e w' hh => ⟨hh.1, by rw [hh.2]; exact G.h⟩)
  have Q_ta := fun (wK : World) => Lib.hid (show QC Tryz.prog wK 123 #[.bool a.fails] (.int .i64 (truthN a.fails)) from fun G => (truth_any _ G.W).mono fun e w' hh => ⟨hh.1, by rw [hh.2]; exact G.h⟩)
  have Q_tb := fun (wK : World) => Lib.hid (show QC Tryz.prog wK 123 #[.bool b.fails] (.int .i64 (truthN b.fails)) from fun G => (truth_any _ G.W).mono fun e w' hh => ⟨hh.1, by rw [hh.2]; exact G.h⟩)
  have Q_tt := fun (wK : World) => Lib.hid (show QC Tryz.prog wK 148 #[.int .i64 (truthN a.fails), .int .i64 (truthN b.fails)] (.int .i64 (cmpI (truthN a.fails) (truthN b.fails))) from fun G => (cmp148_any _ _ G.W).mono fun e w' hh => ⟨hh.1, by rw [hh.2]; exact G.h⟩)
  generalize spC a b = r at *
  generalize orL [cmpI a.hi b.hi, cmpI a.lo b.lo] = r0 at *
  generalize cmpI a.id b.id = r1 at *
  generalize cmpI a.parent b.parent = r2 at *
  generalize cmpI a.start b.start = r3 at *
  generalize cmpI a.length b.length = r4 at *
  generalize cmpS a.service b.service = r5 at *
  generalize cmpS a.name b.name = r6 at *
  generalize cmpI a.kind b.kind = r7 at *
  generalize cmpI (truthN a.fails) (truthN b.fails) = r8 at *
  generalize cmpL a.tags b.tags = r9 at *
  generalize truthN a.fails = ta at *
  generalize truthN b.fails = tb at *
  clear hu hv hl hm
  obtain ⟨a1, a2, a3, a4, a5, a6, a7, a8, a9, a10, a11⟩ := a
  obtain ⟨b1, b2, b3, b4, b5, b6, b7, b8, b9, b10, b11⟩ := b
  unfold spO at e0 e1 e0' hgw
  simp only at e0 e1 e0' hgw QT QL Q_id Q_parent Q_start Q_length Q_service Q_name Q_kind Q_ta Q_tb
  show Calls Tryz.prog 113 #[.agg #[.int .u64 a1, .int .u64 a2, .int .u64 a3, .int .u64 a4, .string a5, .string a6, .int .i64 a7, .int .i64 a8, .int .i64 a9, .bool a10, u], .agg #[.int .u64 b1, .int .u64 b2, .int .u64 b3, .int .u64 b4, .string b5, .string b6, .int .i64 b7, .int .i64 b8, .int .i64 b9, .bool b10, v]] w _
  go_enter Tryz.func113, Tryz.ntmps113
  go_wp2_with fail
  generalize hwK : World.alloc (w.alloc _) _ = wK at *
  have Pa0 : ∀ G : Grown wK, G.W.cell? ⟨w.heap.size, 0, none⟩ = some (.int .u64 a1) := fun G => cell_grown (by rw [cell_of_row _ _ _ _ _ _ e0']; rfl) G.h (by simp)
  have Pa1 : ∀ G : Grown wK, G.W.cell? ⟨w.heap.size, 1, none⟩ = some (.int .u64 a2) := fun G => cell_grown (by rw [cell_of_row _ _ _ _ _ _ e0']; rfl) G.h (by simp)
  have Pa2 : ∀ G : Grown wK, G.W.cell? ⟨w.heap.size, 2, none⟩ = some (.int .u64 a3) := fun G => cell_grown (by rw [cell_of_row _ _ _ _ _ _ e0']; rfl) G.h (by simp)
  have Pa3 : ∀ G : Grown wK, G.W.cell? ⟨w.heap.size, 3, none⟩ = some (.int .u64 a4) := fun G => cell_grown (by rw [cell_of_row _ _ _ _ _ _ e0']; rfl) G.h (by simp)
  have Pa4 : ∀ G : Grown wK, G.W.cell? ⟨w.heap.size, 4, none⟩ = some (.string a5) := fun G => cell_grown (by rw [cell_of_row _ _ _ _ _ _ e0']; rfl) G.h (by simp)
  have Pa5 : ∀ G : Grown wK, G.W.cell? ⟨w.heap.size, 5, none⟩ = some (.string a6) := fun G => cell_grown (by rw [cell_of_row _ _ _ _ _ _ e0']; rfl) G.h (by simp)
  have Pa6 : ∀ G : Grown wK, G.W.cell? ⟨w.heap.size, 6, none⟩ = some (.int .i64 a7) := fun G => cell_grown (by rw [cell_of_row _ _ _ _ _ _ e0']; rfl) G.h (by simp)
  have Pa7 : ∀ G : Grown wK, G.W.cell? ⟨w.heap.size, 7, none⟩ = some (.int .i64 a8) := fun G => cell_grown (by rw [cell_of_row _ _ _ _ _ _ e0']; rfl) G.h (by simp)
  have Pa8 : ∀ G : Grown wK, G.W.cell? ⟨w.heap.size, 8, none⟩ = some (.int .i64 a9) := fun G => cell_grown (by rw [cell_of_row _ _ _ _ _ _ e0']; rfl) G.h (by simp)
  have Pa9 : ∀ G : Grown wK, G.W.cell? ⟨w.heap.size, 9, none⟩ = some (.bool a10) := fun G => cell_grown (by rw [cell_of_row _ _ _ _ _ _ e0']; rfl) G.h (by simp)
  have Pa10 : ∀ G : Grown wK, G.W.cell? ⟨w.heap.size, 10, none⟩ = some (u) := fun G => cell_grown (by rw [cell_of_row _ _ _ _ _ _ e0']; rfl) G.h (by simp)
  have Pb0 : ∀ G : Grown wK, G.W.cell? ⟨w.heap.size + 1, 0, none⟩ = some (.int .u64 b1) := fun G => cell_grown (by rw [cell_of_row _ _ _ _ _ _ e1]; rfl) G.h (by simp)
  have Pb1 : ∀ G : Grown wK, G.W.cell? ⟨w.heap.size + 1, 1, none⟩ = some (.int .u64 b2) := fun G => cell_grown (by rw [cell_of_row _ _ _ _ _ _ e1]; rfl) G.h (by simp)
  have Pb2 : ∀ G : Grown wK, G.W.cell? ⟨w.heap.size + 1, 2, none⟩ = some (.int .u64 b3) := fun G => cell_grown (by rw [cell_of_row _ _ _ _ _ _ e1]; rfl) G.h (by simp)
  have Pb3 : ∀ G : Grown wK, G.W.cell? ⟨w.heap.size + 1, 3, none⟩ = some (.int .u64 b4) := fun G => cell_grown (by rw [cell_of_row _ _ _ _ _ _ e1]; rfl) G.h (by simp)
  have Pb4 : ∀ G : Grown wK, G.W.cell? ⟨w.heap.size + 1, 4, none⟩ = some (.string b5) := fun G => cell_grown (by rw [cell_of_row _ _ _ _ _ _ e1]; rfl) G.h (by simp)
  have Pb5 : ∀ G : Grown wK, G.W.cell? ⟨w.heap.size + 1, 5, none⟩ = some (.string b6) := fun G => cell_grown (by rw [cell_of_row _ _ _ _ _ _ e1]; rfl) G.h (by simp)
  have Pb6 : ∀ G : Grown wK, G.W.cell? ⟨w.heap.size + 1, 6, none⟩ = some (.int .i64 b7) := fun G => cell_grown (by rw [cell_of_row _ _ _ _ _ _ e1]; rfl) G.h (by simp)
  have Pb7 : ∀ G : Grown wK, G.W.cell? ⟨w.heap.size + 1, 7, none⟩ = some (.int .i64 b8) := fun G => cell_grown (by rw [cell_of_row _ _ _ _ _ _ e1]; rfl) G.h (by simp)
  have Pb8 : ∀ G : Grown wK, G.W.cell? ⟨w.heap.size + 1, 8, none⟩ = some (.int .i64 b9) := fun G => cell_grown (by rw [cell_of_row _ _ _ _ _ _ e1]; rfl) G.h (by simp)
  have Pb9 : ∀ G : Grown wK, G.W.cell? ⟨w.heap.size + 1, 9, none⟩ = some (.bool b10) := fun G => cell_grown (by rw [cell_of_row _ _ _ _ _ _ e1]; rfl) G.h (by simp)
  have Pb10 : ∀ G : Grown wK, G.W.cell? ⟨w.heap.size + 1, 10, none⟩ = some (v) := fun G => cell_grown (by rw [cell_of_row _ _ _ _ _ _ e1]; rfl) G.h (by simp)
  have kQT := QT wK
  have kQ_id := Q_id wK
  have kQ_parent := Q_parent wK
  have kQ_start := Q_start wK
  have kQ_length := Q_length wK
  have kQ_service := Q_service wK
  have kQ_name := Q_name wK
  have kQ_kind := Q_kind wK
  have kQ_ta := Q_ta wK
  have kQ_tb := Q_tb wK
  have kQ_tt := Q_tt wK
  have kQL := QL wK hgw
  clear QL QT Q_id Q_parent Q_start Q_length Q_service Q_name Q_kind Q_ta Q_tb Q_tt e0 e0' e1
  refine wp_region_grown 52 3 (by simp only [List.take_succ_cons, List.take_zero]; rfl) (by kernel_rfl) (gb_drew (gb_refl _ _)) (by kernel_rfl) (by kernel_rfl) (by kernel_rfl) (by kernel_rfl) ?_
  repeat go_big_quiet_step (first
    | (rename_i G; with_reducible exact kQT.out.at G)
    | (rename_i G; with_reducible exact kQ_id.out.at G)
    | (rename_i G; with_reducible exact kQ_parent.out.at G)
    | (rename_i G; with_reducible exact kQ_start.out.at G)
    | (rename_i G; with_reducible exact kQ_length.out.at G)
    | (rename_i G; with_reducible exact kQ_service.out.at G)
    | (rename_i G; with_reducible exact kQ_name.out.at G)
    | (rename_i G; with_reducible exact kQ_kind.out.at G)
    | (rename_i G; with_reducible exact kQ_ta.out.at G)
    | (rename_i G; with_reducible exact kQ_tb.out.at G)
    | (rename_i G; with_reducible exact kQ_tt.out.at G)
    | (rename_i G; with_reducible exact kQL.out.at G))
  refine wpQuiet_nil ?_
  intro G
  refine wpAny_ready (rs := [52]) (by kernel_rfl) (by simp) ?_
  refine AllReady.cons rfl (fun K hK => ?_) AllReady.nil
  go_simp
  refine hK _ _ ?_
  clear hK K
  refine wpAny_ready (rs := [53]) (by kernel_rfl) (by simp) ?_
  refine AllReady.cons rfl (fun K hK => ?_) AllReady.nil
  go_simp
  go_at_call 81
  refine (or_any [r0, r1, r2, r3, r4, r5, r6, r7, r8, r9] _ 0 _ _ (by simp) (ten_cells G.W r0 r1 r2 r3 r4 r5 r6 r7 r8 r9)).mono ?_
  rintro e w2 ⟨rfl, rfl⟩
  refine hK _ _ ?_
  clear hK K
  refine wpAny_take (i := 54) (v := ?_) rfl (by kernel_rfl) (by kernel_rfl) (by kernel_rfl) (fun _ _ _ h => h) (Or.inl ⟨by rfl, ?_⟩) ?_
  rotate_left
  · intro W; go_simp; try with_reducible rfl
  refine wpAny_done (by kernel_rfl) ?_ _
  go_wp2_with fail
  go_ret
  exact ⟨by rw [hC.out]; rfl, gb_alloc (gb_trans hgw G.h) _⟩
end Go.Proofs.YtcmepallgchcjaaGreat
