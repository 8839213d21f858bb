/- The document's Map (31): the walk. -/
import Derived.Test.YtnnhkajjifmlfaaDoorM0
import Derived.RegionTactic
namespace Go.Proofs.YtnnhkajjifmlfaaDoor
open Go.RowKit Go.Maps
theorem take_snoc {α : Type} (l : List α) (q : Nat) (h : q < l.length) : l.take q ++ [l[q]] = l.take (q + 1) := by
  rw [List.take_add_one, List.getElem?_eq_getElem h]; rfl
set_option maxRecDepth 100000 in
set_option maxHeartbeats 3200000 in
theorem rmap_any (names : List ByteArray) (list : List J) (S : Nat → Prop) (u v : Value) (w : World) (hnl : names.length ≤ 100) (hll : list.length ≤ 100) (hS : ∀ b, S b → b < w.heap.size) (hu : StrsAt w S u names) (hv : LAt w S list v) :
    Calls Tryd.prog 31 #[u, v] w (MapE w S (mapP names list)) := by
  obtain ⟨A, c, rfl, hcA, hA⟩ := hu
  obtain ⟨A', c', b', o', V', rfl, hc', hA', hcl', hrc'⟩ := hv
  obtain ⟨i0, hi0, hz0, hz1, hz2⟩ := info_parts info26
  obtain ⟨i9, hi9, hy0, hy1, hy2⟩ := info_parts info9
  have hM0 : MM w ((w.alloc (.cells #[.int .i64 0, .int .i64 0, .string ⟨#[]⟩, .slice none 0 0, .slice none 0 0] 26)).alloc (.cells #[.int .i64 6, .int .i64 0, .string ⟨#[]⟩, .slice none 0 0, .slice none 0 0] 26)) S [] [] (.slice none 0 0) (.slice none 0 0) := by
    have JZ := JB.new (w.alloc (.cells #[.int .i64 0, .int .i64 0, .string ⟨#[]⟩, .slice none 0 0, .slice none 0 0] 26)) (.int .i64 6) (.int .i64 0) (.string ⟨#[]⟩) (.slice none 0 0) (.slice none 0 0)
    rw [show (w.alloc (.cells #[.int .i64 0, .int .i64 0, .string ⟨#[]⟩, .slice none 0 0, .slice none 0 0] 26)).heap.size = w.heap.size + 1 from by simp] at JZ
    exact ⟨hS, (JB.new w _ _ _ _ _).alloc _, JZ, World.ownsRow_nil _ _ _ _, ⟨[], World.ownsRow_nil _ _ _ _, rfl⟩, gb_alloc (gb_alloc (gb_refl w none) _) _⟩
  obtain ⟨d0, d1, d2, d3, d4, df⟩ := hM0.jb.all
  have HM0 := Lib.hid hM0
  clear hM0
  go_enter Tryd.func31, Tryd.ntmps31
  go_wp2_with fail
  go_loopg [6] (min names.length list.length) (fun z u6 wr => ∃ (q : Nat) (A1 : Option Addr) (n1 c1 : Nat) (A2 : Option Addr) (n2 c2 : Nat), q ≤ min names.length list.length ∧ z = min names.length list.length - q ∧ u6 = .int .i64 q ∧ Hid (MM w wr S (names.take q) (list.take q) (.slice A1 n1 c1) (.slice A2 n2 c2)))
  case atStart => exact ⟨0, none, 0, 0, none, 0, 0, Nat.zero_le _, rfl, rfl, HM0.out⟩
  case round =>
    obtain ⟨q, A1, n1, c1, A2, n2, c2, hq, rfl, rfl, HM⟩ := hrel
    clear HM0 d0 d1 d2 d3 d4 df
    by_cases hlt : q < min names.length list.length
    · have hq1 : q < names.length := by omega
      have hq2 : q < list.length := by omega
      have hi1 : (q : Int) < (names.length : Int) := by omega
      have hi2 : (q : Int) < (list.length : Int) := by omega
      obtain ⟨bn, on, rfl, hSn, hcn⟩ := hA (by omega)
      obtain ⟨rfl, hSb⟩ := hA' (by omega)
      obtain ⟨a0, a1, a2, a3, a4, hV, e0, e1, e2, e3, e4⟩ := hcl' q hq2
      have hrq := hrc' q hq2
      rw [hV] at hrq
      obtain ⟨xk, xn, xt, X1, x1, y1, X2, x2, y2, rfl, rfl, rfl, rfl, rfl⟩ := hrq.shape
      have hgw := HM.out.gb
      have n0 := cell_grown (hcn q hq1) hgw (by simp)
      have n5 : ∀ o, (wr.alloc o).cell? ⟨bn, on + q, none⟩ = some (.string names[q]) := fun o => cell_grown (hcn q hq1) (gb_alloc hgw o) (by simp)
      have cn0 : wr.cell? ⟨w.heap.size + 1, 3, none⟩ = some (.slice A1 n1 c1) := HM.out.jb.c3
      have cn5 : ∀ o, (wr.alloc o).cell? ⟨w.heap.size + 1, 3, none⟩ = some (.slice A1 n1 c1) := fun o => (HM.out.alloc o).jb.c3
      have hnn := Lib.hid (take_snoc names q hq1)
      have hll2 := Lib.hid (take_snoc list q hq2)
      have hl1 : (names.take q).length = q := by simp; omega
      have hl2 : (list.take q).length = q := by simp; omega
      have hnr : wr.drew.ownsRow (w.heap.size + 2) 9 1 (.slice A1 n1 c1) q ((names.take q).map Value.string) := by have := HM.out.drew.hn; rwa [hl1] at this
      generalize names[q] = T at *
      generalize list[q] = X at *
      clear hcn hA hcl' hrc' hA'
      go_wp2_with fail
      go_cut [] from 8 to 37 (fun wx => ∃ (A3 : Option Addr) (n3 c3 : Nat), Hid (MM w wx S (names.take (q + 1)) (list.take q) (.slice A3 n3 c3) (.slice A2 n2 c2)))
      case first =>
        go_region_law (first
          | (refine step_append_lies _ (by rfl) _ _ _ (by rfl) (w.heap.size + 2) 9 i9 _ 1 16 Tryd.underlying23 hi9 hy0 hy1 hy2 rfl (by omega) (.slice A1 n1 c1) q ((names.take q).map Value.string) (by rfl) (hnr.alloc _)
              ⟨wr.heap.size, 0, none⟩ 1 1 [.string T] (by rfl) (by rfl) (one_new _ _ rfl) (by simp [Value.oneCell'])
              (by omega) (by unfold maxLen; omega) (by omega) (by simp; have := HM.out.jb.lt; omega) (wr.heap.size + 1) (by simp) ?_; intro gg cap w4 hown4 hgrow hat hlt4; have hj4 := HM.out.drew.far hgrow (fun k hk => (hnr.lt k hk).1); have cn4 : w4.cell? ⟨w.heap.size + 1, 3, none⟩ = some (.slice A1 n1 c1) := hj4.c3; have fr4 : w4.frozen? ⟨w.heap.size + 1, 3, none⟩ = false := hj4.f 3))
        all_goals go_wp2_with fail
        all_goals go_meet
        all_goals
          rw [← hnn.out]
          exact ⟨_, _, _, HM.out.drew.name hl1 hown4 hgrow hat⟩
      case rest =>
        obtain ⟨A4, m4, c4, HM3⟩ := hcut
        obtain ⟨xs, hlo, hfl⟩ := HM3.out.drew.hl
        rw [hl2] at hlo
        have hgc := HM3.out.gb
        have g0 := cell_grown e0 hgc (by simp)
        have g1 := cell_grown e1 hgc (by simp)
        have g2 := cell_grown e2 hgc (by simp)
        have g3 := cell_grown e3 hgc (by simp)
        have g4 := cell_grown e4 hgc (by simp)
        have cl0 : wc.cell? ⟨w.heap.size + 1, 4, none⟩ = some (.slice A2 n2 c2) := HM3.out.jb.c4
        have cl5 : ∀ o, (wc.alloc o).cell? ⟨w.heap.size + 1, 4, none⟩ = some (.slice A2 n2 c2) := fun o => (HM3.out.alloc o).jb.c4
        have hrk : JAt wc.drew S X (.agg #[.int .i64 xk, .int .i64 xn, .string xt, .slice X1 x1 y1, .slice X2 x2 y2]) := hrq.keep (fun b hb => hgc.block b (hS b hb) (by simp)) (fun _ => id)
        have hq3 := Lib.hid (show wrap64 ((q : Int) + 1) = ((q + 1 : Nat) : Int) from (wrap64_id (by omega) (by omega)).trans (by omega))
        clear HM hnr cn0 cn5 n0 n5 e0 e1 e2 e3 e4 hrq
        go_wp2_with fail
        go_region_law (first
          | (refine step_append_lies _ (by rfl) _ _ _ (by rfl) (w.heap.size + 2) 26 i0 _ 5 80 Tryd.underlying24 hi0 hz0 hz1 hz2 rfl (by omega) (.slice A2 n2 c2) q xs (by rfl) (hlo.alloc _)
              ⟨wc.heap.size, 0, none⟩ 1 1 [.int .i64 xk, .int .i64 xn, .string xt, .slice X1 x1 y1, .slice X2 x2 y2] (by rfl) (by rfl) (World.news_of_block (cs := #[.int .i64 xk, .int .i64 xn, .string xt, .slice X1 x1 y1, .slice X2 x2 y2]) (t := 26) (fr := (0, 0)) (heap_alloc_new wc.drew _)) (by simp [Value.oneCell'])
              (by omega) (by unfold maxLen; omega) (by omega) (by simp; have := HM3.out.jb.lt; omega) (wc.heap.size + 1) (by simp) ?_; intro gg cap w5 hown5 hgrow5 hat5 hlt5; have hj5 := HM3.out.drew.far hgrow5 (fun k hk => (hlo.lt k hk).1); have cl6 : w5.cell? ⟨w.heap.size + 1, 4, none⟩ = some (.slice A2 n2 c2) := hj5.c4; have fr6 : w5.frozen? ⟨w.heap.size + 1, 4, none⟩ = false := hj5.f 4))
        all_goals go_wp2_with fail
        all_goals go_roundg (min names.length list.length - (q + 1))
        all_goals first
          | omega
          | (refine ⟨q + 1, A4, m4, c4, some ⟨gg, 0, none⟩, q + 1, cap, by omega, rfl, by first | rw [hq3.out] | go_num, ?_⟩
             rw [← hll2.out]
             exact HM3.out.drew.elem hl2 (by rw [hl2]; exact hlo) hfl hrk hown5 hgrow5)
    · obtain rfl : q = min names.length list.length := by omega
      have hM := HM.out
      have hV := hM.val
      obtain ⟨m0, m1, m2, m3, m4, mf⟩ := hM.jb.all
      obtain ⟨r0, r1, r2, r3, r4, rf⟩ := hM.br.all
      have hJ7 := hM.br.put5 (.int .i64 6) (.int .i64 0) (.string ⟨#[]⟩) (.slice A1 n1 c1) (.slice A2 n2 c2)
      obtain ⟨q0, q1, q2, q3, q4, qf⟩ := hJ7.all
      unfold put5 at q0 q1 q2 q3 q4
      have hfin : MapE w S (mapP names list) (.returned (.agg #[.int .i64 6, .int .i64 0, .string ⟨#[]⟩, .slice A1 n1 c1, .slice A2 n2 c2])) (put5 wr w.heap.size (.int .i64 6) (.int .i64 0) (.string ⟨#[]⟩) (.slice A1 n1 c1) (.slice A2 n2 c2)) := by
        refine ⟨_, rfl, hV.keep (fun b hb => put5_heap (by rcases hb with hb | hb <;> first | (have := hS b hb; omega) | omega) _ _ _ _ _) (fun b hb => ?_), gb_put5 hM.gb (Nat.le_refl _) _ _ _ _ _⟩
        rcases hb with hb | hb
        · exact .inl hb
        · exact .inr ⟨by omega, by rw [put5_size]; exact hb.2⟩
      have hfin' := Lib.hid hfin
      clear hfin hV hJ7 hM HM hA hA' hcl' hrc'
      by_cases hx : names.length ≤ list.length
      · have hmin : min names.length list.length = names.length := by omega
        rw [hmin] at *
        go_wp2_with fail
        refine bodyPost_ret (v := .agg #[.int .i64 6, .int .i64 0, .string ⟨#[]⟩, .slice A1 n1 c1, .slice A2 n2 c2]) (by simp [results, Tryd.results31, go_sem, q0, q1, q2, q3, q4]) rfl ?_
        exact hfin'.out
      · have hmin : min names.length list.length = list.length := by omega
        have hi1 : (list.length : Int) < (names.length : Int) := by omega
        rw [hmin] at *
        go_wp2_with fail
        refine bodyPost_ret (v := .agg #[.int .i64 6, .int .i64 0, .string ⟨#[]⟩, .slice A1 n1 c1, .slice A2 n2 c2]) (by simp [results, Tryd.results31, go_sem, q0, q1, q2, q3, q4]) rfl ?_
        exact hfin'.out
end Go.Proofs.YtnnhkajjifmlfaaDoor
