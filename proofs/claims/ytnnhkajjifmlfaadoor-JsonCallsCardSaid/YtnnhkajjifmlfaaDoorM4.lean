/- JsonCalls: the walk. -/
import Derived.Test.YtnnhkajjifmlfaaDoorM3
import Derived.Test.YtnnhkajjifmlfaaDoorGz
namespace Go.Proofs.YtnnhkajjifmlfaaDoor
open Go.RowKit Go.Maps

theorem JAt.shapes {w : World} {S : Nat → Prop} {j : J} {v : Value} (h : JAt w S j v) : ∃ A1 n1 c1 A2 n2 c2, v = .agg #[.int .i64 j.k, .int .i64 j.n, .string j.t, .slice A1 n1 c1, .slice A2 n2 c2] := by
  obtain ⟨k, n, t, names, list⟩ := j
  obtain ⟨nv, lv, rfl, hN, hL⟩ := h.parts
  obtain ⟨A, c, rfl, _⟩ := hN
  obtain ⟨A', c', b', o', V', rfl, _⟩ := hL
  exact ⟨A, _, c, A', _, c', rfl⟩
theorem zeroJ_bd : JBd zeroJ := .mk (by decide) (by decide) (by decide) (by simp) (by simp) (fun _ h => by cases h) (fun _ h => by cases h)
theorem getP_bd {j : J} (h : JBd j) (s : ByteArray) : JBd (getP j s).1 := by
  obtain @⟨k, n, t, names, list, h0, h1, ht, hnl, hll, hs, hr⟩ := h
  show JBd (if k = 6 ∧ checkP (.mk k n t names list) = 0 then (if 0 ≤ Lib.idxOfS names s then (list.getD (Lib.idxOfS names s).toNat zeroJ, true) else (zeroJ, false)) else (zeroJ, false)).1
  by_cases h1 : k = 6 ∧ checkP (.mk k n t names list) = 0
  · rw [if_pos h1]
    by_cases h2 : 0 ≤ Lib.idxOfS names s
    · rw [if_pos h2]
      show JBd (list.getD (Lib.idxOfS names s).toNat zeroJ)
      rw [List.getD_eq_getElem?_getD]
      cases hq : list[(Lib.idxOfS names s).toNat]? with
      | none => exact zeroJ_bd
      | some x => exact hr _ (List.mem_of_getElem? hq)
    · rw [if_neg h2]; exact zeroJ_bd
  · rw [if_neg h1]; exact zeroJ_bd
theorem mapP_bd {names : List ByteArray} {l : List J} (hnl : names.length ≤ 100) (hll : l.length ≤ 100) (hs : ∀ s ∈ names, s.size ≤ 140737488355328) (hr : ∀ j ∈ l, JBd j) : JBd (mapP names l) := by
  show JBd (.mk 6 0 ⟨#[]⟩ _ _)
  exact .mk (by decide) (by decide) (by decide) (by rw [List.length_take]; omega) (by rw [List.length_take]; omega) (fun s h => hs s (List.mem_of_mem_take h)) (fun j h => hr j (List.mem_of_mem_take h))
theorem quote_bytes (s : ByteArray) : quoteB s = ⟨(quoteL s).toArray⟩ := rfl

section
variable {w : World} (hPT : ∀ W, w.grownBy W none → PT W)
set_option maxRecDepth 100000 in
set_option maxHeartbeats 6400000 in
include hPT in
theorem jsonCalls_main {a b : J} (ha : JBd a) (hb : JBd b) (name : ByteArray) (names : List ByteArray) (l : List J) (hnb : ∀ s ∈ names, s.size ≤ 140737488355328) (hlb : ∀ j ∈ l, JBd j) (S : Nat → Prop) (ua ub un ul : Value) (hS : ∀ x, S x → x < w.heap.size)
    (hua : JAt w S a ua) (hub : JAt w S b ub) (hun : StrsAt w S un names) (hul : LAt w S l ul)
    (hl : ∀ W, w.grownBy W none → Calls Tryd.prog 12 #[] W fun e w' => e = .returned (.bool true) ∧ W.grownBy w' none)
    (hsa : szJ a ≤ 5000) (hsb : szJ b ≤ 5000) (hsn : name.size ≤ 5000) (hnl : names.length ≤ 100) (hll : l.length ≤ 100) :
    Calls Tryd.prog 7 #[ua, ub, .string name, un, ul] w fun e w' => e = .returned (.bool true) ∧ w.grownBy w' none := by
  have HSA := fun (W : World) (hg : w.grownBy W none) => Lib.hid (small_any ha S ua W (fun b hb => Nat.lt_of_lt_of_le (hS b hb) hg.size) (hua.keep (fun b hb => hg.block b (hS b hb) (by simp)) (fun _ => id)))
  have HSB := fun (W : World) (hg : w.grownBy W none) => Lib.hid (small_any hb S ub W (fun b hb => Nat.lt_of_lt_of_le (hS b hb) hg.size) (hub.keep (fun b hb => hg.block b (hS b hb) (by simp)) (fun _ => id)))
  rw [decide_eq_true hsa] at HSA
  rw [decide_eq_true hsb] at HSB
  have HL := fun (W : World) (hg : w.grownBy W none) => Lib.hid (hl W hg)
  have HT := fun (W : World) (hg : w.grownBy W none) => Lib.hid (Text_any ha (by omega) S ua W (fun b hb => Nat.lt_of_lt_of_le (hS b hb) hg.size) (pb_of hPT hg) (hua.keep (fun b hb => hg.block b (hS b hb) (by simp)) (fun _ => id)))
  have HRT := fun (W : World) (hg : w.grownBy W none) => Lib.hid (rText_any ha (by omega) S ua W (fun b hb => Nat.lt_of_lt_of_le (hS b hb) hg.size) (hua.keep (fun b hb => hg.block b (hS b hb) (by simp)) (fun _ => id)))
  have HGt := fun (W : World) (hg : w.grownBy W none) => Lib.hid (get_any ha name S ua W (fun b hb => Nat.lt_of_lt_of_le (hS b hb) hg.size) (hua.keep (fun b hb => hg.block b (hS b hb) (by simp)) (fun _ => id)))
  have HRG := fun (W : World) (hg : w.grownBy W none) => Lib.hid (rget_any ha name S ua W (fun b hb => Nat.lt_of_lt_of_le (hS b hb) hg.size) (hua.keep (fun b hb => hg.block b (hS b hb) (by simp)) (fun _ => id)))
  -- the last region's calls
  have Q25 : ∀ (wK : World) (hg : w.grownBy wK none), Hid (QC Tryd.prog wK 25 #[ua] (.int .i64 (checkP a))) := fun wK hg G => (check_any ha S ua G.W (fun b hb => Nat.lt_of_lt_of_le (hS b hb) (gb_trans hg G.h).size) (hua.keep (fun b hb => (gb_trans hg G.h).block b (hS b hb) (by simp)) (fun _ => id))).mono fun e w' hh => ⟨hh.1, gb_trans G.h hh.2⟩
  have Q26 : ∀ (wK : World) (hg : w.grownBy wK none), Hid (QC Tryd.prog wK 26 #[ua] (.int .i64 (checkP a))) := fun wK hg G => (rcheck_any ha S ua G.W (fun b hb => Nat.lt_of_lt_of_le (hS b hb) (gb_trans hg G.h).size) (hua.keep (fun b hb => (gb_trans hg G.h).block b (hS b hb) (by simp)) (fun _ => id))).mono fun e w' hh => ⟨hh.1, gb_trans G.h hh.2⟩
  have Q27 : ∀ (wK : World) (hg : w.grownBy wK none), Hid (QC Tryd.prog wK 27 #[ua, ub] (.bool (sameP a b))) := fun wK hg G => (Same_any ha hb S ua ub G.W (fun b hb => Nat.lt_of_lt_of_le (hS b hb) (gb_trans hg G.h).size) (hua.keep (fun b hb => (gb_trans hg G.h).block b (hS b hb) (by simp)) (fun _ => id)) (hub.keep (fun b hb => (gb_trans hg G.h).block b (hS b hb) (by simp)) (fun _ => id))).mono fun e w' hh => ⟨hh.1, gb_trans G.h hh.2⟩
  have Q28 : ∀ (wK : World) (hg : w.grownBy wK none), Hid (QC Tryd.prog wK 28 #[ua, ub] (.bool (sameP a b))) := fun wK hg G => (rSame_any ha hb S ua ub G.W (fun b hb => Nat.lt_of_lt_of_le (hS b hb) (gb_trans hg G.h).size) (hua.keep (fun b hb => (gb_trans hg G.h).block b (hS b hb) (by simp)) (fun _ => id)) (hub.keep (fun b hb => (gb_trans hg G.h).block b (hS b hb) (by simp)) (fun _ => id))).mono fun e w' hh => ⟨hh.1, gb_trans G.h hh.2⟩
  have Q27a : ∀ (wK : World) (hg : w.grownBy wK none), Hid (QC Tryd.prog wK 27 #[ua, ua] (.bool (sameP a a))) := fun wK hg G => (Same_any ha ha S ua ua G.W (fun b hb => Nat.lt_of_lt_of_le (hS b hb) (gb_trans hg G.h).size) (hua.keep (fun b hb => (gb_trans hg G.h).block b (hS b hb) (by simp)) (fun _ => id)) (hua.keep (fun b hb => (gb_trans hg G.h).block b (hS b hb) (by simp)) (fun _ => id))).mono fun e w' hh => ⟨hh.1, gb_trans G.h hh.2⟩
  have Q28a : ∀ (wK : World) (hg : w.grownBy wK none), Hid (QC Tryd.prog wK 28 #[ua, ua] (.bool (sameP a a))) := fun wK hg G => (rSame_any ha ha S ua ua G.W (fun b hb => Nat.lt_of_lt_of_le (hS b hb) (gb_trans hg G.h).size) (hua.keep (fun b hb => (gb_trans hg G.h).block b (hS b hb) (by simp)) (fun _ => id)) (hua.keep (fun b hb => (gb_trans hg G.h).block b (hS b hb) (by simp)) (fun _ => id))).mono fun e w' hh => ⟨hh.1, gb_trans G.h hh.2⟩
  have Q18 : ∀ (wK : World), Hid (QC Tryd.prog wK 18 #[.string name] (.string (quoteB name))) := fun wK G => (Quote_any name G.W (by omega)).mono fun e w' hh => ⟨hh.1, gb_trans G.h hh.2⟩
  have Q29 : ∀ (wK : World), Hid (QC Tryd.prog wK 29 #[.string name] (.string (quoteB name))) := fun wK G => (rquote_any name G.W (by omega)).mono fun e w' hh => ⟨by rw [quote_bytes]; exact hh.1, gb_trans G.h hh.2⟩
  have Q15 := fun (wK : World) (S1 S2 : Nat → Prop) (y1 y2 : Value) (h1 : ∀ b, S1 b → b < wK.heap.size) (h2 : ∀ b, S2 b → b < wK.heap.size) (g1 : JAt wK S1 (getP a name).1 y1) (g2 : JAt wK S2 (getP a name).1 y2) =>
    show Hid (QC Tryd.prog wK 15 #[y1, y2] (.bool true)) from fun G => (sameJson2 (getP_bd ha name) S1 S2 y1 y2 G.W (fun b hb => Nat.lt_of_lt_of_le (h1 b hb) G.h.size) (fun b hb => Nat.lt_of_lt_of_le (h2 b hb) G.h.size) (g1.keep (fun b hb => G.h.block b (h1 b hb) (by simp)) (fun _ => id)) (g2.keep (fun b hb => G.h.block b (h2 b hb) (by simp)) (fun _ => id))).mono fun e w' hh => ⟨hh.1, gb_trans G.h hh.2⟩
  have HM := fun (W : World) (hg : w.grownBy W none) => Lib.hid (map_any names l S un ul W hnl hll (fun b hb => Nat.lt_of_lt_of_le (hS b hb) hg.size) (hun.keep (fun b hb => hg.block b (hS b hb) (by simp)) (fun _ => id)) (hul.keep (fun b hb => hg.block b (hS b hb) (by simp)) (fun _ => id)))
  have HRM := fun (W : World) (hg : w.grownBy W none) => Lib.hid (rmap_any names l S un ul W hnl hll (fun b hb => Nat.lt_of_lt_of_le (hS b hb) hg.size) (hun.keep (fun b hb => hg.block b (hS b hb) (by simp)) (fun _ => id)) (hul.keep (fun b hb => hg.block b (hS b hb) (by simp)) (fun _ => id)))
  have HMJ := fun (S1 S2 : Nat → Prop) (y1 y2 : Value) (W : World) (h1 : ∀ b, S1 b → b < W.heap.size) (h2 : ∀ b, S2 b → b < W.heap.size) (g1 : JAt W S1 (mapP names l) y1) (g2 : JAt W S2 (mapP names l) y2) => Lib.hid (sameJson2 (mapP_bd hnl hll hnb hlb) S1 S2 y1 y2 W h1 h2 g1 g2)
  obtain ⟨A1, n1, c1, A2, n2, c2, rfl⟩ := hua.shapes
  obtain ⟨B1, m1, d1, B2, m2, d2, rfl⟩ := hub.shapes
  obtain ⟨AN, cN, rfl, _⟩ := hun
  obtain ⟨AL, cL, _, _, _, rfl, _⟩ := hul
  have hsnI : ¬ (5000 : Int) < (name.size : Int) := by omega
  have hnlI : ¬ (100 : Int) < (names.length : Int) := by omega
  have hllI : ¬ (100 : Int) < (l.length : Int) := by omega
  generalize mapP names l = M at *
  generalize getP a name = g at *
  generalize checkP a = ck at *
  generalize textP a = tx at *
  generalize quoteB name = qb at *
  generalize sameP a b = s1 at *
  generalize sameP a a = s2 at *
  obtain ⟨gj, gb⟩ := g
  obtain ⟨X, E⟩ := tx
  simp only at HT HRT Q15
  have J0 := JB.new w (.int .i64 a.k) (.int .i64 a.n) (.string a.t) (.slice A1 n1 c1) (.slice A2 n2 c2)
  have JA := J0.alloc (.cells #[.int .i64 b.k, .int .i64 b.n, .string b.t, .slice B1 m1 d1, .slice B2 m2 d2] 26)
  have JZ := JB.new (w.alloc (.cells #[.int .i64 a.k, .int .i64 a.n, .string a.t, .slice A1 n1 c1, .slice A2 n2 c2] 26)) (.int .i64 b.k) (.int .i64 b.n) (.string b.t) (.slice B1 m1 d1) (.slice B2 m2 d2)
  have hgw : w.grownBy ((w.alloc (.cells #[.int .i64 a.k, .int .i64 a.n, .string a.t, .slice A1 n1 c1, .slice A2 n2 c2] 26)).alloc (.cells #[.int .i64 b.k, .int .i64 b.n, .string b.t, .slice B1 m1 d1, .slice B2 m2 d2] 26)) none := gb_alloc (gb_alloc (gb_refl w none) _) _
  rw [show (w.alloc (.cells #[.int .i64 a.k, .int .i64 a.n, .string a.t, .slice A1 n1 c1, .slice A2 n2 c2] 26)).heap.size = w.heap.size + 1 from by simp] at JZ
  clear hua hub ha hb hl hlb hnb hsa hsb hsn hnl hll J0
  generalize a.k = ak at *
  generalize a.n = an at *
  generalize a.t = at_ at *
  generalize b.k = bk at *
  generalize b.n = bn at *
  generalize b.t = bt at *
  go_enter Tryd.func7, Tryd.ntmps7
  go_wp2_with (first
    | (go_at_call 12; refine ((HL _ (by exact hgw)).out).mono ?_; rintro e w1 ⟨rfl, hg1⟩
       have hh1 := gb_trans hgw hg1
       have JA1 := JA.kept hg1 (by simp)
       have JZ1 := JZ.kept hg1 (by simp)
       obtain ⟨a10, a11, a12, a13, a14, a1f⟩ := JA1.all
       obtain ⟨z10, z11, z12, z13, z14, z1f⟩ := JZ1.all)
    | (go_at_call 16; have hm2 := hg2; clear hm2; refine ((HSB _ (by exact hh2)).out).mono ?_; rintro e w3 ⟨rfl, hg3⟩
       have hh3 := gb_trans hh2 hg3
       have JA3 := JA2.kept hg3 (by simp)
       have JZ3 := JZ2.kept hg3 (by simp)
       obtain ⟨a30, a31, a32, a33, a34, a3f⟩ := JA3.all)
    | (go_at_call 16; refine ((HSA _ (by exact hh1)).out).mono ?_; rintro e w2 ⟨rfl, hg2⟩
       have hh2 := gb_trans hh1 hg2
       have JA2 := JA1.kept hg2 (by simp)
       have JZ2 := JZ1.kept hg2 (by simp)
       obtain ⟨z20, z21, z22, z23, z24, z2f⟩ := JZ2.all)
    | (go_at_call 17; refine ((HT _ (by exact hh3)).out).mono ?_; rintro e w4 ⟨rfl, hg4⟩
       have hh4 := gb_trans hh3 hg4
       have JA4 := JA3.kept hg4 (by simp)
       have JZ4 := JZ3.kept hg4 (by simp)
       obtain ⟨a40, a41, a42, a43, a44, a4f⟩ := JA4.all)
    | (go_at_call 23; refine ((HRT _ (by exact hh4)).out).mono ?_; rintro e w5 ⟨rfl, hg5⟩
       have hh5 := gb_trans hh4 hg5
       have JA5 := JA4.kept hg5 (by simp)
       have JZ5 := JZ4.kept hg5 (by simp)
       obtain ⟨a50, a51, a52, a53, a54, a5f⟩ := JA5.all)
    | (go_at_call 20; refine ((HGt _ (by exact hh5)).out).mono ?_; rintro e w6 ⟨y1, rfl, hy1, hg6⟩
       obtain ⟨C1, p1, e1, C2, p2, e2, rfl⟩ := hy1.shapes
       simp only
       have hh6 := gb_alloc (gb_trans hh5 hg6) (.cells #[.int .i64 gj.k, .int .i64 gj.n, .string gj.t, .slice C1 p1 e1, .slice C2 p2 e2] 26)
       have JA6 := (JA5.kept hg6 (by simp)).alloc (.cells #[.int .i64 gj.k, .int .i64 gj.n, .string gj.t, .slice C1 p1 e1, .slice C2 p2 e2] 26)
       have JZ6 := (JZ5.kept hg6 (by simp)).alloc (.cells #[.int .i64 gj.k, .int .i64 gj.n, .string gj.t, .slice C1 p1 e1, .slice C2 p2 e2] 26)
       have JV6 := JB.new w6 (.int .i64 gj.k) (.int .i64 gj.n) (.string gj.t) (.slice C1 p1 e1) (.slice C2 p2 e2)
       obtain ⟨a60, a61, a62, a63, a64, a6f⟩ := JA6.all)
    | (go_at_call 24; refine ((HRG _ (by exact hh6)).out).mono ?_; rintro e w7 ⟨y2, rfl, hy2, hg7⟩
       obtain ⟨D1, q1, f1, D2, q2, f2, rfl⟩ := hy2.shapes
       simp only
       have hh7 := gb_alloc (gb_trans hh6 hg7) (.cells #[.int .i64 gj.k, .int .i64 gj.n, .string gj.t, .slice D1 q1 f1, .slice D2 q2 f2] 26)
       have JA7 := (JA6.kept hg7 (by simp)).alloc (.cells #[.int .i64 gj.k, .int .i64 gj.n, .string gj.t, .slice D1 q1 f1, .slice D2 q2 f2] 26)
       have JZ7 := (JZ6.kept hg7 (by simp)).alloc (.cells #[.int .i64 gj.k, .int .i64 gj.n, .string gj.t, .slice D1 q1 f1, .slice D2 q2 f2] 26)
       have JV7 := (JV6.kept hg7 (by simp)).alloc (.cells #[.int .i64 gj.k, .int .i64 gj.n, .string gj.t, .slice D1 q1 f1, .slice D2 q2 f2] 26)
       have JU7 := JB.new w7 (.int .i64 gj.k) (.int .i64 gj.n) (.string gj.t) (.slice D1 q1 f1) (.slice D2 q2 f2)))
  have hS7 : ∀ b, S b → b < w6.heap.size := fun b hb => Nat.lt_of_lt_of_le (hS b hb) (gb_trans hh5 hg6).size
  have hgV : w6.grownBy (w7.alloc (.cells #[.int .i64 gj.k, .int .i64 gj.n, .string gj.t, .slice D1 q1 f1, .slice D2 q2 f2] 26)) none := gb_alloc (gb_trans (gb_alloc (gb_refl w6 none) _) hg7) _
  have hgU : w7.grownBy (w7.alloc (.cells #[.int .i64 gj.k, .int .i64 gj.n, .string gj.t, .slice D1 q1 f1, .slice D2 q2 f2] 26)) none := gb_alloc (gb_refl w7 none) _
  have q15 := Q15 _ S S _ _ (fun b hb => Nat.lt_of_lt_of_le (hS7 b hb) hgV.size) (fun b hb => Nat.lt_of_lt_of_le (hS7 b hb) hgV.size) (hy1.keep (fun b hb => hgV.block b (hS7 b hb) (by simp)) (fun _ => id)) (hy2.keep (fun b hb => hgU.block b (Nat.lt_of_lt_of_le (hS7 b hb) (gb_trans (gb_alloc (gb_refl w6 none) _) hg7).size) (by simp)) (fun _ => id))
  have q25 := Q25 _ hh7
  have q26 := Q26 _ hh7
  have q27 := Q27 _ hh7
  have q28 := Q28 _ hh7
  have q27a := Q27a _ hh7
  have q28a := Q28a _ hh7
  have q18 := Q18 (w7.alloc (.cells #[.int .i64 gj.k, .int .i64 gj.n, .string gj.t, .slice D1 q1 f1, .slice D2 q2 f2] 26))
  have q29 := Q29 (w7.alloc (.cells #[.int .i64 gj.k, .int .i64 gj.n, .string gj.t, .slice D1 q1 f1, .slice D2 q2 f2] 26))
  clear Q15 Q25 Q26 Q27 Q28 Q27a Q28a Q18 Q29 a10 a11 a12 a13 a14 a1f z10 z11 z12 z13 z14 z1f a30 a31 a32 a33 a34 a3f z20 z21 z22 z23 z24 z2f a40 a41 a42 a43 a44 a4f a50 a51 a52 a53 a54 a5f a60 a61 a62 a63 a64 a6f
  clear HL HSA HSB HT HRT HGt HRG JA JZ JA1 JA2 JA3 JA4 JA5 JA6 JZ1 JZ2 JZ3 JZ4 JZ5 JZ6 JV6 hS7 hgV hgU hy1 hy2
  generalize hwK : World.alloc w7 _ = wK at *
  generalize w6.heap.size = B6 at *
  generalize w7.heap.size = B7 at *
  have PA0 : ∀ G : Grown wK, G.W.cell? ⟨w.heap.size, 0, none⟩ = some (.int .i64 ak) := fun G => (JA7.kept G.h (by simp)).c0
  have PA1 : ∀ G : Grown wK, G.W.cell? ⟨w.heap.size, 1, none⟩ = some (.int .i64 an) := fun G => (JA7.kept G.h (by simp)).c1
  have PA2 : ∀ G : Grown wK, G.W.cell? ⟨w.heap.size, 2, none⟩ = some (.string at_) := fun G => (JA7.kept G.h (by simp)).c2
  have PA3 : ∀ G : Grown wK, G.W.cell? ⟨w.heap.size, 3, none⟩ = some (.slice A1 n1 c1) := fun G => (JA7.kept G.h (by simp)).c3
  have PA4 : ∀ G : Grown wK, G.W.cell? ⟨w.heap.size, 4, none⟩ = some (.slice A2 n2 c2) := fun G => (JA7.kept G.h (by simp)).c4
  have PZ0 : ∀ G : Grown wK, G.W.cell? ⟨w.heap.size + 1, 0, none⟩ = some (.int .i64 bk) := fun G => (JZ7.kept G.h (by simp)).c0
  have PZ1 : ∀ G : Grown wK, G.W.cell? ⟨w.heap.size + 1, 1, none⟩ = some (.int .i64 bn) := fun G => (JZ7.kept G.h (by simp)).c1
  have PZ2 : ∀ G : Grown wK, G.W.cell? ⟨w.heap.size + 1, 2, none⟩ = some (.string bt) := fun G => (JZ7.kept G.h (by simp)).c2
  have PZ3 : ∀ G : Grown wK, G.W.cell? ⟨w.heap.size + 1, 3, none⟩ = some (.slice B1 m1 d1) := fun G => (JZ7.kept G.h (by simp)).c3
  have PZ4 : ∀ G : Grown wK, G.W.cell? ⟨w.heap.size + 1, 4, none⟩ = some (.slice B2 m2 d2) := fun G => (JZ7.kept G.h (by simp)).c4
  have PV0 : ∀ G : Grown wK, G.W.cell? ⟨B6, 0, none⟩ = some (.int .i64 gj.k) := fun G => (JV7.kept G.h (by simp)).c0
  have PV1 : ∀ G : Grown wK, G.W.cell? ⟨B6, 1, none⟩ = some (.int .i64 gj.n) := fun G => (JV7.kept G.h (by simp)).c1
  have PV2 : ∀ G : Grown wK, G.W.cell? ⟨B6, 2, none⟩ = some (.string gj.t) := fun G => (JV7.kept G.h (by simp)).c2
  have PV3 : ∀ G : Grown wK, G.W.cell? ⟨B6, 3, none⟩ = some (.slice C1 p1 e1) := fun G => (JV7.kept G.h (by simp)).c3
  have PV4 : ∀ G : Grown wK, G.W.cell? ⟨B6, 4, none⟩ = some (.slice C2 p2 e2) := fun G => (JV7.kept G.h (by simp)).c4
  have PU0 : ∀ G : Grown wK, G.W.cell? ⟨B7, 0, none⟩ = some (.int .i64 gj.k) := fun G => (JU7.kept G.h (by simp)).c0
  have PU1 : ∀ G : Grown wK, G.W.cell? ⟨B7, 1, none⟩ = some (.int .i64 gj.n) := fun G => (JU7.kept G.h (by simp)).c1
  have PU2 : ∀ G : Grown wK, G.W.cell? ⟨B7, 2, none⟩ = some (.string gj.t) := fun G => (JU7.kept G.h (by simp)).c2
  have PU3 : ∀ G : Grown wK, G.W.cell? ⟨B7, 3, none⟩ = some (.slice D1 q1 f1) := fun G => (JU7.kept G.h (by simp)).c3
  have PU4 : ∀ G : Grown wK, G.W.cell? ⟨B7, 4, none⟩ = some (.slice D2 q2 f2) := fun G => (JU7.kept G.h (by simp)).c4
  refine wp_region_grown 51 9 (by simp only [List.take_succ_cons, List.take_zero]; rfl) (by kernel_rfl) (gb_drew (gb_refl _ _)) (by kernel_rfl) (by kernel_rfl) (by kernel_rfl) (by kernel_rfl) ?_
  repeat go_big_quiet_step (first
    | (rename_i G; with_reducible exact q25.out.at G)
    | (rename_i G; with_reducible exact q26.out.at G)
    | (rename_i G; with_reducible exact q27.out.at G)
    | (rename_i G; with_reducible exact q28.out.at G)
    | (rename_i G; with_reducible exact q27a.out.at G)
    | (rename_i G; with_reducible exact q28a.out.at G)
    | (rename_i G; with_reducible exact q18.out.at G)
    | (rename_i G; with_reducible exact q29.out.at G)
    | (rename_i G; with_reducible exact q15.out.at G))
  refine wpQuiet_nil ?_
  intro G
  refine wpAny_take (i := 51) (v := ?_) rfl (by kernel_rfl) (by kernel_rfl) (by kernel_rfl) (fun _ _ _ h => h) (Or.inl ⟨by rfl, ?_⟩) ?_
  rotate_left
  · intro W; go_simp; try with_reducible rfl
  refine wpAny_take (i := 52) (v := ?_) rfl (by kernel_rfl) (by kernel_rfl) (by kernel_rfl) (fun _ _ _ h => h) (Or.inl ⟨by rfl, ?_⟩) ?_
  rotate_left
  · intro W; go_simp; try with_reducible rfl
  refine wpAny_take (i := 54) (v := ?_) rfl (by kernel_rfl) (by kernel_rfl) (by kernel_rfl) (fun _ _ _ h => h) (Or.inl ⟨by rfl, ?_⟩) ?_
  rotate_left
  · intro W; go_simp; try with_reducible rfl
  refine wpAny_take (i := 55) (v := ?_) rfl (by kernel_rfl) (by kernel_rfl) (by kernel_rfl) (fun _ _ _ h => h) (Or.inl ⟨by rfl, ?_⟩) ?_
  rotate_left
  · intro W; go_simp; try with_reducible rfl
  refine wpAny_ready (rs := [53]) (by kernel_rfl) (by simp) ?_
  refine AllReady.cons rfl (fun K hK => ?_) AllReady.nil
  go_simp
  have hgG := gb_trans hh7 G.h
  go_at_call 30
  refine ((HM _ hgG).out).mono ?_
  rintro e wM ⟨yM, rfl, hyM, hgM⟩
  refine hK _ _ ?_
  clear hK K
  refine wpAny_ready (rs := [56]) (by kernel_rfl) (by simp) ?_
  refine AllReady.cons rfl (fun K hK => ?_) AllReady.nil
  go_simp
  go_at_call 31
  refine ((HRM _ (gb_trans hgG hgM)).out).mono ?_
  rintro e wR ⟨yR, rfl, hyR, hgR⟩
  refine hK _ _ ?_
  clear hK K
  have hSG : ∀ b, S b → b < G.W.heap.size := fun b hb => Nat.lt_of_lt_of_le (hS b hb) hgG.size
  have hz1 := hgM.size
  have hz2 := hgR.size
  have hb1 : ∀ b, (S b ∨ (G.W.heap.size ≤ b ∧ b < wM.heap.size)) → b < wM.heap.size := fun b hb => hb.elim (fun h => by have := hSG b h; omega) (fun h => h.2)
  have hb2 : ∀ b, (S b ∨ (wM.heap.size ≤ b ∧ b < wR.heap.size)) → b < wR.heap.size := fun b hb => hb.elim (fun h => by have := hSG b h; omega) (fun h => h.2)
  have HJ := HMJ _ _ yM yR wR (fun b hb => Nat.lt_of_lt_of_le (hb1 b hb) hz2) hb2 (hyM.keep (fun b hb => hgR.block b (hb1 b hb) (by simp)) (fun _ => id)) hyR
  refine wpAny_ready (rs := [57]) (by kernel_rfl) (by simp) ?_
  refine AllReady.cons rfl (fun K hK => ?_) AllReady.nil
  go_simp
  go_at_call 15
  refine (HJ.out).mono ?_
  rintro e wF ⟨rfl, hgF⟩
  refine hK _ _ ?_
  clear hK K
  refine wpAny_take (i := 58) (v := ?_) rfl (by kernel_rfl) (by kernel_rfl) (by kernel_rfl) (fun _ _ _ h => h) (Or.inl ⟨by rfl, ?_⟩) ?_
  rotate_left
  · intro W; go_simp; try with_reducible rfl
  refine wpAny_take (i := 59) (v := ?_) rfl (by kernel_rfl) (by kernel_rfl) (by kernel_rfl) (fun _ _ _ h => h) (Or.inl ⟨by rfl, ?_⟩) ?_
  rotate_left
  · intro W; go_simp; try with_reducible rfl
  refine wpAny_done (by kernel_rfl) ?_ _
  go_wp2_with fail
  go_ret
  exact ⟨rfl, gb_trans (gb_trans (gb_trans hgG hgM) hgR) hgF⟩
end
end Go.Proofs.YtnnhkajjifmlfaaDoor
