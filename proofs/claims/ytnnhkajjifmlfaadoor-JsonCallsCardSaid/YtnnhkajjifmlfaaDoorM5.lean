/- JsonCalls: a list of values among the arguments, opened; what the guards let by. -/
import Derived.Test.YtnnhkajjifmlfaaDoorM4
import Derived.Test.YtnnhkajjifmlfaaDoorTe
namespace Go.Proofs.YtnnhkajjifmlfaaDoor
open Go.RowKit Go.Maps Go.ChangeShapes Go.WideShapes
section
variable {H : Type} {enc : TypeId × Value → H} {w : World} {sp : Nat → Bool} {hd : Bool}
set_option maxRecDepth 100000 in
theorem open_listC {fuel : Nat} {v : Value} {x : DataW H × List MemPlace} (h : DataW.trod enc Tryd.prog w 0 sp hd fuel 24 [v] = some x) (hw : ∀ n ∈ x.1.weights Tryd.prog 24, n ≤ reachBytes) :
    ∃ list : List J, LAt w (· < w.heap.size) list v ∧ list.length ≤ 140737488355328 ∧ ∀ j ∈ list, JBd j := by
  have hR := reach_le
  rcases DataW.trod_slice Tryd.underlying24 h with ⟨e4, hx4⟩ | ⟨a, len, cap, elems, rest, n', hn', e4, hx4, _, hl, hmx, hel, helem, _, _⟩
  · injection e4 with e4 _
    subst e4
    exact ⟨[], ⟨none, 0, 0, 0, fun _ => undef, rfl, Nat.le_refl _, fun h => absurd h (by simp), fun i hi => absurd hi (by simp), fun i hi => absurd hi (by simp)⟩, Nat.zero_le _, fun j hj => by cases hj⟩
  · injection e4 with e4 _
    subst e4
    rw [cellsOf26] at helem
    have hbig : len ≤ 140737488355328 := by
      have := hw ((elems.length + rest.length) * 80) (by
        subst hx4
        simp [DataW.weights, Tryd.underlying24, bytesOf26])
      omega
    have each : ∀ i, ∃ (j : J) (V : Value), i < len → JBd j ∧ (∃ a0 a1 a2 a3 a4, V = .agg #[a0, a1, a2, a3, a4] ∧ w.cell? (a.add (i * 5)) = some a0 ∧ w.cell? ((a.add (i * 5)).add 1) = some a1 ∧ w.cell? ((a.add (i * 5)).add 2) = some a2 ∧ w.cell? ((a.add (i * 5)).add 3) = some a3 ∧ w.cell? ((a.add (i * 5)).add 4) = some a4) ∧ JAt w (· < w.heap.size) j V := by
      intro i
      by_cases hi : i < len
      · have hi2 := helem i hi
        have hlt : i < elems.length := by omega
        rw [List.getElem?_eq_getElem hlt, Option.bind_eq_some_iff] at hi2
        obtain ⟨cs', hcs, hy⟩ := hi2
        obtain ⟨_, _, hcell⟩ := World.cells?_some hcs
        obtain ⟨j, b0, b1, b2, b3, b4, rfl, hB, hA⟩ := open_jsonC n' cs' _ hy (fun q hq => by
          refine hw q ?_
          subst hx4
          have hg : (elems.map (·.1))[i]? = some (elems[i]).1 := by rw [List.getElem?_map, List.getElem?_eq_getElem hlt]; rfl
          have := weightsAll_mem (P := Tryd.prog) (e := 26) hg q hq
          simp only [DataW.weights, Tryd.underlying24, List.mem_cons, List.mem_append]
          simp [this])
        have c0 := hcell 0 (by omega)
        rw [show (a.add (i * 5)).add 0 = a.add (i * 5) from by unfold Addr.add; split <;> simp_all] at c0
        exact ⟨j, _, fun _ => ⟨hB, ⟨b0, b1, b2, b3, b4, rfl, c0, hcell 1 (by omega), hcell 2 (by omega), hcell 3 (by omega), hcell 4 (by omega)⟩, hA⟩⟩
      · exact ⟨.mk 0 0 ⟨#[]⟩ [] [], undef, fun h => absurd h hi⟩
    obtain ⟨f, hf1⟩ := Classical.axiomOfChoice each
    obtain ⟨V, hV⟩ := Classical.axiomOfChoice hf1
    have hll : ((List.range len).map f).length = len := by simp
    have hget : ∀ i (h : i < ((List.range len).map f).length), ((List.range len).map f)[i] = f i := fun i h => by simp
    refine ⟨(List.range len).map f, ?_, by rw [hll]; exact hbig, fun j hj => ?_⟩
    · have hlen' : Value.slice (some a) len cap = Value.slice (some a) ((List.range len).map f).length cap := by rw [hll]
      rw [hlen']
      by_cases hl0 : 0 < len
      · obtain ⟨_, ⟨b0, b1, b2, b3, b4, _, c0, _⟩, _⟩ := hV 0 hl0
        obtain ⟨b, o, spot⟩ := a
        have hspot : spot = none := by simpa [Addr.add] using World.cell?_spot c0
        subst hspot
        have c0' := c0
        rw [add_plain] at c0'
        refine ⟨some ⟨b, o, none⟩, cap, b, o, V, rfl, by rw [hll]; exact hl, fun _ => ⟨rfl, cell_lt c0'⟩, fun i hi => ?_, fun i hi => ?_⟩
        · rw [hll] at hi
          obtain ⟨_, ⟨b0, b1, b2, b3, b4, e, d0, d1, d2, d3, d4⟩, _⟩ := hV i hi
          simp only [add_plain] at d0 d1 d2 d3 d4
          exact ⟨b0, b1, b2, b3, b4, e, d0, d1, d2, d3, d4⟩
        · rw [hget]
          rw [hll] at hi
          exact (hV i hi).2.2
      · refine ⟨some a, cap, 0, 0, V, rfl, by rw [hll]; exact hl, fun h => absurd h (by rw [hll]; exact hl0), fun i hi => absurd hi (by rw [hll]; omega), fun i hi => absurd hi (by rw [hll]; omega)⟩
    · obtain ⟨i, hi, rfl⟩ := List.mem_map.1 hj
      exact (hV i (List.mem_range.1 hi)).1
end
section
variable {w : World} (hPT : ∀ W, w.grownBy W none → PT W)
set_option maxRecDepth 100000 in
set_option maxHeartbeats 3200000 in
theorem jsonCalls_a {a b : J} (ha : JBd a) (hb : JBd b) (name : ByteArray) (names : List ByteArray) (l : List J) (S : Nat → Prop) (ua ub un ul : Value) (hS : ∀ x, S x → x < w.heap.size)
    (hua : JAt w S a ua) (hub : JAt w S b ub) (hun : StrsAt w S un names) (hul : LAt w S l ul)
    (hl : ∀ W, w.grownBy W none → Calls Tryd.prog 12 #[] W fun e w' => e = .returned (.bool true) ∧ W.grownBy w' none)  (hsa : ¬ szJ a ≤ 5000) :
    Calls Tryd.prog 7 #[ua, ub, .string name, un, ul] w fun e w' => e = .returned (.bool true) ∧ w.grownBy w' none := by
  have HSA := fun (W : World) (hg : w.grownBy W none) => Lib.hid (small_any ha S ua W (fun b hb => Nat.lt_of_lt_of_le (hS b hb) hg.size) (hua.keep (fun b hb => hg.block b (hS b hb) (by simp)) (fun _ => id)))
  have HSB := fun (W : World) (hg : w.grownBy W none) => Lib.hid (small_any hb S ub W (fun b hb => Nat.lt_of_lt_of_le (hS b hb) hg.size) (hub.keep (fun b hb => hg.block b (hS b hb) (by simp)) (fun _ => id)))
  rw [decide_eq_false hsa] at HSA
  have HL := fun (W : World) (hg : w.grownBy W none) => Lib.hid (hl W hg)
  obtain ⟨A1, n1, c1, A2, n2, c2, rfl⟩ := hua.shapes
  obtain ⟨B1, m1, d1, B2, m2, d2, rfl⟩ := hub.shapes
  obtain ⟨AN, cN, rfl, _⟩ := hun
  obtain ⟨AL, cL, _, _, _, rfl, _⟩ := hul
  have J0 := JB.new w (.int .i64 a.k) (.int .i64 a.n) (.string a.t) (.slice A1 n1 c1) (.slice A2 n2 c2)
  have JA := J0.alloc (.cells #[.int .i64 b.k, .int .i64 b.n, .string b.t, .slice B1 m1 d1, .slice B2 m2 d2] 26)
  have JZ := JB.new (w.alloc (.cells #[.int .i64 a.k, .int .i64 a.n, .string a.t, .slice A1 n1 c1, .slice A2 n2 c2] 26)) (.int .i64 b.k) (.int .i64 b.n) (.string b.t) (.slice B1 m1 d1) (.slice B2 m2 d2)
  have hgw : w.grownBy ((w.alloc (.cells #[.int .i64 a.k, .int .i64 a.n, .string a.t, .slice A1 n1 c1, .slice A2 n2 c2] 26)).alloc (.cells #[.int .i64 b.k, .int .i64 b.n, .string b.t, .slice B1 m1 d1, .slice B2 m2 d2] 26)) none := gb_alloc (gb_alloc (gb_refl w none) _) _
  rw [show (w.alloc (.cells #[.int .i64 a.k, .int .i64 a.n, .string a.t, .slice A1 n1 c1, .slice A2 n2 c2] 26)).heap.size = w.heap.size + 1 from by simp] at JZ
  clear hua hub ha hb hl J0
  go_enter Tryd.func7, Tryd.ntmps7
  go_wp2_with (first
    | (go_at_call 12; refine ((HL _ (by exact hgw)).out).mono ?_; rintro e w1 ⟨rfl, hg1⟩
       have hh1 := gb_trans hgw hg1
       have JA1 := JA.kept hg1 (by simp)
       have JZ1 := JZ.kept hg1 (by simp)
       obtain ⟨a10, a11, a12, a13, a14, a1f⟩ := JA1.all
       obtain ⟨z10, z11, z12, z13, z14, z1f⟩ := JZ1.all)
    | (go_at_call 16; have hm2 := hg2; clear hm2; refine ((HSB _ (by exact hh2)).out).mono ?_; rintro e w3 ⟨rfl, hg3⟩; have hh3 := gb_trans hh2 hg3)
    | (go_at_call 16; refine ((HSA _ (by exact hh1)).out).mono ?_; rintro e w2 ⟨rfl, hg2⟩
       have hh2 := gb_trans hh1 hg2
       have JZ2 := JZ1.kept hg2 (by simp)
       obtain ⟨z20, z21, z22, z23, z24, z2f⟩ := JZ2.all))
  go_ret
  exact ⟨rfl, by first | exact hh3 | exact hh2⟩
set_option maxRecDepth 100000 in
set_option maxHeartbeats 3200000 in
theorem jsonCalls_b {a b : J} (ha : JBd a) (hb : JBd b) (name : ByteArray) (names : List ByteArray) (l : List J) (S : Nat → Prop) (ua ub un ul : Value) (hS : ∀ x, S x → x < w.heap.size)
    (hua : JAt w S a ua) (hub : JAt w S b ub) (hun : StrsAt w S un names) (hul : LAt w S l ul)
    (hl : ∀ W, w.grownBy W none → Calls Tryd.prog 12 #[] W fun e w' => e = .returned (.bool true) ∧ W.grownBy w' none) (hsa : szJ a ≤ 5000) (hsb : ¬ szJ b ≤ 5000) :
    Calls Tryd.prog 7 #[ua, ub, .string name, un, ul] w fun e w' => e = .returned (.bool true) ∧ w.grownBy w' none := by
  have HSA := fun (W : World) (hg : w.grownBy W none) => Lib.hid (small_any ha S ua W (fun b hb => Nat.lt_of_lt_of_le (hS b hb) hg.size) (hua.keep (fun b hb => hg.block b (hS b hb) (by simp)) (fun _ => id)))
  have HSB := fun (W : World) (hg : w.grownBy W none) => Lib.hid (small_any hb S ub W (fun b hb => Nat.lt_of_lt_of_le (hS b hb) hg.size) (hub.keep (fun b hb => hg.block b (hS b hb) (by simp)) (fun _ => id)))
  rw [decide_eq_true hsa] at HSA
  rw [decide_eq_false hsb] at HSB
  have HL := fun (W : World) (hg : w.grownBy W none) => Lib.hid (hl W hg)
  obtain ⟨A1, n1, c1, A2, n2, c2, rfl⟩ := hua.shapes
  obtain ⟨B1, m1, d1, B2, m2, d2, rfl⟩ := hub.shapes
  obtain ⟨AN, cN, rfl, _⟩ := hun
  obtain ⟨AL, cL, _, _, _, rfl, _⟩ := hul
  have J0 := JB.new w (.int .i64 a.k) (.int .i64 a.n) (.string a.t) (.slice A1 n1 c1) (.slice A2 n2 c2)
  have JA := J0.alloc (.cells #[.int .i64 b.k, .int .i64 b.n, .string b.t, .slice B1 m1 d1, .slice B2 m2 d2] 26)
  have JZ := JB.new (w.alloc (.cells #[.int .i64 a.k, .int .i64 a.n, .string a.t, .slice A1 n1 c1, .slice A2 n2 c2] 26)) (.int .i64 b.k) (.int .i64 b.n) (.string b.t) (.slice B1 m1 d1) (.slice B2 m2 d2)
  have hgw : w.grownBy ((w.alloc (.cells #[.int .i64 a.k, .int .i64 a.n, .string a.t, .slice A1 n1 c1, .slice A2 n2 c2] 26)).alloc (.cells #[.int .i64 b.k, .int .i64 b.n, .string b.t, .slice B1 m1 d1, .slice B2 m2 d2] 26)) none := gb_alloc (gb_alloc (gb_refl w none) _) _
  rw [show (w.alloc (.cells #[.int .i64 a.k, .int .i64 a.n, .string a.t, .slice A1 n1 c1, .slice A2 n2 c2] 26)).heap.size = w.heap.size + 1 from by simp] at JZ
  clear hua hub ha hb hl J0
  go_enter Tryd.func7, Tryd.ntmps7
  go_wp2_with (first
    | (go_at_call 12; refine ((HL _ (by exact hgw)).out).mono ?_; rintro e w1 ⟨rfl, hg1⟩
       have hh1 := gb_trans hgw hg1
       have JA1 := JA.kept hg1 (by simp)
       have JZ1 := JZ.kept hg1 (by simp)
       obtain ⟨a10, a11, a12, a13, a14, a1f⟩ := JA1.all
       obtain ⟨z10, z11, z12, z13, z14, z1f⟩ := JZ1.all)
    | (go_at_call 16; have hm2 := hg2; clear hm2; refine ((HSB _ (by exact hh2)).out).mono ?_; rintro e w3 ⟨rfl, hg3⟩; have hh3 := gb_trans hh2 hg3)
    | (go_at_call 16; refine ((HSA _ (by exact hh1)).out).mono ?_; rintro e w2 ⟨rfl, hg2⟩
       have hh2 := gb_trans hh1 hg2
       have JZ2 := JZ1.kept hg2 (by simp)
       obtain ⟨z20, z21, z22, z23, z24, z2f⟩ := JZ2.all))
  go_ret
  exact ⟨rfl, by first | exact hh3 | exact hh2⟩
set_option maxRecDepth 100000 in
set_option maxHeartbeats 3200000 in
theorem jsonCalls_n {a b : J} (ha : JBd a) (hb : JBd b) (name : ByteArray) (names : List ByteArray) (l : List J) (S : Nat → Prop) (ua ub un ul : Value) (hS : ∀ x, S x → x < w.heap.size)
    (hua : JAt w S a ua) (hub : JAt w S b ub) (hun : StrsAt w S un names) (hul : LAt w S l ul)
    (hl : ∀ W, w.grownBy W none → Calls Tryd.prog 12 #[] W fun e w' => e = .returned (.bool true) ∧ W.grownBy w' none) (hsa : szJ a ≤ 5000) (hsb : szJ b ≤ 5000) (hsn : ¬ name.size ≤ 5000) :
    Calls Tryd.prog 7 #[ua, ub, .string name, un, ul] w fun e w' => e = .returned (.bool true) ∧ w.grownBy w' none := by
  have HSA := fun (W : World) (hg : w.grownBy W none) => Lib.hid (small_any ha S ua W (fun b hb => Nat.lt_of_lt_of_le (hS b hb) hg.size) (hua.keep (fun b hb => hg.block b (hS b hb) (by simp)) (fun _ => id)))
  have HSB := fun (W : World) (hg : w.grownBy W none) => Lib.hid (small_any hb S ub W (fun b hb => Nat.lt_of_lt_of_le (hS b hb) hg.size) (hub.keep (fun b hb => hg.block b (hS b hb) (by simp)) (fun _ => id)))
  rw [decide_eq_true hsa] at HSA
  rw [decide_eq_true hsb] at HSB
  have HL := fun (W : World) (hg : w.grownBy W none) => Lib.hid (hl W hg)
  obtain ⟨A1, n1, c1, A2, n2, c2, rfl⟩ := hua.shapes
  obtain ⟨B1, m1, d1, B2, m2, d2, rfl⟩ := hub.shapes
  obtain ⟨AN, cN, rfl, _⟩ := hun
  obtain ⟨AL, cL, _, _, _, rfl, _⟩ := hul
  have hsnI : (5000 : Int) < (name.size : Int) := by omega
  have J0 := JB.new w (.int .i64 a.k) (.int .i64 a.n) (.string a.t) (.slice A1 n1 c1) (.slice A2 n2 c2)
  have JA := J0.alloc (.cells #[.int .i64 b.k, .int .i64 b.n, .string b.t, .slice B1 m1 d1, .slice B2 m2 d2] 26)
  have JZ := JB.new (w.alloc (.cells #[.int .i64 a.k, .int .i64 a.n, .string a.t, .slice A1 n1 c1, .slice A2 n2 c2] 26)) (.int .i64 b.k) (.int .i64 b.n) (.string b.t) (.slice B1 m1 d1) (.slice B2 m2 d2)
  have hgw : w.grownBy ((w.alloc (.cells #[.int .i64 a.k, .int .i64 a.n, .string a.t, .slice A1 n1 c1, .slice A2 n2 c2] 26)).alloc (.cells #[.int .i64 b.k, .int .i64 b.n, .string b.t, .slice B1 m1 d1, .slice B2 m2 d2] 26)) none := gb_alloc (gb_alloc (gb_refl w none) _) _
  rw [show (w.alloc (.cells #[.int .i64 a.k, .int .i64 a.n, .string a.t, .slice A1 n1 c1, .slice A2 n2 c2] 26)).heap.size = w.heap.size + 1 from by simp] at JZ
  clear hua hub ha hb hl J0
  go_enter Tryd.func7, Tryd.ntmps7
  go_wp2_with (first
    | (go_at_call 12; refine ((HL _ (by exact hgw)).out).mono ?_; rintro e w1 ⟨rfl, hg1⟩
       have hh1 := gb_trans hgw hg1
       have JA1 := JA.kept hg1 (by simp)
       have JZ1 := JZ.kept hg1 (by simp)
       obtain ⟨a10, a11, a12, a13, a14, a1f⟩ := JA1.all
       obtain ⟨z10, z11, z12, z13, z14, z1f⟩ := JZ1.all)
    | (go_at_call 16; have hm2 := hg2; clear hm2; refine ((HSB _ (by exact hh2)).out).mono ?_; rintro e w3 ⟨rfl, hg3⟩; have hh3 := gb_trans hh2 hg3)
    | (go_at_call 16; refine ((HSA _ (by exact hh1)).out).mono ?_; rintro e w2 ⟨rfl, hg2⟩
       have hh2 := gb_trans hh1 hg2
       have JZ2 := JZ1.kept hg2 (by simp)
       obtain ⟨z20, z21, z22, z23, z24, z2f⟩ := JZ2.all))
  go_ret
  exact ⟨rfl, by first | exact hh3 | exact hh2⟩
set_option maxRecDepth 100000 in
set_option maxHeartbeats 3200000 in
theorem jsonCalls_s {a b : J} (ha : JBd a) (hb : JBd b) (name : ByteArray) (names : List ByteArray) (l : List J) (S : Nat → Prop) (ua ub un ul : Value) (hS : ∀ x, S x → x < w.heap.size)
    (hua : JAt w S a ua) (hub : JAt w S b ub) (hun : StrsAt w S un names) (hul : LAt w S l ul)
    (hl : ∀ W, w.grownBy W none → Calls Tryd.prog 12 #[] W fun e w' => e = .returned (.bool true) ∧ W.grownBy w' none) (hsa : szJ a ≤ 5000) (hsb : szJ b ≤ 5000) (hsn : name.size ≤ 5000) (hnl : ¬ names.length ≤ 100) :
    Calls Tryd.prog 7 #[ua, ub, .string name, un, ul] w fun e w' => e = .returned (.bool true) ∧ w.grownBy w' none := by
  have HSA := fun (W : World) (hg : w.grownBy W none) => Lib.hid (small_any ha S ua W (fun b hb => Nat.lt_of_lt_of_le (hS b hb) hg.size) (hua.keep (fun b hb => hg.block b (hS b hb) (by simp)) (fun _ => id)))
  have HSB := fun (W : World) (hg : w.grownBy W none) => Lib.hid (small_any hb S ub W (fun b hb => Nat.lt_of_lt_of_le (hS b hb) hg.size) (hub.keep (fun b hb => hg.block b (hS b hb) (by simp)) (fun _ => id)))
  rw [decide_eq_true hsa] at HSA
  rw [decide_eq_true hsb] at HSB
  have HL := fun (W : World) (hg : w.grownBy W none) => Lib.hid (hl W hg)
  obtain ⟨A1, n1, c1, A2, n2, c2, rfl⟩ := hua.shapes
  obtain ⟨B1, m1, d1, B2, m2, d2, rfl⟩ := hub.shapes
  obtain ⟨AN, cN, rfl, _⟩ := hun
  obtain ⟨AL, cL, _, _, _, rfl, _⟩ := hul
  have hsnI : ¬ (5000 : Int) < (name.size : Int) := by omega
  have hnlI : (100 : Int) < (names.length : Int) := by omega
  have J0 := JB.new w (.int .i64 a.k) (.int .i64 a.n) (.string a.t) (.slice A1 n1 c1) (.slice A2 n2 c2)
  have JA := J0.alloc (.cells #[.int .i64 b.k, .int .i64 b.n, .string b.t, .slice B1 m1 d1, .slice B2 m2 d2] 26)
  have JZ := JB.new (w.alloc (.cells #[.int .i64 a.k, .int .i64 a.n, .string a.t, .slice A1 n1 c1, .slice A2 n2 c2] 26)) (.int .i64 b.k) (.int .i64 b.n) (.string b.t) (.slice B1 m1 d1) (.slice B2 m2 d2)
  have hgw : w.grownBy ((w.alloc (.cells #[.int .i64 a.k, .int .i64 a.n, .string a.t, .slice A1 n1 c1, .slice A2 n2 c2] 26)).alloc (.cells #[.int .i64 b.k, .int .i64 b.n, .string b.t, .slice B1 m1 d1, .slice B2 m2 d2] 26)) none := gb_alloc (gb_alloc (gb_refl w none) _) _
  rw [show (w.alloc (.cells #[.int .i64 a.k, .int .i64 a.n, .string a.t, .slice A1 n1 c1, .slice A2 n2 c2] 26)).heap.size = w.heap.size + 1 from by simp] at JZ
  clear hua hub ha hb hl J0
  go_enter Tryd.func7, Tryd.ntmps7
  go_wp2_with (first
    | (go_at_call 12; refine ((HL _ (by exact hgw)).out).mono ?_; rintro e w1 ⟨rfl, hg1⟩
       have hh1 := gb_trans hgw hg1
       have JA1 := JA.kept hg1 (by simp)
       have JZ1 := JZ.kept hg1 (by simp)
       obtain ⟨a10, a11, a12, a13, a14, a1f⟩ := JA1.all
       obtain ⟨z10, z11, z12, z13, z14, z1f⟩ := JZ1.all)
    | (go_at_call 16; have hm2 := hg2; clear hm2; refine ((HSB _ (by exact hh2)).out).mono ?_; rintro e w3 ⟨rfl, hg3⟩; have hh3 := gb_trans hh2 hg3)
    | (go_at_call 16; refine ((HSA _ (by exact hh1)).out).mono ?_; rintro e w2 ⟨rfl, hg2⟩
       have hh2 := gb_trans hh1 hg2
       have JZ2 := JZ1.kept hg2 (by simp)
       obtain ⟨z20, z21, z22, z23, z24, z2f⟩ := JZ2.all))
  go_ret
  exact ⟨rfl, by first | exact hh3 | exact hh2⟩
set_option maxRecDepth 100000 in
set_option maxHeartbeats 3200000 in
theorem jsonCalls_l {a b : J} (ha : JBd a) (hb : JBd b) (name : ByteArray) (names : List ByteArray) (l : List J) (S : Nat → Prop) (ua ub un ul : Value) (hS : ∀ x, S x → x < w.heap.size)
    (hua : JAt w S a ua) (hub : JAt w S b ub) (hun : StrsAt w S un names) (hul : LAt w S l ul)
    (hl : ∀ W, w.grownBy W none → Calls Tryd.prog 12 #[] W fun e w' => e = .returned (.bool true) ∧ W.grownBy w' none) (hsa : szJ a ≤ 5000) (hsb : szJ b ≤ 5000) (hsn : name.size ≤ 5000) (hnl : names.length ≤ 100) (hll : ¬ l.length ≤ 100) :
    Calls Tryd.prog 7 #[ua, ub, .string name, un, ul] w fun e w' => e = .returned (.bool true) ∧ w.grownBy w' none := by
  have HSA := fun (W : World) (hg : w.grownBy W none) => Lib.hid (small_any ha S ua W (fun b hb => Nat.lt_of_lt_of_le (hS b hb) hg.size) (hua.keep (fun b hb => hg.block b (hS b hb) (by simp)) (fun _ => id)))
  have HSB := fun (W : World) (hg : w.grownBy W none) => Lib.hid (small_any hb S ub W (fun b hb => Nat.lt_of_lt_of_le (hS b hb) hg.size) (hub.keep (fun b hb => hg.block b (hS b hb) (by simp)) (fun _ => id)))
  rw [decide_eq_true hsa] at HSA
  rw [decide_eq_true hsb] at HSB
  have HL := fun (W : World) (hg : w.grownBy W none) => Lib.hid (hl W hg)
  obtain ⟨A1, n1, c1, A2, n2, c2, rfl⟩ := hua.shapes
  obtain ⟨B1, m1, d1, B2, m2, d2, rfl⟩ := hub.shapes
  obtain ⟨AN, cN, rfl, _⟩ := hun
  obtain ⟨AL, cL, _, _, _, rfl, _⟩ := hul
  have hsnI : ¬ (5000 : Int) < (name.size : Int) := by omega
  have hnlI : ¬ (100 : Int) < (names.length : Int) := by omega
  have hllI : (100 : Int) < (l.length : Int) := by omega
  have J0 := JB.new w (.int .i64 a.k) (.int .i64 a.n) (.string a.t) (.slice A1 n1 c1) (.slice A2 n2 c2)
  have JA := J0.alloc (.cells #[.int .i64 b.k, .int .i64 b.n, .string b.t, .slice B1 m1 d1, .slice B2 m2 d2] 26)
  have JZ := JB.new (w.alloc (.cells #[.int .i64 a.k, .int .i64 a.n, .string a.t, .slice A1 n1 c1, .slice A2 n2 c2] 26)) (.int .i64 b.k) (.int .i64 b.n) (.string b.t) (.slice B1 m1 d1) (.slice B2 m2 d2)
  have hgw : w.grownBy ((w.alloc (.cells #[.int .i64 a.k, .int .i64 a.n, .string a.t, .slice A1 n1 c1, .slice A2 n2 c2] 26)).alloc (.cells #[.int .i64 b.k, .int .i64 b.n, .string b.t, .slice B1 m1 d1, .slice B2 m2 d2] 26)) none := gb_alloc (gb_alloc (gb_refl w none) _) _
  rw [show (w.alloc (.cells #[.int .i64 a.k, .int .i64 a.n, .string a.t, .slice A1 n1 c1, .slice A2 n2 c2] 26)).heap.size = w.heap.size + 1 from by simp] at JZ
  clear hua hub ha hb hl J0
  go_enter Tryd.func7, Tryd.ntmps7
  go_wp2_with (first
    | (go_at_call 12; refine ((HL _ (by exact hgw)).out).mono ?_; rintro e w1 ⟨rfl, hg1⟩
       have hh1 := gb_trans hgw hg1
       have JA1 := JA.kept hg1 (by simp)
       have JZ1 := JZ.kept hg1 (by simp)
       obtain ⟨a10, a11, a12, a13, a14, a1f⟩ := JA1.all
       obtain ⟨z10, z11, z12, z13, z14, z1f⟩ := JZ1.all)
    | (go_at_call 16; have hm2 := hg2; clear hm2; refine ((HSB _ (by exact hh2)).out).mono ?_; rintro e w3 ⟨rfl, hg3⟩; have hh3 := gb_trans hh2 hg3)
    | (go_at_call 16; refine ((HSA _ (by exact hh1)).out).mono ?_; rintro e w2 ⟨rfl, hg2⟩
       have hh2 := gb_trans hh1 hg2
       have JZ2 := JZ1.kept hg2 (by simp)
       obtain ⟨z20, z21, z22, z23, z24, z2f⟩ := JZ2.all))
  go_ret
  exact ⟨rfl, by first | exact hh3 | exact hh2⟩
set_option maxRecDepth 100000 in
include hPT in
theorem jsonCalls_walk {a b : J} (ha : JBd a) (hb : JBd b) (name : ByteArray) (names : List ByteArray) (l : List J) (hnb : ∀ s ∈ names, s.size ≤ 140737488355328) (hlb : ∀ j ∈ l, JBd j) (S : Nat → Prop) (ua ub un ul : Value) (hS : ∀ x, S x → x < w.heap.size)
    (hua : JAt w S a ua) (hub : JAt w S b ub) (hun : StrsAt w S un names) (hul : LAt w S l ul)
    (hl : ∀ W, w.grownBy W none → Calls Tryd.prog 12 #[] W fun e w' => e = .returned (.bool true) ∧ W.grownBy w' none) :
    Calls Tryd.prog 7 #[ua, ub, .string name, un, ul] w fun e w' => e = .returned (.bool true) ∧ w.grownBy w' none := by
  by_cases hsa : szJ a ≤ 5000
  · by_cases hsb : szJ b ≤ 5000
    · by_cases hsn : name.size ≤ 5000
      · by_cases hnl : names.length ≤ 100
        · by_cases hll : l.length ≤ 100
          · exact jsonCalls_main hPT ha hb name names l hnb hlb S ua ub un ul hS hua hub hun hul hl hsa hsb hsn hnl hll
          · exact jsonCalls_l ha hb name names l S ua ub un ul hS hua hub hun hul hl hsa hsb hsn hnl hll
        · exact jsonCalls_s ha hb name names l S ua ub un ul hS hua hub hun hul hl hsa hsb hsn hnl
      · exact jsonCalls_n ha hb name names l S ua ub un ul hS hua hub hun hul hl hsa hsb hsn
    · exact jsonCalls_b ha hb name names l S ua ub un ul hS hua hub hun hul hl hsa hsb
  · exact jsonCalls_a ha hb name names l S ua ub un ul hS hua hub hun hul hl hsa
end
end Go.Proofs.YtnnhkajjifmlfaaDoor
