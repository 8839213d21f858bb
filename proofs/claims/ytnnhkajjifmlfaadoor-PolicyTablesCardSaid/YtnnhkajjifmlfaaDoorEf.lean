/- Policies: does one hold (policy.Holds): the walk. -/
import Derived.Test.YtnnhkajjifmlfaaDoorEe
namespace Go.Proofs.YtnnhkajjifmlfaaDoor.Pl
open Go.RowKit Go.Maps

/-- does a node hold, where those ahead do so? -/
def truthN (sh : Nat) (l : List Ad) (ts : List Bool) (x : PN) : Bool :=
  if x.k = 1 then true
  else if x.k = 6 then decide ((sh : Int) < x.n)
  else if x.k = 7 then !(ts.getD x.l.toNat false)
  else if x.k = 8 then ts.getD x.l.toNat false && ts.getD x.r.toNat false
  else if x.k = 9 then ts.getD x.l.toNat false || ts.getD x.r.toNat false
  else l.any fun a => askN x a.sp
def trF (sh : Nat) (l : List Ad) : List PN → List Bool → List Bool
  | [], ts => ts
  | x :: r, ts => trF sh l r (ts ++ [truthN sh l ts x])
theorem trF_append (sh : Nat) (l : List Ad) : ∀ (a b : List PN) (ts : List Bool), trF sh l (a ++ b) ts = trF sh l b (trF sh l a ts)
  | [], _, _ => rfl
  | x :: a, b, ts => by rw [List.cons_append]; exact trF_append sh l a b _
theorem trF_len (sh : Nat) (l : List Ad) : ∀ (a : List PN) (ts : List Bool), (trF sh l a ts).length = ts.length + a.length
  | [], _ => rfl
  | x :: a, ts => by rw [trF, trF_len sh l a]; simp; omega
theorem trF_succ (sh : Nat) (l : List Ad) (p : List PN) (k : Nat) (h : k < p.length) : trF sh l (p.take (k + 1)) [] = trF sh l (p.take k) [] ++ [truthN sh l (trF sh l (p.take k) []) p[k]] := by
  rw [List.take_add_one, List.getElem?_eq_getElem h, trF_append]
  rfl
/-- what Holds answers -/
def holdsN (p : List PN) (sh : Nat) (l : List Ad) : Bool × Int :=
  if checkN p ≠ 0 then (false, checkN p) else ((trF sh l p []).getD (p.length - 1) false, 0)
/-- the places below a node are ahead of it -/
def Plc (p : List PN) : Prop := ∀ (i : Nat) (h : i < p.length), 1 ≤ p[i].k ∧ p[i].k ≤ 9 ∧ (7 ≤ p[i].k → 0 ≤ p[i].l ∧ p[i].l < (i : Int)) ∧ (8 ≤ p[i].k → 0 ≤ p[i].r ∧ p[i].r < (i : Int))
def boolsV (l : List Bool) : List Value := l.map .bool
theorem boolsV_snoc (l : List Bool) (y : Bool) : boolsV (l ++ [y]) = boolsV l ++ [.bool y] := by unfold boolsV; simp
theorem info4 : (Tryd.prog.info? 4).map (fun i => (i.zero, i.size, i.bytes)) = some (some (.bool false), 1, 1) := by kernel_rfl
theorem bool_at {w : World} {B cap gq : Nat} {ts : List Bool} (h : w.ownsRow B 4 1 (.slice (some ⟨gq, 0, none⟩) ts.length cap) ts.length (boolsV ts)) {j : Nat} (hj : j < ts.length) : w.cell? ⟨gq, j, none⟩ = some (.bool (ts.getD j false)) := by
  have ad : (⟨gq, 0, none⟩ : Addr).add j = ⟨gq, j, none⟩ := by unfold Addr.add; split <;> simp_all
  rw [← ad]
  exact h.cells (g := gq) rfl j _ (by unfold boolsV; rw [List.getElem?_map, List.getElem?_eq_getElem hj, List.getD_eq_getElem?_getD, List.getElem?_eq_getElem hj]; rfl)
theorem ask_var (w1 : World) : ((w1.alloc askO).alloc (.cells #[.slice (some ⟨w1.heap.size, 0, none⟩) 10 10] 112)).cell? ⟨w1.heap.size + 1, 0, none⟩ = some (.slice (some ⟨w1.heap.size, 0, none⟩) 10 10) := by
  have e : (w1.alloc askO).heap.size = w1.heap.size + 1 := by simp
  rw [← e, cell_of_row _ _ 0 _ _ _ (heap_alloc_new _ _)]; rfl
theorem news_two (w : World) (o1 : Obj) (vs : List Value) {o : Obj} {t : TypeId} (ho : o = .cells vs.toArray t (0, 0)) : ∀ (j : Nat) (u : Value), vs[j]? = some u → ((w.alloc o1).alloc o).cell? ((⟨w.heap.size + 1, 0, none⟩ : Addr).add j) = some u := by
  have e : (w.alloc o1).heap.size = w.heap.size + 1 := by simp
  rw [← e]
  exact news_new (w.alloc o1) vs ho
set_option maxRecDepth 100000 in
set_option maxHeartbeats 12800000 in
theorem holds_bad (p : List PN) (S : Nat → Prop) (v : Value) (hi lo : Nat) (u : Value) (w : World) (hlen : p.length ≤ 1000000) (hp : NodesAt w S v p) (hS : ∀ b, S b → b < w.heap.size) (hc : checkN p ≠ 0) :
    Calls Tryd.prog 40 #[.agg #[v], .agg #[.int .u64 hi, .int .u64 lo], u] w fun e w' => e = .returned (.tuple #[.bool false, .int .i64 (checkN p)]) ∧ w.grownBy w' none := by
  have hCk := fun W (hg : w.grownBy W none) => Lib.hid (check_any p S v W hlen (hp.grown hg (fun b hb => ⟨hS b hb, by simp⟩)) (fun b hb => Nat.lt_of_lt_of_le (hS b hb) hg.size))
  obtain ⟨A, c, rfl, hA⟩ := hp
  have hcb : (checkN p != 0) = true := by simpa using hc
  generalize checkN p = E at *
  have hg0 := gb_alloc (gb_alloc (gb_refl w none) (.cells #[.slice A p.length c] 48)) (.cells #[.int .u64 hi, .int .u64 lo] 57)
  clear hA hc hS
  go_enter Tryd.func40, Tryd.ntmps40
  go_wp2_with (first
    | (go_at_call 39; refine ((hCk _ hg0).out).mono ?_; rintro e w1 ⟨rfl, hg1⟩))
  refine bodyPost_ret (v := .tuple #[.bool false, .int .i64 E]) (by simp [results, Tryd.results40, go_sem]) rfl ?_
  exact ⟨rfl, gb_trans hg0 hg1⟩
set_option maxRecDepth 100000 in
set_option maxHeartbeats 12800000 in
theorem holds_good (p : List PN) (S : Nat → Prop) (v : Value) (hi lo : Nat) (l : List Ad) (u : Value) (w : World) (hlen : p.length ≤ 1000000) (hp : NodesAt w S v p) (hS : ∀ b, S b → b < w.heap.size) (hc : checkN p = 0) (hP : Plc p) (hp0 : 0 < p.length)
    (hh : hi < 18446744073709551616) (hlo : lo < 18446744073709551616) (hll : l.length ≤ 140737488355328) (hb : ABd l) (hu : AAt w l u) :
    Calls Tryd.prog 40 #[.agg #[v], .agg #[.int .u64 hi, .int .u64 lo], u] w fun e w' => e = .returned (.tuple #[.bool ((trF (shareN hi lo) l p []).getD (p.length - 1) false), .int .i64 0]) ∧ w.grownBy w' none := by
  obtain ⟨i0, hi0, hz0, hz1, hz2⟩ := info_parts info4
  have hCk := fun W (hg : w.grownBy W none) => Lib.hid (check_any p S v W hlen (hp.grown hg (fun b hb => ⟨hS b hb, by simp⟩)) (fun b hb => Nat.lt_of_lt_of_le (hS b hb) hg.size))
  rw [hc] at hCk
  have hSh := fun W => Lib.hid (share_any hi lo W hh hlo)
  obtain ⟨A, c, rfl, hA⟩ := hp
  obtain ⟨bA, oA, rfl, hSA, hcell⟩ := hA hp0
  have hg0 := gb_alloc (gb_alloc (gb_refl w none) (.cells #[.slice (some ⟨bA, oA, none⟩) p.length c] 48)) (.cells #[.int .u64 hi, .int .u64 lo] 57)
  have k0 : ((w.alloc (.cells #[.slice (some ⟨bA, oA, none⟩) p.length c] 48)).alloc (.cells #[.int .u64 hi, .int .u64 lo] 57)).cell? ⟨w.heap.size, 0, none⟩ = some (.slice (some ⟨bA, oA, none⟩) p.length c) := by
    rw [cell_of_row _ _ 0 _ _ _ ((Below.heap_alloc _ _ w.heap.size (by simp)).trans (heap_alloc_new w _))]; rfl
  have es : (w.alloc (.cells #[.slice (some ⟨bA, oA, none⟩) p.length c] 48)).heap.size = w.heap.size + 1 := by simp
  have k1 : ((w.alloc (.cells #[.slice (some ⟨bA, oA, none⟩) p.length c] 48)).alloc (.cells #[.int .u64 hi, .int .u64 lo] 57)).cell? ⟨w.heap.size + 1, 0, none⟩ = some (.int .u64 hi) := by
    rw [← es, cell_of_row _ _ 0 _ _ _ (heap_alloc_new _ _)]; rfl
  have k2 : ((w.alloc (.cells #[.slice (some ⟨bA, oA, none⟩) p.length c] 48)).alloc (.cells #[.int .u64 hi, .int .u64 lo] 57)).cell? ⟨w.heap.size + 1, 1, none⟩ = some (.int .u64 lo) := by
    rw [← es, cell_of_row _ _ 1 _ _ _ (heap_alloc_new _ _)]; rfl
  clear hA hc es
  obtain ⟨sh, hsh⟩ : ∃ sh, shareN hi lo = sh := ⟨_, rfl⟩
  rw [hsh] at hSh ⊢
  clear hsh
  obtain ⟨res, hres, hR⟩ : ∃ res, (trF sh l p []).getD (p.length - 1) false = res ∧ Hid ((trF sh l p []).getD (p.length - 1) false = res) := ⟨_, rfl, rfl⟩
  rw [hres]
  clear hres
  go_enter Tryd.func40, Tryd.ntmps40
  go_wp2_with (first
    | (go_at_call 77; refine (asks_any _).mono ?_; rintro e w2 ⟨rfl, rfl⟩; have hgA := gb_alloc (gb_alloc (gb_trans hg0 hg1) askO) (.cells #[.slice (some ⟨w1.heap.size, 0, none⟩) 10 10] 112); have hgB := gb_alloc (gb_alloc (gb_refl w1 none) askO) (.cells #[.slice (some ⟨w1.heap.size, 0, none⟩) 10 10] 112); have d0 := cell_grown j0 hgB (by simp); have d1 := cell_grown j1 hgB (by simp); have d2 := cell_grown j2 hgB (by simp); have hAs : ((w1.alloc askO).alloc (.cells #[.slice (some ⟨w1.heap.size, 0, none⟩) 10 10] 112)).heap[w1.heap.size]? = some askO := (Below.heap_alloc _ _ w1.heap.size (by simp)).trans (heap_alloc_new w1 _); have hAq := ask_var w1; have hsz2 : ((w1.alloc askO).alloc (.cells #[.slice (some ⟨w1.heap.size, 0, none⟩) 10 10] 112)).heap.size = w1.heap.size + 2 := by simp)
    | (go_at_call 39; refine ((hCk _ hg0).out).mono ?_; rintro e w1 ⟨rfl, hg1⟩; have j0 := cell_grown k0 hg1 (by simp); have j1 := cell_grown k1 hg1 (by simp); have j2 := cell_grown k2 hg1 (by simp)))
  have hgw := hgA
  have hN0 : ∀ i (h : i < p.length), NodeAt w bA (oA + i * 6) p[i] := hcell
  have hSb := hS bA hSA
  have hu0 := hu.grown hgA
  have hcl : ∀ i (h : i < p.length), NodeAt ((w1.alloc askO).alloc (.cells #[.slice (some ⟨w1.heap.size, 0, none⟩) 10 10] 112)) bA (oA + i * 6) p[i] := fun i hi => (hcell i hi).keep (hgA.block bA hSb (by simp))
  have hKB : ∀ (W : World) (L : Nat) (x : PN), ((w1.alloc askO).alloc (.cells #[.slice (some ⟨w1.heap.size, 0, none⟩) 10 10] 112)).grownBy W none → NB W L x → KB W (w1.heap.size + 1) L w1.heap.size x := fun W L x hg hn => by
    have hb := (hg.block w1.heap.size (by omega) (by simp)).trans hAs
    exact ⟨cell_grown hAq hg (by simp), by rw [cell_of_row _ _ 2 _ _ _ hb]; rfl, by rw [cell_of_row _ _ 3 _ _ _ hb]; rfl, by rw [cell_of_row _ _ 4 _ _ _ hb]; rfl, by rw [cell_of_row _ _ 5 _ _ _ hb]; rfl, hn⟩
  clear hcell hu hS hg0 k0 k1 k2 hg1 j0 j1 j2 hgB hAs hAq hCk hN0
  generalize (w1.alloc askO).alloc (.cells #[.slice (some ⟨w1.heap.size, 0, none⟩) 10 10] 112) = W at *
  generalize w1.heap.size = gA at *
  go_loopg [10, 23] p.length (fun z u10 u23 wr => ∃ i : Nat, i ≤ p.length ∧ z = p.length - i ∧ u23 = .int .i64 i ∧ wr.ownsRow W.heap.size 4 1 u10 (trF sh l (p.take i) []).length (boolsV (trF sh l (p.take i) [])) ∧ W.grownBy wr none)
  case atStart => exact ⟨0, Nat.zero_le _, rfl, rfl, World.ownsRow_nil _ _ _ _, gb_refl _ _⟩
  case round =>
    obtain ⟨i, hil, rfl, rfl, hown, hg⟩ := hrel
    by_cases hlt : i < p.length
    · have hiI : (i : Int) < (p.length : Int) := by omega
      have hwW := hg.size
      have hcx := (hcl i hlt).keep (hg.block bA (by have := hgw.size; omega) (by simp))
      obtain ⟨hk1, hk9, hpl, hpr⟩ := hP i hlt
      have hq1 := Lib.hid (show wrap64 ((i : Int) + 1) = ((i + 1 : Nat) : Int) from (wrap64_id (by omega) (by omega)).trans (by omega))
      have hstep := Lib.hid (trF_succ sh l p i hlt)
      have htl : (trF sh l (p.take i) []).length = i := by rw [trF_len, List.length_take]; simp; omega
      have hCn := fun (W' : World) (L : Nat) (hg' : W.grownBy W' none) (hn : NB W' L p[i]) (hk : 2 ≤ p[i].k ∧ p[i].k ≤ 5) => Lib.hid (contains_80 p[i] l u (gA + 1) L gA W' hll hb (hu0.grown hg') (hKB W' L _ hg' hn) hk)
      have t1 := cell_grown d1 hg (by simp)
      have t2 := cell_grown d2 hg (by simp)
      clear hcl hKB hu0 hP d0 d1 d2
      generalize trF sh l (p.take i) [] = ts at *
      generalize p[i] = x at *
      obtain ⟨xk, xn, xa, xb, xl, xr⟩ := x
      obtain ⟨c0, c1, c2, c3, c4, c5⟩ := hcx
      simp only at c0 c1 c2 c3 c4 c5 hk1 hk9 hpl hpr hCn
      have hlI : (ts.length : Int) ≤ 1000000 := by omega
      obtain ⟨y, hy⟩ : ∃ y, truthN sh l ts ⟨xk, xn, xa, xb, xl, xr⟩ = y := ⟨_, rfl⟩
      rw [hy] at hstep
      unfold truthN at hy
      simp only at hy
      have hkc : xk = 1 ∨ xk = 6 ∨ xk = 7 ∨ xk = 8 ∨ xk = 9 ∨ (2 ≤ xk ∧ xk ≤ 5) := by omega
      rcases hkc with rfl | rfl | rfl | rfl | rfl | hkc
      · obtain rfl : y = true := by rw [← hy]; rfl
        have hownN := hown.alloc (.cells #[.int .i64 1, .int .i64 xn, .string xa, .string xb, .int .i64 xl, .int .i64 xr] 64)
        have hgN := gb_alloc hg (.cells #[.int .i64 1, .int .i64 xn, .string xa, .string xb, .int .i64 xl, .int .i64 xr] 64)
        clear hCn hy hpl hpr hk1 hk9
        go_wp2_with (first
          | (at_builtin; refine wpList_append_own_at _ rfl _ _ 114 rfl W.heap.size 4 i0 (.bool false) 1 1 Tryd.underlying114 hi0 hz0 hz1 hz2 rfl (by decide) u10 _ _ rfl (hownN.alloc _) ⟨wr.heap.size + 1, 0, none⟩ 1 1 [.bool true] rfl rfl (news_two _ _ _ rfl) (by simp [Value.oneCell']) (by unfold maxLen; omega) (by omega) (by simp; omega) ?_; intro v3 w3 hown3 hg3 _ hat3))
        go_roundg (p.length - (i + 1))
        case measure => omega
        case rel => exact ⟨i + 1, hlt, rfl, by first | rw [hq1.out] | go_num, by rw [hstep.out, List.length_append, boolsV_snoc]; exact hown3, own_gb (gb_alloc hgN _) (hownN.alloc _) (Nat.le_refl _) hg3⟩
      · rw [if_neg (by omega), if_pos rfl] at hy
        have hownN := hown.alloc (.cells #[.int .i64 6, .int .i64 xn, .string xa, .string xb, .int .i64 xl, .int .i64 xr] 64)
        have hgN := gb_alloc hg (.cells #[.int .i64 6, .int .i64 xn, .string xa, .string xb, .int .i64 xl, .int .i64 xr] 64)
        have hNB := heap_alloc_new wr (.cells #[.int .i64 6, .int .i64 xn, .string xa, .string xb, .int .i64 xl, .int .i64 xr] 64)
        have Q1 := fun (wK : World) => Lib.hid (show QC Tryd.prog wK 78 #[.agg #[.int .u64 hi, .int .u64 lo]] (.int .i64 sh) from fun G => (hSh G.W).out.mono fun e w' he => ⟨he.1, gb_trans G.h he.2⟩)
        have t1 := cell_grown t1 (gb_alloc (gb_refl wr none) (.cells #[.int .i64 6, .int .i64 xn, .string xa, .string xb, .int .i64 xl, .int .i64 xr] 64)) (by simp)
        have t2 := cell_grown t2 (gb_alloc (gb_refl wr none) (.cells #[.int .i64 6, .int .i64 xn, .string xa, .string xb, .int .i64 xl, .int .i64 xr] 64)) (by simp)
        clear hCn hpl hpr hk1 hk9 hSh
        go_wp2_with fail
        generalize hwK : World.alloc wr _ = wK at *
        have P1 : ∀ G : Grown wK, G.W.cell? ⟨w.heap.size + 1, 0, none⟩ = some (.int .u64 hi) := fun G => cell_grown t1 G.h (by simp)
        have P2 : ∀ G : Grown wK, G.W.cell? ⟨w.heap.size + 1, 1, none⟩ = some (.int .u64 lo) := fun G => cell_grown t2 G.h (by simp)
        have P3 : ∀ G : Grown wK, G.W.cell? ⟨wr.heap.size, 1, none⟩ = some (.int .i64 xn) := fun G => cell_grown (by rw [cell_of_row _ _ 1 _ _ _ hNB]; rfl) G.h (by simp)
        have q1 := Q1 wK
        clear Q1 t1 t2 hNB
        refine wp_region_grown 5 1 (by simp only [List.take_succ_cons, List.take_zero]; rfl) (by kernel_rfl) (gb_drew (gb_refl _ _)) (by kernel_rfl) (by kernel_rfl) (by kernel_rfl) (by kernel_rfl) ?_
        repeat go_big_quiet_step (first
          | (rename_i G; with_reducible exact q1.out.at G))
        refine wpQuiet_nil ?_
        intro G
        refine wpAny_take (i := 5) (v := ?_) rfl (by kernel_rfl) (by kernel_rfl) (by kernel_rfl) (fun _ _ _ h => h) (Or.inl ⟨by rfl, ?_⟩) ?_
        rotate_left
        · intro W; go_simp; try with_reducible rfl
        refine wpAny_done (by kernel_rfl) ?_ _
        have hownG := hownN.kept G.h (Classical.em _)
        have hgG := gb_trans hgN G.h
        have hgs := hgG.size
        obtain ⟨X, hX⟩ : ∃ X, G.W = X := ⟨_, rfl⟩
        rw [hX] at hownG hgG hgs ⊢
        clear P1 P2 P3 q1 hX G
        go_wp2_with (first
          | (at_builtin; refine wpList_append_own_at _ rfl _ _ 114 rfl W.heap.size 4 i0 (.bool false) 1 1 Tryd.underlying114 hi0 hz0 hz1 hz2 rfl (by decide) u10 _ _ rfl (hownG.alloc _) ⟨X.heap.size, 0, none⟩ 1 1 [.bool y] rfl rfl (news_new _ _ rfl) (by simp [Value.oneCell']) (by unfold maxLen; omega) (by omega) (by simp; omega) ?_; intro v3 w3 hown3 hg3 _ hat3))
        go_roundg (p.length - (i + 1))
        case measure => omega
        case rel => exact ⟨i + 1, hlt, rfl, by first | rw [hq1.out] | go_num, by rw [hstep.out, List.length_append, boolsV_snoc]; exact hown3, own_gb (gb_alloc hgG _) (hownG.alloc _) (Nat.le_refl _) hg3⟩
      · rw [if_neg (by omega), if_neg (by omega), if_pos rfl] at hy
        obtain ⟨gq, cap, rfl, hb1, hb2⟩ := hown.form (by have := hpl (by omega); omega)
        obtain ⟨m0, m1⟩ := hpl (by omega)
        obtain ⟨mn, rfl⟩ : ∃ n : Nat, xl = (n : Int) := ⟨xl.toNat, by omega⟩
        have mb := bool_at hown (j := mn) (by omega)
        have mI : (mn : Int) < (ts.length : Int) := by omega
        simp only [Int.toNat_natCast] at hy
        generalize ts.getD mn false = b1 at *
        subst hy
        have hownN := hown.alloc (.cells #[.int .i64 7, .int .i64 xn, .string xa, .string xb, .int .i64 mn, .int .i64 xr] 64)
        have hgN := gb_alloc hg (.cells #[.int .i64 7, .int .i64 xn, .string xa, .string xb, .int .i64 mn, .int .i64 xr] 64)
        have mb := cell_grown mb (gb_alloc (gb_refl wr none) (.cells #[.int .i64 7, .int .i64 xn, .string xa, .string xb, .int .i64 mn, .int .i64 xr] 64)) (by simp)
        clear hCn hpl hpr hk1 hk9 m0 m1
        go_wp2_with (first
          | (at_builtin; refine wpList_append_own_at _ rfl _ _ 114 rfl W.heap.size 4 i0 (.bool false) 1 1 Tryd.underlying114 hi0 hz0 hz1 hz2 rfl (by decide) (.slice (some ⟨gq, 0, none⟩) ts.length cap) _ _ rfl (hownN.alloc _) ⟨wr.heap.size + 1, 0, none⟩ 1 1 [.bool (!b1)] rfl rfl (news_two _ _ _ rfl) (by simp [Value.oneCell']) (by unfold maxLen; omega) (by omega) (by simp; omega) ?_; intro v3 w3 hown3 hg3 _ hat3))
        go_roundg (p.length - (i + 1))
        case measure => omega
        case rel => exact ⟨i + 1, hlt, rfl, by first | rw [hq1.out] | go_num, by rw [hstep.out, List.length_append, boolsV_snoc]; exact hown3, own_gb (gb_alloc hgN _) (hownN.alloc _) (Nat.le_refl _) hg3⟩
      · rw [if_neg (by omega), if_neg (by omega), if_neg (by omega), if_pos rfl] at hy
        obtain ⟨gq, cap, rfl, hb1, hb2⟩ := hown.form (by have := hpl (by omega); omega)
        obtain ⟨m0, m1⟩ := hpl (by omega)
        obtain ⟨mn, rfl⟩ : ∃ n : Nat, xl = (n : Int) := ⟨xl.toNat, by omega⟩
        have mb := bool_at hown (j := mn) (by omega)
        have mI : (mn : Int) < (ts.length : Int) := by omega
        obtain ⟨d0, d1⟩ := hpr (by omega)
        obtain ⟨dn, rfl⟩ : ∃ n : Nat, xr = (n : Int) := ⟨xr.toNat, by omega⟩
        have db := bool_at hown (j := dn) (by omega)
        have dI : (dn : Int) < (ts.length : Int) := by omega
        simp only [Int.toNat_natCast] at hy
        generalize ts.getD mn false = b1 at *
        generalize ts.getD dn false = b2 at *
        subst hy
        have hownN := hown.alloc (.cells #[.int .i64 8, .int .i64 xn, .string xa, .string xb, .int .i64 mn, .int .i64 dn] 64)
        have hgN := gb_alloc hg (.cells #[.int .i64 8, .int .i64 xn, .string xa, .string xb, .int .i64 mn, .int .i64 dn] 64)
        have mb := cell_grown mb (gb_alloc (gb_refl wr none) (.cells #[.int .i64 8, .int .i64 xn, .string xa, .string xb, .int .i64 mn, .int .i64 dn] 64)) (by simp)
        have db := cell_grown db (gb_alloc (gb_refl wr none) (.cells #[.int .i64 8, .int .i64 xn, .string xa, .string xb, .int .i64 mn, .int .i64 dn] 64)) (by simp)
        clear hCn hpl hpr hk1 hk9 m0 m1 d0 d1
        cases b1 with
        | true =>
          go_wp2_with (first
            | (at_builtin; refine wpList_append_own_at _ rfl _ _ 114 rfl W.heap.size 4 i0 (.bool false) 1 1 Tryd.underlying114 hi0 hz0 hz1 hz2 rfl (by decide) (.slice (some ⟨gq, 0, none⟩) ts.length cap) _ _ rfl (hownN.alloc _) ⟨wr.heap.size + 1, 0, none⟩ 1 1 [.bool (true && b2)] rfl rfl (news_two _ _ _ rfl) (by simp [Value.oneCell']) (by unfold maxLen; omega) (by omega) (by simp; omega) ?_; intro v3 w3 hown3 hg3 _ hat3))
          go_roundg (p.length - (i + 1))
          case measure => omega
          case rel => exact ⟨i + 1, hlt, rfl, by first | rw [hq1.out] | go_num, by rw [hstep.out, List.length_append, boolsV_snoc]; exact hown3, own_gb (gb_alloc hgN _) (hownN.alloc _) (Nat.le_refl _) hg3⟩
        | false =>
          go_wp2_with (first
            | (at_builtin; refine wpList_append_own_at _ rfl _ _ 114 rfl W.heap.size 4 i0 (.bool false) 1 1 Tryd.underlying114 hi0 hz0 hz1 hz2 rfl (by decide) (.slice (some ⟨gq, 0, none⟩) ts.length cap) _ _ rfl (hownN.alloc _) ⟨wr.heap.size + 1, 0, none⟩ 1 1 [.bool (false && b2)] rfl rfl (news_two _ _ _ rfl) (by simp [Value.oneCell']) (by unfold maxLen; omega) (by omega) (by simp; omega) ?_; intro v3 w3 hown3 hg3 _ hat3))
          go_roundg (p.length - (i + 1))
          case measure => omega
          case rel => exact ⟨i + 1, hlt, rfl, by first | rw [hq1.out] | go_num, by rw [hstep.out, List.length_append, boolsV_snoc]; exact hown3, own_gb (gb_alloc hgN _) (hownN.alloc _) (Nat.le_refl _) hg3⟩
      · rw [if_neg (by omega), if_neg (by omega), if_neg (by omega), if_neg (by omega), if_pos rfl] at hy
        obtain ⟨gq, cap, rfl, hb1, hb2⟩ := hown.form (by have := hpl (by omega); omega)
        obtain ⟨m0, m1⟩ := hpl (by omega)
        obtain ⟨mn, rfl⟩ : ∃ n : Nat, xl = (n : Int) := ⟨xl.toNat, by omega⟩
        have mb := bool_at hown (j := mn) (by omega)
        have mI : (mn : Int) < (ts.length : Int) := by omega
        obtain ⟨d0, d1⟩ := hpr (by omega)
        obtain ⟨dn, rfl⟩ : ∃ n : Nat, xr = (n : Int) := ⟨xr.toNat, by omega⟩
        have db := bool_at hown (j := dn) (by omega)
        have dI : (dn : Int) < (ts.length : Int) := by omega
        simp only [Int.toNat_natCast] at hy
        generalize ts.getD mn false = b1 at *
        generalize ts.getD dn false = b2 at *
        subst hy
        have hownN := hown.alloc (.cells #[.int .i64 9, .int .i64 xn, .string xa, .string xb, .int .i64 mn, .int .i64 dn] 64)
        have hgN := gb_alloc hg (.cells #[.int .i64 9, .int .i64 xn, .string xa, .string xb, .int .i64 mn, .int .i64 dn] 64)
        have mb := cell_grown mb (gb_alloc (gb_refl wr none) (.cells #[.int .i64 9, .int .i64 xn, .string xa, .string xb, .int .i64 mn, .int .i64 dn] 64)) (by simp)
        have db := cell_grown db (gb_alloc (gb_refl wr none) (.cells #[.int .i64 9, .int .i64 xn, .string xa, .string xb, .int .i64 mn, .int .i64 dn] 64)) (by simp)
        clear hCn hpl hpr hk1 hk9 m0 m1 d0 d1
        cases b1 with
        | true =>
          go_wp2_with (first
            | (at_builtin; refine wpList_append_own_at _ rfl _ _ 114 rfl W.heap.size 4 i0 (.bool false) 1 1 Tryd.underlying114 hi0 hz0 hz1 hz2 rfl (by decide) (.slice (some ⟨gq, 0, none⟩) ts.length cap) _ _ rfl (hownN.alloc _) ⟨wr.heap.size + 1, 0, none⟩ 1 1 [.bool (true || b2)] rfl rfl (news_two _ _ _ rfl) (by simp [Value.oneCell']) (by unfold maxLen; omega) (by omega) (by simp; omega) ?_; intro v3 w3 hown3 hg3 _ hat3))
          go_roundg (p.length - (i + 1))
          case measure => omega
          case rel => exact ⟨i + 1, hlt, rfl, by first | rw [hq1.out] | go_num, by rw [hstep.out, List.length_append, boolsV_snoc]; exact hown3, own_gb (gb_alloc hgN _) (hownN.alloc _) (Nat.le_refl _) hg3⟩
        | false =>
          go_wp2_with (first
            | (at_builtin; refine wpList_append_own_at _ rfl _ _ 114 rfl W.heap.size 4 i0 (.bool false) 1 1 Tryd.underlying114 hi0 hz0 hz1 hz2 rfl (by decide) (.slice (some ⟨gq, 0, none⟩) ts.length cap) _ _ rfl (hownN.alloc _) ⟨wr.heap.size + 1, 0, none⟩ 1 1 [.bool (false || b2)] rfl rfl (news_two _ _ _ rfl) (by simp [Value.oneCell']) (by unfold maxLen; omega) (by omega) (by simp; omega) ?_; intro v3 w3 hown3 hg3 _ hat3))
          go_roundg (p.length - (i + 1))
          case measure => omega
          case rel => exact ⟨i + 1, hlt, rfl, by first | rw [hq1.out] | go_num, by rw [hstep.out, List.length_append, boolsV_snoc]; exact hown3, own_gb (gb_alloc hgN _) (hownN.alloc _) (Nat.le_refl _) hg3⟩
      · rw [if_neg (by omega), if_neg (by omega), if_neg (by omega), if_neg (by omega), if_neg (by omega)] at hy
        rw [hy] at hCn
        have e1 : (xk == 1) = false := by rw [beq_eq_false_iff_ne]; omega
        have e6 : (xk == 6) = false := by rw [beq_eq_false_iff_ne]; omega
        have e7 : (xk == 7) = false := by rw [beq_eq_false_iff_ne]; omega
        have e8 : (xk == 8) = false := by rw [beq_eq_false_iff_ne]; omega
        have e9 : (xk == 9) = false := by rw [beq_eq_false_iff_ne]; omega
        have hownN := hown.alloc (.cells #[.int .i64 xk, .int .i64 xn, .string xa, .string xb, .int .i64 xl, .int .i64 xr] 64)
        have hgN := gb_alloc hg (.cells #[.int .i64 xk, .int .i64 xn, .string xa, .string xb, .int .i64 xl, .int .i64 xr] 64)
        have hC := Lib.hid (hCn _ wr.heap.size hgN (heap_alloc_new wr (.cells #[.int .i64 xk, .int .i64 xn, .string xa, .string xb, .int .i64 xl, .int .i64 xr] 64)) hkc).out
        clear hCn hpl hpr hk1 hk9 hkc hy
        go_wp2_with (first
          | (at_builtin; refine wpList_append_own_at _ rfl _ _ 114 rfl W.heap.size 4 i0 (.bool false) 1 1 Tryd.underlying114 hi0 hz0 hz1 hz2 rfl (by decide) u10 _ _ rfl (hown4.alloc _) ⟨w4.heap.size, 0, none⟩ 1 1 [.bool y] rfl rfl (news_new _ _ rfl) (by simp [Value.oneCell']) (by unfold maxLen; omega) (by omega) (by simp; omega) ?_; intro v3 w3 hown3 hg3 _ hat3)
          | (go_at_call 79; refine (hC.out).mono ?_; rintro e w4 ⟨rfl, hg5⟩; have hown4 := hownN.kept hg5 (Classical.em _); have hg4 := gb_trans hgN hg5; have hgs := hg4.size))
        go_roundg (p.length - (i + 1))
        case measure => omega
        case rel => exact ⟨i + 1, hlt, rfl, by first | rw [hq1.out] | go_num, by rw [hstep.out, List.length_append, boolsV_snoc]; exact hown3, own_gb (gb_alloc hg4 _) (hown4.alloc _) (Nat.le_refl _) hg3⟩
    · obtain rfl : i = p.length := by omega
      rw [List.take_of_length_le (Nat.le_refl _)] at hown
      have htl : (trF sh l p []).length = p.length := by rw [trF_len]; simp
      have hat2 : ∀ gq cap, wr.ownsRow W.heap.size 4 1 (.slice (some ⟨gq, 0, none⟩) (trF sh l p []).length cap) (trF sh l p []).length (boolsV (trF sh l p [])) → wr.cell? ⟨gq, (trF sh l p []).length - 1, none⟩ = some (.bool res) := fun gq cap h => by
        have := bool_at h (j := (trF sh l p []).length - 1) (by omega)
        rw [htl] at this ⊢
        rw [hR.out] at this
        exact this
      generalize trF sh l p [] = ts at *
      obtain ⟨gq, cap, rfl, hb1, hb2⟩ := hown.form (by omega)
      have hat2 := hat2 gq cap hown
      have hlb : (ts.length : Int) ≤ 1000000 := by omega
      obtain ⟨m, hm⟩ : ∃ m, ts.length = m + 1 := ⟨ts.length - 1, by omega⟩
      have hgf := gb_trans hgw hg
      clear hown hb1 hb2 hcl hKB hu0 hP d0 d1 d2 htl hR
      generalize ts.length = n at *
      subst hm
      rw [Nat.add_sub_cancel] at hat2
      go_wp2_with fail
      refine bodyPost_ret (v := .tuple #[.bool res, .int .i64 0]) (by simp [results, Tryd.results40, go_sem]) rfl ?_
      exact ⟨rfl, hgf⟩
theorem holds_any (p : List PN) (S : Nat → Prop) (v : Value) (hi lo : Nat) (l : List Ad) (u : Value) (w : World) (hlen : p.length ≤ 1000000) (hp : NodesAt w S v p) (hS : ∀ b, S b → b < w.heap.size) (hP : checkN p = 0 → Plc p ∧ 0 < p.length)
    (hh : hi < 18446744073709551616) (hlo : lo < 18446744073709551616) (hll : l.length ≤ 140737488355328) (hb : ABd l) (hu : AAt w l u) :
    Calls Tryd.prog 40 #[.agg #[v], .agg #[.int .u64 hi, .int .u64 lo], u] w fun e w' => e = .returned (.tuple #[.bool (holdsN p (shareN hi lo) l).1, .int .i64 (holdsN p (shareN hi lo) l).2]) ∧ w.grownBy w' none := by
  by_cases hc : checkN p = 0
  · have e : holdsN p (shareN hi lo) l = ((trF (shareN hi lo) l p []).getD (p.length - 1) false, 0) := by unfold holdsN; rw [if_neg (fun h => h hc)]
    rw [e]
    exact holds_good p S v hi lo l u w hlen hp hS hc (hP hc).1 (hP hc).2 hh hlo hll hb hu
  · have e : holdsN p (shareN hi lo) l = (false, checkN p) := by unfold holdsN; rw [if_pos hc]
    rw [e]
    exact holds_bad p S v hi lo u w hlen hp hS hc
end Go.Proofs.YtnnhkajjifmlfaaDoor.Pl
