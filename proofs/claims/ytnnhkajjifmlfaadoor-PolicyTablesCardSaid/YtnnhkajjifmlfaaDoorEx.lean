/-
  'bootprint/bootprintlaw22.PolicyTables': whatever two policies, two traces and adjusted spans are handed in, the call returns true; they read as they did, and what was there stays.
  Check and Holds of the program are walked, each computes a plain function; a policy put together is the tree put together. What 'lives' answers is reckoned by the executor (Ax).
-/
import Derived.Test.YtnnhkajjifmlfaaDoorXj
import Derived.Test.YtnnhkajjifmlfaaDoorEl
import Derived.Test.YtnnhkajjifmlfaaDoorCards
import Derived.Test.YtnnhkajjifmlfaaDoorTie
import Derived.WalkKit
import Derived.ProofKit
import Derived.OpenShut
import Derived.ChangeMaps
import Derived.Deep.DeepHandedRow
import Derived.Deep.DeepWitnessRowRef
import Derived.Lib.LaidIn
import Derived.Carry
import Derived.WideKeyArgs
namespace Go.Proofs.YtnnhkajjifmlfaaDoor.policyTablesLaw
open Go.ChangeShapes Go.WideShapes Go.ChangeAt Go.RowKit Go.Lib Go.Proofs.YtnnhkajjifmlfaaDoor.Ax Go.Proofs.YtnnhkajjifmlfaaDoor.Pl

theorem below_gb {B : Nat} {a w : World} {row : Option Nat} (h : a.grownBy w row) (hB : B ≤ a.heap.size) (hr : ∀ g, row = some g → B ≤ g) : Below B a w :=
  ⟨h.os, h.tape, h.output, h.size, fun k hk => h.block k (by omega) (fun e => by have := hr k e.symm; omega)⟩

set_option maxRecDepth 1000000 in
theorem reckoned : okR (trueU E0 ix1 (bd E0 ix1 code1 300) 32 [] (hOf gl0) (pth E0.ng)) = true := by decide +kernel
theorem lives_true {W : World} (hL : laidMet Tryd.prog laid0 W) (hsh : W.ShapedOpen Tryd.prog) (W' : World) (hg : W.grownBy W' none) : Calls Tryd.prog 32 #[] W' fun e w' => e = .returned (.bool true) ∧ W'.grownBy w' none :=
  begun_true e0_ok ix1_ok c1_ok (m := 300) rfl reckoned (fun x hx => by
    obtain ⟨h1, arr, h2, h3⟩ := begun0 hL hsh x hx
    exact ⟨h1, arr, (hg.block _ (Array.getElem?_eq_some_iff.1 h2).1 (by simp)).trans h2, h3⟩) (fun ρ => VRs.nil ρ)

set_option maxRecDepth 100000 in
/-- the call, in every world that holds the listed variables -/
theorem contract (H : Type) (enc : TypeId × Value → H) (W : World) (base : Nat) (args : Array Value) (ds gs : List (DataW H)) (before : List MemPlace)
    (hval : ∀ (j : Nat) t v, Tryd.f11.params[j]? = some t → args[j]? = some v → Value.okWide Tryd.prog W .any base t v)
    (hW : DataW.Whole enc Tryd.prog Tryd.f11.params.toList Rows.policyTablesSpec.vars false W args.toList ds gs before)
    (hwt : (DataW.weightsEach Tryd.prog (Tryd.f11.params.toList ++ (OpenSpec.ofChange Rows.policyTablesSpec).bare.plain.varTypes Tryd.prog) (ds ++ gs)).all (· ≤ reachBytes) = true) (hL : laidMetH Tryd.prog Rows.policyTablesRow.laid W) (hsh : W.ShapedOpen Tryd.prog) :
    Calls Tryd.prog 11 args W fun e W' => ∃ v, e = .returned v ∧ Rows.policyTablesSpec.post enc Tryd.prog Tryd.f11 false true false false W args v W' := by
  have hW' := hW
  obtain ⟨p, q, hA0, hV, rfl, _, _⟩ := hW
  have hA : DataW.TrodAll enc Tryd.prog W 0 (fun _ => true) true Tryd.f11.params.toList args.toList ds p := hA0
  rw [Tryd.params11] at hA hval hwt
  obtain ⟨v0, vs0, d0, ds0, p0, q0, hargs0, rfl, rfl, h0, r0⟩ := trodAll_cons hA
  obtain ⟨v1, vs1, d1, ds1, p1, q1, hargs1, rfl, rfl, h1, r1⟩ := trodAll_cons r0
  obtain ⟨v2, vs2, d2, ds2, p2, q2, hargs2, rfl, rfl, h2, r2⟩ := trodAll_cons r1
  obtain ⟨v3, vs3, d3, ds3, p3, q3, hargs3, rfl, rfl, h3, r3⟩ := trodAll_cons r2
  obtain ⟨v4, vs4, d4, ds4, p4, q4, hargs4, rfl, rfl, h4, r4⟩ := trodAll_cons r3
  obtain ⟨rfl, rfl, rfl⟩ := trodAll_nil r4
  subst hargs1; subst hargs2; subst hargs3; subst hargs4
  obtain rfl : args = #[v0, v1, v2, v3, v4] := by cases args; simp_all
  obtain ⟨rfl, rfl⟩ := trodVars_none hV
  have hlt := DataW.TrodAll.lt hA
  clear hA0
  obtain ⟨c0, rfl, z0⟩ := okWide_struct Tryd.underlying48 (hval 0 48 v0 rfl rfl)
  obtain ⟨c1, rfl, z1⟩ := okWide_struct Tryd.underlying48 (hval 1 48 v1 rfl rfl)
  obtain ⟨c2, rfl, z2⟩ := okWide_struct Tryd.underlying57 (hval 2 57 v2 rfl rfl)
  obtain ⟨c3, rfl, z3⟩ := okWide_struct Tryd.underlying57 (hval 3 57 v3 rfl rfl)
  obtain ⟨a4, n4, k4, rfl⟩ := okWide_slice Tryd.underlying58 (hval 4 58 v4 rfl rfl)
  have hb0 : ∀ n ∈ d0.weights Tryd.prog 48, n ≤ reachBytes := by
    intro n hn
    have := List.all_eq_true.1 hwt n (DataW.weights_mem_each (j := 0) (t := 48) (d := d0) rfl rfl n hn)
    simpa using this
  have hb1 : ∀ n ∈ d1.weights Tryd.prog 48, n ≤ reachBytes := by
    intro n hn
    have := List.all_eq_true.1 hwt n (DataW.weights_mem_each (j := 1) (t := 48) (d := d1) rfl rfl n hn)
    simpa using this
  have hb4 : ∀ n ∈ d4.weights Tryd.prog 58, n ≤ reachBytes := by
    intro n hn
    have := List.all_eq_true.1 hwt n (DataW.weights_mem_each (j := 4) (t := 58) (d := d4) rfl rfl n hn)
    simpa using this
  obtain ⟨fuel0, hf0⟩ := h0
  obtain ⟨fuel1, hf1⟩ := h1
  obtain ⟨fuel2, hf2⟩ := h2
  obtain ⟨fuel3, hf3⟩ := h3
  obtain ⟨fuel4, hf4⟩ := h4
  obtain ⟨l0, u0, hcs0, hN0, hlen0⟩ := open_policy hf0 hb0
  obtain ⟨l1, u1, hcs1, hN1, hlen1⟩ := open_policy hf1 hb1
  obtain ⟨hi, lo, hx1, hx2, hcs2⟩ := open_trace hf2
  obtain ⟨hi2, lo2, hx3, hx4, hcs3⟩ := open_trace hf3
  obtain ⟨l, hll, hbd, hau⟩ := open_ads hf4 hb4
  have hc0 : Value.agg c0 = .agg #[u0] := by
    have : c0.toList = [u0] := hcs0
    rw [← this]
  have hc1 : Value.agg c1 = .agg #[u1] := by
    have : c1.toList = [u1] := hcs1
    rw [← this]
  have hc2 : Value.agg c2 = .agg #[.int .u64 hi, .int .u64 lo] := by
    have : c2.toList = [.int .u64 hi, .int .u64 lo] := hcs2
    rw [← this]
  have hc3 : Value.agg c3 = .agg #[.int .u64 hi2, .int .u64 lo2] := by
    have : c3.toList = [.int .u64 hi2, .int .u64 lo2] := hcs3
    rw [← this]
  have walk := tables_any (TGiven.mk (w := W) (p := l0) (q := l1) (S := (· < W.heap.size)) (S' := (· < W.heap.size)) (vp := u0) (vq := u1) hN0 hN1 (fun b hb => hb) (fun b hb => hb) hlen0 hlen1 hx1 hx2 hx3 hx4 hll hbd hau (lives_true hL hsh))
  rw [← hc0, ← hc1, ← hc2, ← hc3] at walk
  refine walk.mono fun e W' ⟨he, hg⟩ => ?_
  subst he
  exact ⟨_, rfl, post_of_kept (pa := (p0 ++ (p1 ++ (p2 ++ (p3 ++ (p4 ++ [])))))) (pv := []) hW' (fun _ _ _ => trodAll_cons_mk (shut_bool Tryd.underlying4 _) trodAll_mk0)
    (fun sp hsp => (trodAll_cons_mk (WideElems.Trod_stays (by kernel_rfl) (by kernel_rfl) (of_decide_eq_true (by kernel_rfl)) ⟨fuel0, hf0⟩ (fun x hx => (below_gb hg (Nat.le_refl _) (by simp)).same (hlt x (by simp [hx]))) (fun x hx => hsp x (by simp [hx]))) (trodAll_cons_mk (WideElems.Trod_stays (by kernel_rfl) (by kernel_rfl) (of_decide_eq_true (by kernel_rfl)) ⟨fuel1, hf1⟩ (fun x hx => (below_gb hg (Nat.le_refl _) (by simp)).same (hlt x (by simp [hx]))) (fun x hx => hsp x (by simp [hx]))) (trodAll_cons_mk (WideElems.Trod_stays (by kernel_rfl) (by kernel_rfl) (of_decide_eq_true (by kernel_rfl)) ⟨fuel2, hf2⟩ (fun x hx => (below_gb hg (Nat.le_refl _) (by simp)).same (hlt x (by simp [hx]))) (fun x hx => hsp x (by simp [hx]))) (trodAll_cons_mk (WideElems.Trod_stays (by kernel_rfl) (by kernel_rfl) (of_decide_eq_true (by kernel_rfl)) ⟨fuel3, hf3⟩ (fun x hx => (below_gb hg (Nat.le_refl _) (by simp)).same (hlt x (by simp [hx]))) (fun x hx => hsp x (by simp [hx]))) (trodAll_cons_mk (WideElems.Trod_stays (by kernel_rfl) (by kernel_rfl) (of_decide_eq_true (by kernel_rfl)) ⟨fuel4, hf4⟩ (fun x hx => (below_gb hg (Nat.le_refl _) (by simp)).same (hlt x (by simp [hx]))) (fun x hx => hsp x (by simp [hx]))) trodAll_mk0)))))) (fun _ _ => rfl) (by simp) hg
    (ok_one (by kernel_rfl) rfl (okWide_bool_mk Tryd.underlying4 _))⟩

theorem reads (os : Os) {H : Type} (enc : TypeId × Value → H) : ∃ places, DataW.whole enc Tryd.prog ((laidWorld os).forCall (fun _ _ => 0) ⟨#[], #[.agg #[.slice none 0 0], .agg #[.slice none 0 0], .agg #[.int .u64 0, .int .u64 0], .agg #[.int .u64 0, .int .u64 0], .slice none 0 0], []⟩).memory Tryd.f11.params.toList Rows.policyTablesSpec.vars false (#[.agg #[.slice none 0 0], .agg #[.slice none 0 0], .agg #[.int .u64 0, .int .u64 0], .agg #[.int .u64 0, .int .u64 0], .slice none 0 0] : Array Value).toList 8 = some ([.agg [.nil], .agg [.nil], .agg [.lit (.int .u64 0), .lit (.int .u64 0)], .agg [.lit (.int .u64 0), .lit (.int .u64 0)], .nil], [], places) :=
  ⟨[], by kernel_rfl⟩

set_option maxRecDepth 100000 in
theorem lifted (os : Os) (started : os.Started) (H : Type) (enc : TypeId × Value → H) (F : Stop.Interp) :
    ReturnsInHanded {} Tryd.checked os 11 .any ((OpenSpec.ofChange Rows.policyTablesSpec).preRow enc Tryd.prog Tryd.f11 Rows.policyTablesRow.domain false Rows.policyTablesRow.laid) (((OpenSpec.ofChange Rows.policyTablesSpec).at F).post enc Tryd.prog Tryd.f11 false true false false) := by
  obtain ⟨places, hx⟩ := reads os enc
  refine returnsInHanded_of_row (C := Tryd.checked) (s := OpenSpec.ofChange Rows.policyTablesSpec) own0 started (by kernel_rfl) Tryd.func11
    (witness_row_atRef (enc := enc) (C := Tryd.checked) false (laidWorld os) #[.agg #[.slice none 0 0], .agg #[.slice none 0 0], .agg #[.int .u64 0, .int .u64 0], .agg #[.int .u64 0, .int .u64 0], .slice none 0 0] rfl (by kernel_rfl) (by kernel_rfl) (by kernel_rfl)
      (OpenSpec.preRow_of_cond 8 hx (by kernel_rfl) (fun k hk => by cases hk) (by kernel_rfl) (laid_met os _))) ?_
  intro W base args ds gs before hval hW _ _ hwt hL hsh _
  exact contract H enc W base args ds gs before hval hW hwt hL hsh

theorem said : Rows.PolicyTablesSaid :=
  OpenClaim.holds_of_cond 11 Tryd.f11 rfl rfl rfl rfl rfl rfl rfl ⟨rfl, rfl, rfl, rfl, rfl⟩ rfl rfl rfl rfl rfl (by kernel_rfl) Tryd.func11 (by kernel_rfl)
    (of_decide_eq_true (by kernel_rfl)) (by unfold Func.isWrapper; first | (rw [if_pos (by decide +kernel)]; kernel_rfl) | (rw [if_neg (by decide +kernel)]; exact ⟨rfl, rfl⟩))
    (fun os started H enc _ F => by rw [OpenClaim.pre_eq_preRow]; exact lifted os started H enc F)

/-- no parameter wants a stand-in -/
theorem plain (f : FuncId) (fn : Func) (hf : Tryd.pinned.checked.prog.funcNamed "bootprint/bootprintlaw22.PolicyTables" = some f) (hfn : Tryd.pinned.checked.prog.funcs[f]? = some fn) :
    true = Tryd.pinned.checked.prog.looks [] ∧ ∀ (j : Nat) t, fn.params[j]? = some t → Tryd.pinned.checked.prog.wantsStandIn t = false := by
  obtain rfl : f = 11 := Option.some.inj ((show Tryd.prog.funcNamed "bootprint/bootprintlaw22.PolicyTables" = some 11 by kernel_rfl).symm.trans hf) |>.symm
  obtain rfl : fn = Tryd.f11 := (Option.some.inj (Tryd.func11.symm.trans hfn)).symm
  refine ⟨by kernel_rfl, fun j t ht => ?_⟩
  rw [Tryd.params11] at ht
  have hm := Array.mem_of_getElem? ht
  simp at hm
  rcases hm with rfl | rfl | rfl
  · exact (show Tryd.prog.wantsStandIn 48 = false by kernel_rfl)
  · exact (show Tryd.prog.wantsStandIn 57 = false by kernel_rfl)
  · exact (show Tryd.prog.wantsStandIn 58 = false by kernel_rfl)
/-- **the card** -/
theorem card : Rows.PolicyTablesCardSaid :=
  Claim7.holds_tied_plain_at .later [] _ _ _ _ said (fun _ h => by cases h) (by kernel_rfl) (fun _ h => by cases h) policyTables_row_tie rfl ⟨rfl, rfl⟩ (by kernel_rfl) rfl plain (by kernel_rfl)
end Go.Proofs.YtnnhkajjifmlfaaDoor.policyTablesLaw
