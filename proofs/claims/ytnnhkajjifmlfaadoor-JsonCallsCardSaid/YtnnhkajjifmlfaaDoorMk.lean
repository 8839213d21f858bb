/-
  'bootprint/bootprintlaw28.JsonCalls': whatever two values, name, names and list of values are handed in, the call returns true; they read as they did, and what was there stays.
  Check, Text, Get, Same, Quote, Map of the program and of the document are walked, each pair computes one plain function; SameJson says so of equal values. What 'lives' answers is reckoned by the executor (Ax).
-/
import Derived.Test.YtnnhkajjifmlfaaDoorXj
import Derived.Test.YtnnhkajjifmlfaaDoorM5
import Derived.Test.YtnnhkajjifmlfaaDoorCards
import Derived.Test.YtnnhkajjifmlfaaDoorTie
import Derived.WalkKit
import Derived.ProofKit
import Derived.OpenShut
import Derived.ChangeMaps
import Derived.Deep.DeepHandedRow
import Derived.Deep.DeepWitnessRowRef
import Derived.Lib.LaidIn
import Derived.Carry
import Derived.WideKeyArgs
namespace Go.Proofs.YtnnhkajjifmlfaaDoor.jsonCallsLaw
open Go.ChangeShapes Go.WideShapes Go.ChangeAt Go.RowKit Go.Lib Go.Proofs.YtnnhkajjifmlfaaDoor.Ax
open Go.ChangeMaps (open_string shut_string)

set_option maxRecDepth 1000000 in
theorem reckoned : okR (trueU E0 ix1 (bd E0 ix1 code1 300) 12 [] (hOf gl0) (pth E0.ng)) = true := by decide +kernel
theorem lives_true {W : World} (hL : laidMet Tryd.prog laid0 W) (hsh : W.ShapedOpen Tryd.prog) (W' : World) (hg : W.grownBy W' none) : Calls Tryd.prog 12 #[] W' fun e w' => e = .returned (.bool true) ∧ W'.grownBy w' none :=
  begun_true e0_ok ix1_ok c1_ok (m := 300) rfl reckoned (fun x hx => by
    obtain ⟨h1, arr, h2, h3⟩ := begun0 hL hsh x hx
    exact ⟨h1, arr, (hg.block _ (Array.getElem?_eq_some_iff.1 h2).1 (by simp)).trans h2, h3⟩) (fun ρ => VRs.nil ρ)
theorem vrs_ints (ρ : Ren) : ∀ (l : List Int) (xs : List Value), VRs ρ (l.map fun n => AV.i .u64 n) xs → xs = l.map fun n => Value.int .u64 n
  | [], xs, h => h.nil_inv
  | n :: l, xs, h => by
    obtain ⟨v, r, e1, h1, h2⟩ := h.cons_inv
    have e2 := vrs_ints ρ l r h2
    subst e1 e2
    cases h1 with
    | i => rfl
theorem glob_pow : Tryd.prog.globalNamed "internal/strconv.uint64pow10" = some 1 := by kernel_rfl
theorem pt_of {W : World} (hL : laidMet Tryd.prog laid0 W) (hsh : W.ShapedOpen Tryd.prog) (W' : World) (hg : W.grownBy W' none) : PT W' := by
  obtain ⟨x, hx, he, hv⟩ : ∃ x ∈ gl0, x.1 = 1 ∧ x.2.1 = Lib.pow10Tab.map fun n => AV.i .u64 n := ⟨gl0[0], by simp [gl0], rfl, by kernel_rfl⟩
  obtain ⟨_, arr, h2, h3⟩ := begun0 hL hsh x hx
  rw [he] at h2
  have h4 := h3 (fun _ => none)
  rw [hv] at h4
  have h5 := vrs_ints _ _ _ h4
  have h6 := (hg.block _ (Array.getElem?_eq_some_iff.1 h2).1 (by simp)).trans h2
  unfold PT Lib.TabIs World.var?
  rw [glob_pow]
  simp only [Option.bind_some, h6]
  rw [← h5]
set_option maxRecDepth 100000 in
/-- the call, in every world that holds the listed variables -/
theorem contract (H : Type) (enc : TypeId × Value → H) (W : World) (base : Nat) (args : Array Value) (ds gs : List (DataW H)) (before : List MemPlace)
    (hval : ∀ (j : Nat) t v, Tryd.f7.params[j]? = some t → args[j]? = some v → Value.okWide Tryd.prog W .any base t v)
    (hW : DataW.Whole enc Tryd.prog Tryd.f7.params.toList Rows.jsonCallsSpec.vars false W args.toList ds gs before)
    (hwt : (DataW.weightsEach Tryd.prog (Tryd.f7.params.toList ++ (OpenSpec.ofChange Rows.jsonCallsSpec).bare.plain.varTypes Tryd.prog) (ds ++ gs)).all (· ≤ reachBytes) = true) (hL : laidMetH Tryd.prog Rows.jsonCallsRow.laid W) (hsh : W.ShapedOpen Tryd.prog) :
    Calls Tryd.prog 7 args W fun e W' => ∃ v, e = .returned v ∧ Rows.jsonCallsSpec.post enc Tryd.prog Tryd.f7 false true false false W args v W' := by
  have hW' := hW
  obtain ⟨p, q, hA0, hV, rfl, _, _⟩ := hW
  have hA : DataW.TrodAll enc Tryd.prog W 0 (fun _ => true) true Tryd.f7.params.toList args.toList ds p := hA0
  rw [Tryd.params7] at hA hval hwt
  obtain ⟨v0, vs0, d0, ds0, p0, q0, hargs0, rfl, rfl, h0, r0⟩ := trodAll_cons hA
  obtain ⟨v1, vs1, d1, ds1, p1, q1, hargs1, rfl, rfl, h1, r1⟩ := trodAll_cons r0
  obtain ⟨v2, vs2, d2, ds2, p2, q2, hargs2, rfl, rfl, h2, r2⟩ := trodAll_cons r1
  obtain ⟨v3, vs3, d3, ds3, p3, q3, hargs3, rfl, rfl, h3, r3⟩ := trodAll_cons r2
  obtain ⟨v4, vs4, d4, ds4, p4, q4, hargs4, rfl, rfl, h4, r4⟩ := trodAll_cons r3
  obtain ⟨rfl, rfl, rfl⟩ := trodAll_nil r4
  subst hargs1; subst hargs2; subst hargs3; subst hargs4
  obtain rfl : args = #[v0, v1, v2, v3, v4] := by cases args; simp_all
  obtain ⟨rfl, rfl⟩ := trodVars_none hV
  have hlt := DataW.TrodAll.lt hA
  clear hA0
  obtain ⟨c0, rfl, z0⟩ := okWide_struct Tryd.underlying26 (hval 0 26 v0 rfl rfl)
  obtain ⟨c1, rfl, z1⟩ := okWide_struct Tryd.underlying26 (hval 1 26 v1 rfl rfl)
  obtain ⟨s, rfl, rfl, rfl, ws⟩ := open_string Tryd.underlying9 (hval 2 9 v2 rfl rfl) h2
  obtain ⟨a3, n3, k3, rfl⟩ := okWide_slice Tryd.underlying23 (hval 3 23 v3 rfl rfl)
  obtain ⟨a4, n4, k4, rfl⟩ := okWide_slice Tryd.underlying24 (hval 4 24 v4 rfl rfl)
  have hb0 : ∀ n ∈ d0.weights Tryd.prog 26, n ≤ reachBytes := by
    intro n hn
    have := List.all_eq_true.1 hwt n (DataW.weights_mem_each (j := 0) (t := 26) (d := d0) rfl rfl n hn)
    simpa using this
  have hb1 : ∀ n ∈ d1.weights Tryd.prog 26, n ≤ reachBytes := by
    intro n hn
    have := List.all_eq_true.1 hwt n (DataW.weights_mem_each (j := 1) (t := 26) (d := d1) rfl rfl n hn)
    simpa using this
  have hb3 : ∀ n ∈ d3.weights Tryd.prog 23, n ≤ reachBytes := by
    intro n hn
    have := List.all_eq_true.1 hwt n (DataW.weights_mem_each (j := 3) (t := 23) (d := d3) rfl rfl n hn)
    simpa using this
  have hb4 : ∀ n ∈ d4.weights Tryd.prog 24, n ≤ reachBytes := by
    intro n hn
    have := List.all_eq_true.1 hwt n (DataW.weights_mem_each (j := 4) (t := 24) (d := d4) rfl rfl n hn)
    simpa using this
  obtain ⟨fuel0, hf0⟩ := h0
  obtain ⟨fuel1, hf1⟩ := h1
  obtain ⟨fuel3, hf3⟩ := h3
  obtain ⟨fuel4, hf4⟩ := h4
  obtain ⟨j0, a00, a01, a02, a03, a04, hcs0, hB0, hJ0⟩ := open_jsonC fuel0 _ _ hf0 hb0
  obtain ⟨j1, a10, a11, a12, a13, a14, hcs1, hB1, hJ1⟩ := open_jsonC fuel1 _ _ hf1 hb1
  obtain ⟨names, hN, _, hNs⟩ := open_names hf3 hb3
  obtain ⟨list, hL4, _, hLb⟩ := open_listC hf4 hb4
  have hc0 : Value.agg c0 = .agg #[a00, a01, a02, a03, a04] := by
    have : c0.toList = [a00, a01, a02, a03, a04] := hcs0
    rw [← this]
  have hc1 : Value.agg c1 = .agg #[a10, a11, a12, a13, a14] := by
    have : c1.toList = [a10, a11, a12, a13, a14] := hcs1
    rw [← this]
  have walk := jsonCalls_walk (pt_of hL hsh) hB0 hB1 s names list hNs hLb _ _ _ _ _ (fun b hb => hb) hJ0 hJ1 hN hL4 (lives_true hL hsh)
  rw [← hc0, ← hc1] at walk
  refine walk.mono fun e W' ⟨he, hg⟩ => ?_
  subst he
  exact ⟨_, rfl, post_of_kept (pa := (p0 ++ (p1 ++ ([] ++ (p3 ++ (p4 ++ [])))))) (pv := []) hW' (fun _ _ _ => trodAll_cons_mk (shut_bool Tryd.underlying4 _) trodAll_mk0)
    (fun sp hsp => (trodAll_cons_mk (WideElems.Trod_stays (by kernel_rfl) (by kernel_rfl) (of_decide_eq_true (by kernel_rfl)) ⟨fuel0, hf0⟩ (fun x hx => (below_gb hg (Nat.le_refl _) (by simp)).same (hlt x (by simp [hx]))) (fun x hx => hsp x (by simp [hx]))) (trodAll_cons_mk (WideElems.Trod_stays (by kernel_rfl) (by kernel_rfl) (of_decide_eq_true (by kernel_rfl)) ⟨fuel1, hf1⟩ (fun x hx => (below_gb hg (Nat.le_refl _) (by simp)).same (hlt x (by simp [hx]))) (fun x hx => hsp x (by simp [hx]))) (trodAll_cons_mk (shut_string Tryd.underlying9 ws) (trodAll_cons_mk (WideElems.Trod_stays (by kernel_rfl) (by kernel_rfl) (of_decide_eq_true (by kernel_rfl)) ⟨fuel3, hf3⟩ (fun x hx => (below_gb hg (Nat.le_refl _) (by simp)).same (hlt x (by simp [hx]))) (fun x hx => hsp x (by simp [hx]))) (trodAll_cons_mk (WideElems.Trod_stays (by kernel_rfl) (by kernel_rfl) (of_decide_eq_true (by kernel_rfl)) ⟨fuel4, hf4⟩ (fun x hx => (below_gb hg (Nat.le_refl _) (by simp)).same (hlt x (by simp [hx]))) (fun x hx => hsp x (by simp [hx]))) trodAll_mk0)))))) (fun _ _ => rfl) (by simp) hg
    (ok_one (by kernel_rfl) rfl (okWide_bool_mk Tryd.underlying4 _))⟩

theorem reads (os : Os) {H : Type} (enc : TypeId × Value → H) : ∃ places, DataW.whole enc Tryd.prog ((laidWorld os).forCall (fun _ _ => 0) ⟨#[], #[.agg #[.int .i64 0, .int .i64 0, .string ⟨#[]⟩, .slice none 0 0, .slice none 0 0], .agg #[.int .i64 0, .int .i64 0, .string ⟨#[]⟩, .slice none 0 0, .slice none 0 0], .string ⟨#[]⟩, .slice none 0 0, .slice none 0 0], []⟩).memory Tryd.f7.params.toList Rows.jsonCallsSpec.vars false (#[.agg #[.int .i64 0, .int .i64 0, .string ⟨#[]⟩, .slice none 0 0, .slice none 0 0], .agg #[.int .i64 0, .int .i64 0, .string ⟨#[]⟩, .slice none 0 0, .slice none 0 0], .string ⟨#[]⟩, .slice none 0 0, .slice none 0 0] : Array Value).toList 8 = some ([.agg [.lit (.int .i64 0), .lit (.int .i64 0), .lit (.string []), .nil, .nil], .agg [.lit (.int .i64 0), .lit (.int .i64 0), .lit (.string []), .nil, .nil], .lit (.string []), .nil, .nil], [], places) :=
  ⟨[], by kernel_rfl⟩

set_option maxRecDepth 100000 in
theorem lifted (os : Os) (started : os.Started) (H : Type) (enc : TypeId × Value → H) (F : Stop.Interp) :
    ReturnsInHanded {} Tryd.checked os 7 .any ((OpenSpec.ofChange Rows.jsonCallsSpec).preRow enc Tryd.prog Tryd.f7 Rows.jsonCallsRow.domain false Rows.jsonCallsRow.laid) (((OpenSpec.ofChange Rows.jsonCallsSpec).at F).post enc Tryd.prog Tryd.f7 false true false false) := by
  obtain ⟨places, hx⟩ := reads os enc
  refine returnsInHanded_of_row (C := Tryd.checked) (s := OpenSpec.ofChange Rows.jsonCallsSpec) own0 started (by kernel_rfl) Tryd.func7
    (witness_row_atRef (enc := enc) (C := Tryd.checked) false (laidWorld os) #[.agg #[.int .i64 0, .int .i64 0, .string ⟨#[]⟩, .slice none 0 0, .slice none 0 0], .agg #[.int .i64 0, .int .i64 0, .string ⟨#[]⟩, .slice none 0 0, .slice none 0 0], .string ⟨#[]⟩, .slice none 0 0, .slice none 0 0] rfl (by kernel_rfl) (by kernel_rfl) (by kernel_rfl)
      (OpenSpec.preRow_of_cond 8 hx (by kernel_rfl) (fun k hk => by cases hk) (by kernel_rfl) (laid_met os _))) ?_
  intro W base args ds gs before hval hW _ _ hwt hL hsh _
  exact contract H enc W base args ds gs before hval hW hwt hL hsh

theorem said : Rows.JsonCallsSaid :=
  OpenClaim.holds_of_cond 7 Tryd.f7 rfl rfl rfl rfl rfl rfl rfl ⟨rfl, rfl, rfl, rfl, rfl⟩ rfl rfl rfl rfl rfl (by kernel_rfl) Tryd.func7 (by kernel_rfl)
    (of_decide_eq_true (by kernel_rfl)) (by unfold Func.isWrapper; first | (rw [if_pos (by decide +kernel)]; kernel_rfl) | (rw [if_neg (by decide +kernel)]; exact ⟨rfl, rfl⟩))
    (fun os started H enc _ F => by rw [OpenClaim.pre_eq_preRow]; exact lifted os started H enc F)

/-- no parameter wants a stand-in -/
theorem plain (f : FuncId) (fn : Func) (hf : Tryd.pinned.checked.prog.funcNamed "bootprint/bootprintlaw28.JsonCalls" = some f) (hfn : Tryd.pinned.checked.prog.funcs[f]? = some fn) :
    true = Tryd.pinned.checked.prog.looks [] ∧ ∀ (j : Nat) t, fn.params[j]? = some t → Tryd.pinned.checked.prog.wantsStandIn t = false := by
  obtain rfl : f = 7 := Option.some.inj ((show Tryd.prog.funcNamed "bootprint/bootprintlaw28.JsonCalls" = some 7 by kernel_rfl).symm.trans hf) |>.symm
  obtain rfl : fn = Tryd.f7 := (Option.some.inj (Tryd.func7.symm.trans hfn)).symm
  refine ⟨by kernel_rfl, fun j t ht => ?_⟩
  rw [Tryd.params7] at ht
  have hm := Array.mem_of_getElem? ht
  simp at hm
  rcases hm with rfl | rfl | rfl | rfl
  · exact (show Tryd.prog.wantsStandIn 26 = false by kernel_rfl)
  · exact (show Tryd.prog.wantsStandIn 9 = false by kernel_rfl)
  · exact (show Tryd.prog.wantsStandIn 23 = false by kernel_rfl)
  · exact (show Tryd.prog.wantsStandIn 24 = false by kernel_rfl)
/-- **the card** -/
theorem card : Rows.JsonCallsCardSaid :=
  Claim7.holds_tied_plain_at .later [] _ _ _ _ said (fun _ h => by cases h) (by kernel_rfl) (fun _ h => by cases h) jsonCalls_row_tie rfl ⟨rfl, rfl⟩ (by kernel_rfl) rfl plain (by kernel_rfl)
end Go.Proofs.YtnnhkajjifmlfaaDoor.jsonCallsLaw
