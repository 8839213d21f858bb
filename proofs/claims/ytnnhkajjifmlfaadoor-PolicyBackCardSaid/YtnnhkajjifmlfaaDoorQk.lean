/-
  'bootprint/bootprintlaw22.PolicyBack': whatever policy and text are handed in, the call returns true; both read as they did, and what was there stays.
  The program's Check, Text and Parse are walked, each computes a plain function; what Text tells, Parse reads; what Parse reads, Text tells. What 'lives' answers is reckoned by the executor (Ax).
-/
import Derived.Test.YtnnhkajjifmlfaaDoorXj
import Derived.Test.YtnnhkajjifmlfaaDoorQb
import Derived.Test.YtnnhkajjifmlfaaDoorCards
import Derived.Test.YtnnhkajjifmlfaaDoorTie
import Derived.WalkKit
import Derived.ProofKit
import Derived.OpenShut
import Derived.ChangeMaps
import Derived.Deep.DeepHandedRow
import Derived.Deep.DeepWitnessRowRef
import Derived.Lib.LaidIn
import Derived.Carry
import Derived.WideKeyArgs
namespace Go.Proofs.YtnnhkajjifmlfaaDoor.policyBackLaw
open Go.ChangeShapes Go.WideShapes Go.ChangeAt Go.RowKit Go.Lib Go.Proofs.YtnnhkajjifmlfaaDoor.Ax Go.Proofs.YtnnhkajjifmlfaaDoor.Pl
open Go.ChangeMaps (open_string shut_string)

set_option maxRecDepth 1000000 in
theorem reckoned : okR (trueU E0 ix1 (bd E0 ix1 code1 300) 32 [] (hOf gl0) (pth E0.ng)) = true := by decide +kernel
theorem lives_true {W : World} (hL : laidMet Tryd.prog laid0 W) (hsh : W.ShapedOpen Tryd.prog) (W' : World) (hg : W.grownBy W' none) : Calls Tryd.prog 32 #[] W' fun e w' => e = .returned (.bool true) ∧ W'.grownBy w' none :=
  begun_true e0_ok ix1_ok c1_ok (m := 300) rfl reckoned (fun x hx => by
    obtain ⟨h1, arr, h2, h3⟩ := begun0 hL hsh x hx
    exact ⟨h1, arr, (hg.block _ (Array.getElem?_eq_some_iff.1 h2).1 (by simp)).trans h2, h3⟩) (fun ρ => VRs.nil ρ)
theorem vrs_ints (ρ : Ren) : ∀ (l : List Int) (xs : List Value), VRs ρ (l.map fun n => AV.i .u64 n) xs → xs = l.map fun n => Value.int .u64 n
  | [], xs, h => h.nil_inv
  | n :: l, xs, h => by
    obtain ⟨v, r, e1, h1, h2⟩ := h.cons_inv
    have e2 := vrs_ints ρ l r h2
    subst e1 e2
    cases h1 with
    | i => rfl
theorem glob_pow : Tryd.prog.globalNamed "internal/strconv.uint64pow10" = some 1 := by kernel_rfl
theorem pt_of {W : World} (hL : laidMet Tryd.prog laid0 W) (hsh : W.ShapedOpen Tryd.prog) (W' : World) (hg : W.grownBy W' none) : Lib.TabIs Tryd.prog W' "internal/strconv.uint64pow10" .u64 Lib.pow10Tab := by
  obtain ⟨x, hx, he, hv⟩ : ∃ x ∈ gl0, x.1 = 1 ∧ x.2.1 = Lib.pow10Tab.map fun n => AV.i .u64 n := ⟨gl0[0], by simp [gl0], rfl, by kernel_rfl⟩
  obtain ⟨_, arr, h2, h3⟩ := begun0 hL hsh x hx
  rw [he] at h2
  have h4 := h3 (fun _ => none)
  rw [hv] at h4
  have h5 := vrs_ints _ _ _ h4
  have h6 := (hg.block _ (Array.getElem?_eq_some_iff.1 h2).1 (by simp)).trans h2
  unfold Lib.TabIs World.var?
  rw [glob_pow]
  simp only [Option.bind_some, h6]
  rw [← h5]
theorem err_var {W : World} {g : Nat} {n : String} {arr : Array Value} (hn : Tryd.prog.globalNamed n = some g) (ha : W.heap[g]? = some (.cells arr 126 (0, 0))) (hv : ∀ ρ : Ren, VRs ρ [.ifc 193 .z] arr.toList) : ∃ tp p, W.var? Tryd.prog n = some #[.iface tp p] := by
  obtain ⟨v, r, e1, h1, h2⟩ := (hv (fun _ => none)).cons_inv
  have e2 := h2.nil_inv
  subst e2
  cases h1 with
  | ifc h =>
    rename_i u
    refine ⟨193, u, ?_⟩
    have : arr = #[.iface 193 u] := Array.ext' (by rw [e1])
    unfold World.var?
    rw [hn]
    simp only [Option.bind_some, ha, this]
theorem gv {W : World} (hL : laidMet Tryd.prog laid0 W) (hsh : W.ShapedOpen Tryd.prog) : Gv W ∧ 6 ≤ W.heap.size := by
  have hb := begun0 hL hsh
  obtain ⟨_, a2, h2, v2⟩ := hb (2, [.ifc 193 .z], 126) (by simp [gl0])
  obtain ⟨_, a3, h3, v3⟩ := hb (3, [.ifc 193 .z], 126) (by simp [gl0])
  have hl := hsh.1
  refine ⟨⟨err_var glob_syn h2 v2, err_var glob_rng h3 v3⟩, ?_⟩
  obtain ⟨x, hx, he⟩ : ∃ x ∈ gl0, x.1 = 5 := ⟨gl0[4], by simp [gl0], rfl⟩
  obtain ⟨_, a5, h5, _⟩ := hb x hx
  rw [he] at h5
  have := (Array.getElem?_eq_some_iff.1 h5).1
  omega

set_option maxRecDepth 100000 in
/-- the call, in every world that holds the listed variables -/
theorem contract (H : Type) (enc : TypeId × Value → H) (W : World) (base : Nat) (args : Array Value) (ds gs : List (DataW H)) (before : List MemPlace)
    (hval : ∀ (j : Nat) t v, Tryd.f10.params[j]? = some t → args[j]? = some v → Value.okWide Tryd.prog W .any base t v)
    (hW : DataW.Whole enc Tryd.prog Tryd.f10.params.toList Rows.policyBackSpec.vars false W args.toList ds gs before)
    (hwt : (DataW.weightsEach Tryd.prog (Tryd.f10.params.toList ++ (OpenSpec.ofChange Rows.policyBackSpec).bare.plain.varTypes Tryd.prog) (ds ++ gs)).all (· ≤ reachBytes) = true) (hL : laidMetH Tryd.prog Rows.policyBackRow.laid W) (hsh : W.ShapedOpen Tryd.prog) :
    Calls Tryd.prog 10 args W fun e W' => ∃ v, e = .returned v ∧ Rows.policyBackSpec.post enc Tryd.prog Tryd.f10 false true false false W args v W' := by
  have hW' := hW
  obtain ⟨p, q, hA0, hV, rfl, _, _⟩ := hW
  have hA : DataW.TrodAll enc Tryd.prog W 0 (fun _ => true) true Tryd.f10.params.toList args.toList ds p := hA0
  rw [Tryd.params10] at hA hval hwt
  obtain ⟨v0, vs0, d0, ds0, p0, q0, hargs0, rfl, rfl, h0, r0⟩ := trodAll_cons hA
  obtain ⟨v1, vs1, d1, ds1, p1, q1, hargs1, rfl, rfl, h1, r1⟩ := trodAll_cons r0
  obtain ⟨rfl, rfl, rfl⟩ := trodAll_nil r1
  subst hargs1
  obtain rfl : args = #[v0, v1] := by cases args; simp_all
  obtain ⟨rfl, rfl⟩ := trodVars_none hV
  have hlt := DataW.TrodAll.lt hA
  clear hA0
  obtain ⟨c0, rfl, z0⟩ := okWide_struct Tryd.underlying48 (hval 0 48 v0 rfl rfl)
  obtain ⟨s, rfl, rfl, rfl, ws⟩ := open_string Tryd.underlying9 (hval 1 9 v1 rfl rfl) h1
  have hbnd : ∀ n ∈ d0.weights Tryd.prog 48, n ≤ reachBytes := by
    intro n hn
    have := List.all_eq_true.1 hwt n (DataW.weights_mem_each (j := 0) (t := 48) (d := d0) rfl rfl n hn)
    simpa using this
  obtain ⟨fuel, hf⟩ := h0
  obtain ⟨l, v, hcs, hN, hlen⟩ := open_policy hf hbnd
  have hc0 : Value.agg c0 = .agg #[v] := by
    have : c0.toList = [v] := hcs
    rw [← this]
  obtain ⟨hG, h6⟩ := gv (W := W) hL hsh
  have walk := back_any (s := s) (Given.mk (w := W) (l := l) (S := (· < W.heap.size)) (v := v) hG h6 (pt_of hL hsh) hN (fun b hb => hb) hlen (lives_true hL hsh))
  rw [← hc0] at walk
  refine walk.mono fun e W' ⟨he, hg⟩ => ?_
  subst he
  exact ⟨_, rfl, post_of_kept (pa := (p0 ++ ([] ++ []))) (pv := []) hW' (fun _ _ _ => trodAll_cons_mk (shut_bool Tryd.underlying4 _) trodAll_mk0)
    (fun sp hsp => (trodAll_cons_mk (WideElems.Trod_stays (by kernel_rfl) (by kernel_rfl) (of_decide_eq_true (by kernel_rfl)) ⟨fuel, hf⟩ (fun x hx => (below_gb hg (Nat.le_refl _) (by simp)).same (hlt x (by simp [hx]))) (fun x hx => hsp x (by simp [hx])))
      (trodAll_cons_mk (shut_string Tryd.underlying9 ws) trodAll_mk0))) (fun _ _ => rfl) (by simp) hg
    (ok_one (by kernel_rfl) rfl (okWide_bool_mk Tryd.underlying4 _))⟩

theorem reads (os : Os) {H : Type} (enc : TypeId × Value → H) : ∃ places, DataW.whole enc Tryd.prog ((laidWorld os).forCall (fun _ _ => 0) ⟨#[], #[.agg #[.slice none 0 0], .string ⟨#[]⟩], []⟩).memory Tryd.f10.params.toList Rows.policyBackSpec.vars false (#[.agg #[.slice none 0 0], .string ⟨#[]⟩] : Array Value).toList 8 = some ([.agg [.nil], .lit (.string [])], [], places) :=
  ⟨[], by kernel_rfl⟩

set_option maxRecDepth 100000 in
theorem lifted (os : Os) (started : os.Started) (H : Type) (enc : TypeId × Value → H) (F : Stop.Interp) :
    ReturnsInHanded {} Tryd.checked os 10 .any ((OpenSpec.ofChange Rows.policyBackSpec).preRow enc Tryd.prog Tryd.f10 Rows.policyBackRow.domain false Rows.policyBackRow.laid) (((OpenSpec.ofChange Rows.policyBackSpec).at F).post enc Tryd.prog Tryd.f10 false true false false) := by
  obtain ⟨places, hx⟩ := reads os enc
  refine returnsInHanded_of_row (C := Tryd.checked) (s := OpenSpec.ofChange Rows.policyBackSpec) own0 started (by kernel_rfl) Tryd.func10
    (witness_row_atRef (enc := enc) (C := Tryd.checked) false (laidWorld os) #[.agg #[.slice none 0 0], .string ⟨#[]⟩] rfl (by kernel_rfl) (by kernel_rfl) (by kernel_rfl)
      (OpenSpec.preRow_of_cond 8 hx (by kernel_rfl) (fun k hk => by cases hk) (by kernel_rfl) (laid_met os _))) ?_
  intro W base args ds gs before hval hW _ _ hwt hL hsh _
  exact contract H enc W base args ds gs before hval hW hwt hL hsh

theorem said : Rows.PolicyBackSaid :=
  OpenClaim.holds_of_cond 10 Tryd.f10 rfl rfl rfl rfl rfl rfl rfl ⟨rfl, rfl, rfl, rfl, rfl⟩ rfl rfl rfl rfl rfl (by kernel_rfl) Tryd.func10 (by kernel_rfl)
    (of_decide_eq_true (by kernel_rfl)) (by unfold Func.isWrapper; first | (rw [if_pos (by decide +kernel)]; kernel_rfl) | (rw [if_neg (by decide +kernel)]; exact ⟨rfl, rfl⟩))
    (fun os started H enc _ F => by rw [OpenClaim.pre_eq_preRow]; exact lifted os started H enc F)

/-- no parameter wants a stand-in -/
theorem plain (f : FuncId) (fn : Func) (hf : Tryd.pinned.checked.prog.funcNamed "bootprint/bootprintlaw22.PolicyBack" = some f) (hfn : Tryd.pinned.checked.prog.funcs[f]? = some fn) :
    true = Tryd.pinned.checked.prog.looks [] ∧ ∀ (j : Nat) t, fn.params[j]? = some t → Tryd.pinned.checked.prog.wantsStandIn t = false := by
  obtain rfl : f = 10 := Option.some.inj ((show Tryd.prog.funcNamed "bootprint/bootprintlaw22.PolicyBack" = some 10 by kernel_rfl).symm.trans hf) |>.symm
  obtain rfl : fn = Tryd.f10 := (Option.some.inj (Tryd.func10.symm.trans hfn)).symm
  refine ⟨by kernel_rfl, fun j t ht => ?_⟩
  rw [Tryd.params10] at ht
  have hm := Array.mem_of_getElem? ht
  simp at hm
  rcases hm with rfl | rfl
  · exact (show Tryd.prog.wantsStandIn 48 = false by kernel_rfl)
  · exact (show Tryd.prog.wantsStandIn 9 = false by kernel_rfl)
/-- **the card** -/
theorem card : Rows.PolicyBackCardSaid :=
  Claim7.holds_tied_plain_at .later [] _ _ _ _ said (fun _ h => by cases h) (by kernel_rfl) (fun _ h => by cases h) policyBack_row_tie rfl ⟨rfl, rfl⟩ (by kernel_rfl) rfl plain (by kernel_rfl)
end Go.Proofs.YtnnhkajjifmlfaaDoor.policyBackLaw
