/-
  'bootprint/bootprintlaw22.PolicyReads': whatever text is handed in, the call returns true; the text reads as it did, and what was there stays.
  The program's reader and the document's are walked, each computes a plain function; the two plain functions are one. What 'lives' answers is reckoned by the executor (Ax).
-/
import Derived.Test.YtnnhkajjifmlfaaDoorXj
import Derived.Test.YtnnhkajjifmlfaaDoorDv
import Derived.Test.YtnnhkajjifmlfaaDoorCards
import Derived.Test.YtnnhkajjifmlfaaDoorTie
import Derived.WalkKit
import Derived.ProofKit
import Derived.OpenShut
import Derived.ChangeMaps
import Derived.Deep.DeepHandedRow
import Derived.Deep.DeepWitnessRowRef
import Derived.Lib.LaidIn
namespace Go.Proofs.YtnnhkajjifmlfaaDoor.policyReadsLaw
open Go.ChangeShapes Go.WideShapes Go.ChangeAt Go.RowKit Go.Lib Go.Proofs.YtnnhkajjifmlfaaDoor.Ax Go.Proofs.YtnnhkajjifmlfaaDoor.Pl
open Go.ChangeMaps (open_string shut_string)

set_option maxRecDepth 1000000 in
theorem reckoned : okR (trueU E0 ix1 (bd E0 ix1 code1 300) 32 [] (hOf gl0) (pth E0.ng)) = true := by decide +kernel
theorem lives_true {W : World} (hL : laidMet Tryd.prog laid0 W) (hsh : W.ShapedOpen Tryd.prog) (W' : World) (hg : W.grownBy W' none) : Calls Tryd.prog 32 #[] W' fun e w' => e = .returned (.bool true) ∧ W'.grownBy w' none :=
  begun_true e0_ok ix1_ok c1_ok (m := 300) rfl reckoned (fun x hx => by
    obtain ⟨h1, arr, h2, h3⟩ := begun0 hL hsh x hx
    exact ⟨h1, arr, (hg.block _ (Array.getElem?_eq_some_iff.1 h2).1 (by simp)).trans h2, h3⟩) (fun ρ => VRs.nil ρ)
theorem err_var {W : World} {g : Nat} {n : String} {arr : Array Value} (hn : Tryd.prog.globalNamed n = some g) (ha : W.heap[g]? = some (.cells arr 126 (0, 0))) (hv : ∀ ρ : Ren, VRs ρ [.ifc 193 .z] arr.toList) : ∃ tp p, W.var? Tryd.prog n = some #[.iface tp p] := by
  obtain ⟨v, r, e1, h1, h2⟩ := (hv (fun _ => none)).cons_inv
  have e2 := h2.nil_inv
  subst e2
  cases h1 with
  | ifc h =>
    rename_i u
    refine ⟨193, u, ?_⟩
    have : arr = #[.iface 193 u] := Array.ext' (by rw [e1])
    unfold World.var?
    rw [hn]
    simp only [Option.bind_some, ha, this]
theorem gv {W : World} (hL : laidMet Tryd.prog laid0 W) (hsh : W.ShapedOpen Tryd.prog) : Gv W ∧ 6 ≤ W.heap.size := by
  have hb := begun0 hL hsh
  obtain ⟨_, a2, h2, v2⟩ := hb (2, [.ifc 193 .z], 126) (by simp [gl0])
  obtain ⟨_, a3, h3, v3⟩ := hb (3, [.ifc 193 .z], 126) (by simp [gl0])
  have hl := hsh.1
  refine ⟨⟨err_var glob_syn h2 v2, err_var glob_rng h3 v3⟩, ?_⟩
  obtain ⟨x, hx, he⟩ : ∃ x ∈ gl0, x.1 = 5 := ⟨gl0[4], by simp [gl0], rfl⟩
  obtain ⟨_, a5, h5, _⟩ := hb x hx
  rw [he] at h5
  have := (Array.getElem?_eq_some_iff.1 h5).1
  omega

set_option maxRecDepth 100000 in
/-- the call, in every world that holds the listed variables -/
theorem contract (H : Type) (enc : TypeId × Value → H) (W : World) (base : Nat) (args : Array Value) (ds gs : List (DataW H)) (before : List MemPlace)
    (hval : ∀ (j : Nat) t v, Tryd.f9.params[j]? = some t → args[j]? = some v → Value.okWide Tryd.prog W .any base t v)
    (hW : DataW.Whole enc Tryd.prog Tryd.f9.params.toList Rows.policyReadsSpec.vars false W args.toList ds gs before) (hL : laidMetH Tryd.prog Rows.policyReadsRow.laid W) (hsh : W.ShapedOpen Tryd.prog) :
    Calls Tryd.prog 9 args W fun e W' => ∃ v, e = .returned v ∧ Rows.policyReadsSpec.post enc Tryd.prog Tryd.f9 false true false false W args v W' := by
  have hW' := hW
  obtain ⟨p, q, hA0, hV, rfl, _, _⟩ := hW
  have hA : DataW.TrodAll enc Tryd.prog W 0 (fun _ => true) true Tryd.f9.params.toList args.toList ds p := hA0
  rw [Tryd.params9] at hA hval
  obtain ⟨v0, vs0, d0, ds0, p0, q0, hargs, rfl, rfl, h0, r0⟩ := trodAll_cons hA
  obtain ⟨rfl, rfl, rfl⟩ := trodAll_nil r0
  obtain rfl : args = #[v0] := by cases args; simp_all
  obtain ⟨rfl, rfl⟩ := trodVars_none hV
  obtain ⟨s, rfl, rfl, rfl, ws⟩ := open_string Tryd.underlying9 (hval 0 9 v0 rfl rfl) h0
  clear hA0
  simp only [List.append_nil] at hW'
  obtain ⟨hG, h6⟩ := gv (W := W) hL hsh
  have walk := reads_any s W hG h6 (by unfold maxLen at ws; omega) (lives_true hL hsh)
  refine walk.mono fun e W' ⟨he, hg⟩ => ?_
  subst he
  exact ⟨_, rfl, post_of_kept (pa := []) (pv := []) hW' (fun _ _ _ => trodAll_cons_mk (shut_bool Tryd.underlying4 _) trodAll_mk0) (fun _ _ => trodAll_cons_mk (shut_string Tryd.underlying9 ws) trodAll_mk0) (fun _ _ => rfl) rfl hg
    (ok_one (by kernel_rfl) rfl (okWide_bool_mk Tryd.underlying4 _))⟩

theorem reads (os : Os) {H : Type} (enc : TypeId × Value → H) : ∃ places, DataW.whole enc Tryd.prog ((laidWorld os).forCall (fun _ _ => 0) ⟨#[], #[.string ⟨#[]⟩], []⟩).memory Tryd.f9.params.toList Rows.policyReadsSpec.vars false (#[.string ⟨#[]⟩] : Array Value).toList 8 = some ([.lit (.string [])], [], places) :=
  ⟨[], by kernel_rfl⟩

set_option maxRecDepth 100000 in
theorem lifted (os : Os) (started : os.Started) (H : Type) (enc : TypeId × Value → H) (F : Stop.Interp) :
    ReturnsInHanded {} Tryd.checked os 9 .any ((OpenSpec.ofChange Rows.policyReadsSpec).preRow enc Tryd.prog Tryd.f9 Rows.policyReadsRow.domain false Rows.policyReadsRow.laid) (((OpenSpec.ofChange Rows.policyReadsSpec).at F).post enc Tryd.prog Tryd.f9 false true false false) := by
  obtain ⟨places, hx⟩ := reads os enc
  refine returnsInHanded_of_row (C := Tryd.checked) (s := OpenSpec.ofChange Rows.policyReadsSpec) own0 started (by kernel_rfl) Tryd.func9
    (witness_row_atRef (enc := enc) (C := Tryd.checked) false (laidWorld os) #[.string ⟨#[]⟩] rfl (by kernel_rfl) (by kernel_rfl) (by kernel_rfl)
      (OpenSpec.preRow_of_cond 8 hx (by kernel_rfl) (fun k hk => by cases hk) (by kernel_rfl) (laid_met os _))) ?_
  intro W base args ds gs before hval hW _ _ _ hL hsh _
  exact contract H enc W base args ds gs before hval hW hL hsh

theorem said : Rows.PolicyReadsSaid :=
  OpenClaim.holds_of_cond 9 Tryd.f9 rfl rfl rfl rfl rfl rfl rfl ⟨rfl, rfl, rfl, rfl, rfl⟩ rfl rfl rfl rfl rfl (by kernel_rfl) Tryd.func9 (by kernel_rfl)
    (of_decide_eq_true (by kernel_rfl)) (by unfold Func.isWrapper; first | (rw [if_pos (by decide +kernel)]; kernel_rfl) | (rw [if_neg (by decide +kernel)]; exact ⟨rfl, rfl⟩))
    (fun os started H enc _ F => by rw [OpenClaim.pre_eq_preRow]; exact lifted os started H enc F)

/-- no parameter wants a stand-in -/
theorem plain (f : FuncId) (fn : Func) (hf : Tryd.pinned.checked.prog.funcNamed "bootprint/bootprintlaw22.PolicyReads" = some f) (hfn : Tryd.pinned.checked.prog.funcs[f]? = some fn) :
    true = Tryd.pinned.checked.prog.looks [] ∧ ∀ (j : Nat) t, fn.params[j]? = some t → Tryd.pinned.checked.prog.wantsStandIn t = false := by
  obtain rfl : f = 9 := Option.some.inj ((show Tryd.prog.funcNamed "bootprint/bootprintlaw22.PolicyReads" = some 9 by kernel_rfl).symm.trans hf) |>.symm
  obtain rfl : fn = Tryd.f9 := (Option.some.inj (Tryd.func9.symm.trans hfn)).symm
  refine ⟨by kernel_rfl, fun j t ht => ?_⟩
  rw [Tryd.params9] at ht
  obtain rfl : t = 9 := by simpa using Array.mem_of_getElem? ht
  exact (show Tryd.prog.wantsStandIn 9 = false by kernel_rfl)
/-- **the card** -/
theorem card : Rows.PolicyReadsCardSaid :=
  Claim7.holds_tied_plain_at .later [] _ _ _ _ said (fun _ h => by cases h) (by kernel_rfl) (fun _ h => by cases h) policyReads_row_tie rfl ⟨rfl, rfl⟩ (by kernel_rfl) rfl plain (by kernel_rfl)
end Go.Proofs.YtnnhkajjifmlfaaDoor.policyReadsLaw
