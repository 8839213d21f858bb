/-
  'bootprint/bootprintlaw27.HttpConn': called with any pieces of bytes, in any world that the row allows, it returns true, and what was there stays.
  The call that it makes first (its own examples) is reckoned in the kernel; the rest is walked.
-/
import Derived.Test.YtdfgnoflohfnmaaGreatDoorYH
import Derived.Test.YtdfgnoflohfnmaaGreatDoorRq
import Derived.Test.YtdfgnoflohfnmaaGreatDoorRr
import Derived.Test.YtdfgnoflohfnmaaGreatDoorCards
import Derived.Test.YtdfgnoflohfnmaaGreatDoorTie
import Derived.WalkKit
import Derived.ProofKit
import Derived.OpenShut
import Derived.Deep.DeepHandedRow
import Derived.Deep.DeepWitnessRowRef
import Derived.Lib.LaidIn
import Derived.Carry
import Derived.WideKeyArgs
namespace Go.Proofs.YtdfgnoflohfnmaaGreatDoor.httpConnLaw
open Go.ChangeShapes Go.WideShapes Go.ChangeAt Go.RowKit Go.Lib Go.Proofs.YtdfgnoflohfnmaaGreatDoor.Ax Go.Proofs.YtdfgnoflohfnmaaGreatDoor.Hx
theorem keptBelow {W W' : World} (h : Kept W W') : Below W.heap.size W W' := ⟨h.os, h.tape, h.output, h.size, fun k hk => Kept.same h k hk⟩

set_option maxRecDepth 1000000 in
theorem livesA : okR (trueU E0 ix0 (bd E0 ix0 (codeI E0 9 ix0) 300) 7 [] (hOf glA) (pth E0.ng)) = true := by decide +kernel
set_option maxRecDepth 1000000 in
theorem livesB : okR (trueU E0 ix0 (bd E0 ix0 (codeI E0 9 ix0) 300) 7 [] (hOf glB) (pth E0.ng)) = true := by decide +kernel
theorem lives_true {W : World} (hL : laidMet Tryz.prog laidH W) (hsh : W.ShapedOpen Tryz.prog) : Calls Tryz.prog 7 #[] W fun e w' => e = .returned (.bool true) ∧ W.grownBy w' none := by
  rcases begunAB hL hsh with hb | hb
  · exact begun_true e0_ok ix0_ok (codeI_ok E0 _ ix0) (m := 300) rfl livesA hb (fun ρ => VRs.nil ρ)
  · exact begun_true e0_ok ix0_ok (codeI_ok E0 _ ix0) (m := 300) rfl livesB hb (fun ρ => VRs.nil ρ)
theorem mx_of {W : World} (hsh : W.ShapedOpen Tryz.prog) : ∃ m : Int, MX W m := by
  obtain ⟨m, hm, _⟩ := maxLen0 hsh
  exact ⟨m, by show W.cell? _ = _; rw [cell_of_row _ _ 0 _ _ _ hm]; rfl⟩
theorem walk {W : World} {x : Value} {ls : List Hx.Bs} (hL : laidMet Tryz.prog laidH W) (hsh : W.ShapedOpen Tryz.prog) (hx : LV W x ls) :
    Calls Tryz.prog 4 #[x] W fun e w' => e = .returned (.bool true) ∧ Kept W w' := by
  obtain ⟨m, hm⟩ := mx_of hsh
  exact conn_go x ls m W hx hm (lives_true hL hsh)

set_option maxRecDepth 100000 in
theorem contract (H : Type) (enc : TypeId × Value → H) (W : World) (base : Nat) (args : Array Value) (ds gs : List (DataW H)) (before : List MemPlace)
    (hval : ∀ (j : Nat) t v, Tryz.f4.params[j]? = some t → args[j]? = some v → Value.okWide Tryz.prog W .any base t v)
    (hW : DataW.Whole enc Tryz.prog Tryz.f4.params.toList Rows.httpConnSpec.vars false W args.toList ds gs before)
    (hwt : (DataW.weightsEach Tryz.prog (Tryz.f4.params.toList ++ (OpenSpec.ofChange Rows.httpConnSpec).bare.plain.varTypes Tryz.prog) (ds ++ gs)).all (· ≤ reachBytes) = true) (hL : laidMetH Tryz.prog Rows.httpConnRow.laid W) (hsh : W.ShapedOpen Tryz.prog) :
    Calls Tryz.prog 4 args W fun e W' => ∃ v, e = .returned v ∧ Rows.httpConnSpec.post enc Tryz.prog Tryz.f4 false true false false W args v W' := by
  have hW' := hW
  obtain ⟨p, q, hA0, hV, rfl, _, _⟩ := hW
  have hA : DataW.TrodAll enc Tryz.prog W 0 (fun _ => true) true Tryz.f4.params.toList args.toList ds p := hA0
  rw [Tryz.params4] at hA hval hwt
  obtain ⟨v0, vs0, d0, ds0, p0, q0, hargs0, rfl, rfl, h0, r0⟩ := trodAll_cons hA
  obtain ⟨rfl, rfl, rfl⟩ := trodAll_nil r0
  obtain rfl : args = #[v0] := by cases args; simp_all
  obtain ⟨rfl, rfl⟩ := trodVars_none hV
  have hlt := DataW.TrodAll.lt hA
  clear hA0
  have hb0 : ∀ n ∈ d0.weights Tryz.prog 38, n ≤ reachBytes := by
    intro n hn
    have := List.all_eq_true.1 hwt n (DataW.weights_mem_each (j := 0) (t := 38) (d := d0) rfl rfl n hn)
    simpa using this
  obtain ⟨fuel0, hf0⟩ := h0
  obtain ⟨A0, n0, c0, rfl⟩ := okWide_slice Tryz.underlying38 (hval 0 38 v0 rfl rfl)
  obtain ⟨ls, hx⟩ := open_pieces (v := .slice A0 n0 c0) (by simpa [Value.cells] using hf0) hb0
  refine (walk hL hsh hx).mono fun e W' ⟨he, hg⟩ => ?_
  subst he
  exact ⟨_, rfl, post_of_kept (pa := p0 ++ []) (pv := []) hW' (fun _ _ _ => trodAll_cons_mk (shut_bool Tryz.underlying4 _) trodAll_mk0)
    (fun sp hsp => trodAll_cons_mk (WideElems.Trod_stays (by kernel_rfl) (by kernel_rfl) (of_decide_eq_true (by kernel_rfl)) ⟨fuel0, hf0⟩ (fun x hx => (keptBelow hg).same (hlt x (by simp [hx]))) (fun x hx => hsp x (by simp [hx])))
      trodAll_mk0) (fun _ _ => rfl) (by simp) hg
    (ok_one (by kernel_rfl) rfl (okWide_bool_mk Tryz.underlying4 _))⟩

theorem reads (os : Os) {H : Type} (enc : TypeId × Value → H) : ∃ places, DataW.whole enc Tryz.prog ((laidWorldH os).forCall (fun _ _ => 0) ⟨#[], #[.slice none 0 0], []⟩).memory Tryz.f4.params.toList Rows.httpConnSpec.vars false (#[.slice none 0 0] : Array Value).toList 8 = some ([.nil], [], places) :=
  ⟨[], by kernel_rfl⟩

set_option maxRecDepth 100000 in
theorem lifted (os : Os) (started : os.Started) (H : Type) (enc : TypeId × Value → H) (F : Stop.Interp) :
    ReturnsInHanded {} Tryz.checked os 4 .any ((OpenSpec.ofChange Rows.httpConnSpec).preRow enc Tryz.prog Tryz.f4 Rows.httpConnRow.domain false Rows.httpConnRow.laid) (((OpenSpec.ofChange Rows.httpConnSpec).at F).post enc Tryz.prog Tryz.f4 false true false false) := by
  obtain ⟨places, hx⟩ := reads os enc
  refine returnsInHanded_of_row (C := Tryz.checked) (s := OpenSpec.ofChange Rows.httpConnSpec) own0 started (by kernel_rfl) Tryz.func4
    (witness_row_atRef (enc := enc) (C := Tryz.checked) false (laidWorldH os) #[.slice none 0 0] rfl (by kernel_rfl) (by kernel_rfl) (by kernel_rfl)
      (OpenSpec.preRow_of_cond 8 hx (by kernel_rfl) (fun k hk => by cases hk) (by kernel_rfl) (laid_metH os _))) ?_
  intro W base args ds gs before hval hW _ _ hwt hL hsh _
  exact contract H enc W base args ds gs before hval hW hwt hL hsh

theorem said : Rows.HttpConnSaid :=
  OpenClaim.holds_of_cond 4 Tryz.f4 rfl rfl rfl rfl rfl rfl rfl ⟨rfl, rfl, rfl, rfl, rfl⟩ rfl rfl rfl rfl rfl (by kernel_rfl) Tryz.func4 (by kernel_rfl)
    (of_decide_eq_true (by kernel_rfl)) (by unfold Func.isWrapper; first | (rw [if_pos (by decide +kernel)]; kernel_rfl) | (rw [if_neg (by decide +kernel)]; exact ⟨rfl, rfl⟩))
    (fun os started H enc _ F => by rw [OpenClaim.pre_eq_preRow]; exact lifted os started H enc F)

theorem plain (f : FuncId) (fn : Func) (hf : Tryz.pinned.checked.prog.funcNamed "bootprint/bootprintlaw27.HttpConn" = some f) (hfn : Tryz.pinned.checked.prog.funcs[f]? = some fn) :
    true = Tryz.pinned.checked.prog.looks [] ∧ ∀ (j : Nat) t, fn.params[j]? = some t → Tryz.pinned.checked.prog.wantsStandIn t = false := by
  obtain rfl : f = 4 := Option.some.inj ((show Tryz.prog.funcNamed "bootprint/bootprintlaw27.HttpConn" = some 4 by kernel_rfl).symm.trans hf) |>.symm
  obtain rfl : fn = Tryz.f4 := (Option.some.inj (Tryz.func4.symm.trans hfn)).symm
  refine ⟨by kernel_rfl, fun j t ht => ?_⟩
  rw [Tryz.params4] at ht
  have hm := Array.mem_of_getElem? ht
  simp at hm
  subst hm
  exact (show Tryz.prog.wantsStandIn 38 = false by kernel_rfl)
theorem card : Rows.HttpConnCardSaid :=
  Claim7.holds_tied_plain_at .later [] _ _ _ _ said (fun _ h => by cases h) (by kernel_rfl) (fun _ h => by cases h) httpConn_row_tie rfl ⟨rfl, rfl⟩ (by kernel_rfl) rfl plain (by kernel_rfl)
end Go.Proofs.YtdfgnoflohfnmaaGreatDoor.httpConnLaw
