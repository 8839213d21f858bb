/-
  'bootprint/bootprintlaw27.HttpPieces': called with any bytes and any cuts, in any world that the row allows, it returns true, and what was there stays.
  The call that it makes first (its own examples) is reckoned in the kernel; the rest is walked.
-/
import Derived.Test.YtgkkjmgbdedimaaGreatDoorYH
import Derived.Test.YtgkkjmgbdedimaaGreatDoorHt
import Derived.Test.YtgkkjmgbdedimaaGreatDoorHu
import Derived.Test.YtgkkjmgbdedimaaGreatDoorCards
import Derived.Test.YtgkkjmgbdedimaaGreatDoorTie
import Derived.WalkKit
import Derived.ProofKit
import Derived.OpenShut
import Derived.Deep.DeepHandedRow
import Derived.Deep.DeepWitnessRowRef
import Derived.Lib.LaidIn
import Derived.Carry
import Derived.WideKeyArgs
namespace Go.Proofs.YtgkkjmgbdedimaaGreatDoor.httpPiecesLaw
open Go.ChangeShapes Go.WideShapes Go.ChangeAt Go.RowKit Go.Lib Go.Proofs.YtgkkjmgbdedimaaGreatDoor.Ax Go.Proofs.YtgkkjmgbdedimaaGreatDoor.Hx
theorem keptBelow {W W' : World} (h : Kept W W') : Below W.heap.size W W' := ⟨h.os, h.tape, h.output, h.size, fun k hk => Kept.same h k hk⟩

set_option maxRecDepth 1000000 in
theorem livesA : okR (trueU E0 ix0 (bd E0 ix0 (codeI E0 9 ix0) 300) 7 [] (hOf glA) (pth E0.ng)) = true := by decide +kernel
set_option maxRecDepth 1000000 in
theorem livesB : okR (trueU E0 ix0 (bd E0 ix0 (codeI E0 9 ix0) 300) 7 [] (hOf glB) (pth E0.ng)) = true := by decide +kernel
theorem lives_true {W : World} (hL : laidMet Tryz.prog laidH W) (hsh : W.ShapedOpen Tryz.prog) : Calls Tryz.prog 7 #[] W fun e w' => e = .returned (.bool true) ∧ W.grownBy w' none := by
  rcases begunAB hL hsh with hb | hb
  · exact begun_true e0_ok ix0_ok (codeI_ok E0 _ ix0) (m := 300) rfl livesA hb (fun ρ => VRs.nil ρ)
  · exact begun_true e0_ok ix0_ok (codeI_ok E0 _ ix0) (m := 300) rfl livesB hb (fun ρ => VRs.nil ρ)
theorem mx_of {W : World} (hsh : W.ShapedOpen Tryz.prog) : ∃ m : Int, MX W m := by
  obtain ⟨m, hm, _⟩ := maxLen0 hsh
  exact ⟨m, by show W.cell? _ = _; rw [cell_of_row _ _ 0 _ _ _ hm]; rfl⟩
theorem walk {W : World} {x cv : Value} {bs : Bs} {l : List Int} (hL : laidMet Tryz.prog laidH W) (hsh : W.ShapedOpen Tryz.prog) (hx : BV W x bs) (hl : IV W cv l) :
    Calls Tryz.prog 3 #[x, cv] W fun e w' => e = .returned (.bool true) ∧ Kept W w' := by
  obtain ⟨m, hm⟩ := mx_of hsh
  by_cases h : 20000 < bs.length
  · exact pieces_long x cv bs W hx h (lives_true hL hsh)
  · exact pieces_go x cv bs l m W hx hl hm h (lives_true hL hsh)

set_option maxRecDepth 100000 in
/-- the call, in every world that holds the listed variables -/
theorem contract (H : Type) (enc : TypeId × Value → H) (W : World) (base : Nat) (args : Array Value) (ds gs : List (DataW H)) (before : List MemPlace)
    (hval : ∀ (j : Nat) t v, Tryz.f3.params[j]? = some t → args[j]? = some v → Value.okWide Tryz.prog W .any base t v)
    (hW : DataW.Whole enc Tryz.prog Tryz.f3.params.toList Rows.httpPiecesSpec.vars false W args.toList ds gs before) (hL : laidMetH Tryz.prog Rows.httpPiecesRow.laid W) (hsh : W.ShapedOpen Tryz.prog) :
    Calls Tryz.prog 3 args W fun e W' => ∃ v, e = .returned v ∧ Rows.httpPiecesSpec.post enc Tryz.prog Tryz.f3 false true false false W args v W' := by
  have hW' := hW
  obtain ⟨p, q, hA0, hV, rfl, _, _⟩ := hW
  have hA : DataW.TrodAll enc Tryz.prog W 0 (fun _ => true) true Tryz.f3.params.toList args.toList ds p := hA0
  rw [Tryz.params3] at hA hval
  obtain ⟨v0, vs0, d0, ds0, p0, q0, hargs0, rfl, rfl, h0, r0⟩ := trodAll_cons hA
  obtain ⟨v1, vs1, d1, ds1, p1, q1, hargs1, rfl, rfl, h1, r1⟩ := trodAll_cons r0
  obtain ⟨rfl, rfl, rfl⟩ := trodAll_nil r1
  subst hargs1
  obtain rfl : args = #[v0, v1] := by cases args; simp_all
  obtain ⟨rfl, rfl⟩ := trodVars_none hV
  have hlt := DataW.TrodAll.lt hA
  clear hA0
  obtain ⟨fuel0, hf0⟩ := h0
  obtain ⟨u0, bs, e0, hx⟩ := open_bytes hf0
  obtain ⟨fuel1, hf1⟩ := h1
  obtain ⟨u1, l, e1, hl⟩ := open_ints64 hf1
  obtain ⟨A0, n0, c0, rfl⟩ := okWide_slice Tryz.underlying22 (hval 0 22 v0 rfl rfl)
  obtain ⟨A1, n1, c1, rfl⟩ := okWide_slice Tryz.underlying23 (hval 1 23 v1 rfl rfl)
  have e0' : Value.slice A0 n0 c0 = u0 := by simpa [Value.cells] using e0
  have e1' : Value.slice A1 n1 c1 = u1 := by simpa [Value.cells] using e1
  subst e0' e1'
  refine (walk hL hsh hx hl).mono fun e W' ⟨he, hg⟩ => ?_
  subst he
  exact ⟨_, rfl, post_of_kept (pa := p0 ++ (p1 ++ [])) (pv := []) hW' (fun _ _ _ => trodAll_cons_mk (shut_bool Tryz.underlying4 _) trodAll_mk0)
    (fun sp hsp => trodAll_cons_mk (WideElems.Trod_stays (by kernel_rfl) (by kernel_rfl) (of_decide_eq_true (by kernel_rfl)) ⟨fuel0, hf0⟩ (fun x hx => (keptBelow hg).same (hlt x (by simp [hx]))) (fun x hx => hsp x (by simp [hx])))
      (trodAll_cons_mk (WideElems.Trod_stays (by kernel_rfl) (by kernel_rfl) (of_decide_eq_true (by kernel_rfl)) ⟨fuel1, hf1⟩ (fun x hx => (keptBelow hg).same (hlt x (by simp [hx]))) (fun x hx => hsp x (by simp [hx]))) trodAll_mk0)) (fun _ _ => rfl) (by simp) hg
    (ok_one (by kernel_rfl) rfl (okWide_bool_mk Tryz.underlying4 _))⟩

theorem reads (os : Os) {H : Type} (enc : TypeId × Value → H) : ∃ places, DataW.whole enc Tryz.prog ((laidWorldH os).forCall (fun _ _ => 0) ⟨#[], #[.slice none 0 0, .slice none 0 0], []⟩).memory Tryz.f3.params.toList Rows.httpPiecesSpec.vars false (#[.slice none 0 0, .slice none 0 0] : Array Value).toList 8 = some ([.nil, .nil], [], places) :=
  ⟨[], by kernel_rfl⟩

set_option maxRecDepth 100000 in
theorem lifted (os : Os) (started : os.Started) (H : Type) (enc : TypeId × Value → H) (F : Stop.Interp) :
    ReturnsInHanded {} Tryz.checked os 3 .any ((OpenSpec.ofChange Rows.httpPiecesSpec).preRow enc Tryz.prog Tryz.f3 Rows.httpPiecesRow.domain false Rows.httpPiecesRow.laid) (((OpenSpec.ofChange Rows.httpPiecesSpec).at F).post enc Tryz.prog Tryz.f3 false true false false) := by
  obtain ⟨places, hx⟩ := reads os enc
  refine returnsInHanded_of_row (C := Tryz.checked) (s := OpenSpec.ofChange Rows.httpPiecesSpec) own0 started (by kernel_rfl) Tryz.func3
    (witness_row_atRef (enc := enc) (C := Tryz.checked) false (laidWorldH os) #[.slice none 0 0, .slice none 0 0] rfl (by kernel_rfl) (by kernel_rfl) (by kernel_rfl)
      (OpenSpec.preRow_of_cond 8 hx (by kernel_rfl) (fun k hk => by cases hk) (by kernel_rfl) (laid_metH os _))) ?_
  intro W base args ds gs before hval hW _ _ _ hL hsh _
  exact contract H enc W base args ds gs before hval hW hL hsh

theorem said : Rows.HttpPiecesSaid :=
  OpenClaim.holds_of_cond 3 Tryz.f3 rfl rfl rfl rfl rfl rfl rfl ⟨rfl, rfl, rfl, rfl, rfl⟩ rfl rfl rfl rfl rfl (by kernel_rfl) Tryz.func3 (by kernel_rfl)
    (of_decide_eq_true (by kernel_rfl)) (by unfold Func.isWrapper; first | (rw [if_pos (by decide +kernel)]; kernel_rfl) | (rw [if_neg (by decide +kernel)]; exact ⟨rfl, rfl⟩))
    (fun os started H enc _ F => by rw [OpenClaim.pre_eq_preRow]; exact lifted os started H enc F)

/-- no parameter wants a stand-in; the program's own looks are off -/
theorem plain (f : FuncId) (fn : Func) (hf : Tryz.pinned.checked.prog.funcNamed "bootprint/bootprintlaw27.HttpPieces" = some f) (hfn : Tryz.pinned.checked.prog.funcs[f]? = some fn) :
    true = Tryz.pinned.checked.prog.looks [] ∧ ∀ (j : Nat) t, fn.params[j]? = some t → Tryz.pinned.checked.prog.wantsStandIn t = false := by
  obtain rfl : f = 3 := Option.some.inj ((show Tryz.prog.funcNamed "bootprint/bootprintlaw27.HttpPieces" = some 3 by kernel_rfl).symm.trans hf) |>.symm
  obtain rfl : fn = Tryz.f3 := (Option.some.inj (Tryz.func3.symm.trans hfn)).symm
  refine ⟨by kernel_rfl, fun j t ht => ?_⟩
  rw [Tryz.params3] at ht
  have hm := Array.mem_of_getElem? ht
  simp at hm
  rcases hm with rfl | rfl
  · exact (show Tryz.prog.wantsStandIn 22 = false by kernel_rfl)
  · exact (show Tryz.prog.wantsStandIn 23 = false by kernel_rfl)
/-- **the card** -/
theorem card : Rows.HttpPiecesCardSaid :=
  Claim7.holds_tied_plain_at .later [] _ _ _ _ said (fun _ h => by cases h) (by kernel_rfl) (fun _ h => by cases h) httpPieces_row_tie rfl ⟨rfl, rfl⟩ (by kernel_rfl) rfl plain (by kernel_rfl)
end Go.Proofs.YtgkkjmgbdedimaaGreatDoor.httpPiecesLaw
