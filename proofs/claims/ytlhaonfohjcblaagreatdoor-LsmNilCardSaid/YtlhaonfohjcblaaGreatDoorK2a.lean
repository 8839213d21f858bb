/-
  'bootprint/bootprintlaw16.LsmNil' (a closed statement): called in any world that the row allows, it returns true, and what was there stays.
  The executor (Ax) reckons it in the kernel; it is sound over the model.
-/
import Derived.Test.YtlhaonfohjcblaaGreatDoorBZ
import Derived.Test.YtlhaonfohjcblaaGreatDoorCards
import Derived.Test.YtlhaonfohjcblaaGreatDoorTie
import Derived.WalkKit
import Derived.ProofKit
import Derived.OpenShut
import Derived.Deep.DeepHandedRow
import Derived.Deep.DeepWitnessRowRef
import Derived.Lib.LaidIn
import Derived.Carry
namespace Go.Proofs.YtlhaonfohjcblaaGreatDoor.lsmNilLaw
open Go.ChangeShapes Go.WideShapes Go.ChangeAt Go.RowKit Go.Lib Go.Proofs.YtlhaonfohjcblaaGreatDoor.Ax

theorem keptBelow {W W' : World} (h : Kept W W') : Below W.heap.size W W' := ⟨h.os, h.tape, h.output, h.size, fun k hk => Kept.same h k hk⟩
theorem ag_z (ρ : Ren) {k : Nat} {a : Array Value} (h : a.size = k) : VR ρ (.ag (List.replicate k .z)) (.agg a) := .ag (by simpa using h) (fun i x v h1 _ => by
  rw [List.getElem?_replicate] at h1
  split at h1
  · injection h1 with h1; subst h1; exact .z v
  · cases h1)
set_option maxRecDepth 1000000 in
theorem reckoned : okR (trueU E0 ixB16 (bd E0 ixB16 (codeI E0 10 ixB16) 300) 4 [.ag (List.replicate 8 .z)] (hOf gl0) (pth E0.ng)) = true := by decide +kernel

set_option maxRecDepth 100000 in
/-- the call, in every world that holds the listed variables -/
theorem contract (H : Type) (enc : TypeId × Value → H) (W : World) (base : Nat) (args : Array Value) (ds gs : List (DataW H)) (before : List MemPlace)
    (hval : ∀ (j : Nat) (t : TypeId) (v : Value), Tryz.f4.params[j]? = some t → args[j]? = some v → Value.okWide Tryz.prog W .any base t v)
    (hW : DataW.Whole enc Tryz.prog Tryz.f4.params.toList Rows.lsmNilSpec.vars false W args.toList ds gs before) (hL : laidMetH Tryz.prog Rows.lsmNilRow.laid W) (hsh : W.ShapedOpen Tryz.prog) :
    Calls Tryz.prog 4 args W fun e W' => ∃ v, e = .returned v ∧ Rows.lsmNilSpec.post enc Tryz.prog Tryz.f4 false true false false W args v W' := by
  have hW' := hW
  obtain ⟨p, q, hA0, hV, rfl, _, _⟩ := hW
  have hA : DataW.TrodAll enc Tryz.prog W 0 (fun _ => true) true Tryz.f4.params.toList args.toList ds p := hA0
  rw [Tryz.params4] at hA
  rw [Tryz.params4] at hval
  obtain ⟨v0, vs0, d0, ds0, p0, q0, hargs0, rfl, rfl, h0, r0⟩ := trodAll_cons hA
  obtain ⟨rfl, rfl, rfl⟩ := trodAll_nil r0
  obtain rfl : args = #[v0] := by cases args; simp_all
  obtain ⟨rfl, rfl⟩ := trodVars_none hV
  have hlt := DataW.TrodAll.lt hA
  clear hA0
  obtain ⟨c0, rfl, z0⟩ := okWide_struct Tryz.underlying58 (hval 0 58 v0 rfl rfl)
  have y0 : c0.size = 8 := z0.trans (show Tryz.prog.cellsOf 58 = 8 by kernel_rfl)
  have walk : Calls Tryz.prog 4 #[.agg c0] W fun e w' => e = .returned (.bool true) ∧ Kept W w' :=
    begun_true e0_ok kB16 (codeI_ok E0 _ ixB16) (m := 300) rfl reckoned (begun0 hL hsh) (fun ρ => (VRs.nil ρ).cons (ag_z ρ y0))
  refine walk.mono fun e W' ⟨he, hg⟩ => ?_
  subst he
  exact ⟨_, rfl, post_of_kept (pa := (p0 ++ [])) (pv := []) hW' (fun _ _ _ => trodAll_cons_mk (shut_bool Tryz.underlying4 _) trodAll_mk0)
    (fun sp hsp => (trodAll_cons_mk (WideElems.Trod_stays (by kernel_rfl) (by kernel_rfl) (of_decide_eq_true (by kernel_rfl)) h0 (fun x hx => (keptBelow hg).same (hlt x (by simp [hx]))) (fun x hx => hsp x (by simp [hx]))) trodAll_mk0)) (fun _ _ => rfl) (by simp) hg
    (ok_one (by kernel_rfl) rfl (okWide_bool_mk Tryz.underlying4 _))⟩

theorem reads (os : Os) {H : Type} (enc : TypeId × Value → H) : ∃ places, DataW.whole enc Tryz.prog ((laidWorld os).forCall (fun _ _ => 0) ⟨#[], #[.agg #[.int .i64 0, .slice none 0 0, .slice none 0 0, .slice none 0 0, .int .i64 0, .int .i64 0, .int .i64 0, .slice none 0 0]], []⟩).memory Tryz.f4.params.toList Rows.lsmNilSpec.vars false (#[.agg #[.int .i64 0, .slice none 0 0, .slice none 0 0, .slice none 0 0, .int .i64 0, .int .i64 0, .int .i64 0, .slice none 0 0]] : Array Value).toList 8 = some ([.agg [.lit (.int .i64 0), .nil, .nil, .nil, .lit (.int .i64 0), .lit (.int .i64 0), .lit (.int .i64 0), .nil]], [], places) :=
  ⟨[], by kernel_rfl⟩

set_option maxRecDepth 100000 in
theorem lifted (os : Os) (started : os.Started) (H : Type) (enc : TypeId × Value → H) (F : Stop.Interp) :
    ReturnsInHanded {} Tryz.checked os 4 .any ((OpenSpec.ofChange Rows.lsmNilSpec).preRow enc Tryz.prog Tryz.f4 Rows.lsmNilRow.domain false Rows.lsmNilRow.laid) (((OpenSpec.ofChange Rows.lsmNilSpec).at F).post enc Tryz.prog Tryz.f4 false true false false) := by
  obtain ⟨places, hx⟩ := reads os enc
  refine returnsInHanded_of_row (C := Tryz.checked) (s := OpenSpec.ofChange Rows.lsmNilSpec) own0 started (by kernel_rfl) Tryz.func4
    (witness_row_atRef (enc := enc) (C := Tryz.checked) false (laidWorld os) #[.agg #[.int .i64 0, .slice none 0 0, .slice none 0 0, .slice none 0 0, .int .i64 0, .int .i64 0, .int .i64 0, .slice none 0 0]] rfl (by kernel_rfl) (by kernel_rfl) (by kernel_rfl)
      (OpenSpec.preRow_of_cond 8 hx (by kernel_rfl) (fun k hk => by cases hk) (by kernel_rfl) (laid_met os _))) ?_
  intro W base args ds gs before hval hW _ _ _ hL hsh _
  exact contract H enc W base args ds gs before hval hW hL hsh

end Go.Proofs.YtlhaonfohjcblaaGreatDoor.lsmNilLaw
