/-
  'bootprint/bootprintlaw31.ModelSame': whatever two replies are handed in, the call returns true; both read as they did, and what was there stays.
  model.Same and the kit's SameReply are walked, both compute one plain function; a reply is the same as itself. What 'lives' answers is reckoned by the executor (Ax).
-/
import Derived.Test.YtcmepallgchcjaaGreatVZ
import Derived.Test.YtcmepallgchcjaaGreatC12
import Derived.Test.YtcmepallgchcjaaGreatRows
import Derived.WalkKit
import Derived.ProofKit
import Derived.OpenShut
import Derived.ChangeMaps
import Derived.Deep.DeepHandedRow
import Derived.Deep.DeepWitnessRowRef
import Derived.Lib.LaidIn
import Derived.Carry
import Derived.WideKeyArgs
namespace Go.Proofs.YtcmepallgchcjaaGreat.modelSameLaw
open Go.ChangeShapes Go.WideShapes Go.ChangeAt Go.RowKit Go.Lib Go.Proofs.YtcmepallgchcjaaGreat.Ax

set_option maxRecDepth 1000000 in
theorem reckoned : okR (trueU E0 ixV1 (bd E0 ixV1 (codeI E0 9 ixV1) 300) 5 [] (hOf gl0) (pth E0.ng)) = true := by decide +kernel
theorem lives_true (W : World) : Calls Tryz.prog 5 #[] W fun e w' => e = .returned (.bool true) ∧ W.grownBy w' none :=
  begun_true e0_ok kV1 (codeI_ok E0 _ ixV1) (m := 300) rfl reckoned (fun x hx => by cases hx) (fun ρ => VRs.nil ρ)

set_option maxRecDepth 100000 in
/-- the call, in every world that the row allows -/
theorem contract (H : Type) (enc : TypeId × Value → H) (W : World) (base : Nat) (args : Array Value) (ds gs : List (DataW H)) (before : List MemPlace)
    (hval : ∀ (j : Nat) t v, Tryz.f4.params[j]? = some t → args[j]? = some v → Value.okWide Tryz.prog W .any base t v)
    (hW : DataW.Whole enc Tryz.prog Tryz.f4.params.toList Rows.modelSameSpec.vars false W args.toList ds gs before)
    (hwt : (DataW.weightsEach Tryz.prog (Tryz.f4.params.toList ++ (OpenSpec.ofChange Rows.modelSameSpec).bare.plain.varTypes Tryz.prog) (ds ++ gs)).all (· ≤ reachBytes) = true) :
    Calls Tryz.prog 4 args W fun e W' => ∃ v, e = .returned v ∧ Rows.modelSameSpec.post enc Tryz.prog Tryz.f4 false true false false W args v W' := by
  have hW' := hW
  obtain ⟨p, q, hA0, hV, rfl, _, _⟩ := hW
  have hA : DataW.TrodAll enc Tryz.prog W 0 (fun _ => true) true Tryz.f4.params.toList args.toList ds p := hA0
  rw [Tryz.params4] at hA hval hwt
  obtain ⟨v0, vs0, d0, ds0, p0, q0, hargs0, rfl, rfl, h0, r0⟩ := trodAll_cons hA
  obtain ⟨v1, vs1, d1, ds1, p1, q1, hargs1, rfl, rfl, h1, r1⟩ := trodAll_cons r0
  obtain ⟨rfl, rfl, rfl⟩ := trodAll_nil r1
  subst hargs1
  obtain rfl : args = #[v0, v1] := by cases args; simp_all
  obtain ⟨rfl, rfl⟩ := trodVars_none hV
  have hlt := DataW.TrodAll.lt hA
  clear hA0
  obtain ⟨c0, rfl, z0⟩ := okWide_struct Tryz.underlying52 (hval 0 52 v0 rfl rfl)
  obtain ⟨c1, rfl, z1⟩ := okWide_struct Tryz.underlying52 (hval 1 52 v1 rfl rfl)
  have hb0 : ∀ n ∈ d0.weights Tryz.prog 52, n ≤ reachBytes := by
    intro n hn
    have := List.all_eq_true.1 hwt n (DataW.weights_mem_each (j := 0) (t := 52) (d := d0) rfl rfl n hn)
    simpa using this
  have hb1 : ∀ n ∈ d1.weights Tryz.prog 52, n ≤ reachBytes := by
    intro n hn
    have := List.all_eq_true.1 hwt n (DataW.weights_mem_each (j := 1) (t := 52) (d := d1) rfl rfl n hn)
    simpa using this
  obtain ⟨fuel0, hf0⟩ := h0
  obtain ⟨fuel1, hf1⟩ := h1
  obtain ⟨a, u3, u4, u5, u6, ha, hu, hcs0⟩ := open_rp fuel0 _ _ hf0 hb0
  obtain ⟨b, v3, v4, v5, v6, hb, hv, hcs1⟩ := open_rp fuel1 _ _ hf1 hb1
  have hc0 : Value.agg c0 = .agg #[.int .i64 a.status, .int .i64 a.n, u3, u4, u5, u6] := by
    have : c0.toList = [.int .i64 a.status, .int .i64 a.n, u3, u4, u5, u6] := hcs0
    rw [← this]
  have hc1 : Value.agg c1 = .agg #[.int .i64 b.status, .int .i64 b.n, v3, v4, v5, v6] := by
    have : c1.toList = [.int .i64 b.status, .int .i64 b.n, v3, v4, v5, v6] := hcs1
    rw [← this]
  have walk := modelSame_walk a b u3 u4 u5 u6 v3 v4 v5 v6 W ha hb hu hv (fun W' _ => lives_true W')
  rw [← hc0, ← hc1] at walk
  refine walk.mono fun e W' ⟨he, hg⟩ => ?_
  subst he
  exact ⟨_, rfl, post_of_kept (pa := (p0 ++ (p1 ++ []))) (pv := []) hW' (fun _ _ _ => trodAll_cons_mk (shut_bool Tryz.underlying4 _) trodAll_mk0)
    (fun sp hsp => (trodAll_cons_mk (WideElems.Trod_stays (by kernel_rfl) (by kernel_rfl) (of_decide_eq_true (by kernel_rfl)) ⟨fuel0, hf0⟩ (fun x hx => (below_gb hg (Nat.le_refl _) (by simp)).same (hlt x (by simp [hx]))) (fun x hx => hsp x (by simp [hx]))) (trodAll_cons_mk (WideElems.Trod_stays (by kernel_rfl) (by kernel_rfl) (of_decide_eq_true (by kernel_rfl)) ⟨fuel1, hf1⟩ (fun x hx => (below_gb hg (Nat.le_refl _) (by simp)).same (hlt x (by simp [hx]))) (fun x hx => hsp x (by simp [hx]))) trodAll_mk0))) (fun _ _ => rfl) (by simp) hg
    (ok_one (by kernel_rfl) rfl (okWide_bool_mk Tryz.underlying4 _))⟩

theorem reads (os : Os) {H : Type} (enc : TypeId × Value → H) : ∃ places, DataW.whole enc Tryz.prog ((laidWorld os).forCall (fun _ _ => 0) ⟨#[], #[.agg #[.int .i64 0, .int .i64 0, .slice none 0 0, .slice none 0 0, .slice none 0 0, .slice none 0 0], .agg #[.int .i64 0, .int .i64 0, .slice none 0 0, .slice none 0 0, .slice none 0 0, .slice none 0 0]], []⟩).memory Tryz.f4.params.toList Rows.modelSameSpec.vars false (#[.agg #[.int .i64 0, .int .i64 0, .slice none 0 0, .slice none 0 0, .slice none 0 0, .slice none 0 0], .agg #[.int .i64 0, .int .i64 0, .slice none 0 0, .slice none 0 0, .slice none 0 0, .slice none 0 0]] : Array Value).toList 8 = some ([.agg [.lit (.int .i64 0), .lit (.int .i64 0), .nil, .nil, .nil, .nil], .agg [.lit (.int .i64 0), .lit (.int .i64 0), .nil, .nil, .nil, .nil]], [], places) :=
  ⟨[], by kernel_rfl⟩

set_option maxRecDepth 100000 in
theorem lifted (os : Os) (started : os.Started) (H : Type) (enc : TypeId × Value → H) (F : Stop.Interp) :
    ReturnsInHanded {} Tryz.checked os 4 .any ((OpenSpec.ofChange Rows.modelSameSpec).preRow enc Tryz.prog Tryz.f4 Rows.modelSameRow.domain false Rows.modelSameRow.laid) (((OpenSpec.ofChange Rows.modelSameSpec).at F).post enc Tryz.prog Tryz.f4 false true false false) := by
  obtain ⟨places, hx⟩ := reads os enc
  refine returnsInHanded_of_row (C := Tryz.checked) (s := OpenSpec.ofChange Rows.modelSameSpec) own0 started (by kernel_rfl) Tryz.func4
    (witness_row_atRef (enc := enc) (C := Tryz.checked) false (laidWorld os) #[.agg #[.int .i64 0, .int .i64 0, .slice none 0 0, .slice none 0 0, .slice none 0 0, .slice none 0 0], .agg #[.int .i64 0, .int .i64 0, .slice none 0 0, .slice none 0 0, .slice none 0 0, .slice none 0 0]] rfl (by kernel_rfl) (by kernel_rfl) (by kernel_rfl)
      (OpenSpec.preRow_of_cond 8 hx (by kernel_rfl) (fun k hk => by cases hk) (by kernel_rfl) (laid_met os _))) ?_
  intro W base args ds gs before hval hW _ _ hwt _ _ _
  exact contract H enc W base args ds gs before hval hW hwt

theorem said : Rows.ModelSameSaid :=
  OpenClaim.holds_of_cond 4 Tryz.f4 rfl rfl rfl rfl rfl rfl rfl ⟨rfl, rfl, rfl, rfl, rfl⟩ rfl rfl rfl rfl rfl (by kernel_rfl) Tryz.func4 (by kernel_rfl)
    (of_decide_eq_true (by kernel_rfl)) (by unfold Func.isWrapper; first | (rw [if_pos (by decide +kernel)]; kernel_rfl) | (rw [if_neg (by decide +kernel)]; exact ⟨rfl, rfl⟩))
    (fun os started H enc _ F => by rw [OpenClaim.pre_eq_preRow]; exact lifted os started H enc F)
end Go.Proofs.YtcmepallgchcjaaGreat.modelSameLaw
