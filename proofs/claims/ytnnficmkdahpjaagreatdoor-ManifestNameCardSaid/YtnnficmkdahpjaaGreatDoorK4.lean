/-
  'bootprint/bootprintlaw13.ManifestName': whatever number and whatever text are handed in, the call returns true; the text reads as it did, and what was there stays.
  The program's and the reference's functions are walked, each computes a plain function; what 'lives' answers is reckoned by the executor (Ax).
-/
import Derived.Test.YtnnficmkdahpjaaGreatDoorVZ
import Derived.Test.YtnnficmkdahpjaaGreatDoorQ6
import Derived.Test.YtnnficmkdahpjaaGreatDoorCards
import Derived.Test.YtnnficmkdahpjaaGreatDoorTie
import Derived.WalkKit
import Derived.ProofKit
import Derived.OpenShut
import Derived.ChangeMaps
import Derived.Deep.DeepHandedRow
import Derived.Deep.DeepWitnessRowRef
import Derived.Lib.LaidIn
namespace Go.Proofs.YtnnficmkdahpjaaGreatDoor.manifestNameLaw
open Go.ChangeShapes Go.WideShapes Go.ChangeAt Go.RowKit Go.Lib Go.Proofs.YtnnficmkdahpjaaGreatDoor.Ax
open Go.ChangeMaps (open_string shut_string)

set_option maxRecDepth 1000000 in
theorem reckoned : okR (trueU E0 ixV9 (bd E0 ixV9 (codeI E0 10 ixV9) 300) 6 [] (hOf gl0) (pth E0.ng)) = true := by decide +kernel
theorem lives_true {W : World} (hL : laidMet Tryz.prog laid0 W) (hsh : W.ShapedOpen Tryz.prog) : Calls Tryz.prog 6 #[] W fun e w' => e = .returned (.bool true) ∧ Kept W w' :=
  begun_true e0_ok kV9 (codeI_ok E0 _ ixV9) (m := 300) rfl reckoned (begun0 hL hsh) (fun ρ => VRs.nil ρ)
theorem laid_tail {x : String × DataW Unit} {l : List (String × DataW Unit)} {W : World} (h : laidMet Tryz.prog (x :: l) W) : laidMet Tryz.prog l W := by
  obtain ⟨n, d⟩ := x
  obtain ⟨ps, h1, h2, h3⟩ := h
  obtain ⟨g, t, cs, fuel, p, q, _, _, _, _, h5, rfl⟩ := h1
  exact ⟨q, h5, (List.nodup_append.1 h2).2.1, fun b off hm => h3 b off (List.mem_append_right _ hm)⟩
theorem pow_data : (Rows.laid_internal_strconv_uint64pow10 : DataW Unit) = tabData .u64 pow10Tab := by kernel_rfl
theorem pt {W : World} (hL : laidMet Tryz.prog laid0 W) : PT W := by
  have h := laid_tail (laid_tail hL)
  have h' : laidMet Tryz.prog (("internal/strconv.uint64pow10", tabData .u64 pow10Tab) :: [("unicode/utf8.acceptRanges", Rows.laid_unicode_utf8_acceptRanges), ("strconv.ErrRange", Rows.laid_strconv_ErrRange), ("strconv.ErrSyntax", Rows.laid_strconv_ErrSyntax), ("unicode/utf8.first", Rows.laid_unicode_utf8_first)]) W := by
    rw [← pow_data]; exact h
  exact tabIs_of_head (g := 2) (t := 213) (e := 22) (n := 20) (by kernel_rfl) (by kernel_rfl) (by kernel_rfl) (by kernel_rfl) (by kernel_rfl) (by kernel_rfl) h'

set_option maxRecDepth 100000 in
/-- the call, in every world that holds the listed variables -/
theorem contract (H : Type) (enc : TypeId × Value → H) (W : World) (base : Nat) (args : Array Value) (ds gs : List (DataW H)) (before : List MemPlace)
    (hval : ∀ (j : Nat) t v, Tryz.f3.params[j]? = some t → args[j]? = some v → Value.okWide Tryz.prog W .any base t v)
    (hW : DataW.Whole enc Tryz.prog Tryz.f3.params.toList Rows.manifestNameSpec.vars false W args.toList ds gs before) (hL : laidMetH Tryz.prog Rows.manifestNameRow.laid W) (hsh : W.ShapedOpen Tryz.prog) :
    Calls Tryz.prog 3 args W fun e W' => ∃ v, e = .returned v ∧ Rows.manifestNameSpec.post enc Tryz.prog Tryz.f3 false true false false W args v W' := by
  have hW' := hW
  obtain ⟨p, q, hA0, hV, rfl, _, _⟩ := hW
  have hA : DataW.TrodAll enc Tryz.prog W 0 (fun _ => true) true Tryz.f3.params.toList args.toList ds p := hA0
  rw [Tryz.params3] at hA hval
  obtain ⟨v0, vs0, d0, ds0, p0, q0, hargs, rfl, rfl, h0, r0⟩ := trodAll_cons hA
  obtain ⟨v1, vs1, d1, ds1, p1, q1, hargs1, rfl, rfl, h1, r1⟩ := trodAll_cons r0
  obtain ⟨rfl, rfl, rfl⟩ := trodAll_nil r1
  subst hargs1
  obtain rfl : args = #[v0, v1] := by cases args; simp_all
  obtain ⟨rfl, rfl⟩ := trodVars_none hV
  obtain ⟨z, rfl, rfl, rfl, wz⟩ := open_int Tryz.underlying22 (hval 0 22 v0 rfl rfl) h0
  obtain ⟨s, rfl, rfl, rfl, ws⟩ := open_string Tryz.underlying9 (hval 1 9 v1 rfl rfl) h1
  clear hA0
  simp only [List.append_nil] at hW'
  have hz : 0 ≤ z ∧ z < 18446744073709551616 := by
    have h := wz
    simp only [Lit.wf, Bool.and_eq_true, decide_eq_true_eq] at h
    have h1 : (0 : Int) ≤ z := h.1
    have h2 : z ≤ 18446744073709551615 := h.2
    omega
  obtain ⟨n, rfl⟩ : ∃ n : Nat, z = n := ⟨z.toNat, by omega⟩
  have walk := manifestName_walk n (by omega) s W (pt hL) (lives_true hL hsh)
  refine walk.mono fun e W' ⟨he, hg⟩ => ?_
  subst he
  exact ⟨_, rfl, post_of_kept (pa := []) (pv := []) hW' (fun _ _ _ => trodAll_cons_mk (shut_bool Tryz.underlying4 _) trodAll_mk0) (fun _ _ => trodAll_cons_mk (shut_int Tryz.underlying22 wz) (trodAll_cons_mk (shut_string Tryz.underlying9 ws) trodAll_mk0)) (fun _ _ => rfl) rfl hg
    (ok_one (by kernel_rfl) rfl (okWide_bool_mk Tryz.underlying4 _))⟩

theorem reads (os : Os) {H : Type} (enc : TypeId × Value → H) : ∃ places, DataW.whole enc Tryz.prog ((laidWorld os).forCall (fun _ _ => 0) ⟨#[], #[.int .u64 0, .string ⟨#[]⟩], []⟩).memory Tryz.f3.params.toList Rows.manifestNameSpec.vars false (#[.int .u64 0, .string ⟨#[]⟩] : Array Value).toList 8 = some ([.lit (.int .u64 0), .lit (.string [])], [], places) :=
  ⟨[], by kernel_rfl⟩

set_option maxRecDepth 100000 in
theorem lifted (os : Os) (started : os.Started) (H : Type) (enc : TypeId × Value → H) (F : Stop.Interp) :
    ReturnsInHanded {} Tryz.checked os 3 .any ((OpenSpec.ofChange Rows.manifestNameSpec).preRow enc Tryz.prog Tryz.f3 Rows.manifestNameRow.domain false Rows.manifestNameRow.laid) (((OpenSpec.ofChange Rows.manifestNameSpec).at F).post enc Tryz.prog Tryz.f3 false true false false) := by
  obtain ⟨places, hx⟩ := reads os enc
  refine returnsInHanded_of_row (C := Tryz.checked) (s := OpenSpec.ofChange Rows.manifestNameSpec) own0 started (by kernel_rfl) Tryz.func3
    (witness_row_atRef (enc := enc) (C := Tryz.checked) false (laidWorld os) #[.int .u64 0, .string ⟨#[]⟩] rfl (by kernel_rfl) (by kernel_rfl) (by kernel_rfl)
      (OpenSpec.preRow_of_cond 8 hx (by kernel_rfl) (fun k hk => by cases hk) (by kernel_rfl) (laid_met os _))) ?_
  intro W base args ds gs before hval hW _ _ _ hL hsh _
  exact contract H enc W base args ds gs before hval hW hL hsh

theorem said : Rows.ManifestNameSaid :=
  OpenClaim.holds_of_cond 3 Tryz.f3 rfl rfl rfl rfl rfl rfl rfl ⟨rfl, rfl, rfl, rfl, rfl⟩ rfl rfl rfl rfl rfl (by kernel_rfl) Tryz.func3 (by kernel_rfl)
    (of_decide_eq_true (by kernel_rfl)) (by unfold Func.isWrapper; first | (rw [if_pos (by decide +kernel)]; kernel_rfl) | (rw [if_neg (by decide +kernel)]; exact ⟨rfl, rfl⟩))
    (fun os started H enc _ F => by rw [OpenClaim.pre_eq_preRow]; exact lifted os started H enc F)

/-- no parameter wants a stand-in -/
theorem plain (f : FuncId) (fn : Func) (hf : Tryz.pinned.checked.prog.funcNamed "bootprint/bootprintlaw13.ManifestName" = some f) (hfn : Tryz.pinned.checked.prog.funcs[f]? = some fn) :
    true = Tryz.pinned.checked.prog.looks [] ∧ ∀ (j : Nat) t, fn.params[j]? = some t → Tryz.pinned.checked.prog.wantsStandIn t = false := by
  obtain rfl : f = 3 := Option.some.inj ((show Tryz.prog.funcNamed "bootprint/bootprintlaw13.ManifestName" = some 3 by kernel_rfl).symm.trans hf) |>.symm
  obtain rfl : fn = Tryz.f3 := (Option.some.inj (Tryz.func3.symm.trans hfn)).symm
  refine ⟨by kernel_rfl, fun j t ht => ?_⟩
  rw [Tryz.params3] at ht
  have hm := Array.mem_of_getElem? ht
  simp only [Array.mem_def, List.mem_cons, List.not_mem_nil, or_false] at hm
  rcases hm with rfl | rfl
  · exact (show Tryz.prog.wantsStandIn 22 = false by kernel_rfl)
  · exact (show Tryz.prog.wantsStandIn 9 = false by kernel_rfl)
/-- **the card** -/
theorem card : Rows.ManifestNameCardSaid :=
  Claim7.holds_tied_plain_at .later [] _ _ _ _ said (fun _ h => by cases h) (by kernel_rfl) (fun _ h => by cases h) manifestName_row_tie rfl ⟨rfl, rfl⟩ (by kernel_rfl) rfl plain (by kernel_rfl)
end Go.Proofs.YtnnficmkdahpjaaGreatDoor.manifestNameLaw
