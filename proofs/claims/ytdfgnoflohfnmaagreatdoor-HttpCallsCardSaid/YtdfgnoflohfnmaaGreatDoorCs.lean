/-
  'bootprint/bootprintlaw27.HttpCalls': called with any target, request, response and bytes, in any world that the row allows, it returns true, and what was there stays.
  Every call of the program and of the document is walked; both leave the same (plain laws).
-/
import Derived.Test.YtdfgnoflohfnmaaGreatDoorYH
import Derived.Test.YtdfgnoflohfnmaaGreatDoorCr
import Derived.Test.YtdfgnoflohfnmaaGreatDoorHw
import Derived.Test.YtdfgnoflohfnmaaGreatDoorBq
import Derived.Test.YtdfgnoflohfnmaaGreatDoorCards
import Derived.Test.YtdfgnoflohfnmaaGreatDoorTie
import Derived.WalkKit
import Derived.ProofKit
import Derived.OpenShut
import Derived.Deep.DeepHandedRow
import Derived.Deep.DeepWitnessRowRef
import Derived.Lib.LaidIn
import Derived.Carry
import Derived.WideKeyArgs
namespace Go.Proofs.YtdfgnoflohfnmaaGreatDoor.httpCallsLaw
open Go.ChangeShapes Go.WideShapes Go.ChangeAt Go.RowKit Go.Lib Go.Proofs.YtdfgnoflohfnmaaGreatDoor.Ax Go.Proofs.YtdfgnoflohfnmaaGreatDoor.Hx
theorem keptBelow {W W' : World} (h : Kept W W') : Below W.heap.size W W' := ⟨h.os, h.tape, h.output, h.size, fun k hk => Kept.same h k hk⟩

theorem mx_of {W : World} (hsh : W.ShapedOpen Tryz.prog) : ∃ m : Int, MX W m := by
  obtain ⟨m, hm, _⟩ := maxLen0 hsh
  exact ⟨m, by show W.cell? _ = _; rw [cell_of_row _ _ 0 _ _ _ hm]; rfl⟩
theorem vrs_ints (ρ : Ren) : ∀ (l : List Int) (xs : List Value), VRs ρ (l.map fun n => AV.i .u64 n) xs → xs = l.map fun n => Value.int .u64 n
  | [], xs, h => h.nil_inv
  | n :: l, xs, h => by
    obtain ⟨v, r, e1, h1, h2⟩ := h.cons_inv
    have e2 := vrs_ints ρ l r h2
    subst e1 e2
    cases h1 with
    | i => rfl
theorem glob_pow : Tryz.prog.globalNamed "internal/strconv.uint64pow10" = some 3 := by kernel_rfl
theorem pt_of {W : World} (hL : laidMet Tryz.prog laidH W) (hsh : W.ShapedOpen Tryz.prog) : PTw W := fun W' hg => by
  obtain ⟨x, hx, he, hv⟩ : ∃ x ∈ gl0, x.1 = 3 ∧ x.2.1 = Lib.pow10Tab.map fun n => AV.i .u64 n := ⟨gl0[0], by simp [gl0], rfl, by kernel_rfl⟩
  obtain ⟨_, arr, h2, h3⟩ := begunH hL hsh x hx
  rw [he] at h2
  have h4 := h3 (fun _ => none)
  rw [hv] at h4
  have h5 := vrs_ints _ _ _ h4
  have h6 := (hg.block _ (Array.getElem?_eq_some_iff.1 h2).1 (by simp)).trans h2
  unfold Lib.TabIs World.var?
  rw [glob_pow]
  simp only [Option.bind_some, h6]
  rw [← h5]
theorem walk {W : World} {S : ByteArray} {r : Hx.Rq} {x : Hx.R5} {hv : Value} {st : Int} {T : ByteArray} {cl : Bool} {body : Hx.Bs} {A : Option Addr} {c : Nat} {behind : Hx.Bs} (hL : laidMet Tryz.prog laidH W) (hsh : W.ShapedOpen Tryz.prog)
    (hx : RA W (fun _ => True) r x) (hrb : RqB r) (hbv : BV W (.slice A body.length c) body) (hhv : BV W hv behind) :
    Calls Tryz.prog 5 #[.string S, x.val, .agg #[.int .i64 st, .string T, .bool cl, .slice A body.length c], hv] W fun e w' => e = .returned (.bool true) ∧ Kept W w' := by
  obtain ⟨m, hm⟩ := mx_of hsh
  exact calls_any S r x st T cl body _ hv behind m W hx hrb.1 hrb.2.1 hrb.2.2 hbv hhv hm (pt_of hL hsh)

set_option maxRecDepth 100000 in
/-- the call, in every world that holds the listed variables -/
theorem contract (H : Type) (enc : TypeId × Value → H) (W : World) (base : Nat) (args : Array Value) (ds gs : List (DataW H)) (before : List MemPlace)
    (hval : ∀ (j : Nat) t v, Tryz.f5.params[j]? = some t → args[j]? = some v → Value.okWide Tryz.prog W .any base t v)
    (hW : DataW.Whole enc Tryz.prog Tryz.f5.params.toList Rows.httpCallsSpec.vars false W args.toList ds gs before)
    (hwt : (DataW.weightsEach Tryz.prog (Tryz.f5.params.toList ++ (OpenSpec.ofChange Rows.httpCallsSpec).bare.plain.varTypes Tryz.prog) (ds ++ gs)).all (· ≤ reachBytes) = true) (hL : laidMetH Tryz.prog Rows.httpCallsRow.laid W) (hsh : W.ShapedOpen Tryz.prog) :
    Calls Tryz.prog 5 args W fun e W' => ∃ v, e = .returned v ∧ Rows.httpCallsSpec.post enc Tryz.prog Tryz.f5 false true false false W args v W' := by
  have hW' := hW
  obtain ⟨p, q, hA0, hV, rfl, _, _⟩ := hW
  have hA : DataW.TrodAll enc Tryz.prog W 0 (fun _ => true) true Tryz.f5.params.toList args.toList ds p := hA0
  rw [Tryz.params5] at hA hval hwt
  obtain ⟨v0, vs0, d0, ds0, p0, q0, hargs0, rfl, rfl, h0, r0⟩ := trodAll_cons hA
  obtain ⟨v1, vs1, d1, ds1, p1, q1, hargs1, rfl, rfl, h1, r1⟩ := trodAll_cons r0
  obtain ⟨v2, vs2, d2, ds2, p2, q2, hargs2, rfl, rfl, h2, r2⟩ := trodAll_cons r1
  obtain ⟨v3, vs3, d3, ds3, p3, q3, hargs3, rfl, rfl, h3, r3⟩ := trodAll_cons r2
  obtain ⟨rfl, rfl, rfl⟩ := trodAll_nil r3
  subst hargs3
  subst hargs2
  subst hargs1
  obtain rfl : args = #[v0, v1, v2, v3] := by cases args; simp_all
  obtain ⟨rfl, rfl⟩ := trodVars_none hV
  have hlt := DataW.TrodAll.lt hA
  clear hA0
  have hb0 : ∀ n ∈ d0.weights Tryz.prog 9, n ≤ reachBytes := by
    intro n hn
    have := List.all_eq_true.1 hwt n (DataW.weights_mem_each (j := 0) (t := 9) (d := d0) rfl rfl n hn)
    simpa using this
  have hb1 : ∀ n ∈ d1.weights Tryz.prog 32, n ≤ reachBytes := by
    intro n hn
    have := List.all_eq_true.1 hwt n (DataW.weights_mem_each (j := 1) (t := 32) (d := d1) rfl rfl n hn)
    simpa using this
  have hb2 : ∀ n ∈ d2.weights Tryz.prog 44, n ≤ reachBytes := by
    intro n hn
    have := List.all_eq_true.1 hwt n (DataW.weights_mem_each (j := 2) (t := 44) (d := d2) rfl rfl n hn)
    simpa using this
  obtain ⟨fuel0, hf0⟩ := h0
  obtain ⟨S0, rfl⟩ := okWide_string Tryz.underlying9 (hval 0 9 v0 rfl rfl)
  obtain ⟨fuel1, hf1⟩ := h1
  obtain ⟨cs1, rfl, z1⟩ := okWide_struct Tryz.underlying32 (hval 1 32 v1 rfl rfl)
  obtain ⟨r, y, hcs1, hra, hrb⟩ := open_req fuel1 _ _ hf1 hb1
  have hc1 : Value.agg cs1 = y.val := by
    have h : cs1.toList = y.cells := hcs1
    have h2 : cs1 = y.cells.toArray := by rw [← h]
    rw [h2]; rfl
  obtain ⟨fuel2, hf2⟩ := h2
  obtain ⟨cs2, rfl, z2⟩ := okWide_struct Tryz.underlying44 (hval 2 44 v2 rfl rfl)
  obtain ⟨st, T, cl, body, A, c, hcs2, hbv, _, _⟩ := open_resp fuel2 _ _ hf2 hb2
  have hc2 : Value.agg cs2 = .agg #[.int .i64 st, .string T, .bool cl, .slice A body.length c] := by
    have : cs2.toList = [.int .i64 st, .string T, .bool cl, .slice A body.length c] := hcs2
    rw [← this]
  obtain ⟨fuel3, hf3⟩ := h3
  obtain ⟨u3, bs3, e3, hx3⟩ := open_bytes hf3
  obtain ⟨A3, n3, c3, rfl⟩ := okWide_slice Tryz.underlying22 (hval 3 22 v3 rfl rfl)
  have e3' : Value.slice A3 n3 c3 = u3 := by simpa [Value.cells] using e3
  subst e3'
  have wk := walk (S := S0) (st := st) (T := T) (cl := cl) hL hsh hra hrb hbv hx3
  rw [← hc1, ← hc2] at wk
  refine wk.mono fun e W' ⟨he, hg⟩ => ?_
  subst he
  exact ⟨_, rfl, post_of_kept (pa := p0 ++ (p1 ++ (p2 ++ (p3 ++ [])))) (pv := []) hW' (fun _ _ _ => trodAll_cons_mk (shut_bool Tryz.underlying4 _) trodAll_mk0)
    (fun sp hsp => trodAll_cons_mk (WideElems.Trod_stays (by kernel_rfl) (by kernel_rfl) (of_decide_eq_true (by kernel_rfl)) ⟨fuel0, hf0⟩ (fun x hx => (keptBelow hg).same (hlt x (by simp [hx]))) (fun x hx => hsp x (by simp [hx])))
      (trodAll_cons_mk (WideElems.Trod_stays (by kernel_rfl) (by kernel_rfl) (of_decide_eq_true (by kernel_rfl)) ⟨fuel1, hf1⟩ (fun x hx => (keptBelow hg).same (hlt x (by simp [hx]))) (fun x hx => hsp x (by simp [hx])))
      (trodAll_cons_mk (WideElems.Trod_stays (by kernel_rfl) (by kernel_rfl) (of_decide_eq_true (by kernel_rfl)) ⟨fuel2, hf2⟩ (fun x hx => (keptBelow hg).same (hlt x (by simp [hx]))) (fun x hx => hsp x (by simp [hx])))
      (trodAll_cons_mk (WideElems.Trod_stays (by kernel_rfl) (by kernel_rfl) (of_decide_eq_true (by kernel_rfl)) ⟨fuel3, hf3⟩ (fun x hx => (keptBelow hg).same (hlt x (by simp [hx]))) (fun x hx => hsp x (by simp [hx]))) trodAll_mk0)))) (fun _ _ => rfl) (by simp) hg
    (ok_one (by kernel_rfl) rfl (okWide_bool_mk Tryz.underlying4 _))⟩

theorem reads (os : Os) {H : Type} (enc : TypeId × Value → H) : ∃ places, DataW.whole enc Tryz.prog ((laidWorldH os).forCall (fun _ _ => 0) ⟨#[], #[.string ⟨#[]⟩, .agg #[.string ⟨#[]⟩, .string ⟨#[]⟩, .slice none 0 0, .bool false, .slice none 0 0], .agg #[.int .i64 0, .string ⟨#[]⟩, .bool false, .slice none 0 0], .slice none 0 0], []⟩).memory Tryz.f5.params.toList Rows.httpCallsSpec.vars false (#[.string ⟨#[]⟩, .agg #[.string ⟨#[]⟩, .string ⟨#[]⟩, .slice none 0 0, .bool false, .slice none 0 0], .agg #[.int .i64 0, .string ⟨#[]⟩, .bool false, .slice none 0 0], .slice none 0 0] : Array Value).toList 8 = some ([.lit (.string []), .agg [.lit (.string []), .lit (.string []), .nil, .lit (.bool false), .nil], .agg [.lit (.int .i64 0), .lit (.string []), .lit (.bool false), .nil], .nil], [], places) :=
  ⟨[], by kernel_rfl⟩

set_option maxRecDepth 100000 in
theorem lifted (os : Os) (started : os.Started) (H : Type) (enc : TypeId × Value → H) (F : Stop.Interp) :
    ReturnsInHanded {} Tryz.checked os 5 .any ((OpenSpec.ofChange Rows.httpCallsSpec).preRow enc Tryz.prog Tryz.f5 Rows.httpCallsRow.domain false Rows.httpCallsRow.laid) (((OpenSpec.ofChange Rows.httpCallsSpec).at F).post enc Tryz.prog Tryz.f5 false true false false) := by
  obtain ⟨places, hx⟩ := reads os enc
  refine returnsInHanded_of_row (C := Tryz.checked) (s := OpenSpec.ofChange Rows.httpCallsSpec) own0 started (by kernel_rfl) Tryz.func5
    (witness_row_atRef (enc := enc) (C := Tryz.checked) false (laidWorldH os) #[.string ⟨#[]⟩, .agg #[.string ⟨#[]⟩, .string ⟨#[]⟩, .slice none 0 0, .bool false, .slice none 0 0], .agg #[.int .i64 0, .string ⟨#[]⟩, .bool false, .slice none 0 0], .slice none 0 0] rfl (by kernel_rfl) (by kernel_rfl) (by kernel_rfl)
      (OpenSpec.preRow_of_cond 8 hx (by kernel_rfl) (fun k hk => by cases hk) (by kernel_rfl) (laid_metH os _))) ?_
  intro W base args ds gs before hval hW _ _ hwt hL hsh _
  exact contract H enc W base args ds gs before hval hW hwt hL hsh

theorem said : Rows.HttpCallsSaid :=
  OpenClaim.holds_of_cond 5 Tryz.f5 rfl rfl rfl rfl rfl rfl rfl ⟨rfl, rfl, rfl, rfl, rfl⟩ rfl rfl rfl rfl rfl (by kernel_rfl) Tryz.func5 (by kernel_rfl)
    (of_decide_eq_true (by kernel_rfl)) (by unfold Func.isWrapper; first | (rw [if_pos (by decide +kernel)]; kernel_rfl) | (rw [if_neg (by decide +kernel)]; exact ⟨rfl, rfl⟩))
    (fun os started H enc _ F => by rw [OpenClaim.pre_eq_preRow]; exact lifted os started H enc F)

/-- no parameter wants a stand-in; the program's own looks are off -/
theorem plain (f : FuncId) (fn : Func) (hf : Tryz.pinned.checked.prog.funcNamed "bootprint/bootprintlaw27.HttpCalls" = some f) (hfn : Tryz.pinned.checked.prog.funcs[f]? = some fn) :
    true = Tryz.pinned.checked.prog.looks [] ∧ ∀ (j : Nat) t, fn.params[j]? = some t → Tryz.pinned.checked.prog.wantsStandIn t = false := by
  obtain rfl : f = 5 := Option.some.inj ((show Tryz.prog.funcNamed "bootprint/bootprintlaw27.HttpCalls" = some 5 by kernel_rfl).symm.trans hf) |>.symm
  obtain rfl : fn = Tryz.f5 := (Option.some.inj (Tryz.func5.symm.trans hfn)).symm
  refine ⟨by kernel_rfl, fun j t ht => ?_⟩
  rw [Tryz.params5] at ht
  have hm := Array.mem_of_getElem? ht
  simp at hm
  rcases hm with rfl | rfl | rfl | rfl
  · exact (show Tryz.prog.wantsStandIn 9 = false by kernel_rfl)
  · exact (show Tryz.prog.wantsStandIn 32 = false by kernel_rfl)
  · exact (show Tryz.prog.wantsStandIn 44 = false by kernel_rfl)
  · exact (show Tryz.prog.wantsStandIn 22 = false by kernel_rfl)
/-- **the card** -/
theorem card : Rows.HttpCallsCardSaid :=
  Claim7.holds_tied_plain_at .later [] _ _ _ _ said (fun _ h => by cases h) (by kernel_rfl) (fun _ h => by cases h) httpCalls_row_tie rfl ⟨rfl, rfl⟩ (by kernel_rfl) rfl plain (by kernel_rfl)
end Go.Proofs.YtdfgnoflohfnmaaGreatDoor.httpCallsLaw
