/-
  'bootprint/bootprintlaw25.StoreNil': called with any argument of bulk at most 1048576 in any world that the row allows, it returns true, and what was there stays.
  The executor (Ax) reckons it in the kernel; it is sound over the model.
-/
import Derived.Test.YtpimllnmacnfoaaGreatDoorPZ
import Derived.Test.YtpimllnmacnfoaaGreatDoorCards
import Derived.Test.YtpimllnmacnfoaaGreatDoorTie
import Derived.WalkKit
import Derived.ProofKit
import Derived.OpenShut
import Derived.Deep.DeepHandedRow
import Derived.Deep.DeepWitnessRowRef
import Derived.Lib.LaidIn
import Derived.Carry
import Derived.WideKeyArgs
namespace Go.Proofs.YtpimllnmacnfoaaGreatDoor.storeNilLaw
open Go.ChangeShapes Go.WideShapes Go.ChangeAt Go.RowKit Go.Lib Go.Proofs.YtpimllnmacnfoaaGreatDoor.Ax

theorem keptBelow {W W' : World} (h : Kept W W') : Below W.heap.size W W' := ⟨h.os, h.tape, h.output, h.size, fun k hk => Kept.same h k hk⟩
/-- the argument: its text alone is known, by its length -/
theorem act_rel (ρ : Ren) {a0 a1 a2 a3 a5 a6 a7 a8 a9 : Value} {t : ByteArray} (h : t.size ≤ 1048576) : VR ρ (.ag [.z, .z, .z, .z, .tx 1048576, .z, .z, .z, .z, .z]) (.agg #[a0, a1, a2, a3, .string t, a5, a6, a7, a8, a9]) :=
  VR.ag' (vs := [a0, a1, a2, a3, .string t, a5, a6, a7, a8, a9]) (((((((((((VRs.nil ρ).cons (.z a9)).cons (.z a8)).cons (.z a7)).cons (.z a6)).cons (.z a5)).cons (.tx h)).cons (.z a3)).cons (.z a2)).cons (.z a1)).cons (.z a0))
theorem cellsOf9 : Tryz.prog.cellsOf 9 = 1 := by kernel_rfl
theorem cellsOf3 : Tryz.prog.cellsOf 3 = 1 := by kernel_rfl
theorem cellsOf22 : Tryz.prog.cellsOf 22 = 1 := by kernel_rfl
theorem cellsOf25 : Tryz.prog.cellsOf 25 = 2 := by kernel_rfl
theorem cellsOf28 : Tryz.prog.cellsOf 28 = 10 := by kernel_rfl
theorem bulk_part {H : Type} {d : DataW H} {l : List (DataW H)} (h : d ∈ l) : Rows.uptoBulk d ≤ Rows.uptoBulkAll l := by
  induction l with
  | nil => cases h
  | cons x r ih =>
    simp only [Rows.uptoBulkAll]
    cases List.mem_cons.1 h with
    | inl e => subst e; omega
    | inr e => have := ih e; omega
theorem bulk_append {H : Type} (l r : List (DataW H)) : Rows.uptoBulkAll (l ++ r) = Rows.uptoBulkAll l + Rows.uptoBulkAll r := by
  induction l with
  | nil => simp [Rows.uptoBulkAll]
  | cons x l ih => simp only [List.cons_append, Rows.uptoBulkAll, ih]; omega
theorem bulk_bound {H : Type} {l : List (DataW H)} (hk : Rows.uptoSmall H l = true) : Rows.uptoBulkAll l ≤ 1048576 := by
  have h : decide (Rows.uptoBulkAll l ≤ 1048576) = true := hk
  exact of_decide_eq_true h
set_option maxRecDepth 100000 in
/-- the argument opened: its text is no longer than its bulk -/
theorem open_act {H : Type} {enc : TypeId × Value → H} {w : World} {sp : Nat → Bool} {hd : Bool} {fuel : Nat} {cs : List Value} {x : DataW H × List MemPlace} (h : DataW.trod enc Tryz.prog w 0 sp hd fuel 28 cs = some x) :
    ∃ (a0 a1 a2 a3 a5 a6 a7 a8 a9 : Value) (t : ByteArray), cs = [a0, a1, a2, a3, .string t, a5, a6, a7, a8, a9] ∧ t.size ≤ Rows.uptoBulk x.1 := by
  obtain ⟨xs, n, hfu, rfl, hlen, hxl, hf⟩ := DataW.trod_struct Tryz.underlying28 h
  rw [cellsOf28] at hlen
  obtain ⟨a0, a1, a2, a3, a4, a5, a6, a7, a8, a9, rfl⟩ : ∃ a0 a1 a2 a3 a4 a5 a6 a7 a8 a9, cs = [a0, a1, a2, a3, a4, a5, a6, a7, a8, a9] := by
    match cs, hlen with
    | [a0, a1, a2, a3, a4, a5, a6, a7, a8, a9], _ => exact ⟨a0, a1, a2, a3, a4, a5, a6, a7, a8, a9, rfl⟩
  obtain ⟨x0, x1, x2, x3, x4, x5, x6, x7, x8, rfl⟩ : ∃ x0 x1 x2 x3 x4 x5 x6 x7 x8, xs = [x0, x1, x2, x3, x4, x5, x6, x7, x8] := by
    match xs, hxl with
    | [x0, x1, x2, x3, x4, x5, x6, x7, x8], _ => exact ⟨x0, x1, x2, x3, x4, x5, x6, x7, x8, rfl⟩
  have h3 : DataW.trod enc Tryz.prog w 0 sp hd n 9 [a4] = some x3 := by
    have := hf 3 _ rfl
    simpa [cellsOf9, cellsOf3, cellsOf22, cellsOf25] using this
  obtain ⟨t, e4, hx, _⟩ := DataW.trod_string Tryz.underlying9 h3
  injection e4 with e4 _
  subst e4
  refine ⟨a0, a1, a2, a3, a5, a6, a7, a8, a9, t, rfl, ?_⟩
  have hx3 : x3.1 = DataW.lit (.string t.data.toList) := by rw [hx]
  have hm : x3.1 ∈ [x0, x1, x2, x3, x4, x5, x6, x7, x8].map (·.1) := by simp
  have hb := bulk_part hm
  rw [hx3] at hb
  have h1 : Rows.uptoBulk (DataW.lit (H := H) (.string t.data.toList)) = t.data.toList.length + 1 := by simp [Rows.uptoBulk]
  have h2 : t.data.toList.length = t.size := by simp
  show t.size ≤ Rows.uptoBulkAll ([x0, x1, x2, x3, x4, x5, x6, x7, x8].map (·.1)) + 1
  omega
set_option maxRecDepth 1000000 in
theorem reckoned : okR (trueU E0 ixP10 (bd E0 ixP10 (codeI E0 11 ixP10) 300) 3 [.ag [.z, .z, .z, .z, .tx 1048576, .z, .z, .z, .z, .z]] (hOf gl0) (pth E0.ng)) = true := by decide +kernel

set_option maxRecDepth 100000 in
/-- the call, in every world that holds the listed variables -/
theorem contract (H : Type) (enc : TypeId × Value → H) (W : World) (base : Nat) (args : Array Value) (ds gs : List (DataW H)) (before : List MemPlace)
    (hval : ∀ (j : Nat) (t : TypeId) (v : Value), Tryz.f3.params[j]? = some t → args[j]? = some v → Value.okWide Tryz.prog W .any base t v)
    (hW : DataW.Whole enc Tryz.prog Tryz.f3.params.toList Rows.storeNilSpec.vars false W args.toList ds gs before) (hsmall : Rows.uptoSmall H (ds ++ gs) = true) (hL : laidMetH Tryz.prog Rows.storeNilRow.laid W) (hsh : W.ShapedOpen Tryz.prog) :
    Calls Tryz.prog 3 args W fun e W' => ∃ v, e = .returned v ∧ Rows.storeNilSpec.post enc Tryz.prog Tryz.f3 false true false false W args v W' := by
  have hW' := hW
  obtain ⟨p, q, hA0, hV, rfl, _, _⟩ := hW
  have hA : DataW.TrodAll enc Tryz.prog W 0 (fun _ => true) true Tryz.f3.params.toList args.toList ds p := hA0
  rw [Tryz.params3] at hA
  rw [Tryz.params3] at hval
  obtain ⟨v0, vs0, d0, ds0, p0, q0, hargs0, rfl, rfl, h0, r0⟩ := trodAll_cons hA
  obtain ⟨rfl, rfl, rfl⟩ := trodAll_nil r0
  obtain rfl : args = #[v0] := by cases args; simp_all
  obtain ⟨rfl, rfl⟩ := trodVars_none hV
  have hlt := DataW.TrodAll.lt hA
  clear hA0
  obtain ⟨c0, rfl, z0⟩ := okWide_struct Tryz.underlying28 (hval 0 28 v0 rfl rfl)
  obtain ⟨fuel, hf0⟩ := id h0
  obtain ⟨a0, a1, a2, a3, a5, a6, a7, a8, a9, t, hcs, ht⟩ := open_act hf0
  have ht2 : t.size ≤ 1048576 := by
    have h1 := bulk_bound hsmall
    rw [bulk_append] at h1
    have h2 : Rows.uptoBulkAll [d0] = Rows.uptoBulk d0 + 0 := rfl
    have ht' : t.size ≤ Rows.uptoBulk d0 := ht
    omega
  have hc0 : Value.agg c0 = .agg #[a0, a1, a2, a3, .string t, a5, a6, a7, a8, a9] := by
    have : c0.toList = [a0, a1, a2, a3, .string t, a5, a6, a7, a8, a9] := hcs
    rw [← this]
  have walk : Calls Tryz.prog 3 #[.agg c0] W fun e w' => e = .returned (.bool true) ∧ Kept W w' :=
    begun_true e0_ok kP10 (codeI_ok E0 _ ixP10) (m := 300) rfl reckoned (begun0 hL hsh) (fun ρ => (VRs.nil ρ).cons (hc0 ▸ act_rel ρ ht2))
  refine walk.mono fun e W' ⟨he, hg⟩ => ?_
  subst he
  exact ⟨_, rfl, post_of_kept (pa := (p0 ++ [])) (pv := []) hW' (fun _ _ _ => trodAll_cons_mk (shut_bool Tryz.underlying4 _) trodAll_mk0)
    (fun sp hsp => (trodAll_cons_mk (WideElems.Trod_stays (by kernel_rfl) (by kernel_rfl) (of_decide_eq_true (by kernel_rfl)) h0 (fun x hx => (keptBelow hg).same (hlt x (by simp [hx]))) (fun x hx => hsp x (by simp [hx]))) trodAll_mk0)) (fun _ _ => rfl) (by simp) hg
    (ok_one (by kernel_rfl) rfl (okWide_bool_mk Tryz.underlying4 _))⟩

theorem reads (os : Os) {H : Type} (enc : TypeId × Value → H) : ∃ places, DataW.whole enc Tryz.prog ((laidWorld os).forCall (fun _ _ => 0) ⟨#[], #[.agg #[.int .i64 0, .slice none 0 0, .int .u64 0, .int .u64 0, .string ⟨#[]⟩, .int .u64 0, .int .u64 0, .slice none 0 0, .int .i64 0, .bool false]], []⟩).memory Tryz.f3.params.toList Rows.storeNilSpec.vars false (#[.agg #[.int .i64 0, .slice none 0 0, .int .u64 0, .int .u64 0, .string ⟨#[]⟩, .int .u64 0, .int .u64 0, .slice none 0 0, .int .i64 0, .bool false]] : Array Value).toList 8 = some ([.agg [.lit (.int .i64 0), .nil, .agg [.lit (.int .u64 0), .lit (.int .u64 0)], .lit (.string []), .lit (.int .u64 0), .lit (.int .u64 0), .nil, .lit (.int .i64 0), .lit (.bool false)]], [], places) :=
  ⟨[], by kernel_rfl⟩

set_option maxRecDepth 100000 in
theorem lifted (os : Os) (started : os.Started) (H : Type) (enc : TypeId × Value → H) (F : Stop.Interp) :
    ReturnsInHanded {} Tryz.checked os 3 .any ((Rows.OpenSpec.upto Rows.storeNilSpec).preRow enc Tryz.prog Tryz.f3 Rows.storeNilUptoRow.domain false Rows.storeNilUptoRow.laid) (((Rows.OpenSpec.upto Rows.storeNilSpec).at F).post enc Tryz.prog Tryz.f3 false true false false) := by
  obtain ⟨places, hx⟩ := reads os enc
  refine returnsInHanded_of_row (C := Tryz.checked) (s := Rows.OpenSpec.upto Rows.storeNilSpec) own0 started (by kernel_rfl) Tryz.func3
    (witness_row_atRef (enc := enc) (C := Tryz.checked) false (laidWorld os) #[.agg #[.int .i64 0, .slice none 0 0, .int .u64 0, .int .u64 0, .string ⟨#[]⟩, .int .u64 0, .int .u64 0, .slice none 0 0, .int .i64 0, .bool false]] rfl (by kernel_rfl) (by kernel_rfl) (by kernel_rfl)
      (OpenSpec.preRow_of_cond 8 hx (by kernel_rfl) (fun k hk => by cases hk; kernel_rfl) (by kernel_rfl) (laid_met os _))) ?_
  intro W base args ds gs before hval hW _ hcond _ hL hsh _
  exact contract H enc W base args ds gs before hval hW (hcond _ rfl) hL hsh

end Go.Proofs.YtpimllnmacnfoaaGreatDoor.storeNilLaw
