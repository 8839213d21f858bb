/-
  'bootprint/bootprintlaw16.LsmNames' (a closed statement): called in any world that the row allows, it returns true, and what was there stays.
  The executor (Ax) reckons it in the kernel; it is sound over the model.
-/
import Derived.Test.YtlhaonfohjcblaaGreatDoorK1b
import Derived.Test.YtlhaonfohjcblaaGreatDoorK1c
import Derived.Test.YtlhaonfohjcblaaGreatDoorK1d
namespace Go.Proofs.YtlhaonfohjcblaaGreatDoor.lsmNamesLaw
open Go.ChangeShapes Go.WideShapes Go.ChangeAt Go.RowKit Go.Lib Go.Proofs.YtlhaonfohjcblaaGreatDoor.Ax
/-- no parameter wants a stand-in; the program's own looks are off -/
theorem plain (f : FuncId) (fn : Func) (hf : Tryz.pinned.checked.prog.funcNamed "bootprint/bootprintlaw16.LsmNames" = some f) (hfn : Tryz.pinned.checked.prog.funcs[f]? = some fn) :
    true = Tryz.pinned.checked.prog.looks [] ∧ ∀ (j : Nat) t, fn.params[j]? = some t → Tryz.pinned.checked.prog.wantsStandIn t = false := by
  obtain rfl : f = 3 := Option.some.inj ((show Tryz.prog.funcNamed "bootprint/bootprintlaw16.LsmNames" = some 3 by kernel_rfl).symm.trans hf) |>.symm
  obtain rfl : fn = Tryz.f3 := (Option.some.inj (Tryz.func3.symm.trans hfn)).symm
  refine ⟨by kernel_rfl, fun j t ht => ?_⟩
  rw [Tryz.params3] at ht
  simp at ht
/-- **the card** -/
theorem card : Rows.LsmNamesCardSaid :=
  Claim7.holds_tied_plain_at .later [] _ _ _ _ said (fun _ h => by cases h) wfText (fun _ h => by cases h) lsmNames_row_tie rfl ⟨rfl, rfl⟩ (by kernel_rfl) rfl plain goes
end Go.Proofs.YtlhaonfohjcblaaGreatDoor.lsmNamesLaw
