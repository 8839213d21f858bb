/-
  'bootprint/bootprintlaw32.VerdictNames' (a closed statement): called in any world that the row allows, it returns true, and what was there stays.
  The executor (Ax) reckons it in the kernel; it is sound over the model.
-/
import Derived.Test.YtbdkhhakcpediaaGreatDoorK1a
import Derived.Test.YtbdkhhakcpediaaGreatDoorK1f
namespace Go.Proofs.YtbdkhhakcpediaaGreatDoor.verdictNamesLaw
open Go.ChangeShapes Go.WideShapes Go.ChangeAt Go.RowKit Go.Lib Go.Proofs.YtbdkhhakcpediaaGreatDoor.Ax
theorem said : Rows.VerdictNamesSaid :=
  OpenClaim.holds_of_cond 3 Tryz.f3 rfl rfl rfl rfl rfl rfl rfl ⟨rfl, rfl, rfl, rfl, rfl⟩ rfl rfl rfl rfl rfl (by kernel_rfl) Tryz.func3 closed
    (of_decide_eq_true (by kernel_rfl)) (by unfold Func.isWrapper; first | (rw [if_pos (by decide +kernel)]; kernel_rfl) | (rw [if_neg (by decide +kernel)]; exact ⟨rfl, rfl⟩))
    (fun os started H enc _ F => by rw [OpenClaim.pre_eq_preRow]; exact lifted os started H enc F)

end Go.Proofs.YtbdkhhakcpediaaGreatDoor.verdictNamesLaw
