/-
  'bootprint/bootprintlaw25.StoreNil': called with any argument of bulk at most 1048576 in any world that the row allows, it returns true, and what was there stays.
  The executor (Ax) reckons it in the kernel; it is sound over the model.
-/
import Derived.Test.YtpimllnmacnfoaaGreatDoorK1a
import Derived.Test.YtpimllnmacnfoaaGreatDoorK1f
namespace Go.Proofs.YtpimllnmacnfoaaGreatDoor.storeNilLaw
open Go.ChangeShapes Go.WideShapes Go.ChangeAt Go.RowKit Go.Lib Go.Proofs.YtpimllnmacnfoaaGreatDoor.Ax
theorem said : Rows.StoreNilUptoSaid :=
  OpenClaim.holds_of_cond 3 Tryz.f3 rfl rfl rfl rfl rfl rfl rfl ⟨rfl, rfl, rfl, rfl, rfl⟩ rfl rfl rfl rfl rfl (by kernel_rfl) Tryz.func3 closed
    (of_decide_eq_true (by kernel_rfl)) (by unfold Func.isWrapper; first | (rw [if_pos (by decide +kernel)]; kernel_rfl) | (rw [if_neg (by decide +kernel)]; exact ⟨rfl, rfl⟩))
    (fun os started H enc _ F => by rw [OpenClaim.pre_eq_preRow]; exact lifted os started H enc F)

end Go.Proofs.YtpimllnmacnfoaaGreatDoor.storeNilLaw
