/- The seat's tables tell the truth; the world in which its laws begin. -/
import Derived.Test.YtdfgnoflohfnmaaGreatDoorXd
import Derived.Test.YtdfgnoflohfnmaaGreatDoorXt
import Derived.Test.YtdfgnoflohfnmaaGreatDoorRows
import Derived.Lib.LaidIn
import Derived.Lib.LaidU8
namespace Go.Proofs.YtdfgnoflohfnmaaGreatDoor
namespace Ax
open Go.Lib
theorem own0 : ownKnob Tryz.prog.godebug = none := by kernel_rfl
theorem star0 : "*" ++ "errors.errorString" = "*errors.errorString" := by decide
set_option maxRecDepth 100000 in
theorem row0 (u : TypeId) (h : Tryz.prog.typeName? 3 u = some "*errors.errorString") : u = 196 :=
  typeName_ptr_named (nm := "errors.errorString") (by rw [star0]; kernel_rfl) (by kernel_rfl) (by decide) u (by rw [star0]; exact h)
theorem ns0 : Ns Tryz.prog [("*errors.errorString", 196)] := by
  intro n u h u' hu'
  rcases List.mem_cons.1 h with e | e
  · have e1 : n = "*errors.errorString" := congrArg Prod.fst e
    have e2 : u = 196 := congrArg Prod.snd e
    rw [e1] at hu'
    rw [e2]
    exact row0 u' hu'
  · cases e
theorem ng0 : E0.ng = 9 := by kernel_rfl
end Ax
end Go.Proofs.YtdfgnoflohfnmaaGreatDoor
