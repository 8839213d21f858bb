/- The seat's tables tell the truth; the world in which its laws begin. -/
import Derived.Test.YtcmepallgchcjaaGreatXd
import Derived.Test.YtcmepallgchcjaaGreatXt
import Derived.Test.YtcmepallgchcjaaGreatRows
import Derived.Lib.LaidIn
namespace Go.Proofs.YtcmepallgchcjaaGreat
namespace Ax
open Go.Lib
theorem own0 : ownKnob Tryz.prog.godebug = none := by kernel_rfl
theorem e0_ok : EOK E0 where
  ti := fun t i h => by
    have h : (Tr.build 10 fun p => mkTI Tryz.prog (p.nat - 1)).get none (pth t) = some i := h
    rcases build_get (none : Option TI) 10 (fun p => mkTI Tryz.prog (p.nat - 1)) (pth t) with e | e
    · rw [e] at h; cases h
    · rw [e, nat_pth, Nat.add_sub_cancel] at h; exact h
  fn := fun f g h => by
    have h : (Tr.build 9 fun p => fnOk Tryz.prog.funcs[p.nat - 1]?).get none (pth f) = some g := h
    rcases build_get (none : Option Func) 9 (fun p => fnOk Tryz.prog.funcs[p.nat - 1]?) (pth f) with e | e
    · rw [e] at h; cases h
    · rw [e, nat_pth, Nat.add_sub_cancel] at h
      unfold fnOk at h
      split at h
      · rename_i g' hg'
        split at h
        · cases h
        · rename_i hn
          injection h with h
          subst h
          exact ⟨hg', hn⟩
      · cases h
  mix := by kernel_rfl
theorem c0_ok : CodeT E0 ix0 code0 := codeI_ok E0 _ ix0
theorem ix0_ok : IxOK E0 ix0 := by
  intro f g hfg
  unfold ix0 at hfg
  split at hfg
  · cases hfg
def laid0 : List (String × DataW Unit) := []
theorem ng0 : E0.ng = 0 := by kernel_rfl
theorem begun0 {W : World} (_ : laidMet Tryz.prog laid0 W) (_ : W.ShapedOpen Tryz.prog) : Begun gl0 E0.ng W := fun x hx => by cases hx
/-- a world for the witness: the variables hold what their initialisers lay -/
noncomputable def laidWorld (os : Os) : World :=
  let w0 := World.holding Tryz.prog os ⟨#[], #[], []⟩
  { w0 with heap := w0.heap }
noncomputable abbrev N0 : Nat := (World.settled Tryz.prog default).heap.size
set_option maxRecDepth 1000000 in
theorem laid_met (os : Os) (args : Array Value) : laidMet Tryz.prog laid0 ((laidWorld os).forCall (fun _ _ => 0) ⟨#[], args, []⟩).memory :=
  (LaidIn.of_run (l := laid0) [] 8 (by kernel_rfl) (by kernel_rfl) (by kernel_rfl) (by kernel_rfl)).met
end Ax
end Go.Proofs.YtcmepallgchcjaaGreat
