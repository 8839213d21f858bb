/- A closed fact of the card: no go statement stands in the whole translation. -/
import Derived.Test.YtpimllnmacnfoaaGreatDoorCards
import Derived.Test.YtpimllnmacnfoaaGreatDoorTie
import Derived.KernelRfl
namespace Go.Proofs.YtpimllnmacnfoaaGreatDoor.storeNilLaw
open Go
set_option maxRecDepth 1000000 in
theorem none_goes : Tryz.prog.funcs.any Func.goes = false := by kernel_rfl
theorem goes_no {P : Program} (h : P.funcs.any Func.goes = false) (f : FuncId) : P.goes f = false := by
  have each : ∀ g : FuncId, (P.funcs[g]?).any Func.goes = false := by
    intro g
    cases hg : P.funcs[g]? with
    | none => rfl
    | some fn =>
      cases hv : Func.goes fn with
      | false => simpa using hv
      | true =>
        have : P.funcs.any Func.goes = true := Array.any_eq_true'.2 ⟨fn, Array.mem_of_getElem? hg, hv⟩
        rw [h] at this; cases this
  unfold Program.goes
  rw [h, Bool.and_false, Bool.or_false, List.any_eq_false]
  intro g _
  rw [each g]; simp
theorem goesAt_no {P : Program} (h : P.funcs.any Func.goes = false) (s : Start) (n : String) : P.goesAt s n = false := by
  unfold Program.goesAt Program.goesFrom
  have h1 : (P.funcNamed n).any P.goes = false := by
    cases P.funcNamed n with
    | none => rfl
    | some f => simpa using goes_no h f
  rw [h1, Bool.false_or]
  cases s with
  | entering => rfl
  | _ => all_goals (rw [List.any_eq_false]; intro f _; rw [goes_no h f]; simp)
theorem goes : false = Rows.storeNilUptoRow.goesBy Tryz.pinned.checked.prog := (goesAt_no (P := Tryz.prog) none_goes _ _).symm
end Go.Proofs.YtpimllnmacnfoaaGreatDoor.storeNilLaw
