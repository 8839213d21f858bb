/- The seat's tables tell the truth; the world in which its laws begin. -/
import Derived.Test.YtdfgnoflohfnmaaGreatDoorXd
import Derived.Test.YtdfgnoflohfnmaaGreatDoorXt
import Derived.Test.YtdfgnoflohfnmaaGreatDoorRows
import Derived.Lib.LaidIn
import Derived.Lib.LaidU8
namespace Go.Proofs.YtdfgnoflohfnmaaGreatDoor
namespace Ax
open Go.Lib
theorem own0 : ownKnob Tryz.prog.godebug = none := by kernel_rfl
theorem e0_ok : EOK E0 where
  ti := fun t i h => by
    have h : (Tr.build 9 fun p => mkTI Tryz.prog (p.nat - 1)).get none (pth t) = some i := h
    rcases build_get (none : Option TI) 9 (fun p => mkTI Tryz.prog (p.nat - 1)) (pth t) with e | e
    · rw [e] at h; cases h
    · rw [e, nat_pth, Nat.add_sub_cancel] at h; exact h
  fn := fun f g h => by
    have h : (Tr.build 9 fun p => fnOk Tryz.prog.funcs[p.nat - 1]?).get none (pth f) = some g := h
    rcases build_get (none : Option Func) 9 (fun p => fnOk Tryz.prog.funcs[p.nat - 1]?) (pth f) with e | e
    · rw [e] at h; cases h
    · rw [e, nat_pth, Nat.add_sub_cancel] at h
      unfold fnOk at h
      split at h
      · rename_i g' hg'
        split at h
        · cases h
        · rename_i hn
          injection h with h
          subst h
          exact ⟨hg', hn⟩
      · cases h
  mix := by kernel_rfl
theorem c0_ok : CodeT E0 ix0 code0 := codeI_ok E0 _ ix0
theorem star0 : "*" ++ "errors.errorString" = "*errors.errorString" := by decide
set_option maxRecDepth 100000 in
theorem row0 (u : TypeId) (h : Tryz.prog.typeName? 3 u = some "*errors.errorString") : u = 196 :=
  typeName_ptr_named (nm := "errors.errorString") (by rw [star0]; kernel_rfl) (by kernel_rfl) (by decide) u (by rw [star0]; exact h)
theorem ns0 : Ns Tryz.prog [("*errors.errorString", 196)] := by
  intro n u h u' hu'
  rcases List.mem_cons.1 h with e | e
  · have e1 : n = "*errors.errorString" := congrArg Prod.fst e
    have e2 : u = 196 := congrArg Prod.snd e
    rw [e1] at hu'
    rw [e2]
    exact row0 u' hu'
  · cases e
theorem ix0_ok1 : IxOK1 E0 ix0 := by
  intro f g hfg
  unfold ix0 at hfg
  split at hfg
  · injection hfg with e
    subst e
    exact ix_ib (fn := Tryz.f139) Tryz.func139 (by kernel_rfl) (by kernel_rfl) (by kernel_rfl) (by kernel_rfl)
  · injection hfg with e
    subst e
    exact ix_ne (fn := Tryz.f140) Tryz.func140 (by kernel_rfl) (by kernel_rfl) (by kernel_rfl) (by kernel_rfl)
  · injection hfg with e
    subst e
    exact ix_iy (fn := Tryz.f141) Tryz.func141 (by kernel_rfl) (by kernel_rfl) (by kernel_rfl) (by kernel_rfl)
  · injection hfg with e
    subst e
    exact ix_ct (fn := Tryz.f144) Tryz.func144 (by kernel_rfl) (by kernel_rfl) (by kernel_rfl) (by kernel_rfl)
  · injection hfg with e
    subst e
    exact ix_ix (g := 0) (by kernel_rfl) (of_decide_eq_true (by kernel_rfl)) (fn := Tryz.f109) Tryz.func109 (by kernel_rfl) (by kernel_rfl) (by kernel_rfl) (by kernel_rfl)
  · injection hfg with e
    subst e
    exact ix_ix (g := 0) (by kernel_rfl) (of_decide_eq_true (by kernel_rfl)) (fn := Tryz.f127) Tryz.func127 (by kernel_rfl) (by kernel_rfl) (by kernel_rfl) (by kernel_rfl)
  · injection hfg with e
    subst e
    exact ix_mz (ps := Tryz.f162.params) (t := 22) (e := 5) (by kernel_rfl) (fn := Tryz.f162) Tryz.func162 (by kernel_rfl) (by kernel_rfl) (by kernel_rfl) (by kernel_rfl)
  · cases hfg
theorem ix0_ok : IxOK E0 ix0 := ix0_ok1.all
theorem ng0 : E0.ng = 9 := by kernel_rfl
end Ax
end Go.Proofs.YtdfgnoflohfnmaaGreatDoor
