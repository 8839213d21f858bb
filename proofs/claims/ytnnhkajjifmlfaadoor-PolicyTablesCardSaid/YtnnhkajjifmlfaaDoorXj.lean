/- The seat's tables for the laws on values: escape's intrinsic among them. -/
import Derived.Test.YtnnhkajjifmlfaaDoorXE
import Derived.Test.YtnnhkajjifmlfaaDoorY0
namespace Go.Proofs.YtnnhkajjifmlfaaDoor
namespace Ax
noncomputable def ix1 : FuncId → Option Ix := fun f => match f with
  | 152 => some ixIB
  | 154 => some ixNE
  | 129 => some ixEs
  | _ => none
noncomputable def ctab1 : Tr (Nat × CD) := Tr.build 9 fun p => codeOf E0 ix1 (p.nat - 1)
noncomputable def code1 (f : FuncId) : Nat × CD := ctab1.get (0, .bad 299) (pth f)
theorem c1_ok : CodeT E0 ix1 code1 := fun f => by
  unfold code1 ctab1
  rcases build_get ((0, .bad 299) : Nat × CD) 9 (fun p => codeOf E0 ix1 (p.nat - 1)) (pth f) with e | e
  · right
    exact ⟨299, congrArg Prod.snd e⟩
  · left
    exact e.trans (by rw [nat_pth, Nat.add_sub_cancel])
theorem fn129 : ∃ cd, E0.fn 129 = some Tryd.f129 ∧ Tryd.f129.body = some cd := by
  have h : (E0.fn 129 = some Tryd.f129) := by kernel_rfl
  have h2 : Tryd.f129.body.isSome = true := by kernel_rfl
  obtain ⟨cd, h3⟩ := Option.isSome_iff_exists.1 h2
  exact ⟨cd, h, h3⟩
theorem ix1_ok : IxOK E0 ix1 := by
  intro f g hfg
  unfold ix1 at hfg
  split at hfg
  · injection hfg with e
    subst e
    exact ix_ib (fn := Tryd.f152) Tryd.func152 (by kernel_rfl) (by kernel_rfl) (by kernel_rfl) (by kernel_rfl)
  · injection hfg with e
    subst e
    exact ix_ne (fn := Tryd.f154) Tryd.func154 (by kernel_rfl) (by kernel_rfl) (by kernel_rfl) (by kernel_rfl)
  · injection hfg with e
    subst e
    obtain ⟨cd, h1, h2⟩ := fn129
    exact ix_es rfl e0_ok h1 h2
  · cases hfg
end Ax
end Go.Proofs.YtnnhkajjifmlfaaDoor
