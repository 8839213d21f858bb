/- The seat's tables tell the truth; the world in which its laws begin. -/
import Derived.Test.YtnnhkajjifmlfaaDoorXd
import Derived.Test.YtnnhkajjifmlfaaDoorXt
import Derived.Test.YtnnhkajjifmlfaaDoorRows
import Derived.Lib.LaidIn
namespace Go.Proofs.YtnnhkajjifmlfaaDoor
namespace Ax
open Go.Lib
theorem own0 : ownKnob Tryd.prog.godebug = none := by kernel_rfl
theorem e0_ok : EOK E0 where
  ti := fun t i h => by
    have h : (Tr.build 10 fun p => mkTI Tryd.prog (p.nat - 1)).get none (pth t) = some i := h
    rcases build_get (none : Option TI) 10 (fun p => mkTI Tryd.prog (p.nat - 1)) (pth t) with e | e
    · rw [e] at h; cases h
    · rw [e, nat_pth, Nat.add_sub_cancel] at h; exact h
  fn := fun f g h => by
    have h : (Tr.build 9 fun p => fnOk Tryd.prog.funcs[p.nat - 1]?).get none (pth f) = some g := h
    rcases build_get (none : Option Func) 9 (fun p => fnOk Tryd.prog.funcs[p.nat - 1]?) (pth f) with e | e
    · rw [e] at h; cases h
    · rw [e, nat_pth, Nat.add_sub_cancel] at h
      unfold fnOk at h
      split at h
      · rename_i g' hg'
        split at h
        · cases h
        · rename_i hn
          injection h with h
          subst h
          exact ⟨hg', hn⟩
      · cases h
  mix := by kernel_rfl
theorem c0_ok : CodeT E0 ix0 code0 := fun f => by
  unfold code0 ctab
  rcases build_get ((0, .bad 299) : Nat × CD) 9 (fun p => codeOf E0 ix0 (p.nat - 1)) (pth f) with e | e
  · right
    exact ⟨299, congrArg Prod.snd e⟩
  · left
    exact e.trans (by rw [nat_pth, Nat.add_sub_cancel])
theorem star0 : "*" ++ "errors.errorString" = "*errors.errorString" := by decide
set_option maxRecDepth 100000 in
theorem row0 (u : TypeId) (h : Tryd.prog.typeName? 3 u = some "*errors.errorString") : u = 193 :=
  typeName_ptr_named (nm := "errors.errorString") (by rw [star0]; kernel_rfl) (by kernel_rfl) (by decide) u (by rw [star0]; exact h)
theorem ns0 : Ns Tryd.prog [("*errors.errorString", 193)] := by
  intro n u h u' hu'
  rcases List.mem_cons.1 h with e | e
  · have e1 : n = "*errors.errorString" := congrArg Prod.fst e
    have e2 : u = 193 := congrArg Prod.snd e
    rw [e1] at hu'
    rw [e2]
    exact row0 u' hu'
  · cases e
/-- internal/abi.NoEscape -/
theorem ix_ne {E : Env} {f : FuncId} {fn : Func} (hf : E.P.funcs[f]? = some fn) (hname : (fn.name == "runtime.NumGoroutine") = false) (hb : fn.body.isNone = true) (hn : Extern.findNext fn = none) (he : Extern.find fn = some Extern.AbiNoEscape.same) :
    ∀ us h n k, Ok (ixNE us h n k) → ∃ v h' n', ixNE us h n k = k v h' n' ∧ CallS E f us h n v h' n' := by
  intro us h n k hk
  unfold ixNE at hk ⊢
  split at hk
  · rename_i v
    refine ⟨_, _, _, rfl, Nat.le_refl _, fun ρ w args hg hu hR hF => ?_⟩
    obtain ⟨a0, r0, e0, g1, g2⟩ := hu.cons_inv
    have e2 := g2.nil_inv
    subst e2
    have hargs : args = #[a0] := by
      apply Array.ext'
      rw [e0]
    refine ⟨.value a0, w, by rw [run_callFunc_extern hf hname hb hn he, hargs]; rfl, ?_⟩
    exact ⟨ρ, Step.refl hR, g1⟩
  · exact (ok_er hk).elim
theorem ix0_ok : IxOK E0 ix0 := by
  intro f g hfg
  unfold ix0 at hfg
  split at hfg
  · injection hfg with e
    subst e
    exact ix_ib (fn := Tryd.f152) Tryd.func152 (by kernel_rfl) (by kernel_rfl) (by kernel_rfl) (by kernel_rfl)
  · injection hfg with e
    subst e
    exact ix_ne (fn := Tryd.f154) Tryd.func154 (by kernel_rfl) (by kernel_rfl) (by kernel_rfl) (by kernel_rfl)
  · cases hfg
def laid0 : List (String × DataW Unit) := [("math/bits.deBruijn32tab", Rows.laid_math_bits_deBruijn32tab), ("math/bits.deBruijn64tab", Rows.laid_math_bits_deBruijn64tab), ("internal/strconv.uint64pow10", Rows.laid_internal_strconv_uint64pow10), ("strconv.ErrRange", Rows.laid_strconv_ErrRange), ("strconv.ErrSyntax", Rows.laid_strconv_ErrSyntax)]
theorem ng0 : E0.ng = 6 := by kernel_rfl
theorem begun0 {W : World} (hL : laidMet Tryd.prog laid0 W) (hsh : W.ShapedOpen Tryd.prog) : Begun gl0 E0.ng W := by
  intro x hx
  rw [ng0]
  rcases List.mem_cons.1 hx with rfl | hx
  · exact ⟨by decide, laid_block hL hsh ns0 (n := "internal/strconv.uint64pow10") (d := Rows.laid_internal_strconv_uint64pow10) (.tail _ (.tail _ (.head _))) (g := 1) (t := 184) (by kernel_rfl) (of_decide_eq_true (by kernel_rfl)) (by kernel_rfl) (by kernel_rfl) (by kernel_rfl)⟩
  rcases List.mem_cons.1 hx with rfl | hx
  · exact ⟨by decide, laid_block hL hsh ns0 (n := "strconv.ErrSyntax") (d := Rows.laid_strconv_ErrSyntax) (.tail _ (.tail _ (.tail _ (.tail _ (.head _))))) (g := 2) (t := 126) (by kernel_rfl) (of_decide_eq_true (by kernel_rfl)) (by kernel_rfl) (by kernel_rfl) (by kernel_rfl)⟩
  rcases List.mem_cons.1 hx with rfl | hx
  · exact ⟨by decide, laid_block hL hsh ns0 (n := "strconv.ErrRange") (d := Rows.laid_strconv_ErrRange) (.tail _ (.tail _ (.tail _ (.head _)))) (g := 3) (t := 126) (by kernel_rfl) (of_decide_eq_true (by kernel_rfl)) (by kernel_rfl) (by kernel_rfl) (by kernel_rfl)⟩
  rcases List.mem_cons.1 hx with rfl | hx
  · exact ⟨by decide, laid_block hL hsh ns0 (n := "math/bits.deBruijn32tab") (d := Rows.laid_math_bits_deBruijn32tab) (.head _) (g := 4) (t := 196) (by kernel_rfl) (of_decide_eq_true (by kernel_rfl)) (by kernel_rfl) (by kernel_rfl) (by kernel_rfl)⟩
  rcases List.mem_cons.1 hx with rfl | hx
  · exact ⟨by decide, laid_block hL hsh ns0 (n := "math/bits.deBruijn64tab") (d := Rows.laid_math_bits_deBruijn64tab) (.tail _ (.head _)) (g := 5) (t := 197) (by kernel_rfl) (of_decide_eq_true (by kernel_rfl)) (by kernel_rfl) (by kernel_rfl) (by kernel_rfl)⟩
  cases hx
/-- a world for the witness: the variables hold what their initialisers lay -/
noncomputable def laidWorld (os : Os) : World :=
  let N := (World.settled Tryd.prog os).heap.size
  let w0 := World.holding Tryd.prog os ⟨#[.cells #[.string ⟨#[105, 110, 118, 97, 108, 105, 100, 32, 115, 121, 110, 116, 97, 120]⟩] 195, .cells #[.string ⟨#[118, 97, 108, 117, 101, 32, 111, 117, 116, 32, 111, 102, 32, 114, 97, 110, 103, 101]⟩] 195], #[], []⟩
  let put (h : Array Obj) (g : Nat) (cs : Array Value) : Array Obj := h.modify g fun
    | .cells _ t frozen => .cells cs t frozen
    | o => o
  let h0 := put (w0.heap) 1 #[.int .u64 1, .int .u64 10, .int .u64 100, .int .u64 1000, .int .u64 10000, .int .u64 100000, .int .u64 1000000, .int .u64 10000000, .int .u64 100000000, .int .u64 1000000000, .int .u64 10000000000, .int .u64 100000000000, .int .u64 1000000000000, .int .u64 10000000000000, .int .u64 100000000000000, .int .u64 1000000000000000, .int .u64 10000000000000000, .int .u64 100000000000000000, .int .u64 1000000000000000000, .int .u64 10000000000000000000]
  let h1 := put (h0) 2 #[.iface 193 (.pointer (some ⟨N + 0, 0, none⟩))]
  let h2 := put (h1) 3 #[.iface 193 (.pointer (some ⟨N + 1, 0, none⟩))]
  let h3 := put (h2) 4 #[.int .u8 0, .int .u8 1, .int .u8 28, .int .u8 2, .int .u8 29, .int .u8 14, .int .u8 24, .int .u8 3, .int .u8 30, .int .u8 22, .int .u8 20, .int .u8 15, .int .u8 25, .int .u8 17, .int .u8 4, .int .u8 8, .int .u8 31, .int .u8 27, .int .u8 13, .int .u8 23, .int .u8 21, .int .u8 19, .int .u8 16, .int .u8 7, .int .u8 26, .int .u8 12, .int .u8 18, .int .u8 6, .int .u8 11, .int .u8 5, .int .u8 10, .int .u8 9]
  let h4 := put (h3) 5 #[.int .u8 0, .int .u8 1, .int .u8 56, .int .u8 2, .int .u8 57, .int .u8 49, .int .u8 28, .int .u8 3, .int .u8 61, .int .u8 58, .int .u8 42, .int .u8 50, .int .u8 38, .int .u8 29, .int .u8 17, .int .u8 4, .int .u8 62, .int .u8 47, .int .u8 59, .int .u8 36, .int .u8 45, .int .u8 43, .int .u8 51, .int .u8 22, .int .u8 53, .int .u8 39, .int .u8 33, .int .u8 30, .int .u8 24, .int .u8 18, .int .u8 12, .int .u8 5, .int .u8 63, .int .u8 55, .int .u8 48, .int .u8 27, .int .u8 60, .int .u8 41, .int .u8 37, .int .u8 16, .int .u8 46, .int .u8 35, .int .u8 44, .int .u8 21, .int .u8 52, .int .u8 32, .int .u8 23, .int .u8 11, .int .u8 54, .int .u8 26, .int .u8 40, .int .u8 15, .int .u8 34, .int .u8 20, .int .u8 31, .int .u8 10, .int .u8 25, .int .u8 14, .int .u8 19, .int .u8 9, .int .u8 13, .int .u8 8, .int .u8 7, .int .u8 6]
  { w0 with heap := h4 }
noncomputable abbrev N0 : Nat := (World.settled Tryd.prog default).heap.size
set_option maxRecDepth 1000000 in
theorem laid_met (os : Os) (args : Array Value) : laidMet Tryd.prog laid0 ((laidWorld os).forCall (fun _ _ => 0) ⟨#[], args, []⟩).memory :=
  (LaidIn.of_run (l := laid0) [4, 5, 1, 3, N0 + 1, 2, N0 + 0] 8 (by kernel_rfl) (by kernel_rfl) (by kernel_rfl) (by kernel_rfl)).met
end Ax
end Go.Proofs.YtnnhkajjifmlfaaDoor
