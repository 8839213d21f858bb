/- Intrinsics: what stands in the place of functions without a body. -/
import Derived.Test.YtnnhkajjifmlfaaDoorX25
import Derived.Laws.Externs
namespace Go.Proofs.YtnnhkajjifmlfaaDoor
namespace Ax
/-- the first place of a byte -/
noncomputable def idxB (l : List UInt8) (c : Nat) : Nat → (Int → R) → R :=
  List.rec (motive := fun _ => Nat → (Int → R) → R) (fun _ k => k (.negSucc 0)) (fun a _ ih i k => Bool.rec (ih (i + 1) k) (k (.ofNat i)) (Nat.beq a.toNat c)) l
def isU8 (q : IntKind) : Bool := Nat.beq (kidx q) 4
/-- bytealg.IndexByteString -/
noncomputable def ixIB : Ix := fun vs h n k => match vs with
  | [.s l, .i q (.ofNat c)] => ifK (isU8 q && Nat.ble c 255) 301 fun _ => idxB l c 0 fun z => k (.i .i64 z) h n
  | _ => .er 301
theorem byte_beq (a : UInt8) {c : Nat} (hc : c ≤ 255) : (a == (c : Int).toNat.toUInt8) = Nat.beq a.toNat c := by
  rw [Bool.eq_iff_iff, beq_iff_eq, beq_iff, ← UInt8.toNat_inj]
  have : ((c : Int).toNat.toUInt8).toNat = c := by
    simp [Nat.toUInt8]
    omega
  rw [this]
theorem idxB_eq (l : List UInt8) (c : Nat) (hc : c ≤ 255) : ∀ (i : Nat) (k : Int → R), idxB l c i k = k (match (List.range l.length).find? (fun j => l[j]! == (c : Int).toNat.toUInt8) with | some j => ((i + j : Nat) : Int) | none => -1) := by
  induction l with
  | nil => intro i k; rfl
  | cons a l ih =>
    intro i k
    have e : idxB (a :: l) c i k = Bool.rec (idxB l c (i + 1) k) (k (.ofNat i)) (Nat.beq a.toNat c) := rfl
    rw [e, List.length_cons, List.range_succ_eq_map, List.find?_cons]
    have h0 : ((a :: l)[0]! == (c : Int).toNat.toUInt8) = Nat.beq a.toNat c := by
      rw [← byte_beq a hc]; rfl
    rw [h0]
    cases hb : Nat.beq a.toNat c with
    | true => rfl
    | false =>
      rw [List.find?_map]
      show idxB l c (i + 1) k = _
      rw [ih (i + 1) k]
      congr 1
      have : ((fun j => (a :: l)[j]! == (c : Int).toNat.toUInt8) ∘ Nat.succ) = fun j => l[j]! == (c : Int).toNat.toUInt8 := by
        funext j; simp
      rw [this]
      cases (List.range l.length).find? (fun j => l[j]! == (c : Int).toNat.toUInt8) with
      | none => rfl
      | some j => simp; omega
/-- a function without a body, of the model's own -/
theorem ix_ib {E : Env} {f : FuncId} {fn : Func} (hf : E.P.funcs[f]? = some fn) (hname : (fn.name == "runtime.NumGoroutine") = false) (hb : fn.body.isNone = true) (hn : Extern.findNext fn = none) (he : Extern.find fn = some Extern.BytealgIndexByte.indexByte) :
    ∀ us h n k, Ok (ixIB us h n k) → ∃ v h' n', ixIB us h n k = k v h' n' ∧ CallS E f us h n v h' n' := by
  intro us h n k hk
  unfold ixIB at hk ⊢
  split at hk
  · rename_i l q c
    obtain ⟨h1, h2⟩ := ifK_inv hk
    rw [h2]
    rw [Bool.and_eq_true, ble_iff] at h1
    have hq : q = .u8 := by
      have := h1.1
      unfold isU8 at this
      cases q <;> first | rfl | (simp [kidx] at this)
    subst hq
    rw [idxB_eq l c h1.2]
    refine ⟨_, _, _, rfl, Nat.le_refl _, fun ρ w args hg hu hR hF => ?_⟩
    obtain ⟨a0, r0, e0, g1, g2⟩ := hu.cons_inv
    obtain ⟨a1, r1, e1, g3, g4⟩ := g2.cons_inv
    have e2 := g4.nil_inv
    subst e2
    subst e1
    have hargs : args = #[.string ⟨l.toArray⟩, .int .u8 c] := by
      apply Array.ext'
      rw [e0, g1.s_inv, g3.i_inv]
      rfl
    have hfi : firstIdx ⟨l.toArray⟩ (c : Int).toNat.toUInt8 = (match (List.range l.length).find? (fun j => l[j]! == (c : Int).toNat.toUInt8) with | some j => ((0 + j : Nat) : Int) | none => -1) := by
      unfold firstIdx
      rw [s_size]
      have hg : (fun i : Nat => (⟨l.toArray⟩ : ByteArray)[i]! == (c : Int).toNat.toUInt8) = fun j : Nat => l[j]! == (c : Int).toNat.toUInt8 := by
        funext j
        congr 1
        by_cases hj : j < l.length
        · rw [getElem!_pos l j hj, getElem!_pos (⟨l.toArray⟩ : ByteArray) j (by rw [s_size]; exact hj)]; rfl
        · rw [getElem!_neg l j hj, getElem!_neg (⟨l.toArray⟩ : ByteArray) j (by rw [s_size]; exact hj)]
      rw [hg]
      cases (List.range l.length).find? (fun j => l[j]! == (c : Int).toNat.toUInt8) with
      | none => rfl
      | some j => simp
    refine ⟨.value (.int .i64 (firstIdx ⟨l.toArray⟩ (c : Int).toNat.toUInt8)), w, by rw [run_callFunc_extern hf hname hb hn he, hargs, run_indexByte_string]; rfl, ?_⟩
    refine ⟨ρ, Step.refl hR, ?_⟩
    rw [hfi]
    exact .i _ _
  · exact (ok_er hk).elim
end Ax
end Go.Proofs.YtnnhkajjifmlfaaDoor
