/- PolicyTables' call, whole; a trace among the arguments, opened. -/
import Derived.Test.YtnnhkajjifmlfaaDoorEk
import Derived.Test.YtnnhkajjifmlfaaDoorEw
namespace Go.Proofs.YtnnhkajjifmlfaaDoor.Pl
open Go.RowKit Go.ChangeShapes Go.WideShapes

theorem tables_any {w : World} {p q : List PN} {S S' : Nat → Prop} {vp vq : Value} {hi lo hi2 lo2 : Nat} {l : List Ad} {u : Value} (h : TGiven w p q S S' vp vq hi lo hi2 lo2 l u) :
    Calls Tryd.prog 11 #[.agg #[vp], .agg #[vq], .agg #[.int .u64 hi, .int .u64 lo], .agg #[.int .u64 hi2, .int .u64 lo2], u] w fun e w' => e = .returned (.bool true) ∧ w.grownBy w' none := by
  by_cases h1 : p.length ≤ 30
  · by_cases h2 : q.length ≤ 30
    · cases h3 : smallP p with
      | false => exact tables_psm h h1 h2 h3
      | true =>
        cases h4 : smallP q with
        | false => exact tables_qsm h h1 h2 h3 h4
        | true =>
          by_cases h5 : checkN p = 0
          · by_cases h6 : checkN q = 0
            · exact tables_main h h1 h2 h3 h4 h5 h6
            · exact tables_qck h h1 h2 h3 h4 h5 h6
          · exact tables_pck h h1 h2 h3 h4 h5
    · exact tables_q30 h h1 (by omega)
  · exact tables_p30 h (by omega)
section
variable {H : Type} {enc : TypeId × Value → H} {w : World} {sp : Nat → Bool} {hd : Bool}
theorem u64_wf {n : Int} (h : (Lit.int .u64 n).wf = true) : 0 ≤ n ∧ n < 18446744073709551616 := by
  simp [Lit.wf, IntKind.min, IntKind.max, IntKind.bits, IntKind.signed] at h
  omega
set_option maxRecDepth 100000 in
theorem open_trace {fuel : Nat} {cs : List Value} {x : DataW H × List MemPlace} (h : DataW.trod enc Tryd.prog w 0 sp hd fuel 57 cs = some x) :
    ∃ a b : Nat, a < 18446744073709551616 ∧ b < 18446744073709551616 ∧ cs = [.int .u64 a, .int .u64 b] := by
  obtain ⟨xs, n, hfu, rfl, hlen, hxl, hf⟩ := DataW.trod_struct Tryd.underlying57 h
  rw [cellsOf57] at hlen
  obtain ⟨a0, a1, rfl⟩ : ∃ a0 a1, cs = [a0, a1] := by
    match cs, hlen with
    | [a0, a1], _ => exact ⟨a0, a1, rfl⟩
  obtain ⟨x0, x1, rfl⟩ : ∃ x0 x1, xs = [x0, x1] := by
    match xs, hxl with
    | [x0, x1], _ => exact ⟨x0, x1, rfl⟩
  have h0 : DataW.trod enc Tryd.prog w 0 sp hd n 55 [a0] = some x0 := by
    have := hf 0 _ rfl
    simpa [cellsOf55] using this
  obtain ⟨n0, e0, _, w0⟩ := DataW.trod_int Tryd.underlying55 h0
  injection e0 with e0 _
  subst e0
  have h1 : DataW.trod enc Tryd.prog w 0 sp hd n 55 [a1] = some x1 := by
    have := hf 1 _ rfl
    simpa [cellsOf55] using this
  obtain ⟨n1, e1, _, w1⟩ := DataW.trod_int Tryd.underlying55 h1
  injection e1 with e1 _
  subst e1
  obtain ⟨l0, r0⟩ := u64_wf w0
  obtain ⟨l1, r1⟩ := u64_wf w1
  exact ⟨n0.toNat, n1.toNat, by omega, by omega, by rw [Int.toNat_of_nonneg l0, Int.toNat_of_nonneg l1]⟩
end
end Go.Proofs.YtnnhkajjifmlfaaDoor.Pl
