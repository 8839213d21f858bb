/- HTTP: bytes and integers among the arguments opened. -/
import Derived.Test.YtdfgnoflohfnmaaGreatDoorHs
import Derived.ChangeSlices
import Derived.ProofKit
namespace Go.Proofs.YtdfgnoflohfnmaaGreatDoor.Hx
open Go.RowKit Go.Maps Go.ChangeShapes

section
variable {H : Type} {enc : TypeId × Value → H} {w : World} {base : Nat} {spare : Nat → Bool} {held : Bool}
theorem open_bytes {fuel : Nat} {cs : List Value} {x : DataW H × List MemPlace} (h : DataW.trod enc Tryz.prog w base spare held fuel 22 cs = some x) : ∃ v bs, cs = [v] ∧ BV w v bs := by
  rcases open_ints Tryz.underlying22 Tryz.underlying5 (by kernel_rfl) h with ⟨rfl, _⟩ | ⟨a, len, cap, zs, rfl, _, hl, _, hz, _, hc, hw⟩
  · exact ⟨_, [], rfl, none, 0, rfl, Nat.le_refl _, fun h => absurd rfl h⟩
  · have hlz : len ≤ zs.length := by rw [hz]; split <;> omega
    have e : ((zs.take len).map fun z => UInt8.ofNat z.toNat).length = len := by simp; omega
    refine ⟨_, (zs.take len).map fun z => UInt8.ofNat z.toNat, rfl, some a, cap, by rw [e], by rw [e]; exact hl, fun h0 => ?_⟩
    have hpos : 0 < len := by
      rcases Nat.eq_zero_or_pos len with h | h
      · subst h; simp at h0
      · exact h
    obtain ⟨b, o, spot⟩ := a
    have c0 := hc 0 (by omega)
    have hspot : spot = none := by simpa [Addr.add] using World.cell?_spot c0
    subst hspot
    refine ⟨b, o, rfl, fun i hi => ?_⟩
    rw [e] at hi
    have h1 := hc i (by omega)
    rw [add_lit] at h1
    rw [h1]
    have hiz : i < zs.length := by omega
    have hd : zs.getD i 0 = zs[i] := by simp [hiz]
    have hwz := hw zs[i] (List.getElem_mem _)
    have hr : 0 ≤ zs[i] ∧ zs[i] ≤ 255 := by
      simpa [Lit.wf, IntKind.has, IntKind.min, IntKind.max, IntKind.signed, IntKind.bits] using hwz
    rw [hd]
    simp only [List.getElem_map, List.getElem_take]
    have : ((UInt8.ofNat zs[i].toNat).toNat : Int) = zs[i] := by
      rw [UInt8.toNat_ofNat']
      omega
    rw [this]
end
end Go.Proofs.YtdfgnoflohfnmaaGreatDoor.Hx
