/- HTTP: what was sent is told, in plain words; a list of requests; a connection that hears them. -/
import Derived.Test.YtdfgnoflohfnmaaGreatDoorBl
import Derived.Test.YtdfgnoflohfnmaaGreatDoorHs
namespace Go.Proofs.YtdfgnoflohfnmaaGreatDoor.Hx
open Go.RowKit Go.Maps

/-- what was sent, one behind the other -/
def strm (l : List Rq) : Bs := l.flatMap sendP
/-- how far the connection has told what was sent -/
def HS (S : List Rq) (t bs : Bs) (ov : Bool) (k : Nat) : Prop :=
  k ≤ S.length ∧ (if ov then 0 < k ∧ (S[k - 1]?.map Rq.cl) = some true else bs ++ t = strm (S.drop k))
section
variable {S : List Rq} {t bs : Bs} {ov : Bool} {k : Nat}
theorem HS.eq (h : HS S t bs false k) : bs ++ t = strm (S.drop k) := by have := h.2; rwa [if_neg (by decide)] at this
theorem HS.cl (h : HS S t bs true k) : 0 < k ∧ ∃ hk : k - 1 < S.length, S[k - 1].cl = true := by
  obtain ⟨h1, h2⟩ := h
  rw [if_pos rfl] at h2
  have hk : k - 1 < S.length := by omega
  refine ⟨h2.1, hk, ?_⟩
  have := h2.2
  rw [List.getElem?_eq_getElem hk] at this
  simpa using this
theorem HS.len (h : HS S t bs false k) : bs.length + t.length ≤ (strm S).length := by
  have e := congrArg List.length h.eq
  rw [List.length_append] at e
  rw [e]
  have : strm S = strm (S.take k) ++ strm (S.drop k) := by unfold strm; rw [← List.flatMap_append, List.take_append_drop]
  rw [this, List.length_append]; omega
end
/-- a connection that hears what was sent: t is to come, k told -/
structure HC (w wr : World) (C : Nat) (S : List Rq) (t bs : Bs) (bo : Option Nat) (ov : Bool) (k : Nat) : Prop where
  gb : w.grownBy wr none
  hC : w.heap.size ≤ C
  c : CN wr C bo bs ov
  ho : ∀ b, bo = some b → w.heap.size ≤ b
  hs : HS S t bs ov k
section
variable {w wr W : World} {C : Nat} {S : List Rq} {t bs : Bs} {bo : Option Nat} {ov : Bool} {k : Nat}
theorem HC.grown (h : HC w wr C S t bs bo ov k) (hg : wr.grownBy W none) : HC w W C S t bs bo ov k := ⟨gb_trans h.gb hg, h.hC, h.c.grown hg, h.ho, h.hs⟩
end
end Go.Proofs.YtdfgnoflohfnmaaGreatDoor.Hx
