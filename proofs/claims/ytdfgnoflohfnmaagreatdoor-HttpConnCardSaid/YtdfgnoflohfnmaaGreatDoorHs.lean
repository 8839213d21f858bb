/- HTTP: two connections and two lists of requests, as the laws hold them. -/
import Derived.Test.YtdfgnoflohfnmaaGreatDoorHr
namespace Go.Proofs.YtdfgnoflohfnmaaGreatDoor.Hx
open Go.RowKit Go.Maps

def SS (C D : Nat) (bo bp : Option Nat) (v v' : Value) (k : Nat) : Prop := k ≠ C ∧ k ≠ D ∧ bo ≠ some k ∧ bp ≠ some k ∧ v.ownBlock ≠ some k ∧ v'.ownBlock ≠ some k
structure PS (w wr : World) (C D : Nat) (bo bp : Option Nat) (bc bd : Bs) (oc od : Bool) (v v' : Value) (l l' : List Rq) : Prop where
  gb : w.grownBy wr none
  hC : w.heap.size ≤ C
  hD : w.heap.size ≤ D
  hCD : C ≠ D
  c : CN wr C bo bc oc
  d : CN wr D bp bd od
  ho : ∀ k, bo = some k → w.heap.size ≤ k ∧ k ≠ D ∧ bp ≠ some k
  hp : ∀ k, bp = some k → w.heap.size ≤ k ∧ k ≠ C ∧ bo ≠ some k
  lv : LT wr w.heap.size (SS C D bo bp v v') v l
  lv' : LT wr w.heap.size (SS C D bo bp v v') v' l'
  hv : ∀ k, v.ownBlock = some k → k ≠ C ∧ k ≠ D ∧ bo ≠ some k ∧ bp ≠ some k ∧ v'.ownBlock ≠ some k
  hv' : ∀ k, v'.ownBlock = some k → k ≠ C ∧ k ≠ D ∧ bo ≠ some k ∧ bp ≠ some k ∧ v.ownBlock ≠ some k
section
variable {w wr W : World} {C D : Nat} {bo bp : Option Nat} {bc bd : Bs} {oc od : Bool} {v v' : Value} {l l' : List Rq}
theorem PS.grown (h : PS w wr C D bo bp bc bd oc od v v' l l') (hg : wr.grownBy W none) : PS w W C D bo bp bc bd oc od v v' l l' :=
  ⟨gb_trans h.gb hg, h.hC, h.hD, h.hCD, h.c.grown hg, h.d.grown hg, h.ho, h.hp, h.lv.gt (T := fun _ => False) (.of_none hg) (fun _ _ h => h) (fun _ _ h => ⟨fun h => h, h⟩), h.lv'.gt (T := fun _ => False) (.of_none hg) (fun _ _ h => h) (fun _ _ h => ⟨fun h => h, h⟩), h.hv, h.hv'⟩
end
theorem BV.grown {w w' : World} {v : Value} {bs : Bs} (h : BV w v bs) (hg : w.grownBy w' none) : BV w' v bs := by
  obtain ⟨A, c, e, h1, h2⟩ := h
  exact ⟨A, c, e, h1, fun h0 => by obtain ⟨b, o, e, hb⟩ := h2 h0; exact ⟨b, o, e, hb.grown hg (by simp)⟩⟩
end Go.Proofs.YtdfgnoflohfnmaaGreatDoor.Hx
