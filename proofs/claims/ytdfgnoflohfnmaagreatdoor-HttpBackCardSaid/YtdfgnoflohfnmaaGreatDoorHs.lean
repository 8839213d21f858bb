/- HTTP: two connections and two lists of requests, as the laws hold them. -/
import Derived.Test.YtdfgnoflohfnmaaGreatDoorHr
namespace Go.Proofs.YtdfgnoflohfnmaaGreatDoor.Hx
open Go.RowKit Go.Maps

/-- the blocks that may not turn -/
def SS (C D : Nat) (bo bp : Option Nat) (v v' : Value) (k : Nat) : Prop := k ≠ C ∧ k ≠ D ∧ bo ≠ some k ∧ bp ≠ some k ∧ v.ownBlock ≠ some k ∧ v'.ownBlock ≠ some k
structure PS (w wr : World) (C D : Nat) (bo bp : Option Nat) (bc bd : Bs) (oc od : Bool) (v v' : Value) (l l' : List Rq) : Prop where
  gb : w.grownBy wr none
  hC : w.heap.size ≤ C
  hD : w.heap.size ≤ D
  hCD : C ≠ D
  c : CN wr C bo bc oc
  d : CN wr D bp bd od
  ho : ∀ k, bo = some k → w.heap.size ≤ k ∧ k ≠ D ∧ bp ≠ some k
  hp : ∀ k, bp = some k → w.heap.size ≤ k ∧ k ≠ C ∧ bo ≠ some k
  lv : LT wr w.heap.size (SS C D bo bp v v') v l
  lv' : LT wr w.heap.size (SS C D bo bp v v') v' l'
  hv : ∀ k, v.ownBlock = some k → k ≠ C ∧ k ≠ D ∧ bo ≠ some k ∧ bp ≠ some k ∧ v'.ownBlock ≠ some k
  hv' : ∀ k, v'.ownBlock = some k → k ≠ C ∧ k ≠ D ∧ bo ≠ some k ∧ bp ≠ some k ∧ v.ownBlock ≠ some k
section
variable {w wr W : World} {C D : Nat} {bo bp : Option Nat} {bc bd : Bs} {oc od : Bool} {v v' : Value} {l l' : List Rq}
theorem LT.olt {base : Nat} {S : Nat → Prop} (h : LT wr base S v l) {k : Nat} (hk : v.ownBlock = some k) : base ≤ k ∧ k < wr.heap.size := by
  obtain ⟨xs, ho, _⟩ := h
  exact ho.lt k hk
theorem PS.grown (h : PS w wr C D bo bp bc bd oc od v v' l l') (hg : wr.grownBy W none) : PS w W C D bo bp bc bd oc od v v' l l' :=
  ⟨gb_trans h.gb hg, h.hC, h.hD, h.hCD, h.c.grown hg, h.d.grown hg, h.ho, h.hp, h.lv.gt (T := fun _ => False) (.of_none hg) (fun _ _ h => h) (fun _ _ h => ⟨fun h => h, h⟩), h.lv'.gt (T := fun _ => False) (.of_none hg) (fun _ _ h => h) (fun _ _ h => ⟨fun h => h, h⟩), h.hv, h.hv'⟩
/-- the first connection tells something -/
theorem PS.next (h : PS w wr C D bo bp bc bd oc od v v' l l') {bc' : Bs} {oc' : Bool} (hc : CN W C bo bc' oc') (hg : wr.grownBy W (some C)) : PS w W C D bo bp bc' bd oc' od v v' l l' := by
  have hC := h.hC
  have gT : GT wr W (fun k => k = C) := .of_some hg rfl
  refine ⟨gb_more h.gb hg (fun g e => .inr (by cases e; exact hC)), h.hC, h.hD, h.hCD, hc, h.d.gt gT h.hCD.symm (fun b hb e => (h.hp b hb).2.1 e), h.ho, h.hp, h.lv.gt gT (fun k hk => (h.hv k hk).1) (fun b _ hs => ⟨hs.1, hs⟩), h.lv'.gt gT (fun k hk => (h.hv' k hk).1) (fun b _ hs => ⟨hs.1, hs⟩), h.hv, h.hv'⟩
/-- the first connection is fed -/
theorem PS.feed (h : PS w wr C D bo bp bc bd oc od v v' l l') {bo' : Option Nat} {bc' : Bs} {oc' : Bool} (hc : CN W C bo' bc' oc') (hg : GT wr W (fun k => k = C ∨ bo = some k)) (hb : bo' = none ∨ bo' = bo ∨ ∃ k, bo' = some k ∧ wr.heap.size ≤ k) : PS w W C D bo' bp bc' bd oc' od v v' l l' := by
  have hC := h.hC
  have hgs := h.gb.size
  have hn : ∀ k, k < wr.heap.size → SS C D bo bp v v' k → bo' ≠ some k := fun k hk hs e => by
    rcases hb with rfl | rfl | ⟨j, rfl, hj⟩
    · cases e
    · exact hs.2.2.1 e
    · have := Option.some.inj e; omega
  have hS : ∀ k, k < wr.heap.size → SS C D bo bp v v' k → ¬ (k = C ∨ bo = some k) ∧ SS C D bo' bp v v' k := fun k hk hs => ⟨fun e => by rcases e with e | e; exact hs.1 e; exact hs.2.2.1 e, hs.1, hs.2.1, hn k hk hs, hs.2.2.2⟩
  have hbn : ∀ k, k < wr.heap.size → bo ≠ some k → bo' ≠ some k := fun k hk hs e => by
    rcases hb with rfl | rfl | ⟨j, rfl, hj⟩
    · cases e
    · exact hs e
    · have := Option.some.inj e; omega
  refine ⟨(GT.of_none (T := fun k => k = C ∨ bo = some k) h.gb).trans hg (fun _ _ h => h) |>.grown (fun b hb e => ?_), h.hC, h.hD, h.hCD, hc, h.d.gt hg (fun e => ?_) (fun b hb e => ?_), fun k hk => ?_, fun k hk => ?_, h.lv.gt hg (fun k hk e => ?_) hS, h.lv'.gt hg (fun k hk e => ?_) hS, fun k hk => ?_, fun k hk => ?_⟩
  · rcases e with e | e
    · omega
    · have := (h.ho b e).1; omega
  · rcases e with e | e
    · exact h.hCD e.symm
    · exact (h.ho D e).2.1 rfl
  · rcases e with e | e
    · exact (h.hp b hb).2.1 e
    · exact (h.hp b hb).2.2 e
  · rcases hb with rfl | rfl | ⟨j, rfl, hj⟩
    · cases hk
    · exact h.ho k hk
    · have e := Option.some.inj hk
      have hd := h.d.lt
      exact ⟨by omega, by omega, fun e2 => by have := h.d.blt e2; omega⟩
  · have := h.d.blt hk
    exact ⟨(h.hp k hk).1, (h.hp k hk).2.1, hbn k this (h.hp k hk).2.2⟩
  · obtain ⟨h1, h2, h3, h4, h5⟩ := h.hv k hk
    rcases e with e | e
    · exact h1 e
    · exact h3 e
  · obtain ⟨h1, h2, h3, h4, h5⟩ := h.hv' k hk
    rcases e with e | e
    · exact h1 e
    · exact h3 e
  · obtain ⟨h1, h2, h3, h4, h5⟩ := h.hv k hk
    exact ⟨h1, h2, hbn k (h.lv.olt hk).2 h3, h4, h5⟩
  · obtain ⟨h1, h2, h3, h4, h5⟩ := h.hv' k hk
    exact ⟨h1, h2, hbn k (h.lv'.olt hk).2 h3, h4, h5⟩
/-- a request is put behind the first list -/
theorem PS.put (h : PS w wr C D bo bp bc bd oc od v v' l l') {xs : List R5} (hl : xs.length = l.length) (ha : ∀ i (h1 : i < l.length) (h2 : i < xs.length), RA wr (SS C D bo bp v v') l[i] xs[i])
    {r : Rq} {x : R5} (hx : RA wr (SS C D bo bp v v') r x) {v1 : Value} (hg : wr.grownBy W v.ownBlock) (ho : W.ownsRow w.heap.size 32 5 v1 (l.length + 1) (xs.flatMap R5.cells ++ x.cells)) (hat : v1.ownBlock = v.ownBlock ∨ v1.ownBlock = some wr.heap.size) :
    PS w W C D bo bp bc bd oc od v1 v' (l ++ [r]) l' := by
  have hgs := h.gb.size
  have gT : GT wr W (fun k => v.ownBlock = some k) := .of_gb hg (fun k e => e)
  have hc := h.c.lt
  have hd := h.d.lt
  have hS : ∀ k, k < wr.heap.size → SS C D bo bp v v' k → ¬ v.ownBlock = some k ∧ SS C D bo bp v1 v' k := fun k hk hs => ⟨hs.2.2.2.2.1, hs.1, hs.2.1, hs.2.2.1, hs.2.2.2.1, fun e => by
    rcases hat with e1 | e1
    · rw [e1] at e; exact hs.2.2.2.2.1 e
    · rw [e1] at e; have := Option.some.inj e; omega, hs.2.2.2.2.2⟩
  have hRA : ∀ {r : Rq} {x : R5}, RA wr (SS C D bo bp v v') r x → RA W (SS C D bo bp v1 v') r x := fun hx => ((hx.mono (S' := fun b => ¬ v.ownBlock = some b ∧ SS C D bo bp v1 v' b) hS).gt gT (fun b h => h.1)).mono (fun b _ h => h.2)
  refine ⟨gb_more h.gb hg (fun g e => .inr (h.lv.olt e).1), h.hC, h.hD, h.hCD, h.c.gt gT (fun e => (h.hv C e).1 rfl) (fun b hb e => (h.hv b e).2.2.1 hb), h.d.gt gT (fun e => (h.hv D e).2.1 rfl) (fun b hb e => (h.hv b e).2.2.2.1 hb), h.ho, h.hp,
    LT.snoc ho hl (fun i h1 h2 => hRA (ha i h1 h2)) (hRA hx), h.lv'.gt gT (fun k hk e => (h.hv k e).2.2.2.2 hk) hS, fun k hk => ?_, fun k hk => ?_⟩
  · rcases hat with e1 | e1
    · rw [e1] at hk; exact h.hv k hk
    · rw [e1] at hk
      have e := Option.some.inj hk
      exact ⟨by omega, by omega, fun e2 => by have := h.c.blt e2; omega, fun e2 => by have := h.d.blt e2; omega, fun e2 => by have := (h.lv'.olt e2).2; omega⟩
  · obtain ⟨h1, h2, h3, h4, h5⟩ := h.hv' k hk
    refine ⟨h1, h2, h3, h4, fun e => ?_⟩
    rcases hat with e1 | e1
    · rw [e1] at e; exact h5 e
    · rw [e1] at e
      have e := Option.some.inj e
      have := (h.lv'.olt hk).2
      omega
end
/-- integers in a slice -/
def IV (w : World) (v : Value) (l : List Int) : Prop := ∃ A c, v = .slice A l.length c ∧ ∀ i (h : i < l.length), (∃ g o, A = some ⟨g, o, none⟩ ∧ w.cell? ⟨g, o + i, none⟩ = some (.int .i64 l[i])) ∧ -9223372036854775808 ≤ l[i] ∧ l[i] ≤ 9223372036854775807
theorem BV.grown {w w' : World} {v : Value} {bs : Bs} (h : BV w v bs) (hg : w.grownBy w' none) : BV w' v bs := by
  obtain ⟨A, c, e, h1, h2⟩ := h
  exact ⟨A, c, e, h1, fun h0 => by obtain ⟨b, o, e, hb⟩ := h2 h0; exact ⟨b, o, e, hb.grown hg (by simp)⟩⟩
end Go.Proofs.YtdfgnoflohfnmaaGreatDoor.Hx
