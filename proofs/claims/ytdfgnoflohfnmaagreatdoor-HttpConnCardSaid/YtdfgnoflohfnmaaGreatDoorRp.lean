/- HTTP: a connection of the program's and one of the document's, side by side. -/
import Derived.Test.YtdfgnoflohfnmaaGreatDoorRn
import Derived.Test.YtdfgnoflohfnmaaGreatDoorHs
namespace Go.Proofs.YtdfgnoflohfnmaaGreatDoor.Hx
open Go.RowKit Go.Maps

structure QS (w wr : World) (C D : Nat) (bo bp : Option Nat) (bc bd : Bs) (oc od : Bool) : Prop where
  gb : w.grownBy wr none
  hC : w.heap.size ≤ C
  hD : w.heap.size ≤ D
  hCD : C ≠ D
  c : CN wr C bo bc oc
  d : RN wr D bp bd od
  ho : ∀ k, bo = some k → w.heap.size ≤ k ∧ k ≠ D ∧ bp ≠ some k
  hp : ∀ k, bp = some k → w.heap.size ≤ k ∧ k ≠ C ∧ bo ≠ some k
section
variable {w wr W : World} {C D : Nat} {bo bp : Option Nat} {bc bd : Bs} {oc od : Bool}
theorem QS.grown (h : QS w wr C D bo bp bc bd oc od) (hg : wr.grownBy W none) : QS w W C D bo bp bc bd oc od :=
  ⟨gb_trans h.gb hg, h.hC, h.hD, h.hCD, h.c.grown hg, h.d.grown hg, h.ho, h.hp⟩
theorem QS.nextC (h : QS w wr C D bo bp bc bd oc od) {bc' : Bs} {oc' : Bool} (hc : CN W C bo bc' oc') (hg : wr.grownBy W (some C)) : QS w W C D bo bp bc' bd oc' od := by
  have hC := h.hC
  exact ⟨gb_more h.gb hg (fun g e => .inr (by cases e; exact hC)), h.hC, h.hD, h.hCD, hc, h.d.gt (.of_some (T := fun k => k = C) hg rfl) h.hCD.symm (fun b hb e => (h.hp b hb).2.1 e), h.ho, h.hp⟩
theorem QS.nextD (h : QS w wr C D bo bp bc bd oc od) {bp' : Option Nat} {bd' : Bs} {od' : Bool} (hd : RN W D bp' bd' od') (hg : wr.grownBy W (some D)) (hb : bp' = none ∨ bp' = bp ∨ ∃ k, bp' = some k ∧ wr.heap.size ≤ k) : QS w W C D bo bp' bc bd' oc od' := by
  have hD := h.hD
  have hcl := h.c.lt
  have hgs := h.gb.size
  refine ⟨gb_more h.gb hg (fun g e => .inr (by cases e; exact hD)), h.hC, h.hD, h.hCD, h.c.gt (.of_some (T := fun k => k = D) hg rfl) h.hCD (fun b hb e => (h.ho b hb).2.1 e), hd, fun k hk => ⟨(h.ho k hk).1, (h.ho k hk).2.1, fun e => ?_⟩, fun k hk => ?_⟩
  · rcases hb with rfl | rfl | ⟨j, rfl, hj⟩
    · cases e
    · exact (h.ho k hk).2.2 e
    · have := Option.some.inj e; have := h.c.blt hk; omega
  · rcases hb with rfl | rfl | ⟨j, rfl, hj⟩
    · cases hk
    · exact h.hp k hk
    · have e := Option.some.inj hk
      exact ⟨by omega, by omega, fun e2 => by have := h.c.blt e2; omega⟩
theorem QS.feedC (h : QS w wr C D bo bp bc bd oc od) {bo' : Option Nat} {bc' : Bs} {oc' : Bool} (hc : CN W C bo' bc' oc') (hg : GT wr W (fun k => k = C ∨ bo = some k)) (hb : bo' = none ∨ bo' = bo ∨ ∃ k, bo' = some k ∧ wr.heap.size ≤ k) : QS w W C D bo' bp bc' bd oc' od := by
  have hC := h.hC
  have hgs := h.gb.size
  have hdl := h.d.lt
  refine ⟨(GT.of_none (T := fun k => k = C ∨ bo = some k) h.gb).trans hg (fun _ _ h => h) |>.grown (fun b hb e => ?_), h.hC, h.hD, h.hCD, hc, h.d.gt hg (fun e => ?_) (fun b hb e => ?_), fun k hk => ?_, fun k hk => ⟨(h.hp k hk).1, (h.hp k hk).2.1, fun e => ?_⟩⟩
  · rcases e with e | e
    · omega
    · have := (h.ho b e).1; omega
  · rcases e with e | e
    · exact h.hCD e.symm
    · exact (h.ho D e).2.1 rfl
  · rcases e with e | e
    · exact (h.hp b hb).2.1 e
    · exact (h.hp b hb).2.2 e
  · rcases hb with rfl | rfl | ⟨j, rfl, hj⟩
    · cases hk
    · exact h.ho k hk
    · have e := Option.some.inj hk
      exact ⟨by omega, by omega, fun e2 => by have := h.d.blt e2; omega⟩
  · have := h.d.blt hk
    rcases hb with rfl | rfl | ⟨j, rfl, hj⟩
    · cases e
    · exact (h.hp k hk).2.2 e
    · have := Option.some.inj e; omega
theorem QS.feedD (h : QS w wr C D bo bp bc bd oc od) {bp' : Option Nat} {bd' : Bs} {od' : Bool} (hd : RN W D bp' bd' od') (hg : GT wr W (fun k => k = D ∨ bp = some k)) (hb : bp' = none ∨ bp' = bp ∨ ∃ k, bp' = some k ∧ wr.heap.size ≤ k) : QS w W C D bo bp' bc bd' oc od' := by
  have hD := h.hD
  have hgs := h.gb.size
  have hcl := h.c.lt
  refine ⟨(GT.of_none (T := fun k => k = D ∨ bp = some k) h.gb).trans hg (fun _ _ h => h) |>.grown (fun b hb e => ?_), h.hC, h.hD, h.hCD, h.c.gt hg (fun e => ?_) (fun b hb e => ?_), hd, fun k hk => ⟨(h.ho k hk).1, (h.ho k hk).2.1, fun e => ?_⟩, fun k hk => ?_⟩
  · rcases e with e | e
    · omega
    · have := (h.hp b e).1; omega
  · rcases e with e | e
    · exact h.hCD e
    · exact (h.hp C e).2.1 rfl
  · rcases e with e | e
    · exact (h.ho b hb).2.1 e
    · exact (h.ho b hb).2.2 e
  · have := h.c.blt hk
    rcases hb with rfl | rfl | ⟨j, rfl, hj⟩
    · cases e
    · exact (h.ho k hk).2.2 e
    · have := Option.some.inj e; omega
  · rcases hb with rfl | rfl | ⟨j, rfl, hj⟩
    · cases hk
    · exact h.hp k hk
    · have e := Option.some.inj hk
      exact ⟨by omega, by omega, fun e2 => by have := h.c.blt e2; omega⟩
def fcd (ov : Bool) : Int := if ov then 10 else 0
def fed (ov : Bool) (bs news : Bs) : Bs := if ov then bs else bs ++ news
theorem feedC_qs (x : Value) (news : Bs) (h : QS w wr C D bo bp bc bd oc od) (hx : BV wr x news) (hn : bc.length ≤ 20000) (hm : news.length ≤ 20000) :
    Calls Tryz.prog 9 #[.pointer (some ⟨C, 0, none⟩), x] wr fun e w' => e = .returned (.int .i64 (fcd oc)) ∧ ∃ bo', QS w w' C D bo' bp (fed oc bc news) bd oc od := by
  refine (feed_cn C bo bc news oc x wr h.c hx (by omega) (by omega)).mono ?_
  intro e w' hk
  unfold FcK at hk
  cases oc with
  | true => rw [if_pos rfl] at hk; obtain ⟨rfl, rfl⟩ := hk; exact ⟨rfl, bo, h⟩
  | false =>
    rw [if_neg (by decide), if_neg (by omega)] at hk
    obtain ⟨rfl, bo', hc, hg, hb⟩ := hk
    exact ⟨rfl, bo', h.feedC hc hg hb⟩
theorem feedD_qs (x : Value) (news : Bs) (h : QS w wr C D bo bp bc bd oc od) (hx : BV wr x news) (hn : bd.length ≤ 20000) (hm : news.length ≤ 20000) :
    Calls Tryz.prog 15 #[.pointer (some ⟨D, 0, none⟩), x] wr fun e w' => e = .returned (.int .i64 (fcd od)) ∧ ∃ bp', QS w w' C D bo bp' bc (fed od bd news) oc od := by
  refine (rfeed_cn D bp bd news od x wr h.d hx (by omega) (by omega)).mono ?_
  intro e w' hk
  unfold RFcK at hk
  cases od with
  | true => rw [if_pos rfl] at hk; obtain ⟨rfl, rfl⟩ := hk; exact ⟨rfl, bp, h⟩
  | false =>
    rw [if_neg (by decide), if_neg (by omega)] at hk
    obtain ⟨rfl, bp', hc, hg, hb⟩ := hk
    exact ⟨rfl, bp', h.feedD hc hg hb⟩
end
def wt (ov : Bool) (bs : Bs) : Bs := if ov then [] else bs
theorem wt_fed (ov : Bool) (bs news : Bs) : fed ov (wt ov bs) news = wt ov (fed ov bs news) := by cases ov <;> rfl
theorem wt_len (ov : Bool) (bs : Bs) : (wt ov bs).length ≤ bs.length := by cases ov <;> simp [wt]
theorem fed_len (ov : Bool) (bs news : Bs) : (fed ov bs news).length ≤ bs.length + news.length := by cases ov <;> simp [fed]
section
variable {w wr : World} {C D : Nat} {bo bp : Option Nat} {bc : Bs} {ov : Bool}
theorem stopC_qs (m : Int) (h : QS w wr C D bo bp bc (wt ov bc) ov ov) (hm : MX wr m) (hl : bc.length ≤ 20000) (hs : ov = true ∨ nextP bc = .more) :
    Calls Tryz.prog 10 #[.pointer (some ⟨C, 0, none⟩)] wr fun e w' => e = .returned (.tuple #[req0, .int .i64 0, .bool false]) ∧ QS w w' C D bo bp bc (wt ov bc) ov ov := by
  refine (next_cn C bo bc ov m wr h.c hm (by omega)).mono ?_
  intro e w' hk
  unfold NcK at hk
  cases ov with
  | true => rw [if_pos rfl] at hk; exact ⟨hk.1, h.grown hk.2.2⟩
  | false =>
    rcases hs with e | hn
    · cases e
    · rw [if_neg (by decide), hn] at hk
      exact ⟨hk.1, h.grown hk.2.2⟩
theorem stopD_qs (h : QS w wr C D bo bp bc (wt ov bc) ov ov) (hl : bc.length ≤ 20000) (hs : ov = true ∨ nextP bc = .more) :
    Calls Tryz.prog 16 #[.pointer (some ⟨D, 0, none⟩)] wr fun e w' => e = .returned (.tuple #[req0, .int .i64 0, .bool false]) ∧ QS w w' C D bo bp bc (wt ov bc) ov ov ∧ wr.grownBy w' none := by
  refine (rnext_cases D bp (wt ov bc) ov wr h.d (by have := wt_len ov bc; omega)).mono ?_
  intro e w' hk
  unfold RNcK at hk
  cases ov with
  | true => rw [if_pos rfl] at hk; exact ⟨hk.1, h.grown hk.2.2, hk.2.2⟩
  | false =>
    rcases hs with e | hn
    · cases e
    · rw [if_neg (by decide), show wt false bc = bc from rfl, hn] at hk
      exact ⟨hk.1, h.grown hk.2.2, hk.2.2⟩
def told (bs : Bs) : Rq × Int × Bs × Bool := match nextP bs with
  | .more => (rq0, 0, bs, false)
  | .fault st => (rq0, st, bs, true)
  | .req r n => (r, 0, bs.drop n, r.cl)
theorem told_lft {bs : Bs} (hs : nextP bs ≠ .more) : lft (told bs).2.2.2 (told bs).2.2.1 < lft false bs ∧ (told bs).2.2.1.length ≤ bs.length := by
  have e0 : lft false bs = bs.length + 1 := rfl
  unfold told
  cases hn : nextP bs with
  | more => exact absurd hn hs
  | fault st => exact ⟨by rw [e0]; unfold lft; simp, Nat.le_refl _⟩
  | req r n =>
    obtain ⟨_, h2, h3⟩ := (next_app bs []).2 r n hn
    refine ⟨?_, by dsimp only; rw [List.length_drop]; omega⟩
    dsimp only
    rw [e0]
    unfold lft
    split
    · omega
    · rw [List.length_drop]; omega
theorem tellC_qs (m : Int) (h : QS w wr C D bo bp bc (wt false bc) false false) (hm : MX wr m) (hl : bc.length ≤ 20000) (hs : nextP bc ≠ .more) :
    Calls Tryz.prog 10 #[.pointer (some ⟨C, 0, none⟩)] wr fun e w' => ∃ xm xp A n c xc A2 n2 c2,
      e = .returned (.tuple #[.agg #[.string xm, .string xp, .slice A n c, .bool xc, .slice A2 n2 c2], .int .i64 (told bc).2.1, .bool true]) ∧ RA w' (fun k => wr.heap.size ≤ k) (told bc).1 ⟨xm, xp, .slice A n c, xc, .slice A2 n2 c2⟩ ∧
      QS w w' C D bo bp (told bc).2.2.1 bc (told bc).2.2.2 false ∧ wr.heap.size ≤ w'.heap.size := by
  refine (next_cn C bo bc false m wr h.c hm (by omega)).mono ?_
  intro e w' hk
  unfold NcK at hk
  rw [if_neg (by decide)] at hk
  unfold told
  cases hn : nextP bc with
  | more => exact absurd hn hs
  | fault st =>
    rw [hn] at hk
    obtain ⟨rfl, hc, hg⟩ := hk
    exact ⟨_, _, _, _, _, _, _, _, _, rfl, RA.zero _ _, h.nextC hc hg, hg.size⟩
  | req r n =>
    rw [hn] at hk
    obtain ⟨x, rfl, hx, hc, hg⟩ := hk
    obtain ⟨xm, xp, A, n1, c, xc, A2, n2, c2, rfl⟩ := hx.shape
    exact ⟨xm, xp, A, n1, c, xc, A2, n2, c2, rfl, hx, h.nextC hc hg, hg.size⟩
theorem tellD_qs {bc' : Bs} {oc' : Bool} (h : QS w wr C D bo bp bc' bc oc' false) (hl : bc.length ≤ 20000) (hs : nextP bc ≠ .more) :
    Calls Tryz.prog 16 #[.pointer (some ⟨D, 0, none⟩)] wr fun e w' => ∃ xm xp A n c xc A2 n2 c2 bp',
      e = .returned (.tuple #[.agg #[.string xm, .string xp, .slice A n c, .bool xc, .slice A2 n2 c2], .int .i64 (told bc).2.1, .bool true]) ∧ RA w' (fun k => wr.heap.size ≤ k) (told bc).1 ⟨xm, xp, .slice A n c, xc, .slice A2 n2 c2⟩ ∧
      QS w w' C D bo bp' bc' (wt (told bc).2.2.2 (told bc).2.2.1) oc' (told bc).2.2.2 ∧ wr.grownBy w' (some D) := by
  refine (rnext_cases D bp bc false wr h.d (by omega)).mono ?_
  intro e w' hk
  unfold RNcK at hk
  rw [if_neg (by decide)] at hk
  unfold told
  cases hn : nextP bc with
  | more => exact absurd hn hs
  | fault st =>
    rw [hn] at hk
    obtain ⟨rfl, hc, hg⟩ := hk
    exact ⟨_, _, _, _, _, _, _, _, _, none, rfl, RA.zero _ _, h.nextD hc hg (.inl rfl), hg⟩
  | req r n =>
    rw [hn] at hk
    obtain ⟨x, bp', rfl, hx, hc, hb, hg⟩ := hk
    obtain ⟨xm, xp, A, n1, c, xc, A2, n2, c2, rfl⟩ := hx.shape
    exact ⟨xm, xp, A, n1, c, xc, A2, n2, c2, bp', rfl, hx, h.nextD hc hg (hb.imp id .inr), hg⟩
end
theorem left_cn (C : Nat) (bo : Option Nat) (bs : Bs) (ov : Bool) (w : World) (h : CN w C bo bs ov) : Calls Tryz.prog 18 #[.pointer (some ⟨C, 0, none⟩)] w fun e w' => e = .returned (.int .i64 ((wt ov bs).length : Nat)) ∧ w' = w := by
  obtain ⟨bw, h1, h2, _⟩ := h
  have hs : ∃ A c, bw = .slice A bs.length c := by
    rcases h2 with ⟨rfl, rfl, _⟩ | ⟨b, _, _, hf⟩
    · exact ⟨none, 0, rfl⟩
    · obtain ⟨A, c, e, _⟩ := hf.shape; exact ⟨A, c, e⟩
  obtain ⟨A, c, e⟩ := hs
  refine (left_any C bw ov bs A c w h1 e).mono ?_
  rintro e w' ⟨rfl, rfl⟩
  cases ov <;> exact ⟨rfl, rfl⟩
theorem rleft_cn (C : Nat) (bo : Option Nat) (bs : Bs) (ov : Bool) (w : World) (h : RN w C bo bs ov) : Calls Tryz.prog 19 #[.pointer (some ⟨C, 0, none⟩)] w fun e w' => e = .returned (.int .i64 (bs.length : Nat)) ∧ w' = w := by
  obtain ⟨bw, h1, h2, _⟩ := h
  have hs : ∃ A c, bw = .slice A bs.length c := by
    rcases h2 with ⟨rfl, rfl, _⟩ | ⟨b, _, _, hf⟩
    · exact ⟨none, 0, rfl⟩
    · obtain ⟨A, c, e, _⟩ := hf.shape; exact ⟨A, c, e⟩
  obtain ⟨A, c, e⟩ := hs
  exact rleft_any C bw ov bs A c w h1 e
def LV (w : World) (v : Value) (ls : List Bs) : Prop := ∃ A c, v = .slice A ls.length c ∧ ∀ i (h : i < ls.length), ∃ g o, A = some ⟨g, o, none⟩ ∧ ∃ u k, w.cell? ⟨g, o + i, none⟩ = some (.slice u ls[i].length k) ∧ BV w (.slice u ls[i].length k) ls[i] ∧ ls[i].length ≤ 140737488355328
def tot (ls : List Bs) : Nat := (ls.map List.length).sum
theorem tot_take {ls : List Bs} {i : Nat} (h : i < ls.length) : tot (ls.take (i + 1)) = tot (ls.take i) + ls[i].length := by
  unfold tot
  rw [List.take_succ_eq_append_getElem h]
  simp only [List.map_append, List.sum_append, List.map_cons, List.map_nil, List.sum_cons, List.sum_nil, Nat.add_zero]
theorem tot_le (ls : List Bs) (i : Nat) : tot (ls.take i) ≤ tot ls := by
  unfold tot
  conv => rhs; rw [← List.take_append_drop i ls]
  rw [List.map_append, List.sum_append]
  exact Nat.le_add_right _ _
end Go.Proofs.YtdfgnoflohfnmaaGreatDoor.Hx
