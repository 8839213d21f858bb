/- HTTP: connections as the laws hold them; what is told, in plain words. -/
import Derived.Test.YtdfgnoflohfnmaaGreatDoorHq
namespace Go.Proofs.YtdfgnoflohfnmaaGreatDoor.Hx
open Go.RowKit Go.Maps

/-- what waits, and where it lies (none: nowhere) -/
def BW (w : World) (bw : Value) (bo : Option Nat) (bs : Bs) : Prop := (bw = .slice none 0 0 ∧ bs = [] ∧ bo = none) ∨ ∃ b, bo = some b ∧ b < w.heap.size ∧ BF w bw b bs
theorem BF.bw {w : World} {v : Value} {b : Nat} {bs : Bs} (h : BF w v b bs) : ∃ bo, BW w v bo bs ∧ (bo = none ∨ bo = some b) := by
  rcases h with ⟨rfl, rfl⟩ | ⟨off, cap, cur, rfl, h1, h2, hb, h3, h4⟩
  · exact ⟨none, .inl ⟨rfl, rfl, rfl⟩, .inl rfl⟩
  · exact ⟨some b, .inr ⟨b, rfl, (Array.getElem?_eq_some_iff.1 hb).1, .inr ⟨off, cap, cur, rfl, h1, h2, hb, h3, h4⟩⟩, .inr rfl⟩
/-- a connection -/
def CN (w : World) (C : Nat) (bo : Option Nat) (bs : Bs) (ov : Bool) : Prop := ∃ bw, CB w C bw ov ∧ BW w bw bo bs ∧ bo ≠ some C
section
variable {w w' : World} {C : Nat} {bo : Option Nat} {bs : Bs} {ov : Bool} {T : Nat → Prop}
theorem CN.lt (h : CN w C bo bs ov) : C < w.heap.size := by obtain ⟨bw, h, _⟩ := h; exact h.lt
theorem CN.blt (h : CN w C bo bs ov) {b : Nat} (hb : bo = some b) : b < w.heap.size := by
  obtain ⟨bw, _, h | ⟨b', e, hl, _⟩, _⟩ := h
  · rw [h.2.2] at hb; cases hb
  · rw [e] at hb; cases hb; exact hl
theorem CN.gt (h : CN w C bo bs ov) (hg : GT w w' T) (hC : ¬ T C) (hb : ∀ b, bo = some b → ¬ T b) : CN w' C bo bs ov := by
  obtain ⟨bw, h1, h2, h3⟩ := h
  refine ⟨bw, h1.gt hg hC, h2.imp id ?_, h3⟩
  rintro ⟨b, e, hl, hf⟩
  exact ⟨b, e, Nat.lt_of_lt_of_le hl hg.size, hf.gt hg (hb b e)⟩
theorem CN.grown (h : CN w C bo bs ov) (hg : w.grownBy w' none) : CN w' C bo bs ov := h.gt (T := fun _ => False) (.of_none hg) (fun h => h) (fun _ _ h => h)
end
theorem new_cn (w : World) : Calls Tryz.prog 8 #[] w fun e w' => e = .returned (.pointer (some ⟨w.heap.size, 0, none⟩)) ∧ CN w' w.heap.size none [] false ∧ w.grownBy w' none ∧ w'.heap.size = w.heap.size + 1 := by
  go_enter Tryz.func8, Tryz.ntmps8
  go_wp2_with fail
  go_ret
  exact ⟨rfl, ⟨_, heap_alloc_new _ _, .inl ⟨rfl, rfl, rfl⟩, by simp⟩, gb_alloc (gb_refl _ _) _, by simp⟩
/-- what Feed leaves -/
def FcK (C : Nat) (bo : Option Nat) (bs news : Bs) (ov : Bool) (w : World) (e : Ending) (w' : World) : Prop :=
  if ov then e = .returned (.int .i64 10) ∧ w' = w
  else if 1048576 < bs.length + news.length then e = .returned (.int .i64 3) ∧ w' = w
  else e = .returned (.int .i64 0) ∧ ∃ bo', CN w' C bo' (bs ++ news) false ∧ GT w w' (fun k => k = C ∨ bo = some k) ∧ (bo' = none ∨ bo' = bo ∨ ∃ k, bo' = some k ∧ w.heap.size ≤ k)
theorem feed_cn (C : Nat) (bo : Option Nat) (bs news : Bs) (ov : Bool) (x : Value) (w : World) (h : CN w C bo bs ov) (hx : BV w x news) (hn : bs.length ≤ 1048576) (hm : news.length ≤ 1000000) :
    Calls Tryz.prog 9 #[.pointer (some ⟨C, 0, none⟩), x] w (FcK C bo bs news ov w) := by
  have hC := h.lt
  obtain ⟨bw, h1, h2, h3⟩ := h
  rcases h2 with ⟨rfl, rfl, rfl⟩ | ⟨b, rfl, hl, hf⟩
  · refine (feed_any C w.heap.size _ ov [] news x w h1 (BF.nil _ _) (by omega) hx hn hm).mono ?_
    intro e w' hk
    unfold FeK at hk
    unfold FcK
    split
    · next ho => rw [if_pos ho] at hk; exact hk
    · next ho =>
      rw [if_neg ho] at hk
      split
      · next hb => rw [if_pos hb] at hk; exact hk
      · next hb =>
        rw [if_neg hb] at hk
        obtain ⟨rfl, v, b', hc, hf, hg, hb'⟩ := hk
        have hge : w.heap.size ≤ b' := by rcases hb' with rfl | h; exact Nat.le_refl _; exact h
        obtain ⟨bo', hw, ho'⟩ := hf.bw
        refine ⟨rfl, bo', ⟨v, hc, hw, ?_⟩, hg.mono (fun k hk e => by rcases e with e | e; exact .inl e; omega), ?_⟩
        · rcases ho' with rfl | rfl
          · simp
          · intro e; have := Option.some.inj e; omega
        · rcases ho' with rfl | rfl
          · exact .inl rfl
          · exact .inr (.inr ⟨b', rfl, hge⟩)
  · have hbC : b ≠ C := fun e => h3 (by rw [e])
    refine (feed_any C b _ ov bs news x w h1 hf hbC hx hn hm).mono ?_
    intro e w' hk
    unfold FeK at hk
    unfold FcK
    split
    · next ho => rw [if_pos ho] at hk; exact hk
    · next ho =>
      rw [if_neg ho] at hk
      split
      · next hb => rw [if_pos hb] at hk; exact hk
      · next hb =>
        rw [if_neg hb] at hk
        obtain ⟨rfl, v, b', hc, hf, hg, hb'⟩ := hk
        obtain ⟨bo', hw, ho'⟩ := hf.bw
        refine ⟨rfl, bo', ⟨v, hc, hw, ?_⟩, hg.mono (fun k hk e => by rcases e with e | e; exact .inl e; exact .inr (by rw [e])), ?_⟩
        · rcases ho' with rfl | rfl
          · simp
          · intro e
            have e := Option.some.inj e
            rcases hb' with h | h
            · exact hbC (h ▸ e)
            · omega
        · rcases ho' with rfl | rfl
          · exact .inl rfl
          · rcases hb' with rfl | h
            · exact .inr (.inl rfl)
            · exact .inr (.inr ⟨b', rfl, h⟩)
/-- what Next leaves -/
def NcK (C : Nat) (bo : Option Nat) (bs : Bs) (ov : Bool) (w : World) (e : Ending) (w' : World) : Prop :=
  if ov then e = .returned (.tuple #[x0.val, .int .i64 0, .bool false]) ∧ CN w' C bo bs true ∧ w.grownBy w' none
  else match nextP bs with
  | .more => e = .returned (.tuple #[x0.val, .int .i64 0, .bool false]) ∧ CN w' C bo bs false ∧ w.grownBy w' none
  | .fault st => e = .returned (.tuple #[x0.val, .int .i64 st, .bool true]) ∧ CN w' C bo bs true ∧ w.grownBy w' (some C)
  | .req r n => ∃ x : R5, e = .returned (.tuple #[x.val, .int .i64 0, .bool true]) ∧ RA w' (fun k => w.heap.size ≤ k) r x ∧ CN w' C bo (bs.drop n) r.cl ∧ w.grownBy w' (some C)
theorem next_cn (C : Nat) (bo : Option Nat) (bs : Bs) (ov : Bool) (m : Int) (w : World) (h : CN w C bo bs ov) (hm : MX w m) (hl : bs.length ≤ 2000000) :
    Calls Tryz.prog 10 #[.pointer (some ⟨C, 0, none⟩)] w (NcK C bo bs ov w) := by
  obtain ⟨bw, h1, h2, h3⟩ := h
  cases ov with
  | true =>
    refine (next_over C 0 bw bs w h1).mono ?_
    intro e w' hk
    unfold NeK at hk
    rw [if_pos rfl] at hk
    obtain ⟨rfl, hc, hg⟩ := hk
    unfold NcK
    rw [if_pos rfl]
    refine ⟨rfl, ⟨bw, hc, h2.imp id ?_, h3⟩, hg⟩
    rintro ⟨b, e, hl, hf⟩
    exact ⟨b, e, Nat.lt_of_lt_of_le hl hg.size, hf.grown hg (by simp)⟩
  | false =>
    rcases h2 with ⟨rfl, rfl, rfl⟩ | ⟨b, rfl, hlt, hf⟩
    · have hg0 : 0 ≠ C := by
        intro e
        have h0 := h1.c0
        rw [← e] at h0
        have hm' : w.cell? ⟨0, 0, none⟩ = some (.int .i64 m) := hm
        rw [h0] at hm'
        cases hm'
      refine (next_go C 0 _ [] m w h1 (BF.nil _ _) hg0 (block_lt hm) hm (Nat.zero_le _)).mono ?_
      intro e w' hk
      unfold NeK at hk
      rw [if_neg (by decide), show nextP [] = .more from rfl] at hk
      obtain ⟨rfl, hc, hg⟩ := hk
      unfold NcK
      rw [if_neg (by decide), show nextP [] = .more from rfl]
      exact ⟨rfl, ⟨_, hc, .inl ⟨rfl, rfl, rfl⟩, h3⟩, hg⟩
    · have hbC : b ≠ C := fun e => h3 (by rw [e])
      refine (next_go C b bw bs m w h1 hf hbC hlt hm hl).mono ?_
      intro e w' hk
      unfold NeK at hk
      rw [if_neg (by decide)] at hk
      unfold NcK
      rw [if_neg (by decide)]
      have hbk : ∀ {w' : World} {row : Option Nat}, w.grownBy w' row → some b ≠ row → BW w' bw (some b) bs := fun hg hr => .inr ⟨b, rfl, Nat.lt_of_lt_of_le hlt hg.size, hf.grown hg hr⟩
      cases hn : nextP bs with
      | more =>
        rw [hn] at hk
        obtain ⟨rfl, hc, hg⟩ := hk
        exact ⟨rfl, ⟨_, hc, hbk hg (by simp), h3⟩, hg⟩
      | fault st =>
        rw [hn] at hk
        obtain ⟨rfl, hc, hg⟩ := hk
        exact ⟨rfl, ⟨_, hc, hbk hg (by simpa using hbC), h3⟩, hg⟩
      | req r n =>
        rw [hn] at hk
        obtain ⟨rv, bw', rfl, hr, hc, hb, hg⟩ := hk
        obtain ⟨x, rfl, hx⟩ := hr.ra (S := fun k => w.heap.size ≤ k) (fun k hk _ => hk)
        exact ⟨x, rfl, hx, ⟨bw', hc, .inr ⟨b, rfl, Nat.lt_of_lt_of_le hlt hg.size, hb⟩, h3⟩, hg⟩
theorem over_cn (C : Nat) (bo : Option Nat) (bs : Bs) (ov : Bool) (w : World) (h : CN w C bo bs ov) : Calls Tryz.prog 11 #[.pointer (some ⟨C, 0, none⟩)] w fun e w' => e = .returned (.bool ov) ∧ w' = w := by
  obtain ⟨bw, h1, _⟩ := h
  exact over_any C bw ov w h1

/-! what is told, step by step -/
abbrev Tl := List (Option Rq × Int)
/-- so much has been told of b; the rest is told of what waits -/
def DR (b : Bs) (L : Tl) (bs : Bs) (ov : Bool) : Prop := drain b = (L ++ (if ov then [] else (drain bs).1), if ov then ⟨bs, true⟩ else (drain bs).2)
theorem DR.start (b : Bs) : DR b [] b false := by unfold DR; simp
theorem DR.fault {b : Bs} {L : Tl} {bs : Bs} {st : Int} (h : DR b L bs false) (hn : nextP bs = .fault st) : DR b (L ++ [(none, st)]) bs true := by
  unfold DR at h ⊢
  rw [if_neg (by decide), if_neg (by decide), drain_fault hn] at h
  rw [h]; simp
theorem DR.req {b : Bs} {L : Tl} {bs : Bs} {r : Rq} {n : Nat} (h : DR b L bs false) (hn : nextP bs = .req r n) : DR b (L ++ [(some r, 0)]) (bs.drop n) r.cl := by
  unfold DR at h ⊢
  rw [if_neg (by decide), if_neg (by decide)] at h
  cases hc : r.cl with
  | true => rw [drain_close hn hc] at h; rw [h]; simp
  | false => rw [drain_req hn hc] at h; rw [h]; simp
theorem DR.stop {b : Bs} {L : Tl} {bs : Bs} {ov : Bool} (h : DR b L bs ov) (hs : ov = true ∨ nextP bs = .more) : drain b = (L, ⟨bs, ov⟩) := by
  unfold DR at h
  cases ov with
  | true => rw [h]; simp
  | false =>
    rcases hs with e | hn
    · cases e
    · rw [h, drain_more hn]; simp
/-- a list of requests as a slice, its own row -/
def LT (w : World) (base : Nat) (S : Nat → Prop) (v : Value) (l : List Rq) : Prop :=
  ∃ xs : List R5, w.ownsRow base 32 5 v l.length (xs.flatMap R5.cells) ∧ xs.length = l.length ∧ ∀ i (h1 : i < l.length) (h2 : i < xs.length), RA w S l[i] xs[i]
theorem LT.nil (w : World) (base : Nat) (S : Nat → Prop) : LT w base S (.slice none 0 0) [] := ⟨[], World.ownsRow_nil _ _ _ _, rfl, fun i h => by simp at h⟩
theorem LT.gt {w w' : World} {base : Nat} {S S' T : Nat → Prop} {v : Value} {l : List Rq} (h : LT w base S v l) (hg : GT w w' T) (hv : ∀ k, v.ownBlock = some k → ¬ T k) (hT : ∀ b, b < w.heap.size → S b → ¬ T b ∧ S' b) : LT w' base S' v l := by
  obtain ⟨xs, ho, hl, ha⟩ := h
  refine ⟨xs, ⟨ho.1, ho.2.imp id ?_⟩, hl, fun i h1 h2 => ?_⟩
  · rintro ⟨g, cap, cur, rfl, h1, h2, h3⟩
    exact ⟨g, cap, cur, rfl, h1, (hg.block g (Array.getElem?_eq_some_iff.1 h2).1 (hv g rfl)).trans h2, h3⟩
  · exact (((ha i h1 h2).mono (S' := fun b => ¬ T b ∧ S' b) hT).gt hg (fun b h => h.1)).mono (fun b _ h => h.2)
/-- one more behind -/
theorem LT.snoc {w : World} {base : Nat} {S : Nat → Prop} {v : Value} {l : List Rq} {xs : List R5} {r : Rq} {x : R5} (ho : w.ownsRow base 32 5 v (l.length + 1) (xs.flatMap R5.cells ++ x.cells)) (hl : xs.length = l.length)
    (ha : ∀ i (h1 : i < l.length) (h2 : i < xs.length), RA w S l[i] xs[i]) (hx : RA w S r x) : LT w base S v (l ++ [r]) := by
  refine ⟨xs ++ [x], ?_, by simp [hl], fun i h1 h2 => ?_⟩
  · rw [List.flatMap_append, List.length_append]
    simpa using ho
  · by_cases h : i < l.length
    · rw [List.getElem_append_left h, List.getElem_append_left (by omega)]
      exact ha i h (by omega)
    · simp only [List.length_append, List.length_cons, List.length_nil] at h1
      have e : i = l.length := by omega
      subst e
      rw [List.getElem_append_right (Nat.le_refl _), List.getElem_append_right (by omega)]
      simpa using hx
theorem RA.shape {w : World} {S : Nat → Prop} {r : Rq} {x : R5} (h : RA w S r x) : ∃ xm xp A n c xc A2 n2 c2, x = ⟨xm, xp, .slice A n c, xc, .slice A2 n2 c2⟩ := by
  obtain ⟨m, p, qv, cl, bv⟩ := x
  obtain ⟨A, c, _, _, e, _⟩ := h.q
  obtain ⟨A2, c2, e2, _⟩ := h.b
  dsimp only at e e2
  subst e e2
  exact ⟨_, _, _, _, _, _, _, _, _, rfl⟩
end Go.Proofs.YtdfgnoflohfnmaaGreatDoor.Hx
/-! HTTP: two connections and two lists of requests, as the laws hold them. -/
namespace Go.Proofs.YtdfgnoflohfnmaaGreatDoor.Hx
open Go.RowKit Go.Maps

/-- the blocks that may not turn -/
def SS (C D : Nat) (bo bp : Option Nat) (v v' : Value) (k : Nat) : Prop := k ≠ C ∧ k ≠ D ∧ bo ≠ some k ∧ bp ≠ some k ∧ v.ownBlock ≠ some k ∧ v'.ownBlock ≠ some k
structure PS (w wr : World) (C D : Nat) (bo bp : Option Nat) (bc bd : Bs) (oc od : Bool) (v v' : Value) (l l' : List Rq) : Prop where
  gb : w.grownBy wr none
  hC : w.heap.size ≤ C
  hD : w.heap.size ≤ D
  hCD : C ≠ D
  c : CN wr C bo bc oc
  d : CN wr D bp bd od
  ho : ∀ k, bo = some k → w.heap.size ≤ k ∧ k ≠ D ∧ bp ≠ some k
  hp : ∀ k, bp = some k → w.heap.size ≤ k ∧ k ≠ C ∧ bo ≠ some k
  lv : LT wr w.heap.size (SS C D bo bp v v') v l
  lv' : LT wr w.heap.size (SS C D bo bp v v') v' l'
  hv : ∀ k, v.ownBlock = some k → k ≠ C ∧ k ≠ D ∧ bo ≠ some k ∧ bp ≠ some k ∧ v'.ownBlock ≠ some k
  hv' : ∀ k, v'.ownBlock = some k → k ≠ C ∧ k ≠ D ∧ bo ≠ some k ∧ bp ≠ some k ∧ v.ownBlock ≠ some k
section
variable {w wr W : World} {C D : Nat} {bo bp : Option Nat} {bc bd : Bs} {oc od : Bool} {v v' : Value} {l l' : List Rq}
theorem LT.olt {base : Nat} {S : Nat → Prop} (h : LT wr base S v l) {k : Nat} (hk : v.ownBlock = some k) : base ≤ k ∧ k < wr.heap.size := by
  obtain ⟨xs, ho, _⟩ := h
  exact ho.lt k hk
theorem PS.grown (h : PS w wr C D bo bp bc bd oc od v v' l l') (hg : wr.grownBy W none) : PS w W C D bo bp bc bd oc od v v' l l' :=
  ⟨gb_trans h.gb hg, h.hC, h.hD, h.hCD, h.c.grown hg, h.d.grown hg, h.ho, h.hp, h.lv.gt (T := fun _ => False) (.of_none hg) (fun _ _ h => h) (fun _ _ h => ⟨fun h => h, h⟩), h.lv'.gt (T := fun _ => False) (.of_none hg) (fun _ _ h => h) (fun _ _ h => ⟨fun h => h, h⟩), h.hv, h.hv'⟩
/-- a request is put behind the first list -/
theorem PS.put (h : PS w wr C D bo bp bc bd oc od v v' l l') {xs : List R5} (hl : xs.length = l.length) (ha : ∀ i (h1 : i < l.length) (h2 : i < xs.length), RA wr (SS C D bo bp v v') l[i] xs[i])
    {r : Rq} {x : R5} (hx : RA wr (SS C D bo bp v v') r x) {v1 : Value} (hg : wr.grownBy W v.ownBlock) (ho : W.ownsRow w.heap.size 32 5 v1 (l.length + 1) (xs.flatMap R5.cells ++ x.cells)) (hat : v1.ownBlock = v.ownBlock ∨ v1.ownBlock = some wr.heap.size) :
    PS w W C D bo bp bc bd oc od v1 v' (l ++ [r]) l' := by
  have hgs := h.gb.size
  have gT : GT wr W (fun k => v.ownBlock = some k) := .of_gb hg (fun k e => e)
  have hc := h.c.lt
  have hd := h.d.lt
  have hS : ∀ k, k < wr.heap.size → SS C D bo bp v v' k → ¬ v.ownBlock = some k ∧ SS C D bo bp v1 v' k := fun k hk hs => ⟨hs.2.2.2.2.1, hs.1, hs.2.1, hs.2.2.1, hs.2.2.2.1, fun e => by
    rcases hat with e1 | e1
    · rw [e1] at e; exact hs.2.2.2.2.1 e
    · rw [e1] at e; have := Option.some.inj e; omega, hs.2.2.2.2.2⟩
  have hRA : ∀ {r : Rq} {x : R5}, RA wr (SS C D bo bp v v') r x → RA W (SS C D bo bp v1 v') r x := fun hx => ((hx.mono (S' := fun b => ¬ v.ownBlock = some b ∧ SS C D bo bp v1 v' b) hS).gt gT (fun b h => h.1)).mono (fun b _ h => h.2)
  refine ⟨gb_more h.gb hg (fun g e => .inr (h.lv.olt e).1), h.hC, h.hD, h.hCD, h.c.gt gT (fun e => (h.hv C e).1 rfl) (fun b hb e => (h.hv b e).2.2.1 hb), h.d.gt gT (fun e => (h.hv D e).2.1 rfl) (fun b hb e => (h.hv b e).2.2.2.1 hb), h.ho, h.hp,
    LT.snoc ho hl (fun i h1 h2 => hRA (ha i h1 h2)) (hRA hx), h.lv'.gt gT (fun k hk e => (h.hv k e).2.2.2.2 hk) hS, fun k hk => ?_, fun k hk => ?_⟩
  · rcases hat with e1 | e1
    · rw [e1] at hk; exact h.hv k hk
    · rw [e1] at hk
      have e := Option.some.inj hk
      exact ⟨by omega, by omega, fun e2 => by have := h.c.blt e2; omega, fun e2 => by have := h.d.blt e2; omega, fun e2 => by have := (h.lv'.olt e2).2; omega⟩
  · obtain ⟨h1, h2, h3, h4, h5⟩ := h.hv' k hk
    refine ⟨h1, h2, h3, h4, fun e => ?_⟩
    rcases hat with e1 | e1
    · rw [e1] at e; exact h5 e
    · rw [e1] at e
      have e := Option.some.inj e
      have := (h.lv'.olt hk).2
      omega
end
/-- integers in a slice -/
def IV (w : World) (v : Value) (l : List Int) : Prop := ∃ A c, v = .slice A l.length c ∧ ∀ i (h : i < l.length), (∃ g o, A = some ⟨g, o, none⟩ ∧ w.cell? ⟨g, o + i, none⟩ = some (.int .i64 l[i])) ∧ -9223372036854775808 ≤ l[i] ∧ l[i] ≤ 9223372036854775807
theorem BV.grown {w w' : World} {v : Value} {bs : Bs} (h : BV w v bs) (hg : w.grownBy w' none) : BV w' v bs := by
  obtain ⟨A, c, e, h1, h2⟩ := h
  exact ⟨A, c, e, h1, fun h0 => by obtain ⟨b, o, e, hb⟩ := h2 h0; exact ⟨b, o, e, hb.grown hg (by simp)⟩⟩
end Go.Proofs.YtdfgnoflohfnmaaGreatDoor.Hx
