/- HTTP: what was sent is told, in plain words; a list of requests; a connection that hears them. -/
import Derived.Test.YtdfgnoflohfnmaaGreatDoorBl
import Derived.Test.YtdfgnoflohfnmaaGreatDoorHr
namespace Go.Proofs.YtdfgnoflohfnmaaGreatDoor.Hx
open Go.RowKit Go.Maps

/-- what was sent, one behind the other -/
def strm (l : List Rq) : Bs := l.flatMap sendP
theorem strm_cons (r : Rq) (l : List Rq) : strm (r :: l) = sendP r ++ strm l := rfl
theorem strm_snoc (l : List Rq) (r : Rq) : strm (l ++ [r]) = strm l ++ sendP r := by simp [strm]
theorem ite_len {p : Prop} [Decidable p] {a : Bs} {n : Nat} (h : a.length ≤ n) : (if p then a else []).length ≤ n := by split; exact h; simp
theorem ite_len' {p : Prop} [Decidable p] {a : Bs} {n : Nat} (h : a.length ≤ n) : (if p then [] else a).length ≤ n := by split; simp; exact h
theorem sent_len {r : Rq} (h : mayS r = 0) (hs : SmR r) : (sendP r).length ≤ 40000 := by
  have hb := hs.b
  unfold mayS at h
  split at h
  · cases h
  · next h1 =>
    split at h
    · cases h
    · next h2 =>
      have hm : r.m.length ≤ 16 := by
        rcases Nat.lt_or_ge 16 r.m.length with h | h
        · exact absurd (.inr (.inl h)) h1
        · exact h
      have ht : (tgtO r.p r.q).length ≤ 2048 := by
        rcases Nat.lt_or_ge 2048 (tgtO r.p r.q).length with h | h
        · exact absurd (.inl h) h2
        · exact h
      have e1 : (if r.body = [] then [] else sLen ++ Lib.itoa r.body.length ++ crlf).length ≤ 28 := ite_len' (by
        have := itoa_len r.body.length (by omega) (by omega)
        rw [List.length_append, List.length_append]
        have a1 : sLen.length = 16 := rfl
        have a2 : crlf.length = 2 := rfl
        omega)
      have e2 : (if r.cl then sClose else []).length ≤ 19 := ite_len (Nat.le_refl 19)
      have e3 : sSpVers.length = 11 := rfl
      have e4 : crlf.length = 2 := rfl
      unfold sendP
      rw [List.length_append, List.length_cons, List.length_append, List.length_append, List.length_append, List.length_append, List.length_append]
      omega
theorem strm_len {l : List Rq} (h : ∀ r ∈ l, mayS r = 0 ∧ SmR r) : (strm l).length ≤ l.length * 40000 := by
  induction l with
  | nil => simp [strm]
  | cons r t ih =>
    rw [strm_cons, List.length_append, List.length_cons]
    have := ih (fun x hx => h x (List.mem_cons_of_mem _ hx))
    have := sent_len (h r List.mem_cons_self).1 (h r List.mem_cons_self).2
    omega
/-- how far the connection has told what was sent -/
def HS (S : List Rq) (t bs : Bs) (ov : Bool) (k : Nat) : Prop :=
  k ≤ S.length ∧ (if ov then 0 < k ∧ (S[k - 1]?.map Rq.cl) = some true else bs ++ t = strm (S.drop k))
section
variable {S : List Rq} {t bs : Bs} {ov : Bool} {k : Nat}
theorem HS.start (S : List Rq) : HS S (strm S) [] false 0 := ⟨Nat.zero_le _, by simp⟩
theorem HS.le (h : HS S t bs ov k) : k ≤ S.length := h.1
theorem HS.eq (h : HS S t bs false k) : bs ++ t = strm (S.drop k) := by have := h.2; rwa [if_neg (by decide)] at this
theorem HS.cl (h : HS S t bs true k) : 0 < k ∧ ∃ hk : k - 1 < S.length, S[k - 1].cl = true := by
  obtain ⟨h1, h2⟩ := h
  rw [if_pos rfl] at h2
  have hk : k - 1 < S.length := by omega
  refine ⟨h2.1, hk, ?_⟩
  have := h2.2
  rw [List.getElem?_eq_getElem hk] at this
  simpa using this
theorem HS.piece (h : HS S t bs false k) (n : Nat) : HS S (t.drop n) (bs ++ t.take n) false k := ⟨h.1, by rw [if_neg (by decide), List.append_assoc, List.take_append_drop]; exact h.eq⟩
theorem HS.len (h : HS S t bs false k) : bs.length + t.length ≤ (strm S).length := by
  have e := congrArg List.length h.eq
  rw [List.length_append] at e
  rw [e]
  have : strm S = strm (S.take k) ++ strm (S.drop k) := by unfold strm; rw [← List.flatMap_append, List.take_append_drop]
  rw [this, List.length_append]; omega
theorem HS.tell (h : HS S t bs false k) (hs : ∀ r ∈ S, mayS r = 0) : nextP bs = .more ∨ ∃ hk : k < S.length, nextP bs = .req S[k] (sendP S[k]).length ∧ HS S t (bs.drop (sendP S[k]).length) S[k].cl (k + 1) := by
  have e := h.eq
  have hle := h.1
  by_cases hk : k < S.length
  · rw [List.drop_eq_getElem_cons hk, strm_cons] at e
    have hn := next_send S[k] (hs _ (List.getElem_mem hk))
    have hb : nextP (bs ++ t) = .req S[k] (sendP S[k]).length := by rw [e]; exact ((next_app _ _).2 _ _ hn).1
    obtain ⟨f1, f2⟩ := next_app bs t
    cases hbs : nextP bs with
    | more => exact .inl rfl
    | fault st => have := f1 st hbs; rw [hb] at this; cases this
    | req r n =>
      obtain ⟨h1, h2, h3⟩ := f2 r n hbs
      rw [hb] at h1
      injection h1 with h1 h4
      subst h1 h4
      refine .inr ⟨hk, rfl, hk, ?_⟩
      split
      · next hc => exact ⟨Nat.succ_pos _, by rw [Nat.add_sub_cancel, List.getElem?_eq_getElem hk]; simpa using hc⟩
      · have := congrArg (List.drop (sendP S[k]).length) e
        rwa [List.drop_append_of_le_length h3, List.drop_left] at this
  · rw [List.drop_eq_nil_of_le (by omega)] at e
    have e' : bs ++ t = [] := e
    have : bs = [] := (List.append_eq_nil_iff.mp e').1
    rw [this]
    exact .inl rfl
theorem HS.stop (h : HS S [] bs ov k) (hs : ∀ r ∈ S, mayS r = 0) (hn : ov = true ∨ nextP bs = .more) : k = S.length ∨ (k ≠ S.length ∧ ov = true) := by
  by_cases hk : k = S.length
  · exact .inl hk
  · refine .inr ⟨hk, ?_⟩
    cases ov with
    | true => rfl
    | false =>
      rcases hn with h1 | h1
      · exact h1
      · have e := h.eq
        have hle := h.1
        have hlt : k < S.length := by omega
        rw [List.append_nil, List.drop_eq_getElem_cons hlt, strm_cons] at e
        have := ((next_app _ (strm (S.drop (k + 1)))).2 _ _ (next_send S[k] (hs _ (List.getElem_mem hlt)))).1
        rw [← e, h1] at this
        cases this
end
/-- requests in a slice -/
def LQ (w : World) (v : Value) (l : List Rq) : Prop := ∃ A c, v = .slice A l.length c ∧ ∀ i (h : i < l.length), ∃ g o x, A = some ⟨g, o, none⟩ ∧ RA w (fun _ => True) l[i] x ∧
  w.cell? ⟨g, o + i * 5, none⟩ = some (.string x.m) ∧ w.cell? ⟨g, o + i * 5 + 1, none⟩ = some (.string x.p) ∧ w.cell? ⟨g, o + i * 5 + 2, none⟩ = some x.qv ∧ w.cell? ⟨g, o + i * 5 + 3, none⟩ = some (.bool x.cl) ∧ w.cell? ⟨g, o + i * 5 + 4, none⟩ = some x.bv
/-- a list's element -/
theorem R5.cells_of : ∀ (xs : List R5) (i : Nat) (h : i < xs.length) (j : Nat), j < 5 → (xs.flatMap R5.cells)[i * 5 + j]? = xs[i].cells[j]?
  | a :: t, 0, _, j, hj => by
    rw [List.flatMap_cons, Nat.zero_mul, Nat.zero_add, List.getElem?_append_left (by simpa [R5.cells] using hj)]; rfl
  | a :: t, i + 1, h, j, hj => by
    have := R5.cells_of t i (by simpa using h) j hj
    rw [List.flatMap_cons, List.getElem?_append_right (by simp [R5.cells]; omega), show (i + 1) * 5 + j - a.cells.length = i * 5 + j from by simp [R5.cells]; omega, this]
    rfl
/-- a row of requests as a slice -/
theorem LQ.of_own {w : World} {base : Nat} {v : Value} {l : List Rq} {xs : List R5} (ho : w.ownsRow base 32 5 v l.length (xs.flatMap R5.cells)) (hl : xs.length = l.length) (ha : ∀ i (h1 : i < l.length) (h2 : i < xs.length), RA w (fun _ => True) l[i] xs[i]) : LQ w v l := by
  obtain ⟨A, c, e⟩ := row_shape ho
  refine ⟨A, c, e, fun i hi => ?_⟩
  rcases ho.2 with ⟨_, h0⟩ | ⟨g, cap, cur, e2, hb, hh, hn, _, hc, ht⟩
  · omega
  · have hx : i < xs.length := by omega
    rw [e] at e2
    injection e2 with e2
    have hcell : ∀ j, j < 5 → w.cell? ⟨g, 0 + i * 5 + j, none⟩ = xs[i].cells[j]? := fun j hj => by
      rw [Nat.zero_add, cell_of_row w g _ cur _ (0, 0) hh, ← R5.cells_of xs i hx j hj, ← ht, List.getElem?_take_of_lt (by omega)]
      simp
    exact ⟨g, 0, xs[i], e2, ha i hi hx, hcell 0 (by omega), hcell 1 (by omega), hcell 2 (by omega), hcell 3 (by omega), hcell 4 (by omega)⟩
/-- a connection that hears what was sent: t is to come, k told -/
structure HC (w wr : World) (C : Nat) (S : List Rq) (t bs : Bs) (bo : Option Nat) (ov : Bool) (k : Nat) : Prop where
  gb : w.grownBy wr none
  hC : w.heap.size ≤ C
  c : CN wr C bo bs ov
  ho : ∀ b, bo = some b → w.heap.size ≤ b
  hs : HS S t bs ov k
section
variable {w wr W : World} {C : Nat} {S : List Rq} {t bs : Bs} {bo : Option Nat} {ov : Bool} {k : Nat}
theorem HC.grown (h : HC w wr C S t bs bo ov k) (hg : wr.grownBy W none) : HC w W C S t bs bo ov k := ⟨gb_trans h.gb hg, h.hC, h.c.grown hg, h.ho, h.hs⟩
theorem HC.next (h : HC w wr C S t bs bo ov k) {bs' : Bs} {ov' : Bool} {k' : Nat} (hc : CN W C bo bs' ov') (hg : wr.grownBy W (some C)) (hs : HS S t bs' ov' k') : HC w W C S t bs' bo ov' k' := by
  have hC := h.hC
  exact ⟨gb_more h.gb hg (fun g e => .inr (by cases e; exact hC)), hC, hc, h.ho, hs⟩
theorem HC.feed (h : HC w wr C S t bs bo false k) {bo' : Option Nat} {news t' : Bs} (hc : CN W C bo' (bs ++ news) false) (hg : GT wr W (fun k => k = C ∨ bo = some k)) (hb : bo' = none ∨ bo' = bo ∨ ∃ k, bo' = some k ∧ wr.heap.size ≤ k) (hs : HS S t' (bs ++ news) false k) : HC w W C S t' (bs ++ news) bo' false k := by
  have hC := h.hC
  have hgs := h.gb.size
  refine ⟨((GT.of_none (T := fun k => k = C ∨ bo = some k) h.gb).trans hg (fun _ _ h => h)).grown (fun b hb e => ?_), hC, hc, fun b e => ?_, hs⟩
  · rcases e with e | e
    · omega
    · have := h.ho b e; omega
  · rcases hb with rfl | rfl | ⟨j, rfl, hj⟩
    · cases e
    · exact h.ho b e
    · cases e; omega
end
/-- nothing is told -/
theorem stop_hc {w wr : World} {C : Nat} {S : List Rq} {t bs : Bs} {bo : Option Nat} {ov : Bool} {k : Nat} (m : Int) (h : HC w wr C S t bs bo ov k) (hm : MX w m) (hl : bs.length ≤ 2000000) (hs : ov = true ∨ nextP bs = .more) :
    Calls Tryz.prog 10 #[.pointer (some ⟨C, 0, none⟩)] wr fun e w' => e = .returned (.tuple #[req0, .int .i64 0, .bool false]) ∧ HC w w' C S t bs bo ov k ∧ wr.grownBy w' none := by
  refine (next_cn C bo bs ov m wr h.c (hm.grown h.gb (by simp)) hl).mono ?_
  intro e w' hk
  unfold NcK at hk
  cases ov with
  | true =>
    rw [if_pos rfl] at hk
    exact ⟨hk.1, h.grown hk.2.2, hk.2.2⟩
  | false =>
    rcases hs with e | hn
    · cases e
    · rw [if_neg (by decide), hn] at hk
      exact ⟨hk.1, h.grown hk.2.2, hk.2.2⟩
/-- a request is told -/
theorem tell_hc {w wr : World} {C : Nat} {S : List Rq} {t bs : Bs} {bo : Option Nat} {k : Nat} (m : Int) (h : HC w wr C S t bs bo false k) (hm : MX w m) (hl : bs.length ≤ 2000000) (hok : ∀ r ∈ S, mayS r = 0) (hs : nextP bs ≠ .more) :
    ∃ hk : k < S.length, Calls Tryz.prog 10 #[.pointer (some ⟨C, 0, none⟩)] wr fun e w' => ∃ xm xp A n c xc A2 n2 c2 bs' ov',
      e = .returned (.tuple #[.agg #[.string xm, .string xp, .slice A n c, .bool xc, .slice A2 n2 c2], .int .i64 0, .bool true]) ∧ RA w' (fun _ => True) S[k] ⟨xm, xp, .slice A n c, xc, .slice A2 n2 c2⟩ ∧
      HC w w' C S t bs' bo ov' (k + 1) ∧ lft ov' bs' < bs.length + 1 ∧ bs'.length ≤ bs.length := by
  rcases h.hs.tell hok with e | ⟨hk, hn, hh⟩
  · exact absurd e hs
  · refine ⟨hk, (next_cn C bo bs false m wr h.c (hm.grown h.gb (by simp)) hl).mono ?_⟩
    intro e w' hq
    unfold NcK at hq
    rw [if_neg (by decide), hn] at hq
    obtain ⟨x, rfl, hx, hc, hg⟩ := hq
    obtain ⟨xm, xp, A, n1, c, xc, A2, n2, c2, rfl⟩ := hx.shape
    obtain ⟨_, h2, h3⟩ := (next_app bs []).2 _ _ hn
    refine ⟨xm, xp, A, n1, c, xc, A2, n2, c2, _, _, rfl, hx.mono (fun _ _ _ => trivial), h.next hc hg hh, ?_, by rw [List.length_drop]; omega⟩
    unfold lft
    split
    · omega
    · rw [List.length_drop]; omega
end Go.Proofs.YtdfgnoflohfnmaaGreatDoor.Hx
