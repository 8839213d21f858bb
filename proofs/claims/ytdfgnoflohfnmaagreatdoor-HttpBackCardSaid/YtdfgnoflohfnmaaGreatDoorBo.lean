/- HTTP: what is sent is told, and what is answered is read: the statement's own walk. -/
import Derived.Test.YtdfgnoflohfnmaaGreatDoorBn
namespace Go.Proofs.YtdfgnoflohfnmaaGreatDoor.Hx
open Go.RowKit Go.Maps

/-- the requests that may be sent -/
def okS (l : List Rq) : List Rq := l.filter fun r => decide (mayS r = 0)
theorem okS_ok {l : List Rq} : ∀ r ∈ okS l, mayS r = 0 := fun r h => by have := (List.mem_filter.1 h).2; simpa using this
theorem okS_len (l : List Rq) : (okS l).length ≤ l.length := List.length_filter_le _ _
theorem okS_yes {l : List Rq} {i : Nat} (h : i < l.length) (hm : mayS l[i] = 0) : okS (l.take (i + 1)) = okS (l.take i) ++ [l[i]] := by
  unfold okS
  rw [List.take_succ_eq_append_getElem h, List.filter_append]
  simp [hm]
theorem okS_no {l : List Rq} {i : Nat} (h : i < l.length) (hm : mayS l[i] ≠ 0) : okS (l.take (i + 1)) = okS (l.take i) := by
  unfold okS
  rw [List.take_succ_eq_append_getElem h, List.filter_append]
  simp [hm]
theorem strm_le : ∀ {l : List Rq}, (∀ r ∈ l, mayS r = 0 ∧ SmR r) → l.length ≤ 12 → (strm l).length ≤ 480000 := fun h hl => by
  have := strm_len h
  omega
/-- the two lists: the bytes that were put together, and the requests -/
structure AL (w wr : World) (v v' : Value) (L : List Rq) : Prop where
  gb : w.grownBy wr none
  ex : ∃ (bo : Option Nat) (xs : List R5), BW wr v bo (strm L) ∧ (∀ b, bo = some b → w.heap.size ≤ b ∧ v'.ownBlock ≠ some b) ∧ wr.ownsRow w.heap.size 32 5 v' L.length (xs.flatMap R5.cells) ∧ xs.length = L.length ∧ ∀ i (h1 : i < L.length) (h2 : i < xs.length), RA w (fun _ => True) L[i] xs[i]
  ok : ∀ r ∈ L, mayS r = 0 ∧ SmR r
section
variable {w wr W : World} {v v' : Value} {L : List Rq}
theorem AL.start (g : w.grownBy wr none) : AL w wr (.slice none 0 0) (.slice none 0 0) [] := ⟨g, ⟨none, [], .inl ⟨rfl, rfl, rfl⟩, (fun b h => by cases h), World.ownsRow_nil _ _ _ _, rfl, (fun i h => by simp at h)⟩, (fun r h => by cases h)⟩
theorem BW.grown {w w' : World} {bw : Value} {bo : Option Nat} {bs : Bs} (h : BW w bw bo bs) {row : Option Nat} (hg : w.grownBy w' row) (hb : ∀ b, bo = some b → row ≠ some b) : BW w' bw bo bs := by
  refine h.imp id ?_
  rintro ⟨b, e, hl, hf⟩
  exact ⟨b, e, Nat.lt_of_lt_of_le hl hg.size, hf.grown hg (fun h => hb b e h.symm)⟩
theorem AL.grown (h : AL w wr v v' L) (hg : wr.grownBy W none) : AL w W v v' L := by
  obtain ⟨bo, xs, h1, h2, h3, h4, h5⟩ := h.ex
  exact ⟨gb_trans h.gb hg, ⟨bo, xs, h1.grown hg (fun _ _ h => by cases h), h2, h3.kept hg (by cases e : v'.ownBlock <;> simp), h4, h5⟩, h.ok⟩
theorem AL.bv (h : AL w wr v v' L) : BV wr v (strm L) := by
  obtain ⟨bo, xs, h1, _⟩ := h.ex
  rcases h1 with ⟨rfl, e, _⟩ | ⟨b, _, _, hf⟩
  · rw [e]; exact ⟨none, 0, rfl, Nat.le_refl _, fun h => absurd rfl h⟩
  · exact (hf.bs (S := fun _ => True) (fun _ => trivial)).bv
theorem AL.lq (h : AL w wr v v' L) : LQ wr v' L := by
  obtain ⟨_, xs, _, _, ho, hl, ha⟩ := h.ex
  exact .of_own ho hl fun i h1 h2 => (ha i h1 h2).grown h.gb
theorem AL.put {xs : List R5} {r : Rq} {x : R5} {v1 v1' : Value} {bo8 : Option Nat} {W9 : World} (hl : xs.length = L.length) (ha : ∀ i (h1 : i < L.length) (h2 : i < xs.length), RA w (fun _ => True) L[i] xs[i]) (ok : ∀ r ∈ L, mayS r = 0 ∧ SmR r) (hm : mayS r = 0) (hs : SmR r) (hx : RA w (fun _ => True) r x)
    (g : w.grownBy W none) (hb8 : BW W v1 bo8 (strm L ++ sendP r)) (hb : ∀ b, bo8 = some b → w.heap.size ≤ b ∧ v'.ownBlock ≠ some b) (g9 : W.grownBy W9 v'.ownBlock) (ho9 : W9.ownsRow w.heap.size 32 5 v1' (L.length + 1) (xs.flatMap R5.cells ++ x.cells)) (hat : v1'.ownBlock = v'.ownBlock ∨ v1'.ownBlock = some W.heap.size) (hv' : ∀ k, v'.ownBlock = some k → w.heap.size ≤ k) : AL w W9 v1 v1' (L ++ [r]) := by
  refine ⟨gb_more g g9 (fun k e => .inr (hv' k e)), ⟨bo8, xs ++ [x], ?_, fun b e => ⟨(hb b e).1, ?_⟩, ?_, by simp [hl], fun i h1 h2 => ?_⟩, fun q hq => ?_⟩
  · rw [strm_snoc]
    exact hb8.grown g9 (fun b e => (hb b e).2)
  · rcases hat with e1 | e1
    · rw [e1]; exact (hb b e).2
    · rw [e1]
      intro e2
      rcases hb8 with h | ⟨b', e', hl', _⟩
      · rw [h.2.2] at e; cases e
      · rw [e'] at e; cases e; cases e2; omega
  · rw [List.flatMap_append, List.length_append]
    simpa using ho9
  · by_cases h : i < L.length
    · rw [List.getElem_append_left h, List.getElem_append_left (by omega)]
      exact ha i h (by omega)
    · simp only [List.length_append, List.length_cons, List.length_nil] at h1
      have e : i = L.length := by omega
      subst e
      rw [List.getElem_append_right (Nat.le_refl _), List.getElem_append_right (by omega)]
      simpa using hx
  · rcases List.mem_append.1 hq with h | h
    · exact ok q h
    · rw [List.mem_singleton.1 h]; exact ⟨hm, hs⟩
end
theorem IV.grown {w w' : World} {v : Value} {l : List Int} (h : IV w v l) (hg : w.grownBy w' none) : IV w' v l := by
  obtain ⟨A, c, e, h⟩ := h
  exact ⟨A, c, e, fun i hi => by obtain ⟨⟨g, o, e, hc⟩, h2⟩ := h i hi; exact ⟨⟨g, o, e, cell_grown hc hg (by simp)⟩, h2⟩⟩
/-- bytes appended to a buffer that may not be there yet -/
theorem wpList_append_bw {w : World} {ops : Array Oper} {rest : List Oper} {o : Oper} {a : Act} {Q : Exit → Act → World → Prop} (hgd : o.guard = none) (s x : Operand) (tx : TypeId)
    (ho : o.op = .call { callee := .builtin .append, args := #[s, x], argTypes := #[22, tx] }) {v xv : Value} (hs : a.eval s = v) (hxv : a.eval x = xv) {bo : Option Nat} {bs news : Bs} (h : BW w v bo bs) (hx : Src Tryz.prog 1 tx xv news.length (Lib.byteCells news) w) (hl : bs.length + news.length ≤ 1000000000)
    (hK : ∀ A' c' w' bo', BW w' (.slice A' (bs ++ news).length c') bo' (bs ++ news) → w.grownBy w' bo → (bo' = none ∨ bo' = bo ∨ ∃ k, bo' = some k ∧ w.heap.size ≤ k) → wpList Tryz.prog ops Q rest (a.put o.dst (.slice A' (bs ++ news).length c')) w') : wpList Tryz.prog ops Q (o :: rest) a w := by
  rcases h with ⟨rfl, rfl, rfl⟩ | ⟨b, rfl, hlt, hf⟩
  · refine wpList_append_bfg hgd s x tx ho hs hxv (BF.nil w w.heap.size) hx hl fun A' c' w' b' k1 k2 k3 => ?_
    obtain ⟨bo', hw, ho'⟩ := k1.bw
    refine hK A' c' w' bo' hw (gb_new (gb_refl w none) k2 (Nat.le_refl _)) ?_
    rcases ho' with rfl | rfl
    · exact .inl rfl
    · exact .inr (.inr ⟨b', rfl, by rcases k3 with rfl | k3; exact Nat.le_refl _; exact k3⟩)
  · refine wpList_append_bfg hgd s x tx ho hs hxv hf hx hl fun A' c' w' b' k1 k2 k3 => ?_
    obtain ⟨bo', hw, ho'⟩ := k1.bw
    refine hK A' c' w' bo' hw k2 ?_
    rcases ho' with rfl | rfl
    · exact .inl rfl
    · rcases k3 with rfl | k3
      · exact .inr (.inl rfl)
      · exact .inr (.inr ⟨b', rfl, k3⟩)
/-- what Append leaves, for any response -/
theorem app_ex (r : Rs) (T : ByteArray) (bv : Value) (w : World) (hT : T.data.toList = r.ty) (hbv : BV w bv r.body) (htl : r.ty.length ≤ 1000000) (hbl : r.body.length ≤ 1000000) (hPT : PTw w) : Calls Tryz.prog 23 #[.slice none 0 0, .agg #[.int .i64 r.st, .string T, .bool r.cl, bv]] w fun e w' => ∃ A n c eI, e = .returned (.tuple #[.slice A n c, .int .i64 eI]) ∧ w.grownBy w' none ∧ (eI = 0 → mayR r = 0 ∧ n = (outP r).length ∧ BV w' (.slice A n c) (outP r)) := by
  refine (app_any (.slice none 0 0) [] r T bv w ⟨none, 0, rfl, Nat.le_refl _, fun h => absurd rfl h⟩ hT hbv (Nat.zero_le _) htl hbl hPT).mono ?_
  intro e w' hk
  unfold ApK at hk
  split at hk
  · next hm =>
    obtain ⟨v, b', rfl, hf, hb, hg⟩ := hk
    rw [List.nil_append] at hf
    obtain ⟨A, c, rfl, hc⟩ := hf.shape
    exact ⟨A, _, c, 0, rfl, hg, fun _ => ⟨hm, rfl, (hf.bs (S := fun _ => True) (fun _ => trivial)).bv⟩⟩
  · next hm => exact ⟨none, 0, 0, _, hk.1, hk.2, fun e => absurd e hm⟩
theorem out_len (r : Rs) (htl : r.ty.length ≤ 20000) (hbl : r.body.length ≤ 20000) (hm : mayR r = 0) : 1 ≤ (outP r).length ∧ (outP r).length ≤ 100000 := by
  have h1 : -9223372036854775808 ≤ r.st ∧ r.st ≤ 600 ∧ 0 ≤ r.st := by
    unfold mayR at hm
    split at hm
    · cases hm
    · split at hm
      · cases hm
      · next h => omega
  have e1 := itoa_len r.st h1.2.2 (by omega)
  have e2 := itoa_len r.body.length (by omega) (by omega)
  have e3 := reason_len r.st
  have e4 : (if r.ty = [] then [] else sType ++ r.ty ++ crlf).length ≤ 20016 := ite_len' (by
    rw [List.length_append, List.length_append]
    have a1 : sType.length = 14 := rfl
    have a2 : crlf.length = 2 := rfl
    omega)
  have e5 : (if r.cl then sClose else []).length ≤ 19 := ite_len (Nat.le_refl 19)
  have e6 : sVers.length = 9 := rfl
  have e7 : crlf.length = 2 := rfl
  have e8 : sLen.length = 16 := rfl
  have e9 : ([32] : Bs).length = 1 := rfl
  have e3' : (reasonP r.st).length ≤ 30 := by simpa using e3
  unfold outP
  simp only [List.length_append]
  omega
theorem own_bo {v : Value} {bo : Option Nat} (h : ∀ b, bo = some b → v.ownBlock ≠ some b) : v.ownBlock = none ∨ v.ownBlock ≠ bo := by
  cases bo with
  | none => cases e : v.ownBlock <;> simp
  | some b => exact .inr (h b rfl)
theorem bo_step {w w4 : World} {v' : Value} {bo bo8 : Option Nat} (g : w.grownBy w4 none) (hv : ∀ k, v'.ownBlock = some k → k < w4.heap.size) (hbo : ∀ b, bo = some b → w.heap.size ≤ b ∧ v'.ownBlock ≠ some b) (h8 : bo8 = none ∨ bo8 = bo ∨ ∃ k, bo8 = some k ∧ w4.heap.size ≤ k) : ∀ b, bo8 = some b → w.heap.size ≤ b ∧ v'.ownBlock ≠ some b := by
  intro b e
  rcases h8 with rfl | rfl | ⟨k, rfl, hk⟩
  · cases e
  · exact hbo b e
  · cases e
    have := g.size
    exact ⟨by omega, fun e => by have := hv _ e; omega⟩
/-- what was written is read, whatever stands behind it -/
theorem read_good (r : Rs) (T : ByteArray) (hT : T.data.toList = r.ty) (hm : mayR r = 0) (behind : Bs) (bw : Value) (W : World) (hb : BV W bw (([] ++ outP r) ++ behind)) (hl : (outP r).length + behind.length ≤ 2000000) : Calls Tryz.prog 25 #[bw] W fun e w' =>
    ∃ bA bc, e = .returned (.tuple #[.agg #[.int .i64 r.st, .string T, .bool r.cl, .slice bA r.body.length bc], .int .i64 ((outP r).length : Nat), .int .i64 0]) ∧ BV w' (.slice bA r.body.length bc) r.body ∧ W.grownBy w' none := by
  have hn : ([] ++ outP r) ++ behind = outP r ++ behind := by rw [List.nil_append]
  rw [hn] at hb
  refine (read_any bw (outP r ++ behind) W hb (by rw [List.length_append]; exact hl)).mono ?_
  intro e w' hk
  unfold RdR at hk
  rw [read_behind r hm behind] at hk
  dsimp only at hk
  obtain ⟨T', bv, he, hT', hbv, hg⟩ := hk
  obtain ⟨A, c, hA, h1, h2⟩ := hbv.bv
  have e2 : T' = T := by
    obtain ⟨⟨a⟩⟩ := T
    obtain ⟨⟨b⟩⟩ := T'
    have h3 : b = a := hT'.trans hT.symm
    rw [h3]
  rw [e2, hA] at he
  exact ⟨A, c, he, ⟨A, c, rfl, h1, h2⟩, hg⟩
/-- a first part is not -/
theorem read_less (r : Rs) (hm : mayR r = 0) (k : Nat) (hk : k < (outP r).length) (bw : Value) (W : World) (hb : BV W bw ((outP r).take k)) (hl : k ≤ 2000000) : Calls Tryz.prog 25 #[bw] W fun e w' => e = .returned (.tuple #[resp0, .int .i64 0, .int .i64 12]) ∧ W.grownBy w' none := by
  refine (read_any bw _ W hb (Nat.le_trans (List.length_take_le _ _) hl)).mono ?_
  intro e w' h
  unfold RdR at h
  rw [read_part r hm hk] at h
  exact h
end Go.Proofs.YtdfgnoflohfnmaaGreatDoor.Hx
