/- HTTP, the document's side: a request out of what waits. -/
import Derived.Test.YtdfgnoflohfnmaaGreatDoorRj
import Derived.Test.YtdfgnoflohfnmaaGreatDoorHq
namespace Go.Proofs.YtdfgnoflohfnmaaGreatDoor.Hx
open Go.RowKit Go.Maps Go.Shelf

theorem BV.up {w w' : World} {v : Value} {bs : Bs} (h : BV w v bs) (hg : w.grownBy w' none) : BV w' v bs := by
  obtain ⟨A, c, e, h1, h2⟩ := h
  exact ⟨A, c, e, h1, fun h0 => by obtain ⟨b, o, e, hb⟩ := h2 h0; exact ⟨b, o, e, hb.grown hg (by simp)⟩⟩
def tlX (b m p : Bs) (q : Pr) : Hd → Nx
  | .more => .more
  | .fault st => .fault st
  | .done i size cl => if 262144 < size then .fault 413 else if b.length < i + size.toNat then .more else .req ⟨m, p, q, (b.drop i).take size.toNat, cl⟩ (i + size.toNat)
theorem next_of (b : Bs) {S : Bs} {k : Nat} (h : lineR b = (S, (k : Int))) (hk : 0 < k) : nextP b = match firstR S with | none => .fault 400 | some (m, p, q) => tlX b m p q (hdrsR b 34 k 0 0 false false) := by
  rw [← read_eq]
  unfold readR
  rw [h]
  dsimp only
  rw [if_neg (by omega), Int.toNat_natCast]
  cases firstR S with
  | none => rfl
  | some x => obtain ⟨m, p, q⟩ := x; dsimp only; cases hdrsR b 34 k 0 0 false false <;> rfl
theorem next_line0 {b : Bs} (h : lineR b = ([], 0)) : nextP b = .more := by rw [← read_eq]; unfold readR; rw [h]; rfl
theorem next_line1 {b : Bs} (h : lineR b = ([], -1)) : nextP b = .fault 400 := by rw [← read_eq]; unfold readR; rw [h]; rfl
theorem line_cases (d : Bs) : lineR d = ([], 0) ∨ lineR d = ([], -1) ∨ ∃ (S : Bs) (k : Nat), lineR d = (S, (k : Int)) ∧ 2 ≤ k ∧ k ≤ d.length ∧ S.length ≤ 4096 := by
  unfold lineR
  by_cases h : 0 ≤ Lib.index d crlf ∧ Lib.index d crlf ≤ 4096
  · rw [if_pos h]
    have hr := Lib.index_room d crlf (by omega)
    have e : crlf.length = 2 := rfl
    rw [e] at hr
    refine .inr (.inr ⟨_, (Lib.index d crlf).toNat + 2, by rw [show (((Lib.index d crlf).toNat + 2 : Nat) : Int) = Lib.index d crlf + 2 from by omega], by omega, by omega, by rw [List.length_take]; omega⟩)
  · rw [if_neg h]
    by_cases h2 : 4098 ≤ d.length
    · rw [if_pos h2]; exact .inr (.inl rfl)
    · rw [if_neg h2]; exact .inl rfl
theorem rline_is {v : Value} {d : Bs} {W : World} {S : Bs} {k : Int} (hv : BV W v d) (hl : d.length ≤ 2000000) (h : lineR d = (S, k)) : Calls Tryz.prog 68 #[v] W fun e w' => e = .returned (.tuple #[.string ⟨S.toArray⟩, .int .i64 k]) ∧ w' = W := by
  have := rline_any v d W hv hl
  unfold lineV at this
  rw [h] at this
  exact this
def RdK (bs : Bs) (w : World) (e : Ending) (w' : World) : Prop := match nextP bs with
  | .more => e = .returned (.tuple #[req0, .int .i64 0, .int .i64 0]) ∧ w.grownBy w' none
  | .fault st => e = .returned (.tuple #[req0, .int .i64 0, .int .i64 st]) ∧ w.grownBy w' none
  | .req r n => ∃ x : R5, e = .returned (.tuple #[x.val, .int .i64 (n : Nat), .int .i64 0]) ∧ RA w' (fun k => w.heap.size ≤ k) r x ∧ w.grownBy w' none
theorem RdK.more {bs : Bs} {w w' : World} (h : nextP bs = .more) (hg : w.grownBy w' none) : RdK bs w (.returned (.tuple #[req0, .int .i64 0, .int .i64 0])) w' := by unfold RdK; rw [h]; exact ⟨rfl, hg⟩
theorem RdK.fault {bs : Bs} {w w' : World} {st : Int} (h : nextP bs = .fault st) (hg : w.grownBy w' none) : RdK bs w (.returned (.tuple #[req0, .int .i64 0, .int .i64 st])) w' := by unfold RdK; rw [h]; exact ⟨rfl, hg⟩
abbrev z5 (W : World) (Z : Nat) : World := set5 W Z (.string ⟨#[]⟩) (.string ⟨#[]⟩) (.slice none 0 0) (.bool false) (.slice none 0 0)
theorem z5_gb {w W : World} (h : w.grownBy W none) : w.grownBy (z5 W w.heap.size) none :=
  ((GT.of_none (T := fun x => x = w.heap.size) h).trans (GT.set5 (T := fun x => x = w.heap.size) (GT.refl W _) rfl _ _ _ _ _) (fun _ _ h => h)).grown (fun b hb e => by omega)
structure RW (w : World) (bs : Bs) (K : Nat) (M P : ByteArray) (A : Option Addr) (c : Nat) (q : Pr) (m p : Bs) (i n : Nat) (size : Int) (told cl : Bool) (W : World) : Prop where
  gb : w.grownBy W none
  z : ZB W w.heap.size
  k : ZF W K (.string M) (.string P) (.slice A q.length c) (.bool cl) (.slice none 0 0)
  row : W.ownsRow (w.heap.size + 1) 60 2 (.slice A q.length c) q.length (prCells q)
  ne : ∀ g, (Value.slice A q.length c).ownBlock = some g → g ≠ K
  hK : w.heap.size < K
  hi : i ≤ bs.length
  hn : n ≤ 32
  sz : 0 ≤ size ∧ size ≤ 1000000000
  next : nextP bs = tlX bs m p q (hdrsR bs (34 - n) i n size told cl)
theorem ZF.kept {W W' : World} {Z : Nat} {a b c d e : Value} (h : ZF W Z a b c d e) {row : Option Nat} (hg : W.grownBy W' row) (hne : some Z ≠ row) : ZF W' Z a b c d e := (hg.block Z (Array.getElem?_eq_some_iff.1 h).1 hne).trans h
theorem ZF.lt {W : World} {Z : Nat} {a b c d e : Value} (h : ZF W Z a b c d e) : Z < W.heap.size := (Array.getElem?_eq_some_iff.1 h).1
theorem ZF.f {W : World} {Z : Nat} {a b c d e : Value} (h : ZF W Z a b c d e) (i : Nat) : W.frozen? ⟨Z, i, none⟩ = false := by unfold ZF at h; simp [World.frozen?, h]
theorem ZF.set3 {W : World} {Z : Nat} {a b c d e : Value} (h : ZF W Z a b c d e) (u : Value) : ZF (W.setCell ⟨Z, 3, none⟩ u) Z a b c u e := by unfold ZF at h ⊢; simp [World.setCell, Array.getElem?_modify, h]
theorem ZF.set4 {W : World} {Z : Nat} {a b c d e : Value} (h : ZF W Z a b c d e) (u : Value) : ZF (W.setCell ⟨Z, 4, none⟩ u) Z a b c d u := by unfold ZF at h ⊢; simp [World.setCell, Array.getElem?_modify, h]
section
variable {w W W' : World} {bs : Bs} {K : Nat} {M P : ByteArray} {A : Option Addr} {c : Nat} {q : Pr} {m p : Bs} {i n : Nat} {size : Int} {told cl : Bool}
theorem RW.grown (h : RW w bs K M P A c q m p i n size told cl W) (hg : W.grownBy W' none) : RW w bs K M P A c q m p i n size told cl W' :=
  ⟨gb_trans h.gb hg, h.z.kept hg (by simp), h.k.kept hg (by simp), h.row.kept hg (by cases e : (Value.slice A q.length c).ownBlock <;> simp), h.ne, h.hK, h.hi, h.hn, h.sz, h.next⟩
theorem RW.step (h : RW w bs K M P A c q m p i n size told cl W) {i' : Nat} {size' : Int} {told' : Bool} (hi : i' ≤ bs.length) (hn : n + 1 ≤ 32) (hs : 0 ≤ size' ∧ size' ≤ 1000000000) (hx : hdrsR bs (34 - n) i n size told cl = hdrsR bs (33 - n) i' (n + 1) size' told' cl) : RW w bs K M P A c q m p i' (n + 1) size' told' cl W :=
  ⟨h.gb, h.z, h.k, h.row, h.ne, h.hK, hi, hn, hs, by rw [h.next, hx, show 34 - (n + 1) = 33 - n from by omega]⟩
theorem RW.close (h : RW w bs K M P A c q m p i n size told cl W) {i' : Nat} (hi : i' ≤ bs.length) (hn : n + 1 ≤ 32) (hx : hdrsR bs (34 - n) i n size told cl = hdrsR bs (33 - n) i' (n + 1) size told true) : RW w bs K M P A c q m p i' (n + 1) size told true (W.setCell ⟨K, 3, none⟩ (.bool true)) := by
  have hK := h.hK
  have hg := gb_setR (gb_refl W (some K)) 3 (.bool true)
  exact ⟨gb_setN h.gb (Nat.le_of_lt hK) _ _, h.z.kept hg (by intro e; have := Option.some.inj e; omega), h.k.set3 _, h.row.kept hg (by
    cases e : (Value.slice A q.length c).ownBlock with
    | none => exact .inl rfl
    | some g => exact .inr (by intro e2; exact h.ne g e (Option.some.inj e2))), h.ne, hK, hi, hn, h.sz, by rw [h.next, hx, show 34 - (n + 1) = 33 - n from by omega]⟩
end
theorem hdrs_line0 {bs : Bs} {n i : Nat} {size : Int} {told cl : Bool} (hn : n ≤ 32) (h : lineR (bs.drop i) = ([], 0)) : hdrsR bs (34 - n) i n size told cl = .more := by
  rw [show 34 - n = (33 - n) + 1 from by omega]; unfold hdrsR; rw [h]; rfl
theorem hdrs_line1 {bs : Bs} {n i : Nat} {size : Int} {told cl : Bool} (hn : n ≤ 32) (h : lineR (bs.drop i) = ([], -1)) : hdrsR bs (34 - n) i n size told cl = .fault 400 := by
  rw [show 34 - n = (33 - n) + 1 from by omega]; unfold hdrsR; rw [h]; rfl
theorem hdrs_line {bs : Bs} {n i : Nat} {size : Int} {told cl : Bool} (hn : n ≤ 32) {S : Bs} {k : Nat} (h : lineR (bs.drop i) = (S, (k : Int))) (hk : 2 ≤ k) : hdrsR bs (34 - n) i n size told cl =
    if S = [] then .done (i + k) size cl else match headR S with
      | none => .fault 400
      | some (nm, v) => if 32 ≤ n ∨ nm = hTra then .fault 400 else if nm = hLen then (match lengthR v with | none => .fault 400 | some x => if told = true then .fault 400 else hdrsR bs (33 - n) (i + k) (n + 1) x true cl) else hdrsR bs (33 - n) (i + k) (n + 1) size told (cl || (decide (nm = hCon) && decide (Lib.toLowerA v = hClo))) := by
  rw [show 34 - n = (33 - n) + 1 from by omega]
  conv => lhs; unfold hdrsR
  rw [h]
  dsimp only
  rw [if_neg (by omega), Int.toNat_natCast]
  cases headR S with
  | none => rfl
  | some x =>
    obtain ⟨nm, v⟩ := x
    dsimp only
    cases lengthR v <;> rfl
theorem lit_eq (V : ByteArray) (l : Bs) : (V.toList == l) = decide (V.data.toList = l) := by
  rw [Lib.toList_data, Bool.eq_iff_iff, beq_iff_eq, decide_eq_true_eq]
theorem dec_lt_n : ∀ (n : Nat) (l : Bs), l.length = n → l.all digB = true → decV l < 10 ^ n
  | 0, l, hl, _ => by
    have : l = [] := List.length_eq_zero_iff.mp hl
    subst this
    decide
  | n + 1, l, hl, ha => by
    have hne : l ≠ [] := by intro e; rw [e] at hl; cases hl
    have e := List.dropLast_concat_getLast hne
    rw [← e] at ha ⊢
    rw [List.all_append, Bool.and_eq_true] at ha
    have h1 := dec_lt_n n l.dropLast (by rw [List.length_dropLast]; omega) ha.1
    have h2 := (digB_iff (l.getLast hne)).1 (by simpa using ha.2)
    rw [decV_snoc, Int.pow_succ]
    omega
theorem dec_lt (l : Bs) (h : l.all digB = true) : decV l < 10 ^ l.length := dec_lt_n _ l rfl h
theorem lengthR_rng {s : Bs} {x : Int} (h : lengthR s = some x) : 0 ≤ x ∧ x ≤ 1000000000 := by
  unfold lengthR at h
  split at h
  · cases h
  · next h2 =>
    cases h
    have hall : s.all digB = true := by cases e : s.all digB; exact absurd (.inr (.inr e)) h2; rfl
    refine ⟨decV_nonneg s hall, ?_⟩
    have hb := dec_lt s hall
    have h9 : s.length ≤ 9 := Nat.le_of_not_lt fun h => h2 (.inr (.inl h))
    have hp : (10 : Int) ^ s.length ≤ 10 ^ 9 := by
      have h := Nat.pow_le_pow_right (n := 10) (by decide) h9
      have h2 : ((10 ^ s.length : Nat) : Int) ≤ ((10 ^ 9 : Nat) : Int) := Int.ofNat_le.mpr h
      rw [Int.natCast_pow, Int.natCast_pow] at h2
      exact h2
    have e9 : (10 : Int) ^ 9 = 1000000000 := by decide
    omega
end Go.Proofs.YtdfgnoflohfnmaaGreatDoor.Hx
