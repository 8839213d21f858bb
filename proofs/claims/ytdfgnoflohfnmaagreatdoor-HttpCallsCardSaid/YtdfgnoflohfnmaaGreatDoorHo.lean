/- HTTP: a request out of what waits: the states' loop, in plain words. -/
import Derived.Test.YtdfgnoflohfnmaaGreatDoorHn
import Derived.Test.YtdfgnoflohfnmaaGreatDoorHg
namespace Go.Proofs.YtdfgnoflohfnmaaGreatDoor.Hx
open Go.RowKit Go.Maps

/-- what the loop over the states leaves -/
def FinK (w1 : World) (R : Nat) (bw : Value) (bs : Bs) (W : World) : Prop :=
  ∃ σ : RS, RB W R bw σ ∧ w1.grownBy W (some R) ∧
    match nextP bs with
    | .more => σ.st = 0 ∧ σ.wh = false
    | .fault st => σ.st = st ∧ st ≠ 0
    | .req r n => σ.st = 0 ∧ σ.wh = true ∧ σ.i = n ∧ n ≤ bs.length ∧ σ.m = ⟨r.m.toArray⟩ ∧ σ.p = ⟨r.p.toArray⟩ ∧ σ.cl = r.cl ∧ W.ownsRow w1.heap.size 60 2 σ.qv r.q.length (prCells r.q) ∧ ∃ b, BF W σ.bv b r.body ∧ w1.heap.size ≤ b
/-- what is known while the headers are read -/
structure PhB (w1 : World) (R : Nat) (bw : Value) (bs : Bs) (j : Nat) (σ : RS) (m p : Bs) (q : List (Bs × Bs)) (W : World) : Prop where
  rb : RB W R bw σ
  gb : w1.grownBy W (some R)
  st : σ.st = 0
  wh : σ.wh = false
  em : σ.m = ⟨m.toArray⟩
  ep : σ.p = ⟨p.toArray⟩
  eq : W.ownsRow w1.heap.size 60 2 σ.qv q.length (prCells q)
  eh : σ.h = (j : Int)
  hj : j ≤ 32
  i : σ.i ≤ bs.length
  n0 : bs ≠ []
  next : nextP bs = match hdrsP bs (34 - j) σ.i j σ.l σ.cl with | .more => .more | .fault st => .fault st | .done i len cl => bodyP bs m p q i len cl
structure PhC (w1 : World) (R : Nat) (bw : Value) (bs : Bs) (σ : RS) (m p : Bs) (q : List (Bs × Bs)) (W : World) : Prop where
  rb : RB W R bw σ
  gb : w1.grownBy W (some R)
  st : σ.st = 0
  wh : σ.wh = false
  em : σ.m = ⟨m.toArray⟩
  ep : σ.p = ⟨p.toArray⟩
  eq : W.ownsRow w1.heap.size 60 2 σ.qv q.length (prCells q)
  i : σ.i ≤ bs.length
  n0 : bs ≠ []
  next : nextP bs = bodyP bs m p q σ.i σ.l σ.cl
abbrev sig0 : RS := { i := 0, m := ⟨#[]⟩, p := ⟨#[]⟩, qv := .slice none 0 0, cl := false, bv := .slice none 0 0, h := 0, l := -1, st := 0, wh := false }
/-- the states, and how many are to come -/
def NS (w1 : World) (R : Nat) (bw : Value) (bs : Bs) (k : Nat) (v : Value) (W : World) : Prop :=
  (v = .nilFunc ∧ FinK w1 R bw bs W) ∨
  (v = .func (.func 35) #[] #[] ∧ k = 40 ∧ RB W R bw sig0 ∧ w1.grownBy W (some R)) ∨
  (v = .func (.func 67) #[] #[] ∧ ∃ j σ m p q, k = 39 - j ∧ PhB w1 R bw bs j σ m p q W) ∨
  (v = .func (.func 91) #[] #[] ∧ k = 1 ∧ ∃ σ m p q, PhC w1 R bw bs σ m p q W)
theorem NS.gb {w1 W : World} {R : Nat} {bw : Value} {bs : Bs} {k : Nat} {v : Value} (h : NS w1 R bw bs k v W) : w1.grownBy W (some R) := by
  rcases h with ⟨_, σ, _, g, _⟩ | ⟨_, _, _, g⟩ | ⟨_, j, σ, m, p, q, _, P⟩ | ⟨_, _, σ, m, p, q, P⟩
  · exact g
  · exact g
  · exact P.gb
  · exact P.gb
/-- a state's answer -/
def NK (w1 : World) (R : Nat) (bw : Value) (bs : Bs) (k : Nat) (e : Ending) (w' : World) : Prop := ∃ v k', e = .returned v ∧ k' < k ∧ NS w1 R bw bs k' v w'
section
variable {w1 W : World} {R : Nat} {bw : Value} {bs : Bs} {mm : Int}
theorem NK.fin {k : Nat} (hk : 0 < k) {w' : World} (h : FinK w1 R bw bs w') : NK w1 R bw bs k (.returned .nilFunc) w' := ⟨_, 0, rfl, hk, .inl ⟨rfl, h⟩⟩
theorem FinK.fault {w' : World} {σ : RS} {s : Int} (h : RB w' R bw σ) (g : w1.grownBy w' (some R)) (hs : σ.st = s) (h0 : s ≠ 0) (hn : nextP bs = .fault s) : FinK w1 R bw bs w' := by
  refine ⟨σ, h, g, ?_⟩
  rw [hn]; exact ⟨hs, h0⟩
theorem FinK.more {w' : World} {σ : RS} (h : RB w' R bw σ) (g : w1.grownBy w' (some R)) (hs : σ.st = 0) (h0 : σ.wh = false) (hn : nextP bs = .more) : FinK w1 R bw bs w' := by
  refine ⟨σ, h, g, ?_⟩
  rw [hn]; exact ⟨hs, h0⟩
theorem start_step (hB : RV W R bw bs) (hm : MX W mm) (hl : bs.length ≤ 2000000) (hR0 : some 0 ≠ some R) (h : RB W R bw sig0) (g : w1.grownBy W (some R)) :
    Calls Tryz.prog 35 #[.pointer (some ⟨R, 0, none⟩)] W (NK w1 R bw bs 40) := by
  refine (start_any R bw bs sig0 mm W h hB hm (Nat.zero_le _) hl hR0).mono ?_
  intro e w' hk
  unfold SK at hk
  rw [show bs.drop sig0.i = bs from rfl] at hk
  cases hp : lineP bs with
  | more =>
    rw [hp] at hk
    obtain ⟨rfl, h1, g1⟩ := hk
    exact NK.fin (by omega) (.more h1 (gb_trans g g1) rfl rfl (by unfold nextP; rw [hp]))
  | bad =>
    rw [hp] at hk
    obtain ⟨τ, ht, rfl, h1, g1⟩ := hk
    exact NK.fin (by omega) (.fault h1 (gb_trans g g1) ht (by omega) (by unfold nextP; rw [hp]))
  | got s n =>
    rw [hp] at hk
    dsimp only at hk
    obtain ⟨_, _, hn2, hn3⟩ := lineP_got hp
    cases hs : startP s with
    | none =>
      rw [hs] at hk
      obtain ⟨τ, ht, rfl, h1, g1⟩ := hk
      exact NK.fin (by omega) (.fault h1 (gb_trans g g1) ht (by omega) (by unfold nextP; rw [hp]; dsimp only; rw [hs]))
    | some x =>
      obtain ⟨m, p, q⟩ := x
      rw [hs] at hk
      obtain ⟨v, ho, rfl, h1, g1⟩ := hk
      refine ⟨_, 39, rfl, by omega, .inr (.inr (.inl ⟨rfl, 0, _, m, p, q, rfl, ⟨h1, gb_trans g g1, rfl, rfl, rfl, rfl, own_base ho g.size, rfl, by omega, ?_, ?_, ?_⟩⟩))⟩
      · show 0 + n ≤ bs.length; omega
      · rintro rfl; simp at hn3; omega
      · unfold nextP
        rw [hp]
        dsimp only
        rw [hs]
        dsimp only
        rw [show sig0.i + n = n from Nat.zero_add n]
        cases hdrsP bs 34 n 0 (-1) false <;> rfl
theorem header_step {j : Nat} {σ : RS} {m p : Bs} {q : List (Bs × Bs)} (hB : RV W R bw bs) (hm : MX W mm) (hl : bs.length ≤ 2000000) (hR0 : some 0 ≠ some R) (hR : R < w1.heap.size) (h : PhB w1 R bw bs j σ m p q W) :
    Calls Tryz.prog 67 #[.pointer (some ⟨R, 0, none⟩)] W (NK w1 R bw bs (39 - j)) := by
  have hj := h.hj
  have hh := h.eh
  have hi := h.i
  refine (header_any R bw bs σ mm W h.rb hB hm h.i hl hR0 ⟨by omega, by omega⟩).mono ?_
  intro e w' hk
  unfold HK at hk
  have hn := h.next
  rw [show 34 - j = (33 - j) + 1 from by omega] at hn
  unfold hdrsP at hn
  cases hp : lineP (bs.drop σ.i) with
  | more =>
    rw [hp] at hk hn
    obtain ⟨rfl, h1, g1⟩ := hk
    exact NK.fin (by omega) (.more h1 (gb_trans h.gb g1) h.st h.wh hn)
  | bad =>
    rw [hp] at hk hn
    obtain ⟨τ, ht, _, rfl, h1, g1⟩ := hk
    exact NK.fin (by omega) (.fault h1 (gb_trans h.gb g1) ht (by omega) hn)
  | got s n =>
    rw [hp] at hk hn
    dsimp only at hk hn
    obtain ⟨_, _, hn2, hn3⟩ := lineP_got hp
    rw [List.length_drop] at hn3
    by_cases hs : s = []
    · rw [if_pos hs] at hk hn
      obtain ⟨rfl, h1, g1⟩ := hk
      exact ⟨_, 1, rfl, by omega, .inr (.inr (.inr ⟨rfl, rfl, _, m, p, q, ⟨h1, gb_trans h.gb g1, h.st, h.wh, h.em, h.ep, h.eq.kept g1 (own_ne' h.eq hR), (by show σ.i + n ≤ bs.length; omega), h.n0, hn⟩⟩))⟩
    · rw [if_neg hs] at hk hn
      rw [hh] at hk
      by_cases h32 : 32 < j + 1
      · rw [if_pos (by omega)] at hk
        rw [if_pos h32] at hn
        obtain ⟨τ, ht, _, rfl, h1, g1⟩ := hk
        exact NK.fin (by omega) (.fault h1 (gb_trans h.gb g1) ht (by omega) hn)
      · rw [if_neg (by omega)] at hk
        rw [if_neg h32] at hn
        cases hd : hdrP s σ.l σ.cl with
        | none =>
          rw [hd] at hk hn
          obtain ⟨τ, ht, _, rfl, h1, g1⟩ := hk
          exact NK.fin (by omega) (.fault h1 (gb_trans h.gb g1) ht (by omega) hn)
        | some x =>
          obtain ⟨l, c⟩ := x
          rw [hd] at hk hn
          obtain ⟨rfl, h1, g1⟩ := hk
          refine ⟨_, 39 - (j + 1), rfl, by omega, .inr (.inr (.inl ⟨rfl, j + 1, _, m, p, q, rfl, ⟨h1, gb_trans h.gb g1, h.st, h.wh, h.em, h.ep, h.eq.kept g1 (own_ne' h.eq hR), ?_, by omega, ?_, h.n0, ?_⟩⟩))⟩
          · show (j : Int) + 1 = ((j + 1 : Nat) : Int); omega
          · show σ.i + n ≤ bs.length; omega
          · rw [show 34 - (j + 1) = 33 - j from by omega]; exact hn
theorem body_step {σ : RS} {m p : Bs} {q : List (Bs × Bs)} (hB : RV W R bw bs) (hl : bs.length ≤ 2000000) (hR : R < w1.heap.size) (h : PhC w1 R bw bs σ m p q W) :
    Calls Tryz.prog 91 #[.pointer (some ⟨R, 0, none⟩)] W (NK w1 R bw bs 1) := by
  have hi := h.i
  refine (body_any R bw bs σ W h.rb hB h.n0 h.i hl).mono ?_
  intro e w' hk
  unfold BK at hk
  have hn := h.next
  unfold bodyP at hn
  by_cases h1 : 262144 < max 0 σ.l
  · rw [if_pos h1] at hk hn
    obtain ⟨rfl, h1, g1⟩ := hk
    exact NK.fin (by omega) (.fault (s := 413) h1 (gb_trans h.gb g1) rfl (by decide) hn)
  · rw [if_neg h1] at hk hn
    by_cases h2 : bs.length < σ.i + (max 0 σ.l).toNat
    · rw [if_pos h2] at hk hn
      obtain ⟨rfl, h1, g1⟩ := hk
      exact NK.fin (by omega) (.more h1 (gb_trans h.gb g1) h.st h.wh hn)
    · rw [if_neg h2] at hk hn
      obtain ⟨v, b, hb, hb2, rfl, h3, g3⟩ := hk
      refine NK.fin (by omega) ⟨_, h3, gb_trans h.gb g3, ?_⟩
      rw [hn]
      exact ⟨h.st, rfl, rfl, by omega, h.em, h.ep, rfl, h.eq.kept g3 (own_ne' h.eq hR), b, hb, Nat.le_trans h.gb.size hb2⟩
end
/-- what waits, as the reader has it -/
theorem BF.rv {w : World} {v : Value} {b R : Nat} {bs : Bs} (h : BF w v b bs) (hb : b ≠ R) : RV w R v bs := by
  by_cases h0 : bs = []
  · rcases h with h | ⟨off, cap, cur, rfl, h1, _⟩
    · exact .inl h
    · subst h0
      exact .inr ⟨b, off, cap, rfl, h1, hb, fun i hi => by simp at hi⟩
  · obtain ⟨off, cap, rfl, h1, _, h2⟩ := h.ba h0
    exact .inr ⟨b, off, cap, rfl, h1, hb, h2⟩
/-- a request as a value: its rows lie from B on -/
def RQ0 (B : Nat) (w : World) (r : Rq) (rv : Value) : Prop :=
  ∃ qv bv, rv = .agg #[.string ⟨r.m.toArray⟩, .string ⟨r.p.toArray⟩, qv, .bool r.cl, bv] ∧ w.ownsRow B 60 2 qv r.q.length (prCells r.q) ∧ ∃ b, BF w bv b r.body ∧ B ≤ b
abbrev req0 : Value := .agg #[.string ⟨#[]⟩, .string ⟨#[]⟩, .slice none 0 0, .bool false, .slice none 0 0]
/-- what Next leaves -/
def NeK (C b : Nat) (bw : Value) (ov : Bool) (bs : Bs) (w : World) (e : Ending) (w' : World) : Prop :=
  if ov then e = .returned (.tuple #[req0, .int .i64 0, .bool false]) ∧ CB w' C bw true ∧ w.grownBy w' none
  else match nextP bs with
  | .more => e = .returned (.tuple #[req0, .int .i64 0, .bool false]) ∧ CB w' C bw false ∧ w.grownBy w' none
  | .fault st => e = .returned (.tuple #[req0, .int .i64 st, .bool true]) ∧ CB w' C bw true ∧ w.grownBy w' (some C)
  | .req r n => ∃ rv bw', e = .returned (.tuple #[rv, .int .i64 0, .bool true]) ∧ RQ0 w.heap.size w' r rv ∧ CB w' C bw' r.cl ∧ BF w' bw' b (bs.drop n) ∧ w.grownBy w' (some C)
end Go.Proofs.YtdfgnoflohfnmaaGreatDoor.Hx
