/- HTTP: a request is sent, as the document has it: plain facts. -/
import Derived.Test.YtdfgnoflohfnmaaGreatDoorCd
import Derived.Test.YtdfgnoflohfnmaaGreatDoorBl
import Derived.Test.YtdfgnoflohfnmaaGreatDoorRb
import Derived.Test.YtdfgnoflohfnmaaGreatDoorCb
import Derived.Test.YtdfgnoflohfnmaaGreatDoorG1
namespace Go.Proofs.YtdfgnoflohfnmaaGreatDoor.Hx
open Go.RowKit Go.Maps

def fine0 (m p : Bs) : Bool := decide (1 ≤ m.length) && decide (m.length ≤ 16) && Lib.hasPrefix p [47] && p.all prB
theorem fine1_eq (m p : Bs) : fine1 m p = (fine0 m p && m.all capB) := by
  unfold fine1 fine0
  cases decide (1 ≤ m.length) <;> cases decide (m.length ≤ 16) <;> cases m.all capB <;> cases Lib.hasPrefix p [47] <;> cases p.all prB <;> rfl
theorem may_no0 (r : Rq) (h : fine0 r.m r.p = false) : mayS r = 2 := may_fine r (by rw [fine1_eq, h]; rfl)
theorem may_no1 (r : Rq) (h : r.m.all capB = false) : mayS r = 2 := may_fine r (by rw [fine1_eq, h, Bool.and_false]; rfl)
theorem may_no2 (r : Rq) (h : r.q.all parOK = false) : mayS r = 2 := may_fine r (by rw [h, Bool.and_false])
theorem may_yes (r : Rq) (h0 : fine0 r.m r.p = true) (h1 : r.m.all capB = true) (h2 : r.q.all parOK = true) : mayS r = if 2048 < (tgtO r.p r.q).length ∨ 262144 < r.body.length ∨ 32 < r.q.length then 3 else 0 := may_ok r (by rw [fine1_eq, h0, h1, h2]; rfl)
theorem esc_ge (slash : Bool) : ∀ l : Bs, l.length ≤ (escP slash l).length
  | [] => Nat.le_refl _
  | c :: t => by
    have := esc_ge slash t
    unfold escP
    split <;> simp <;> omega
theorem pars_ge : ∀ (q : Pr) (f : Bool) (k : Nat) (h : k < q.length), q[k].1.length ≤ (parsO f q).length ∧ q[k].2.length ≤ (parsO f q).length
  | x :: t, f, 0, _ => by
    have h1 := esc_ge false x.1
    have h2 := esc_ge false x.2
    unfold parsO
    simp only [List.length_cons, List.length_append, List.getElem_cons_zero]
    omega
  | x :: t, f, k + 1, h => by
    have := pars_ge t false k (by simpa using h)
    unfold parsO
    simp only [List.length_cons, List.length_append, List.getElem_cons_succ]
    omega
theorem pars_at {q : Pr} {k : Nat} (h : k < q.length) : parsO true (q.take (k + 1)) = parsO true (q.take k) ++ ((if k = 0 then 63 else 38) :: (escP false q[k].1 ++ 61 :: escP false q[k].2)) := by
  rw [List.take_succ_eq_append_getElem h, pars_snoc, Bool.true_and]
  have : (q.take k).isEmpty = decide (k = 0) := by
    rw [Bool.eq_iff_iff]
    simp
    intro h2; subst h2; simp at h
  rw [this]
  by_cases h : k = 0
  · rw [if_pos h, if_pos (by simpa using h)]
  · rw [if_neg h, if_neg (by simpa using h)]
theorem hp_cons (c : UInt8) (t : Bs) : Lib.hasPrefix (c :: t) [47] = decide (c.toNat = 47) := by
  rw [Bool.eq_iff_iff, hp_head, decide_eq_true_eq]
  simp
  constructor
  · intro h; rw [h]; rfl
  · intro h; exact UInt8.toNat_inj.1 (by rw [h]; rfl)
theorem hp_ba (P : ByteArray) (h : 0 < P.size) : Lib.hasPrefix P.data.toList [47] = decide (P[0].toNat = 47) := by
  have hl : 0 < P.data.toList.length := by rw [← ba_size]; exact h
  have e : P.data.toList = P[0] :: P.data.toList.drop 1 := by
    have := List.drop_eq_getElem_cons hl
    rw [List.drop_zero] at this
    exact this
  rw [e, hp_cons]
/-- the first test: is a method, a path one that may be? -/
theorem sd_over {r : Rq} {k : Nat} (h0 : mayS r = if 2048 < (tgtO r.p r.q).length ∨ 262144 < r.body.length ∨ 32 < r.q.length then 3 else 0) (h : 32 < r.q.length ∨ 2048 < r.p.length ∨ (∃ h : k < r.q.length, 2048 < r.q[k].1.length ∨ 2048 < r.q[k].2.length) ∨ 2048 < (tgtO r.p r.q).length) : mayS r = 3 := by
  rw [h0, if_pos]
  rcases h with h | h | ⟨hk, h⟩ | h
  · exact .inr (.inr h)
  · left
    have := esc_ge true r.p
    unfold tgtO
    rw [List.length_append]
    omega
  · left
    have := pars_ge r.q true k hk
    unfold tgtO
    rw [List.length_append]
    omega
  · exact .inl h
end Go.Proofs.YtdfgnoflohfnmaaGreatDoor.Hx
