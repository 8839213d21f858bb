/- Regions that draw their order: what is read within a window; rows of events. -/
import Derived.Test.YtnnhkajjifmlfaaDoorX24a
namespace Go.Proofs.YtnnhkajjifmlfaaDoor
namespace Ax
section
variable {E : Env} {ρ : Ren}
theorem ieqK_eq {k q : IntKind} (h : ieqK k q = true) : k = q := kidx_inj h
theorem fneq_eq {a b : Fn} (h : fneq a b = true) : a = b := by
  unfold fneq at h
  split at h
  · split at h
    · rw [beq_iff.1 h]
    · cases h
  · cases h
theorem aeq1_eq {u v : AV} (h : aeq1 u v = true) : u = v := by
  unfold aeq1 at h
  split at h <;> (try (split at h)) <;> (try (cases h; done)) <;> (try rfl) <;>
    (try simp only [Bool.and_eq_true, beq_iff, pn_eq, beq_eq, ieq_eq, seq_eq, beq_iff_eq] at h) <;>
    first
      | (subst h; rfl)
      | (obtain ⟨h1, rfl⟩ := h; have := ieqK_eq h1; subst this; rfl)
      | (obtain ⟨rfl, rfl⟩ := h; rfl)
      | (obtain ⟨⟨⟨⟨rfl, rfl⟩, rfl⟩, rfl⟩, rfl⟩ := h; rfl)
      | (obtain ⟨⟨rfl, rfl⟩, rfl⟩ := h; rfl)
      | (obtain ⟨⟨rfl, h1⟩, rfl⟩ := h; have := ieqK_eq h1; subst this; rfl)
      | (rw [fneq_eq h])
theorem aeqs_eq (x : List AV) : ∀ {y : List AV}, aeqs x y = true → x = y := by
  induction x with
  | nil => intro y h; cases y with
    | nil => rfl
    | cons b y => exact absurd h (by simp [aeqs])
  | cons a x ih => intro y h; cases y with
    | nil => exact absurd h (by simp [aeqs])
    | cons b y =>
      have e : aeqs (a :: x) (b :: y) = Bool.rec false (aeqs x y) (aeq1 a b) := rfl
      rw [e] at h
      cases hab : aeq1 a b with
      | false => rw [hab] at h; cases h
      | true => rw [hab] at h; rw [aeq1_eq hab, ih h]
theorem aeq_eq {u v : AV} (h : aeq u v = true) : u = v := by
  unfold aeq at h
  split at h
  · split at h
    · rw [aeqs_eq _ h]
    · cases h
  · split at h
    · rw [aeqs_eq _ h]
    · cases h
  · exact aeq1_eq h
theorem ckWin_inv {c : Ck} (hw : WfC c) : ∀ (l : List (Tr AO)) (i : Nat) {k : Unit → R}, Ok (ckWin c l i k) → ckWin c l i k = k () ∧ ∀ S : Tr AO → AV → Prop, (∀ h (k : AV → R), Ok (c.f h k) → ∃ v, c.f h k = k v ∧ S h v) → ∀ q h, l[q]? = some h → c.lo ≤ i + q → i + q ≤ c.hi → S h c.v
  | [], i, k, _ => ⟨rfl, fun S hS q h hq => by simp at hq⟩
  | h0 :: l, i, k, hk => by
    have e : ckWin c (h0 :: l) i k = Bool.rec (ckWin c l (i + 1) k) (c.f h0 fun v => ifK (aeq v c.v) 250 fun _ => ckWin c l (i + 1) k) (Nat.ble c.lo i && Nat.ble i c.hi) := rfl
    rw [e] at hk ⊢
    cases hin : (Nat.ble c.lo i && Nat.ble i c.hi) with
    | false =>
      rw [hin] at hk
      obtain ⟨h1, h2⟩ := ckWin_inv hw l (i + 1) hk
      refine ⟨h1, fun S hS q h hq hlo hhi => ?_⟩
      cases q with
      | zero =>
        have : (Nat.ble c.lo i && Nat.ble i c.hi) = true := by rw [Bool.and_eq_true, ble_iff, ble_iff]; omega
        rw [this] at hin; cases hin
      | succ q => exact h2 S hS q h (by simpa using hq) (by omega) (by omega)
    | true =>
      rw [hin] at hk
      simp only at hk ⊢
      have hk0 := hk
      obtain ⟨v, h1⟩ := hw h0 _ hk
      rw [h1] at hk ⊢
      obtain ⟨h2, h3⟩ := ifK_inv hk
      rw [h3] at hk ⊢
      obtain ⟨h4, h5⟩ := ckWin_inv hw l (i + 1) hk
      refine ⟨h4, fun S hS q h hq hlo hhi => ?_⟩
      cases q with
      | zero =>
        simp at hq
        subst hq
        obtain ⟨v2, g1, g2⟩ := hS h0 _ hk0
        rw [g1] at hk0
        rw [← aeq_eq (ifK_inv hk0).1]
        exact g2
      | succ q => exact h5 S hS q h (by simpa using hq) (by omega) (by omega)
theorem ckAll_inv (hs : List (Tr AO)) : ∀ (l : List Ck) {k : Unit → R}, (∀ c ∈ l, WfC c) → Ok (ckAll l hs k) → ckAll l hs k = k () ∧
    ∀ c ∈ l, ∀ S : Tr AO → AV → Prop, (∀ h (k : AV → R), Ok (c.f h k) → ∃ v, c.f h k = k v ∧ S h v) → ∀ q h, hs[q]? = some h → c.lo ≤ q → q ≤ c.hi → S h c.v
  | [], k, _, hk => ⟨rfl, by simp⟩
  | c :: l, k, hw, hk => by
    have e : ckAll (c :: l) hs k = ckWin c hs 0 fun _ => ckAll l hs k := rfl
    rw [e] at hk ⊢
    obtain ⟨h1, h2⟩ := ckWin_inv (hw c (by simp)) hs 0 hk
    rw [h1] at hk ⊢
    obtain ⟨h3, h4⟩ := ckAll_inv hs l (fun c hc => hw c (by simp [hc])) hk
    refine ⟨h3, fun c' hc S hS q h hq hlo hhi => ?_⟩
    rcases List.mem_cons.1 hc with rfl | hc
    · exact h2 S hS q h hq (by omega) (by omega)
    · exact h4 c' hc S hS q h hq hlo hhi
/-- a pure operation or a read, at every heap of its window -/
theorem pu_sem {ck : List Ck} {e : Ev} (hp : PuEv E ck e) {F : List (Tr AO)} (hF : F[e.s.k]? = some e.s.h) (hin : e.lo ≤ e.s.k ∧ e.s.k ≤ e.hi)
    (hck : ∀ c ∈ ck, ∀ S : Tr AO → AV → Prop, (∀ h (k : AV → R), Ok (c.f h k) → ∃ v, c.f h k = k v ∧ S h v) → ∀ q h, F[q]? = some h → c.lo ≤ q → q ≤ c.hi → S h c.v)
    {q : Nat} {h : Tr AO} (hq : F[q]? = some h) (h1 : e.lo ≤ q) (h2 : q ≤ e.hi) : RSem E e.o e.s.tm h e.v := by
  rcases hp.2 with g | ⟨g1, g | ⟨c, g2, g3, g4, g5, g6⟩⟩
  · exact g h
  · have : q = e.s.k := by omega
    subst this
    rw [hF] at hq
    injection hq with hq
    subst hq
    exact g1
  · rw [← g5]
    exact hck c g2 _ g6 q h hq (by omega) (by omega)
end
end Ax
end Go.Proofs.YtnnhkajjifmlfaaDoor
