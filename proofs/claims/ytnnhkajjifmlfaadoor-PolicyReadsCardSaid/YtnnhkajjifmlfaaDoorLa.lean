/- Both readers tell the same of any text: their states side by side; words, escapes, texts. -/
import Derived.Test.YtnnhkajjifmlfaaDoorRb
import Derived.RegionTactic
/-! Both readers tell the same of any text: their states side by side; words, escapes, texts. -/

namespace Go.Proofs.YtnnhkajjifmlfaaDoor
open Go.RowKit Go.Maps

/-- two readers' states -/
def Sm (σ : PS) (q : QS) : Prop := (σ.e = 0 ∧ q.bad < 0 ∧ σ.p = q.p) ∨ (σ.e ≠ 0 ∧ ¬ q.bad < 0 ∧ σ.e = q.e ∧ σ.bad = q.bad)
section
variable {s : ByteArray} {σ : PS} {q : QS}
theorem Sm.iff (h : Sm σ q) : σ.e = 0 ↔ q.bad < 0 := by
  rcases h with ⟨a, b, _⟩ | ⟨a, b, _⟩
  · exact ⟨fun _ => b, fun _ => a⟩
  · exact ⟨fun e => absurd e a, fun e => absurd e b⟩
theorem Sm.p (h : Sm σ q) (he : σ.e = 0) : σ.p = q.p := by
  rcases h with ⟨_, _, c⟩ | ⟨a, _⟩
  · exact c
  · exact absurd he a
theorem failS_no (he : σ.e ≠ 0) (x y : Int) : failS σ x y = σ := by unfold failS; rw [if_neg he]
theorem failQ_no (hb : ¬ q.bad < 0) (x y : Int) : failQ q x y = q := by unfold failQ; rw [if_neg hb]
theorem nextS_no (he : σ.e ≠ 0) : nextS s σ = 0 := by unfold nextS; rw [if_neg he]
theorem takeB_no (he : σ.e ≠ 0) (c : Int) : takeB s σ c = false := by simp [takeB, he]
theorem sm_fail (h : Sm σ q) {x pos pos' : Int} (hx : x ≠ 0) (h0 : σ.e = 0 → 0 ≤ pos ∧ pos = pos') : Sm (failS σ x pos) (failQ q pos' x) := by
  by_cases he : σ.e = 0
  · obtain ⟨h1, h2⟩ := h0 he
    right
    unfold failS failQ
    rw [if_pos he, if_pos (h.iff.1 he)]
    exact ⟨hx, by simp only; omega, rfl, h2⟩
  · have hb : ¬ q.bad < 0 := fun e => he (h.iff.2 e)
    rw [failS_no he, failQ_no hb]
    exact h
theorem sm_blanks (h : Sm σ q) : Sm (blanksS s σ) (blanksQ s q) := by
  unfold blanksS blanksQ
  rcases h with ⟨a, b, c⟩ | ⟨a, b, c, d⟩
  · rw [if_pos a]; exact .inl ⟨a, b, by simp only; rw [c]⟩
  · rw [if_neg a]; exact .inr ⟨a, b, c, d⟩
theorem sm_step (h : Sm σ q) : Sm (stepP σ) (stepQ q) := by
  unfold stepP stepQ
  rcases h with ⟨a, b, c⟩ | ⟨a, b, c, d⟩
  · exact .inl ⟨a, b, by simp only; rw [c]⟩
  · exact .inr ⟨a, b, c, d⟩
theorem nextS_yes (h : Sm σ q) (he : σ.e = 0) : nextS s σ = chr s q.p := by unfold nextS; rw [if_pos he, h.p he]
theorem takeB_chr (h : Sm σ q) (he : σ.e = 0) {c : Int} (hc : c ≠ 0) : takeB s σ c = decide ((chr s q.p : Int) = c) := by
  unfold takeB
  rw [h.p he]
  by_cases h1 : (chr s q.p : Int) = c
  · have h2 : q.p < s.size := chr_pos (fun e => hc (by rw [← h1, e]; rfl))
    simp [he, h1, h2]
  · simp [he, h1]
theorem tkS_yes {c : Int} (he : takeB s σ c = true) : takeS s σ c = stepP σ := by unfold takeS stepP; rw [if_pos he]
theorem tkS_not {c : Int} (he : takeB s σ c = false) : takeS s σ c = σ := by unfold takeS; rw [if_neg (by simp [he])]
theorem mustQ_bad (hb : ¬ q.bad < 0) (t : List Nat) : mustQ s t q = q := by
  cases t with
  | nil => rfl
  | cons c r => unfold mustQ; rw [if_neg hb]
theorem sm_need : ∀ (t : List Nat) {σ : PS} {q : QS}, (∀ c ∈ t, c ≠ 0) → Sm σ q → Sm (needS s t σ) (mustQ s t q)
  | [], _, _, _, h => h
  | c :: r, σ, q, hz, h => by
    have hr : ∀ c ∈ r, c ≠ 0 := fun x hx => hz x (by simp [hx])
    have hc : (c : Int) ≠ 0 := by have := hz c (by simp); omega
    by_cases he : σ.e = 0
    · have hb := h.iff.1 he
      have ht := takeB_chr (s := s) h he hc
      by_cases h1 : chr s q.p = c
      · have h2 : takeB s σ c = true := by rw [ht]; simp; omega
        have e1 : needS s (c :: r) σ = needS s r (stepP σ) := by rw [needS, if_pos h2, tkS_yes h2]
        have e2 : mustQ s (c :: r) q = mustQ s r (stepQ q) := by rw [mustQ, if_pos hb, if_pos h1]
        rw [e1, e2]
        exact sm_need r hr (sm_step h)
      · have h2 : takeB s σ c = false := by rw [ht]; simp; omega
        have e1 : needS s (c :: r) σ = needS s r (failS σ 4 σ.p) := by rw [needS, if_neg (by simp [h2])]
        have e2 : mustQ s (c :: r) q = failQ q q.p 4 := by rw [mustQ, if_pos hb, if_neg h1]
        have hf : Sm (failS σ 4 σ.p) (failQ q q.p 4) := sm_fail h (by decide) (fun e => ⟨by omega, by rw [h.p e]⟩)
        have hfb : ¬ (failQ q q.p 4).bad < 0 := by unfold failQ; rw [if_pos hb]; simp only; omega
        rw [e1, e2, ← mustQ_bad (s := s) hfb r]
        exact sm_need r hr hf
    · have hb : ¬ q.bad < 0 := fun e => he (h.iff.2 e)
      have e1 : needS s (c :: r) σ = needS s r σ := by rw [needS, if_neg (by simp [takeB_no he]), failS_no he]
      rw [e1, mustQ_bad hb, ← mustQ_bad (s := s) hb r]
      exact sm_need r hr h
theorem hexQ_eq (c : Int) : hexQ c = hexS c := rfl
theorem sm_escU (h : Sm σ q) : Sm (escU s σ).2 (if q.bad < 0 then (digQ s q).2 else q) ∧ ((escU s σ).2.e = 0 → (escU s σ).1 = (digQ s q).1) := by
  by_cases he : σ.e = 0
  · have hb := h.iff.1 he
    have hs := sm_step h
    have n1 := nextS_yes (s := s) h he
    have n2 := nextS_yes (s := s) hs (by exact he)
    rw [if_pos hb]
    unfold escU digQ
    rw [n1, n2, hexQ_eq, hexQ_eq]
    split
    · exact ⟨sm_fail h (by decide) (fun e => ⟨by omega, by rw [h.p e]⟩), fun _ => rfl⟩
    · split
      · exact ⟨sm_fail hs (by decide) (fun e => ⟨by omega, by rw [hs.p e]⟩), fun _ => rfl⟩
      · exact ⟨sm_step hs, fun _ => rfl⟩
  · have hb : ¬ q.bad < 0 := fun e => he (h.iff.2 e)
    rw [if_neg hb]
    have e1 : escU s σ = (0, σ) := by unfold escU; rw [nextS_no he, if_pos (by decide), failS_no he]
    rw [e1]
    exact ⟨h, fun e => absurd e he⟩
theorem unesc_Q (c : Int) (h : c ≠ 47) : unescQ c = unesc c := by
  unfold unescQ unesc
  repeat' split
  all_goals first | rfl | omega
theorem sm_esc (h : Sm σ q) : Sm (escS s σ).2 (escQ s q).2 ∧ ((escS s σ).2.e = 0 → (escS s σ).1 = (escQ s q).1) := by
  by_cases he : σ.e = 0
  · have hb := h.iff.1 he
    have n1 := nextS_yes (s := s) h he
    unfold escS
    rw [n1]
    have hm := sm_need (s := s) (nats ⟨#[117, 48, 48]⟩) (by decide) h
    by_cases h1 : chr s q.p = 117
    · rw [if_pos h1]
      have hu := sm_escU (s := s) hm
      unfold escQ
      rw [if_neg (by rw [h1]; decide)]
      by_cases h2 : (mustQ s (nats ⟨#[117, 48, 48]⟩) q).bad < 0
      · rw [if_pos h2] at hu ⊢; exact hu
      · rw [if_neg h2] at hu ⊢
        refine ⟨hu.1, fun e => absurd (hu.1.iff.1 e) h2⟩
    · rw [if_neg h1]
      by_cases h2 : chr s q.p = 47
      · rw [if_pos h2]
        unfold escQ
        rw [if_pos (by rw [h2]; decide), h2]
        exact ⟨sm_step h, fun _ => rfl⟩
      · rw [if_neg h2]
        have hu : unescQ (chr s q.p) = unesc (chr s q.p) := unesc_Q _ (by omega)
        unfold escQ
        rw [hu]
        by_cases h3 : unesc (chr s q.p) < 0
        · rw [if_pos h3, if_neg (by omega)]
          have e2 : mustQ s (nats ⟨#[117, 48, 48]⟩) q = failQ q q.p 4 := by
            show mustQ s [117, 48, 48] q = _
            rw [mustQ, if_pos hb, if_neg h1]
          have hfb : ¬ (failQ q q.p 4).bad < 0 := by unfold failQ; rw [if_pos hb]; simp only; omega
          rw [e2, if_neg hfb]
          exact ⟨sm_fail h (by decide) (fun e => ⟨by omega, by rw [h.p e]⟩), fun _ => rfl⟩
        · rw [if_neg h3, if_pos (by omega)]
          exact ⟨sm_step h, fun _ => rfl⟩
  · have hb : ¬ q.bad < 0 := fun e => he (h.iff.2 e)
    have e1 : escS s σ = (0, σ) := by
      unfold escS; rw [nextS_no he, if_neg (by decide), if_neg (by decide), if_pos (by decide), failS_no he]
    rw [e1]
    refine ⟨?_, fun e => absurd e he⟩
    unfold escQ
    split
    · rcases h with ⟨a, _⟩ | ⟨a, b, c, d⟩
      · exact absurd a he
      · exact .inr ⟨a, b, c, d⟩
    · rw [mustQ_bad hb, if_neg hb]; exact h
theorem sm_textF : ∀ (n : Nat) (acc : List UInt8) {σ : PS} {q : QS}, Sm σ q → σ.p ≤ s.size → (σ.e = 0 → s.size - σ.p < n) →
    Sm (textF s n acc σ).2 (qtF s n acc q).2 ∧ ((textF s n acc σ).2.e = 0 → (textF s n acc σ).1 = (qtF s n acc q).1)
  | 0, acc, σ, q, h, hp, hn => by
    have he : σ.e ≠ 0 := fun e => by have := hn e; omega
    exact ⟨h, fun e => absurd e he⟩
  | n + 1, acc, σ, q, h, hp, hn => by
    by_cases he : σ.e = 0
    · have hb := h.iff.1 he
      have hpq := h.p he
      have n1 := nextS_yes (s := s) h he
      have t34 := takeB_chr (s := s) (c := 34) h he (by decide)
      have t92 := takeB_chr (s := s) (c := 92) h he (by decide)
      have hl := hn he
      by_cases h1 : chr s q.p = 34
      · have hin : q.p < s.size := chr_pos (by omega)
        have k1 : takeB s σ 34 = true := by rw [t34, h1]; rfl
        have e1 : textF s (n + 1) acc σ = (acc, stepP σ) := by rw [textF, if_pos he, if_pos k1, tkS_yes k1]
        have e2 : qtF s (n + 1) acc q = (acc, stepQ q) := by rw [qtF, if_pos hb, if_neg (by omega), if_pos h1]
        rw [e1, e2]
        exact ⟨sm_step h, fun _ => rfl⟩
      · have k1 : takeB s σ 34 = false := by rw [t34]; simp; omega
        by_cases h2 : chr s q.p < 32
        · have e1 : textF s (n + 1) acc σ = textF s n acc (failS σ 4 σ.p) := by rw [textF, if_pos he, if_neg (by simp [k1]), n1, if_pos h2]
          have e2 : qtF s (n + 1) acc q = ([], failQ q q.p 4) := by rw [qtF, if_pos hb, if_pos (.inr h2)]
          have hf : Sm (failS σ 4 σ.p) (failQ q q.p 4) := sm_fail h (by decide) (fun e => ⟨by omega, by rw [h.p e]⟩)
          have hfe : (failS σ 4 σ.p).e ≠ 0 := by unfold failS; rw [if_pos he]; simp
          have e3 : textF s n acc (failS σ 4 σ.p) = (acc, failS σ 4 σ.p) := by
            cases n with
            | zero => rfl
            | succ n => rw [textF, if_neg hfe]
          rw [e1, e2, e3]
          exact ⟨hf, fun e => absurd e hfe⟩
        · have hin : q.p < s.size := chr_pos (by omega)
          have hps : stepP σ = { σ with p := σ.p + 1 } := rfl
          have hsp : (stepP σ).p = σ.p + 1 := rfl
          by_cases h3 : chr s q.p = 92
          · have k2 : takeB s σ 92 = true := by rw [t92, h3]; rfl
            have hes := sm_esc (s := s) (sm_step h)
            have e1 : textF s (n + 1) acc σ = textF s n (acc ++ [toB (escS s (stepP σ)).1]) (escS s (stepP σ)).2 := by
              rw [textF, if_pos he, if_neg (by simp [k1]), n1, if_neg h2, if_pos k2, tkS_yes k2]
            have e2 : qtF s (n + 1) acc q = qtF s n (acc ++ [toB (escQ s (stepQ q)).1]) (escQ s (stepQ q)).2 := by
              rw [qtF, if_pos hb, if_neg (by omega), if_neg h1, if_pos h3]
            have hg := goes_esc (s := s) (σ := stepP σ) (by rw [hsp]; omega)
            have hge := hg.ge
            have hle := hg.le
            rw [hsp] at hge
            rw [e1, e2]
            by_cases h4 : (escS s (stepP σ)).2.e = 0
            · rw [hes.2 h4]
              exact sm_textF n _ hes.1 hle (fun _ => by omega)
            · have hbq : ¬ (escQ s (stepQ q)).2.bad < 0 := fun e => h4 (hes.1.iff.2 e)
              have e3 : ∀ acc', textF s n acc' (escS s (stepP σ)).2 = (acc', (escS s (stepP σ)).2) := by
                intro acc'
                cases n with
                | zero => rfl
                | succ n => rw [textF, if_neg h4]
              have e4 : ∀ acc', qtF s n acc' (escQ s (stepQ q)).2 = ([], (escQ s (stepQ q)).2) := by
                intro acc'
                cases n with
                | zero => rfl
                | succ n => rw [qtF, if_neg hbq]
              rw [e3, e4]
              exact ⟨hes.1, fun e => absurd e h4⟩
          · have k2 : takeB s σ 92 = false := by rw [t92]; simp; omega
            have e1 : textF s (n + 1) acc σ = textF s n (acc ++ [toB (chr s q.p)]) (stepP σ) := by
              rw [textF, if_pos he, if_neg (by simp [k1]), n1, if_neg h2, if_neg (by simp [k2])]
            have e2 : qtF s (n + 1) acc q = qtF s n (acc ++ [toB (chr s q.p)]) (stepQ q) := by
              rw [qtF, if_pos hb, if_neg (by omega), if_neg h1, if_neg h3]
            rw [e1, e2]
            exact sm_textF n _ (sm_step h) (by rw [hsp]; omega) (fun _ => by rw [hsp]; omega)
    · have hb : ¬ q.bad < 0 := fun e => he (h.iff.2 e)
      have e1 : textF s (n + 1) acc σ = (acc, σ) := by rw [textF, if_neg he]
      have e2 : qtF s (n + 1) acc q = ([], q) := by rw [qtF, if_neg hb]
      rw [e1, e2]
      exact ⟨h, fun e => absurd e he⟩
theorem sm_text (h : Sm σ q) (hp : σ.p ≤ s.size) : Sm (textS s σ).2 (qtQ s q).2 ∧ ((textS s σ).2.e = 0 → (textS s σ).1 = (qtQ s q).1) := by
  have hm := sm_need (s := s) (nats ⟨#[34]⟩) (by decide) h
  have hg := (goes_need (s := s) (nats ⟨#[34]⟩) hp).le
  exact sm_textF (s.size + 2) [] hm hg (fun _ => by omega)
end
end Go.Proofs.YtnnhkajjifmlfaaDoor

/-! Both readers tell the same of any text: numbers. -/

namespace Go.Proofs.YtnnhkajjifmlfaaDoor
open Go.RowKit Go.Maps

/-- the number that digits tell, with one ahead -/
def dval : List UInt8 → Nat → Nat
  | [], a => a
  | c :: r, a => dval r (a * 10 + (c.toNat - 48))
theorem dval_ge : ∀ (l : List UInt8) (a : Nat), a ≤ dval l a
  | [], a => Nat.le_refl _
  | c :: r, a => by
    have := dval_ge r (a * 10 + (c.toNat - 48))
    show a ≤ dval r (a * 10 + (c.toNat - 48))
    omega
def digs (l : List UInt8) : Prop := ∀ c ∈ l, 48 ≤ c.toNat ∧ c.toNat ≤ 57
theorem parseU (l : List UInt8) : ∀ (a : Nat), digs l → a ≤ 18446744073709551615 → Lib.parseUintM (2 ^ 64 - 1) a l = if dval l a ≤ 18446744073709551615 then .ok (dval l a) else .range := by
  induction l with
  | nil => intro a _ ha; show Lib.NumEnd.ok a = _; rw [if_pos (show dval [] a ≤ _ from ha)]; rfl
  | cons c r ih =>
    intro a hd ha
    have hc := hd c (by simp)
    have hr : digs r := fun x hx => hd x (by simp [hx])
    have e : dval (c :: r) a = dval r (a * 10 + (c.toNat - 48)) := rfl
    have hge := dval_ge r (a * 10 + (c.toNat - 48))
    rw [e]
    unfold Lib.parseUintM
    rw [if_pos hc]
    by_cases h1 : 1844674407370955162 ≤ a
    · rw [if_pos h1, if_neg (by omega)]
    · rw [if_neg h1]
      by_cases h2 : 2 ^ 64 - 1 < a * 10 + (c.toNat - 48)
      · rw [if_pos h2, if_neg (by omega)]
      · rw [if_neg h2]
        exact ih _ hr (by omega)
/-- the bytes of a piece -/
theorem subL_nil {s : ByteArray} {i j : Nat} (h : j ≤ i) : subL s i j = [] := by
  unfold subL
  rw [ByteArray.data_extract, Array.toList_extract]
  simp only [List.extract_eq_take_drop]
  rw [show j - i = 0 from by omega, List.take_zero]
theorem subL_cons {s : ByteArray} {i j : Nat} (h : i < j) (hj : j ≤ s.size) : subL s i j = (s[i]'(by omega)) :: subL s (i + 1) j := by
  unfold subL
  rw [ByteArray.data_extract, Array.toList_extract, ByteArray.data_extract, Array.toList_extract]
  simp only [List.extract_eq_take_drop]
  have hl : i < s.data.toList.length := by
    rw [Array.length_toList]; show i < s.size; omega
  rw [List.drop_eq_getElem_cons hl, show j - i = (j - (i + 1)) + 1 from by omega, List.take_succ_cons]
  congr 1
theorem isDig_iff (c : Nat) : isDig c = true ↔ 48 ≤ c ∧ c ≤ 57 := by unfold isDig; simp
theorem gst_iff (a d : Nat) (hd : d ≤ 9) : gst (-(a : Int)) (d : Int) = decide (9223372036854775808 < 10 * a + d) := by
  unfold gst
  rw [show (-9223372036854775808 + (d : Int)) = -((9223372036854775808 - d : Nat) : Int) from by omega, Int.neg_tdiv]
  rw [show ((9223372036854775808 - d : Nat) : Int).tdiv 10 = (((9223372036854775808 - d) / 10 : Nat) : Int) from rfl]
  have := Nat.div_add_mod (9223372036854775808 - d) 10
  have := Nat.mod_lt (9223372036854775808 - d) (show 0 < 10 by decide)
  by_cases h : 9223372036854775808 < 10 * a + d
  · rw [decide_eq_true h]; exact decide_eq_true (by omega)
  · rw [decide_eq_false h]; exact decide_eq_false (by omega)
theorem wrap64_id {x : Int} (h1 : -9223372036854775808 ≤ x) (h2 : x ≤ 9223372036854775807) : wrap64 x = x := by unfold wrap64; omega
theorem nst_eq (a d : Nat) (h : 10 * a + d ≤ 9223372036854775808) : nst (-(a : Int)) (d : Int) = -((a * 10 + d : Nat) : Int) := by
  unfold nst
  rw [wrap64_id (x := 10 * -(a : Int)) (by omega) (by omega), wrap64_id (by omega) (by omega)]
  omega
theorem num3_great {s : ByteArray} : ∀ (k i : Nat) (n : Int), s.size - i = k → (num3 s i n true).2.1 = true
  | 0, i, n, hk => by
    cases h : isDig (chr s i) with
    | false => rw [num3_stop n true h]
    | true => have := dig_chr h; omega
  | k + 1, i, n, hk => by
    cases h : isDig (chr s i) with
    | false => rw [num3_stop n true h]
    | true =>
      have := dig_chr h
      rw [num3_step n true h, Bool.true_or]
      exact num3_great k (i + 1) _ (by omega)
/-- what the loop over digits comes to -/
theorem num3_dval {s : ByteArray} : ∀ (k i : Nat) (a : Nat), s.size - i = k → i ≤ s.size → a ≤ 9223372036854775808 →
    digs (subL s i (dsk s i)) ∧ (if dval (subL s i (dsk s i)) a ≤ 9223372036854775808 then (num3 s i (-(a : Int)) false).1 = -(dval (subL s i (dsk s i)) a : Int) ∧ (num3 s i (-(a : Int)) false).2.1 = false
      else (num3 s i (-(a : Int)) false).2.1 = true)
  | k, i, a, hk, hi, ha => by
    cases h : isDig (chr s i) with
    | false =>
      rw [num3_stop _ false h, dsk_stop h, subL_nil (Nat.le_refl _)]
      refine ⟨fun c hc => (by cases hc), ?_⟩
      rw [if_pos (show dval [] a ≤ _ from ha)]
      exact ⟨rfl, rfl⟩
    | true =>
      have hlt := dig_chr h
      have hcd := (isDig_iff _).1 h
      cases k with
      | zero => omega
      | succ k =>
        have hb := dsk_bd (s := s) (i := i + 1) (by omega)
        rw [num3_step _ false h, dsk_step h, subL_cons (show i < dsk s (i + 1) by omega) hb.2]
        have hci : chr s i = (s[i]'hlt).toNat := chr_in hlt
        rw [hci] at hcd
        have hg : gst (-(a : Int)) ((chr s i : Int) - 48) = decide (9223372036854775808 < 10 * a + ((s[i]'hlt).toNat - 48)) := by
          rw [show (chr s i : Int) - 48 = (((s[i]'hlt).toNat - 48 : Nat) : Int) from by rw [hci]; omega]
          exact gst_iff a _ (by omega)
        have e : ∀ r, dval ((s[i]'hlt) :: r) a = dval r (a * 10 + ((s[i]'hlt).toNat - 48)) := fun _ => rfl
        rw [e, hg, Bool.false_or]
        have hd0 : digs (subL s (i + 1) (dsk s (i + 1))) := (num3_dval k (i + 1) 0 (by omega) (by omega) (by omega)).1
        refine ⟨fun c hc => ?_, ?_⟩
        · rcases List.mem_cons.1 hc with rfl | hc
          · exact hcd
          · exact hd0 c hc
        · by_cases h2 : 9223372036854775808 < 10 * a + ((s[i]'hlt).toNat - 48)
          · have hge := dval_ge (subL s (i + 1) (dsk s (i + 1))) (a * 10 + ((s[i]'hlt).toNat - 48))
            rw [decide_eq_true h2, if_neg (by omega)]
            exact num3_great _ _ _ rfl
          · rw [decide_eq_false h2]
            have hn : nst (-(a : Int)) ((chr s i : Int) - 48) = -((a * 10 + ((s[i]'hlt).toNat - 48) : Nat) : Int) := by
              rw [show (chr s i : Int) - 48 = (((s[i]'hlt).toNat - 48 : Nat) : Int) from by rw [hci]; omega]
              exact nst_eq a _ (by omega)
            rw [hn]
            exact (num3_dval k (i + 1) _ (by omega) (by omega) (by omega)).2
/-- a number without a sign -/
theorem pint_pos {l : List UInt8} (hd : digs l) (hl : l ≠ []) : PIok l = decide (dval l 0 < 9223372036854775808) ∧ (dval l 0 < 9223372036854775808 → PIn l = (dval l 0 : Int)) := by
  have hp := parseU l 0 hd (by omega)
  cases l with
  | nil => exact absurd rfl hl
  | cons c r =>
    have hc := hd c (by simp)
    have e2 : Lib.parseUintB 64 (c :: r) = Lib.parseUintM (2 ^ 64 - 1) 0 (c :: r) := by unfold Lib.parseUintB; rw [if_neg (by simp)]
    unfold PIok PIn Lib.parseIntB
    simp only
    rw [if_neg (by omega : ¬ (c.toNat = 43 ∨ c.toNat = 45)), e2, hp]
    by_cases h1 : dval (c :: r) 0 ≤ 18446744073709551615
    · rw [if_pos h1]
      simp only
      by_cases h2 : 2 ^ (64 - 1) ≤ dval (c :: r) 0
      · rw [if_pos ⟨by omega, h2⟩]
        exact ⟨(decide_eq_false (by omega)).symm, fun h => absurd h (by omega)⟩
      · rw [if_neg (by omega), if_neg (by omega)]
        exact ⟨(decide_eq_true (by omega)).symm, fun _ => by simp only; rw [if_neg (by omega)]⟩
    · rw [if_neg h1]
      exact ⟨(decide_eq_false (by omega)).symm, fun h => absurd h (by omega)⟩
/-- a number with a sign -/
theorem pint_neg {l : List UInt8} {c : UInt8} (hc : c.toNat = 45) (hd : digs l) (hl : l ≠ []) : PIok (c :: l) = decide (dval l 0 ≤ 9223372036854775808) ∧ (dval l 0 ≤ 9223372036854775808 → PIn (c :: l) = -(dval l 0 : Int)) := by
  have hp := parseU l 0 hd (by omega)
  have e2 : Lib.parseUintB 64 l = Lib.parseUintM (2 ^ 64 - 1) 0 l := by unfold Lib.parseUintB; rw [if_neg hl]
  unfold PIok PIn Lib.parseIntB
  simp only
  rw [if_pos (.inr hc : c.toNat = 43 ∨ c.toNat = 45), e2, hp]
  by_cases h1 : dval l 0 ≤ 18446744073709551615
  · rw [if_pos h1]
    simp only
    rw [if_neg (by omega)]
    by_cases h2 : 2 ^ (64 - 1) < dval l 0
    · rw [if_pos ⟨hc, h2⟩]
      exact ⟨(decide_eq_false (by omega)).symm, fun h => absurd h (by omega)⟩
    · rw [if_neg (by omega)]
      exact ⟨(decide_eq_true (by omega)).symm, fun _ => by simp only; rw [if_pos hc]⟩
  · rw [if_neg h1]
    exact ⟨(decide_eq_false (by omega)).symm, fun h => absurd h (by omega)⟩
theorem sm_num {s : ByteArray} {σ : PS} {q : QS} (h : Sm σ q) (he : σ.e = 0) (hp : σ.p ≤ s.size) : Sm (numS s σ).2 (numQ s q).2 ∧ ((numS s σ).2.e = 0 → (numS s σ).1 = (numQ s q).1) := by
  have hb := h.iff.1 he
  have hpq := h.p he
  have t45 := takeB_chr (s := s) (c := 45) h he (by decide)
  have hsg : (sgnQ s q).p = (takeS s σ 45).p ∧ (negQ s q = true ↔ σ.p < (takeS s σ 45).p) ∧ (takeS s σ 45).p ≤ s.size ∧ (negQ s q = true → (takeS s σ 45).p = σ.p + 1 ∧ σ.p < s.size ∧ chr s σ.p = 45) ∧ (negQ s q = false → (takeS s σ 45).p = σ.p) := by
    unfold sgnQ negQ
    by_cases h1 : chr s q.p = 45
    · have k : takeB s σ 45 = true := by rw [t45, h1]; rfl
      have hin : q.p < s.size := chr_pos (by omega)
      rw [tkS_yes k, h1]
      simp only [stepP, stepQ]
      refine ⟨by simp; omega, by simp, by omega, fun _ => ⟨by first | rfl | trivial, by omega, by rw [hpq]; exact h1⟩, fun e => by simp at e⟩
    · have k : takeB s σ 45 = false := by rw [t45]; simp; omega
      have hn : (chr s q.p == 45) = false := by simpa using h1
      rw [tkS_not k, hn]
      refine ⟨by simp; omega, by simp, hp, fun e => by simp at e, fun _ => rfl⟩
  obtain ⟨g1, g2, g3, g4, g5⟩ := hsg
  unfold numS numQ
  simp only
  rw [g1]
  generalize hd : (takeS s σ 45).p = d at *
  have hj := num3_at (s := s) _ d 0 false rfl g3
  have hv := num3_dval (s := s) _ d 0 rfl g3 (by omega)
  have z0 : (-((0 : Nat) : Int)) = 0 := rfl
  rw [z0] at hv
  rw [hj]
  obtain ⟨hdig, hv⟩ := hv
  have hbd := dsk_bd g3
  have hr : Sm { σ with p := dsk s d } { q with p := dsk s d } := .inl ⟨he, hb, rfl⟩
  unfold numE
  by_cases h1 : d = dsk s d
  · rw [if_pos h1, if_pos h1.symm]
    refine ⟨sm_fail hr (by decide) (fun _ => ⟨by omega, rfl⟩), fun e => ?_⟩
    exfalso
    revert e
    unfold failS
    rw [if_pos he]
    simp
  · have h1' : ¬ dsk s d = d := fun e => h1 e.symm
    rw [if_neg h1, if_neg h1']
    have hne : subL s d (dsk s d) ≠ [] := by rw [subL_cons (show d < dsk s d by omega) hbd.2]; simp
    have hz : zeroBad s σ.p d (dsk s d) = zeroQ s (negQ s q) d (dsk s d) := by
      unfold zeroBad zeroQ
      have h5 : decide (σ.p < d) = negQ s q := by
        cases hn : negQ s q with
        | true => exact decide_eq_true (g2.1 hn)
        | false => exact decide_eq_false (by have := g5 hn; omega)
      rw [h5]
      cases hc : (chr s d == 48) with
      | false => simp
      | true =>
        by_cases h6 : d + 1 < dsk s d
        · have a1 : decide (1 < dsk s d - d) = true := decide_eq_true (by omega)
          have a2 : decide (d + 1 < dsk s d) = true := decide_eq_true h6
          rw [a1, a2]; simp
        · have a1 : decide (1 < dsk s d - d) = false := decide_eq_false (by omega)
          have a2 : decide (d + 1 < dsk s d) = false := decide_eq_false h6
          have a3 : decide (dsk s d - d = 1) = true := decide_eq_true (by omega)
          rw [a1, a2, a3]; simp
    rw [hz]
    have key : ∀ {A B : Bool} {x y : Int}, A = B → (B = false → x = y) →
        Sm (if (zeroQ s (negQ s q) d (dsk s d) || A) = true then failS { σ with p := dsk s d } 4 σ.p else { σ with p := dsk s d })
          (if (B || zeroQ s (negQ s q) d (dsk s d)) = true then ((0 : Int), failQ { q with p := dsk s d } q.p 4) else (y, { q with p := dsk s d })).2 ∧
        ((if (zeroQ s (negQ s q) d (dsk s d) || A) = true then failS { σ with p := dsk s d } 4 σ.p else { σ with p := dsk s d }).e = 0 → x = (if (B || zeroQ s (negQ s q) d (dsk s d)) = true then ((0 : Int), failQ { q with p := dsk s d } q.p 4) else (y, { q with p := dsk s d })).1) := by
      intro A B x y hAB hxy
      subst hAB
      rw [Bool.or_comm A]
      cases hk : (zeroQ s (negQ s q) d (dsk s d) || A) with
      | true =>
        simp only [if_true]
        refine ⟨sm_fail hr (by decide) (fun _ => ⟨by omega, by rw [hpq]⟩), fun e => ?_⟩
        exfalso
        revert e
        unfold failS
        rw [if_pos he]
        simp
      | false =>
        simp only [Bool.false_eq_true, if_false]
        exact ⟨hr, fun _ => hxy (by cases A with | false => rfl | true => simp at hk)⟩
    cases hn : negQ s q with
    | true =>
      obtain ⟨k1, k2, k3⟩ := g4 hn
      subst k1
      have hc : (s[σ.p]'k2).toNat = 45 := by rw [← chr_in k2]; exact k3
      obtain ⟨p1, p2⟩ := pint_neg hc hdig hne
      rw [hn] at key
      rw [subL_cons (show σ.p < dsk s (σ.p + 1) by omega) hbd.2, p1]
      have hrw : ((num3 s (σ.p + 1) 0 false).2.1 || zeroQ s true (σ.p + 1) (dsk s (σ.p + 1)) || (!true && (num3 s (σ.p + 1) 0 false).1 == -9223372036854775808)) = ((num3 s (σ.p + 1) 0 false).2.1 || zeroQ s true (σ.p + 1) (dsk s (σ.p + 1))) := by simp
      rw [hrw]
      simp only [if_true]
      by_cases hv2 : dval (subL s (σ.p + 1) (dsk s (σ.p + 1))) 0 ≤ 9223372036854775808
      · rw [if_pos hv2] at hv
        rw [p2 hv2]
        refine key ?_ (fun _ => hv.1.symm)
        rw [decide_eq_true hv2, hv.2]; rfl
      · rw [if_neg hv2] at hv
        refine key ?_ (fun e => by rw [hv] at e; cases e)
        rw [decide_eq_false hv2, hv]; rfl
    | false =>
      have k1 := g5 hn
      subst k1
      obtain ⟨p1, p2⟩ := pint_pos hdig hne
      rw [hn] at key
      rw [p1]
      have hrw : ((num3 s σ.p 0 false).2.1 || zeroQ s false σ.p (dsk s σ.p) || (!false && (num3 s σ.p 0 false).1 == -9223372036854775808)) = (((num3 s σ.p 0 false).2.1 || (num3 s σ.p 0 false).1 == -9223372036854775808) || zeroQ s false σ.p (dsk s σ.p)) := by
        cases (num3 s σ.p 0 false).2.1 <;> cases zeroQ s false σ.p (dsk s σ.p) <;> simp
      rw [hrw]
      simp only [Bool.false_eq_true, if_false]
      by_cases hv2 : dval (subL s σ.p (dsk s σ.p)) 0 ≤ 9223372036854775808
      · rw [if_pos hv2] at hv
        rw [hv.1, hv.2]
        by_cases hv3 : dval (subL s σ.p (dsk s σ.p)) 0 < 9223372036854775808
        · rw [p2 hv3]
          refine key ?_ (fun _ => ?_)
          · rw [decide_eq_true hv3]; simp; omega
          · rw [wrap64_id (by omega) (by omega)]; omega
        · refine key ?_ (fun e => ?_)
          · rw [decide_eq_false hv3]; simp; omega
          · exfalso; simp at e; omega
      · rw [if_neg hv2] at hv
        rw [hv]
        refine key ?_ (fun e => by simp at e)
        rw [decide_eq_false (by omega)]; simp
end Go.Proofs.YtnnhkajjifmlfaaDoor

/-! Both readers tell the same of any text: values. -/

namespace Go.Proofs.YtnnhkajjifmlfaaDoor
open Go.RowKit Go.Maps

/-- values beside their readers' states -/
def Sv (x : J × PS) (y : J × QS) : Prop := Sm x.2 y.2 ∧ (x.2.e = 0 → x.1 = y.1)
section
variable {s : ByteArray} {σ : PS} {q : QS}
theorem blanks_again (σ : PS) (hp : σ.p ≤ s.size) : blanksS s (blanksS s σ) = blanksS s σ := by
  have key : ∀ (k i : Nat), s.size - i = k → i ≤ s.size → skip s (skip s i) = skip s i := by
    intro k
    induction k with
    | zero =>
      intro i hk hi
      cases hb : blank (chr s i) with
      | false => rw [skip_stop hb, skip_stop hb]
      | true => have := blank_chr hb; omega
    | succ k ih =>
      intro i hk hi
      cases hb : blank (chr s i) with
      | false => rw [skip_stop hb, skip_stop hb]
      | true => rw [skip_step hb]; exact ih (i + 1) (by omega) (by have := blank_chr hb; omega)
  by_cases he : σ.e = 0
  · unfold blanksS
    rw [if_pos he]
    simp only
    rw [if_pos he, key _ _ rfl hp]
  · unfold blanksS
    rw [if_neg he, if_neg he]
/-- what many must do for value -/
def SmMany (s : ByteArray) (many : Int → Int → PS → J × PS) (manyq : Int → Int → QS → J × QS) : Prop :=
  ∀ kind en σ q, Sm σ q → σ.e = 0 → σ.p < s.size → (kind = 5 ∧ en = 93 ∨ kind = 6 ∧ en = 125) → Sv (many kind en σ) (manyq kind en q)
theorem sm_val {many : Int → Int → PS → J × PS} {manyq : Int → Int → QS → J × QS} (hm : SmMany s many manyq) (h : Sm σ q) (hp : σ.p ≤ s.size) :
    Sm (blanksS s (valueW s many σ).2) (valueQ s manyq q).2 ∧ ((blanksS s (valueW s many σ).2).e = 0 → (valueW s many σ).1 = (valueQ s manyq q).1) := by
  have be : ∀ τ : PS, (blanksS s τ).e = τ.e := fun τ => by unfold blanksS; split <;> rfl
  by_cases he : σ.e = 0
  · have hb := h.iff.1 he
    have hB := sm_blanks (s := s) h
    have heB : (blanksS s σ).e = 0 := by rw [be]; exact he
    have n1 := nextS_yes (s := s) hB heB
    have hpB := (goes_blanks (s := s) hp).le
    have hbp := hB.p heB
    unfold valueQ
    rw [if_pos hb]
    have fin : ∀ {x : J × PS} {y : J × QS}, Sv x y → Sm (blanksS s x.2) (blanksQ s y.2) ∧ ((blanksS s x.2).e = 0 → x.1 = y.1) := by
      intro x y hxy
      exact ⟨sm_blanks hxy.1, fun e => hxy.2 (by rw [be] at e; exact e)⟩
    refine fin ?_
    unfold valueW valQ
    simp only
    rw [n1]
    generalize hτ : blanksS s σ = τ at *
    generalize hr : blanksQ s q = r at *
    have nd : ∀ t : List Nat, (∀ c ∈ t, c ≠ 0) → Sm (needS s t τ) (mustQ s t r) := fun t ht => sm_need t ht hB
    by_cases c1 : chr s r.p = 110
    · rw [if_pos c1, if_pos c1]; exact ⟨nd _ (by decide), fun _ => rfl⟩
    rw [if_neg c1, if_neg c1]
    by_cases c2 : chr s r.p = 102
    · rw [if_pos c2, if_neg (by omega), if_pos c2]; exact ⟨nd _ (by decide), fun _ => rfl⟩
    rw [if_neg c2]
    by_cases c3 : chr s r.p = 116
    · rw [if_pos c3, if_pos c3]; exact ⟨nd _ (by decide), fun _ => rfl⟩
    rw [if_neg c3, if_neg c3, if_neg c2]
    by_cases c4 : chr s r.p = 34
    · rw [if_pos c4, if_pos c4]
      have ht := sm_text (s := s) hB hpB
      exact ⟨ht.1, fun e => by simp only; rw [ht.2 e]⟩
    rw [if_neg c4, if_neg c4]
    by_cases c5 : chr s r.p = 91
    · rw [if_neg (by omega), if_pos c5, if_pos c5]
      exact hm 5 93 τ r hB heB (by rw [hbp]; exact chr_pos (by omega)) (.inl ⟨rfl, rfl⟩)
    by_cases c6 : chr s r.p = 123
    · rw [if_neg (by omega), if_neg c5, if_pos c6, if_neg c5, if_pos c6]
      exact hm 6 125 τ r hB heB (by rw [hbp]; exact chr_pos (by omega)) (.inr ⟨rfl, rfl⟩)
    by_cases c7 : chr s r.p = 45 ∨ 48 ≤ chr s r.p ∧ chr s r.p ≤ 57
    · rw [if_pos c7, if_neg c5, if_neg c6, if_pos c7]
      have ht := sm_num (s := s) hB heB hpB
      exact ⟨ht.1, fun e => by simp only; rw [ht.2 e]⟩
    rw [if_neg c7, if_neg c5, if_neg c6, if_neg c5, if_neg c6, if_neg c7]
    exact ⟨sm_fail hB (by decide) (fun e => ⟨by omega, by rw [hB.p e]⟩), fun _ => rfl⟩
  · have hb : ¬ q.bad < 0 := fun e => he (h.iff.2 e)
    have e0 : blanksS s σ = σ := by unfold blanksS; rw [if_neg he]
    have e1 : valueW s many σ = (bare 0 0, σ) := by
      unfold valueW
      simp only
      rw [e0, nextS_no he, if_neg (by decide), if_neg (by decide), if_neg (by decide), if_neg (by decide), if_neg (by omega), if_neg (by decide), if_neg (by decide), failS_no he]
    have e2 : valueQ s manyq q = (bare 0 0, q) := by unfold valueQ; rw [if_neg hb]
    rw [e1, e2, e0]
    exact ⟨h, fun _ => rfl⟩
theorem sm_name (h : Sm σ q) (hp : σ.p ≤ s.size) (kind : Int) (names : List ByteArray) :
    Sm (nameS s kind names σ).2 (nameQ s kind names q).2 ∧ ((nameS s kind names σ).2.e = 0 → (nameS s kind names σ).1 = (nameQ s kind names q).1) := by
  unfold nameS nameQ
  split
  · have ht := sm_text (s := s) h hp
    have hn := sm_need (s := s) (nats ⟨#[58]⟩) (by decide) (sm_blanks (s := s) ht.1)
    refine ⟨hn, fun e => ?_⟩
    have hpt := (goes_text (s := s) hp)
    have e1 : (textS s σ).2.e = 0 := by
      apply Classical.byContradiction
      intro hx
      have g1 := goes_blanks (s := s) hpt.le
      have g2 := goes_need (s := s) (nats ⟨#[58]⟩) g1.le
      exact (g1.trans g2).er hx e
    simp only
    rw [ht.2 e1]
  · exact ⟨h, fun _ => rfl⟩
theorem sm_manyF {val : PS → J × PS} {valq : QS → J × QS} (hgo : ValGoes s val)
    (hv : ∀ σ q, Sm σ q → σ.p ≤ s.size → Sm (blanksS s (val σ).2) (valq q).2 ∧ ((blanksS s (val σ).2).e = 0 → (val σ).1 = (valq q).1)) (kind en : Int) (hen : en ≠ 0) :
    ∀ (n : Nat) (names : List ByteArray) (list : List J) {σ : PS} {q : QS}, Sm (blanksS s σ) q → σ.p ≤ s.size → (σ.e = 0 → s.size - σ.p < n) → Sv (manyF s val kind en n names list σ) (manyQF s valq kind en n names list q)
  | 0, names, list, σ, q, h, hp, hn => by
    have he : σ.e ≠ 0 := fun e => by have := hn e; omega
    have e0 : blanksS s σ = σ := by unfold blanksS; rw [if_neg he]
    rw [e0] at h
    exact ⟨h, fun e => absurd e he⟩
  | n + 1, names, list, σ, q, h, hp, hn => by
    by_cases he : σ.e = 0
    · have heB : (blanksS s σ).e = 0 := by unfold blanksS; rw [if_pos he]; exact he
      have hb := h.iff.1 heB
      have gB := goes_blanks (s := s) hp
      have hx := sm_name h gB.le kind names
      have gx := gB.trans (goes_name (s := s) gB.le kind names)
      have hy := hv _ _ hx.1 gx.le
      have gy := gx.trans (hgo _ gx.le)
      have gz := gy.trans (goes_blanks gy.le)
      have hbe : ∀ τ : PS, (blanksS s τ).e = τ.e := fun τ => by unfold blanksS; split <;> rfl
      unfold manyF manyQF
      rw [if_pos he, if_pos hb]
      simp only
      generalize hX : nameS s kind names (blanksS s σ) = X at *
      generalize hX' : nameQ s kind names q = X' at *
      generalize hY : val X.2 = Y at *
      generalize hY' : valq X'.2 = Y' at *
      by_cases h1 : (blanksS s Y.2).e = 0
      · have hyl := hy.2 h1
        have hXe : X.2.e = 0 := by
          apply Classical.byContradiction
          intro hx0
          have g := hgo X.2 gx.le
          rw [hY] at g
          rw [hbe] at h1
          exact g.er hx0 h1
        have hxl := hx.2 hXe
        have ht := takeB_chr (s := s) hy.1 h1 hen
        rw [hxl, hyl]
        by_cases h2 : (chr s Y'.2.p : Int) = en
        · have k : takeB s (blanksS s Y.2) en = true := by rw [ht]; exact decide_eq_true h2
          rw [if_pos k, if_pos h2, tkS_yes k]
          exact ⟨sm_step hy.1, fun _ => rfl⟩
        · have k : takeB s (blanksS s Y.2) en = false := by rw [ht]; exact decide_eq_false h2
          rw [if_neg (by simp [k]), if_neg h2]
          have hnd := sm_need (s := s) (nats ⟨#[44]⟩) (by decide) hy.1
          have gn := goes_need (s := s) (nats ⟨#[44]⟩) gz.le
          refine sm_manyF hgo hv kind en hen n _ _ (sm_blanks hnd) gn.le (fun e3 => ?_)
          -- the comma is taken
          have hl := hn he
          have hgz := gz.ge
          by_cases h3 : chr s Y'.2.p = 44
          · have t44 : takeB s (blanksS s Y.2) ((44 : Nat) : Int) = true := by rw [takeB_chr (s := s) hy.1 h1 (by decide)]; exact decide_eq_true (by omega)
            have en1 : needS s (nats ⟨#[44]⟩) (blanksS s Y.2) = stepP (blanksS s Y.2) := by
              show needS s [44] (blanksS s Y.2) = _
              rw [needS, if_pos t44, tkS_yes t44]; rfl
            have hlt : Y'.2.p < s.size := chr_pos (by omega)
            have hpp := hy.1.p h1
            rw [en1]
            show s.size - ((blanksS s Y.2).p + 1) < n
            omega
          · exfalso
            have t44 : takeB s (blanksS s Y.2) ((44 : Nat) : Int) = false := by rw [takeB_chr (s := s) hy.1 h1 (by decide)]; exact decide_eq_false (by omega)
            have en1 : needS s (nats ⟨#[44]⟩) (blanksS s Y.2) = failS (blanksS s Y.2) 4 (blanksS s Y.2).p := by
              show needS s [44] (blanksS s Y.2) = _
              rw [needS, if_neg (by rw [t44]; simp)]; rfl
            rw [en1] at e3
            unfold failS at e3
            rw [if_pos h1] at e3
            simp at e3
      · have hb1 : ¬ Y'.2.bad < 0 := fun e => h1 (hy.1.iff.2 e)
        have k : takeB s (blanksS s Y.2) en = false := takeB_no h1 en
        rw [if_neg (by simp [k])]
        have hns : needS s (nats ⟨#[44]⟩) (blanksS s Y.2) = blanksS s Y.2 := by
          show needS s [44] (blanksS s Y.2) = _
          rw [needS, if_neg (by simp [takeB_no h1]), failS_no h1]; rfl
        have e1 : ∀ (names' : List ByteArray) (list' : List J), manyF s val kind en n names' list' (blanksS s Y.2) = (.mk kind 0 ⟨#[]⟩ names' list', blanksS s Y.2) := by
          intro _ _
          cases n with
          | zero => rfl
          | succ n => rw [manyF, if_neg h1]
        have e2 : ∀ (names' : List ByteArray) (list' : List J) (r : QS), ¬ r.bad < 0 → manyQF s valq kind en n names' list' r = (.mk kind 0 ⟨#[]⟩ names' list', r) := by
          intro _ _ r hr
          cases n with
          | zero => rfl
          | succ n => rw [manyQF, if_neg hr]
        rw [hns, e1]
        have hsm : ∀ r : QS, r.bad = Y'.2.bad → r.e = Y'.2.e → Sm (blanksS s Y.2) r := by
          intro r r1 r2
          rcases hy.1 with ⟨a, _⟩ | ⟨a, b, c, d⟩
          · exact absurd a h1
          · exact .inr ⟨a, by rw [r1]; exact b, by rw [r2]; exact c, by rw [r1]; exact d⟩
        split
        · exact ⟨hsm _ rfl rfl, fun e => absurd e h1⟩
        · rw [mustQ_bad hb1, e2 _ _ _ (show ¬ (blanksQ s Y'.2).bad < 0 from hb1)]
          exact ⟨hsm _ rfl rfl, fun e => absurd e h1⟩
    · have e0 : blanksS s σ = σ := by unfold blanksS; rw [if_neg he]
      rw [e0] at h
      have hb : ¬ q.bad < 0 := fun e => he (h.iff.2 e)
      have e1 : manyF s val kind en (n + 1) names list σ = (.mk kind 0 ⟨#[]⟩ names list, σ) := by rw [manyF, if_neg he]
      have e2 : manyQF s valq kind en (n + 1) names list q = (.mk kind 0 ⟨#[]⟩ names list, q) := by rw [manyQF, if_neg hb]
      rw [e1, e2]
      exact ⟨h, fun _ => rfl⟩
theorem Sm.d {τ : PS} {r : QS} (h : Sm τ r) (d : Int) : Sm { τ with d := d } r := h
theorem sm_manyW {val : PS → J × PS} {valq : QS → J × QS} (hgo : ValGoes s val)
    (hv : ∀ σ q, Sm σ q → σ.p ≤ s.size → Sm (blanksS s (val σ).2) (valq q).2 ∧ ((blanksS s (val σ).2).e = 0 → (val σ).1 = (valq q).1)) (kind en : Int) (hen : en ≠ 0) (h : Sm σ q) (he : σ.e = 0) (hp : σ.p < s.size) :
    Sv (manyW s val kind en σ) (manyQW s valq kind en q) := by
  have hi : Sm (inD σ) (stepQ q) := (sm_step h).d (σ.d + 1)
  have hie : (inD σ).e = 0 := he
  have hB := sm_blanks (s := s) hi
  have hip : (inD σ).p ≤ s.size := hp
  have gB := goes_blanks (s := s) hip
  have heB : (blanksS s (inD σ)).e = 0 := by unfold blanksS; rw [if_pos hie]; exact hie
  have ht := takeB_chr (s := s) hB heB hen
  unfold manyW manyQW
  simp only
  by_cases h1 : (chr s (blanksQ s (stepQ q)).p : Int) = en
  · have k : takeB s (blanksS s (inD σ)) en = true := by rw [ht]; exact decide_eq_true h1
    rw [if_pos k, if_pos h1, tkS_yes k]
    exact ⟨(sm_step hB).d _, fun _ => rfl⟩
  · have k : takeB s (blanksS s (inD σ)) en = false := by rw [ht]; exact decide_eq_false h1
    rw [if_neg (by simp [k]), if_neg h1]
    have hf := sm_manyF hgo hv kind en hen (s.size + 2) [] [] (σ := blanksS s (inD σ)) (q := blanksQ s (stepQ q)) (by rw [blanks_again _ hip]; exact hB) gB.le (fun _ => by omega)
    exact ⟨hf.1.d _, hf.2⟩
theorem sm_manyD : ∀ k, SmMany s (manyD s k) (manyQD s k)
  | 0 => fun kind en σ q h he hp _ => ⟨sm_fail h (by decide) (fun e => ⟨by omega, by rw [h.p e]⟩), fun _ => rfl⟩
  | k + 1 => fun kind en σ q h he hp hk =>
    sm_manyW (goes_valueW (goes_manyD k)) (fun σ q h hp => sm_val (sm_manyD k) h hp) kind en (by rcases hk with ⟨_, e⟩ | ⟨_, e⟩ <;> rw [e] <;> decide) h he hp
end
/-- **both readers tell the same** -/
theorem parse_same (s : ByteArray) : parseS s = parseQ s := by
  unfold parseS parseQ
  split
  · rfl
  have h0 : Sm ⟨0, 0, 0, 0⟩ ⟨0, -1, 0⟩ := .inl ⟨rfl, by decide, rfl⟩
  have hv := sm_val (s := s) (sm_manyD 64) h0 (Nat.zero_le _)
  have hgv := goes_valueD (s := s) 64 ⟨0, 0, 0, 0⟩ (Nat.zero_le _)
  have hgb := goes_blanks (s := s) hgv.le
  unfold outP outQ topS topQ valueD valueQD
  simp only
  unfold valueD at hgb
  generalize valueW s (manyD s 64) ⟨0, 0, 0, 0⟩ = X at *
  generalize valueQ s (manyQD s 64) ⟨0, -1, 0⟩ = Y at *
  unfold endS endQ
  by_cases he : (blanksS s X.2).e = 0
  · have hb := hv.1.iff.1 he
    have hpp := hv.1.p he
    by_cases h1 : (blanksS s X.2).p < s.size
    · have e1 : (if (blanksS s X.2).p < s.size then failS (blanksS s X.2) 4 (blanksS s X.2).p else blanksS s X.2) = failS (blanksS s X.2) 4 (blanksS s X.2).p := if_pos h1
      have e2 : (if Y.2.bad < 0 ∧ Y.2.p < s.size then failQ Y.2 Y.2.p 4 else Y.2) = failQ Y.2 Y.2.p 4 := if_pos ⟨hb, by omega⟩
      rw [e1, e2]
      unfold failS failQ
      rw [if_pos he, if_pos hb]
      simp only
      rw [if_neg (by decide), if_neg (by omega), hpp]
    · have e1 : (if (blanksS s X.2).p < s.size then failS (blanksS s X.2) 4 (blanksS s X.2).p else blanksS s X.2) = blanksS s X.2 := if_neg h1
      have e2 : (if Y.2.bad < 0 ∧ Y.2.p < s.size then failQ Y.2 Y.2.p 4 else Y.2) = Y.2 := if_neg (by omega)
      rw [e1, e2, if_pos he, if_pos hb, hv.2 he]
  · have hb : ¬ Y.2.bad < 0 := fun e => he (hv.1.iff.2 e)
    rcases hv.1 with ⟨a, _⟩ | ⟨_, _, c, d⟩
    · exact absurd a he
    · have e1 : (if (blanksS s X.2).p < s.size then failS (blanksS s X.2) 4 (blanksS s X.2).p else blanksS s X.2) = blanksS s X.2 := by
        rw [failS_no he]; split <;> rfl
      have e2 : (if Y.2.bad < 0 ∧ Y.2.p < s.size then failQ Y.2 Y.2.p 4 else Y.2) = Y.2 := if_neg (fun x => hb x.1)
      rw [e1, e2, if_neg he, if_neg hb, c, d]
end Go.Proofs.YtnnhkajjifmlfaaDoor

/-! How long the lists of a value are that is read. -/

namespace Go.Proofs.YtnnhkajjifmlfaaDoor
open Go.RowKit Go.Maps

section
variable {s : ByteArray} {N : Nat}
end
end Go.Proofs.YtnnhkajjifmlfaaDoor

/-! Values are the same: bootprintkit's SameStrings and SameJson say so of equal values. -/

namespace Go.Proofs.YtnnhkajjifmlfaaDoor
open Go.RowKit Go.Maps

theorem cell_lt {w : World} {b o : Nat} {v : Value} (h : w.cell? ⟨b, o, none⟩ = some v) : b < w.heap.size := by
  unfold World.cell? at h
  rcases Nat.lt_or_ge b w.heap.size with h1 | h1
  · exact h1
  · simp [Array.getElem?_eq_none h1] at h
theorem cell_grown {w w' : World} {b o : Nat} {v : Value} {row : Option Nat} (h : w.cell? ⟨b, o, none⟩ = some v) (hg : w.grownBy w' row) (hr : some b ≠ row) : w'.cell? ⟨b, o, none⟩ = some v :=
  (World.cell?_of_block (w := w) (a := ⟨b, o, none⟩) (hg.block b (cell_lt h) hr)).trans h

end Go.Proofs.YtnnhkajjifmlfaaDoor

/-! Values are the same: SameJson. -/

namespace Go.Proofs.YtnnhkajjifmlfaaDoor
open Go.RowKit Go.Maps

end Go.Proofs.YtnnhkajjifmlfaaDoor

/-! JsonReads: the walk. -/

namespace Go.Proofs.YtnnhkajjifmlfaaDoor
open Go.RowKit Go.Maps

end Go.Proofs.YtnnhkajjifmlfaaDoor
