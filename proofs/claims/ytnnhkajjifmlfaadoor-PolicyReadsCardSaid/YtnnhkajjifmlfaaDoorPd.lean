/- Policies: bytes and words: the walks. -/
import Derived.Test.YtnnhkajjifmlfaaDoorPa
namespace Go.Proofs.YtnnhkajjifmlfaaDoor.Pl
open Go.RowKit Go.Maps

theorem inW_yes {c : Nat} (h : (97 ≤ c ∧ c ≤ 122) ∨ (48 ≤ c ∧ c ≤ 57)) : inW c = true := by unfold inW; simp; exact h
theorem inW_no {c : Nat} (h : ¬ ((97 ≤ c ∧ c ≤ 122) ∨ (48 ≤ c ∧ c ≤ 57))) : inW c = false := by unfold inW; simp; omega
set_option maxHeartbeats 1600000 in
theorem inWord_any (c : Nat) (w : World) : Calls Tryd.prog 104 #[.int .u8 c] w fun e w' => e = .returned (.bool (inW c)) ∧ w' = w := by
  go_enter Tryd.func104, Tryd.ntmps104
  by_cases h1 : (97 : Int) ≤ c
  · by_cases h2 : (c : Int) ≤ 122
    · have hT := Lib.hid (inW_yes (c := c) (by omega))
      go_wp2_with fail
      go_ret
      exact ⟨by rw [hT.out]; rfl, rfl⟩
    · have hT := Lib.hid (inW_no (c := c) (by omega))
      have h3 : (48 : Int) ≤ c := by omega
      have h4 : ¬ (c : Int) ≤ 57 := by omega
      go_wp2_with fail
      go_ret
      exact ⟨by rw [hT.out]; rfl, rfl⟩
  · by_cases h3 : (48 : Int) ≤ c
    · by_cases h4 : (c : Int) ≤ 57
      · have hT := Lib.hid (inW_yes (c := c) (by omega))
        go_wp2_with fail
        go_ret
        exact ⟨by rw [hT.out]; rfl, rfl⟩
      · have hT := Lib.hid (inW_no (c := c) (by omega))
        go_wp2_with fail
        go_ret
        exact ⟨by rw [hT.out]; rfl, rfl⟩
    · have hT := Lib.hid (inW_no (c := c) (by omega))
      go_wp2_with fail
      go_ret
      exact ⟨by rw [hT.out]; rfl, rfl⟩
def letB (c : Nat) : Bool := decide (97 ≤ c) && decide (c ≤ 122)
theorem letter_any (c : Nat) (w : World) : Calls Tryd.prog 140 #[.int .u8 c] w fun e w' => e = .returned (.bool (letB c)) ∧ w' = w := by
  go_enter Tryd.func140, Tryd.ntmps140
  by_cases h1 : (97 : Int) ≤ c
  · by_cases h2 : (c : Int) ≤ 122
    · have hT : Hid (letB c = true) := by unfold Hid letB; simp; omega
      go_wp2_with fail
      go_ret
      exact ⟨by rw [hT.out]; rfl, rfl⟩
    · have hT : Hid (letB c = false) := by unfold Hid letB; simp; omega
      go_wp2_with fail
      go_ret
      exact ⟨by rw [hT.out]; rfl, rfl⟩
  · have hT : Hid (letB c = false) := by unfold Hid letB; simp; omega
    go_wp2_with fail
    go_ret
    exact ⟨by rw [hT.out]; rfl, rfl⟩
theorem digit_any (c : Nat) (w : World) : Calls Tryd.prog 141 #[.int .u8 c] w fun e w' => e = .returned (.bool (isDig c)) ∧ w' = w := by
  go_enter Tryd.func141, Tryd.ntmps141
  by_cases h1 : (48 : Int) ≤ c
  · by_cases h2 : (c : Int) ≤ 57
    · have hT : Hid (isDig c = true) := by unfold Hid isDig; simp; omega
      go_wp2_with fail
      go_ret
      exact ⟨by rw [hT.out]; rfl, rfl⟩
    · have hT : Hid (isDig c = false) := by unfold Hid isDig; simp; omega
      go_wp2_with fail
      go_ret
      exact ⟨by rw [hT.out]; rfl, rfl⟩
  · have hT : Hid (isDig c = false) := by unfold Hid isDig; simp; omega
    go_wp2_with fail
    go_ret
    exact ⟨by rw [hT.out]; rfl, rfl⟩
theorem inW_or (c : Nat) : inW c = (letB c || isDig c) := rfl
theorem digTo_false {x : ByteArray} : ∀ {k n : Nat}, k < n → (decide (48 ≤ chr x k) && decide (chr x k ≤ 57)) = false → digTo x n = false
  | k, n + 1, h, he => by
    rw [digTo]
    rcases Nat.lt_succ_iff_lt_or_eq.1 h with h | h
    · rw [digTo_false h he]; rfl
    · subst h; rw [he, Bool.and_false]
set_option maxHeartbeats 1600000 in
/-- digits: of a text that is not empty -/
theorem digits_all (x : ByteArray) (w : World) (h0 : 0 < x.size) (hx : x.size ≤ 2000000) : Calls Tryd.prog 105 #[.string x] w fun e w' => e = .returned (.bool (digitsB x)) ∧ w' = w := by
  go_enter Tryd.func105, Tryd.ntmps105
  go_wp2_with fail
  go_loopg [6] x.size (fun z u6 wr => ∃ k : Nat, k ≤ x.size ∧ z = x.size - k ∧ u6 = .int .i64 k ∧ Hid (digTo x k = true) ∧ wr = w)
  case atStart => exact ⟨0, Nat.zero_le _, rfl, rfl, rfl, rfl⟩
  case round =>
    obtain ⟨k, hk, rfl, rfl, hp, rfl⟩ := hrel
    by_cases hlt : k < x.size
    · have hki : (k : Int) < (x.size : Int) := by omega
      have hst : Hid (digTo x (k + 1) = (decide (48 ≤ chr x k) && decide (chr x k ≤ 57))) := by unfold Hid; rw [digTo, hp.out]; rfl
      have hno : Hid ((decide (48 ≤ chr x k) && decide (chr x k ≤ 57)) = false → digitsB x = false) := fun h => by unfold digitsB; rw [digTo_false hlt h]; rfl
      have hc := chr_in hlt
      by_cases h1 : 48 ≤ chr x k
      · by_cases h2 : chr x k ≤ 57
        · have hst2 : Hid (digTo x (k + 1) = true) := by unfold Hid; rw [hst.out, decide_eq_true h1, decide_eq_true h2]; rfl
          have hq1 := Lib.hid (show wrap64 ((k : Int) + 1) = ((k + 1 : Nat) : Int) from (wrap64_id (by omega) (by omega)).trans (by omega))
          rw [hc] at h1 h2
          have h1I : ¬ (x[k].toNat : Int) < 48 := by omega
          have h2I : ¬ (57 : Int) < (x[k].toNat : Int) := by omega
          clear hst hno hc
          go_wp2_with fail
          go_roundg (x.size - (k + 1))
          case measure => omega
          case rel => exact ⟨k + 1, hlt, rfl, by first | rw [hq1.out] | go_num, hst2, rfl⟩
        · have hno2 : Hid (digitsB x = false) := hno.out (by rw [decide_eq_false h2, Bool.and_false])
          rw [hc] at h1 h2
          have h1I : ¬ (x[k].toNat : Int) < 48 := by omega
          have h2I : (57 : Int) < (x[k].toNat : Int) := by omega
          clear hst hno hc
          go_wp2_with fail
          go_ret
          exact ⟨by rw [hno2.out]; rfl, rfl⟩
      · have hno2 : Hid (digitsB x = false) := hno.out (by rw [decide_eq_false h1]; rfl)
        rw [hc] at h1
        have h1I : (x[k].toNat : Int) < 48 := by omega
        clear hst hno hc
        go_wp2_with fail
        go_ret
        exact ⟨by rw [hno2.out]; rfl, rfl⟩
    · obtain rfl : k = x.size := by omega
      have hT : Hid (digitsB x = (decide (x = ⟨#[48]⟩) || !(chr x 0 == 48))) := by unfold Hid digitsB; rw [hp.out]; rfl
      by_cases hz : x = ⟨#[48]⟩
      · have hT2 : Hid (digitsB x = true) := by unfold Hid; rw [hT.out, decide_eq_true hz]; rfl
        have hzb : (x.toList == (⟨#[48]⟩ : ByteArray).toList) = true := by rw [hz]; exact beq_self_eq_true _
        go_wp2_with fail
        go_ret
        exact ⟨by rw [hT2.out]; rfl, rfl⟩
      · have hzb : (x.toList == [48]) = false := by
          rw [beq_eq_false_iff_ne]
          intro e
          exact hz ((one_iff x).2 (by have := (ba_one x h0).1 e; exact ⟨this.1, by rw [chr_in h0]; exact this.2⟩))
        have h0I : (0 : Int) < (x.size : Int) := by omega
        have hc := chr_in h0
        by_cases hc0 : chr x 0 = 48
        · have hT2 : Hid (digitsB x = false) := by unfold Hid; rw [hT.out, decide_eq_false hz, hc0]; rfl
          rw [hc] at hc0
          have hcb : ((x[0].toNat : Int) != 48) = false := by simp [hc0]
          go_wp2_with fail
          go_ret
          exact ⟨by rw [hT2.out]; rfl, rfl⟩
        · have hT2 : Hid (digitsB x = true) := by unfold Hid; rw [hT.out, beq_eq_false_iff_ne.2 hc0]; simp
          rw [hc] at hc0
          have hcb : ((x[0].toNat : Int) != 48) = true := by simp; omega
          go_wp2_with fail
          go_ret
          exact ⟨by rw [hT2.out]; rfl, rfl⟩
set_option maxHeartbeats 1600000 in
theorem printable_any (s : ByteArray) (w : World) (hs : s.size ≤ 2000000) : Calls Tryd.prog 107 #[.string s] w fun e w' => e = .returned (.bool (plainB s)) ∧ w' = w := by
  have hT : Hid (plainB s = plainTo s s.size) := rfl
  go_enter Tryd.func107, Tryd.ntmps107
  go_wp2_with fail
  go_loopg [6] s.size (fun z u6 wr => ∃ k : Nat, k ≤ s.size ∧ z = s.size - k ∧ u6 = .int .i64 k ∧ Hid (plainTo s k = true) ∧ wr = w)
  case atStart => exact ⟨0, Nat.zero_le _, rfl, rfl, rfl, rfl⟩
  case round =>
    obtain ⟨k, hk, rfl, rfl, hp, rfl⟩ := hrel
    by_cases hlt : k < s.size
    · have hki : (k : Int) < (s.size : Int) := by omega
      have hst : Hid (plainTo s (k + 1) = (decide (32 ≤ chr s k) && decide (chr s k ≤ 126))) := by unfold Hid; rw [plainTo, hp.out]; rfl
      have hno : Hid ((decide (32 ≤ chr s k) && decide (chr s k ≤ 126)) = false → plainB s = false) := fun h => by rw [hT.out]; exact plainTo_false hlt h
      have hc := chr_in hlt
      by_cases h1 : 32 ≤ chr s k
      · by_cases h2 : chr s k ≤ 126
        · have hst2 : Hid (plainTo s (k + 1) = true) := by unfold Hid; rw [hst.out, decide_eq_true h1, decide_eq_true h2]; rfl
          have hq1 := Lib.hid (show wrap64 ((k : Int) + 1) = ((k + 1 : Nat) : Int) from (wrap64_id (by omega) (by omega)).trans (by omega))
          rw [hc] at h1 h2
          have h1I : ¬ (s[k].toNat : Int) < 32 := by omega
          have h2I : ¬ (126 : Int) < (s[k].toNat : Int) := by omega
          clear hst hno hc
          go_wp2_with fail
          go_roundg (s.size - (k + 1))
          case measure => omega
          case rel => exact ⟨k + 1, hlt, rfl, by first | rw [hq1.out] | go_num, hst2, rfl⟩
        · have hno2 : Hid (plainB s = false) := hno.out (by rw [decide_eq_false h2, Bool.and_false])
          rw [hc] at h1 h2
          have h1I : ¬ (s[k].toNat : Int) < 32 := by omega
          have h2I : (126 : Int) < (s[k].toNat : Int) := by omega
          clear hst hno hc
          go_wp2_with fail
          go_ret
          exact ⟨by rw [hno2.out]; rfl, rfl⟩
      · have hno2 : Hid (plainB s = false) := hno.out (by rw [decide_eq_false h1]; rfl)
        rw [hc] at h1
        have h1I : (s[k].toNat : Int) < 32 := by omega
        clear hst hno hc
        go_wp2_with fail
        go_ret
        exact ⟨by rw [hno2.out]; rfl, rfl⟩
    · obtain rfl : k = s.size := by omega
      go_wp2_with fail
      go_ret
      exact ⟨by rw [hT.out, hp.out]; rfl, rfl⟩
end Go.Proofs.YtnnhkajjifmlfaaDoor.Pl
/-! Policies: the next token: the walk. -/
namespace Go.Proofs.YtnnhkajjifmlfaaDoor.Pl
open Go.RowKit Go.Maps

theorem name_world {P : Program} {c : Code} {a : Act} {w : World} {Q : Exit → Act → World → Prop} {p : World → Prop} (hp : p w) (h : ∀ W, p W → Code.wp P c Q a W) : Code.wp P c Q a w := h w hp
theorem name_calls {P : Program} {f : Nat} {args : Array Value} {w : World} {Q : Ending → World → Prop} {p : World → Prop} (hp : p w) (h : ∀ W, p W → Calls P f args W Q) : Calls P f args w Q := h w hp
theorem bskF_not (s : ByteArray) : ∀ (n i : Nat), s.size - i = n → chr s (bskF s n i) ≠ 32
  | 0, i, h => by rw [bskF, chr_out (by omega)]; decide
  | n + 1, i, h => by
    rw [bskF]
    split
    · exact bskF_not s n (i + 1) (by omega)
    · assumption
theorem bsk_not {s : ByteArray} (p : Nat) (_hp : p ≤ s.size) : chr s (bsk s p) ≠ 32 := bskF_not s _ p rfl
theorem lex_end {s : ByteArray} {i : Nat} (σ : PQ) (h : s.size ≤ i) : lexAt s i σ = { σ with p := i, k := 0, x := ⟨#[]⟩, ta := i } := by unfold lexAt; rw [if_pos h]
set_option maxRecDepth 100000 in
set_option maxHeartbeats 1600000 in
theorem next_end (R : Nat) (s : ByteArray) (σ : PQ) (nv : Value) (w : World) (h : PB w R s σ nv) (hp : σ.p ≤ s.size) (hs : s.size ≤ 2000000) (hc : s.size ≤ bsk s σ.p) :
    Calls Tryd.prog 63 #[.pointer (some ⟨R, 0, none⟩)] w (PS1 R s nv w (.tuple #[]) (nextP s σ)) := by
  have hT : Hid (nextP s σ = { σ with p := s.size, k := 0, x := ⟨#[]⟩, ta := s.size }) := by
    unfold Hid nextP; rw [lex_end σ hc]
    have := (bsk_bd hp).2
    rw [show bsk s σ.p = s.size by omega]
  go_enter Tryd.func63, Tryd.ntmps63
  go_wp2_with fail
  go_loopg [] (s.size - σ.p) (fun k wr => ∃ q, q ≤ s.size ∧ Hid (bsk s q = bsk s σ.p) ∧ k = s.size - q ∧ PB wr R s { σ with p := q } nv ∧ w.grownBy wr (some R))
  case atStart => exact ⟨σ.p, hp, rfl, rfl, h, gb_refl _ _⟩
  case round =>
    obtain ⟨q, hq, hsk, rfl, hR, hg⟩ := hrel
    clear h
    have c0 := hR.c0
    have c1 := hR.c1
    have c2 := hR.c2
    have c3 := hR.c3
    have c4 := hR.c4
    have f1 := hR.f 1
    have f2 := hR.f 2
    have f3 := hR.f 3
    have f4 := hR.f 4
    simp only at c1
    by_cases hlt : q < s.size
    · have hltI : (q : Int) < (s.size : Int) := by omega
      by_cases hb : chr s q = 32
      · have Hst := Lib.hid (bsk_step hb)
        rw [chr_in hlt] at hb
        have hbb : ((s[q].toNat : Int) == 32) = true := by simp; omega
        clear hb
        go_wp2_with fail
        go_quiet (fail)
        go_wp2_with fail
        go_roundg (s.size - (q + 1))
        case measure => omega
        case rel => exact ⟨q + 1, hlt, Lib.hid (Hst.out.symm.trans hsk.out), by omega, (by exact (hR.drewN _).set1 (q + 1)), (by exact gb_setR (gb_drewN hg _) _ _)⟩
      · exfalso
        have := hsk.out
        rw [bsk_stop hb] at this
        omega
    · obtain rfl : q = s.size := by omega
      have hltd : decide ((s.size : Int) < (s.size : Int)) = false := by simp
      go_wp2_with fail
      go_quiet (fail)
      go_wp2_with fail
      go_end0
      exact ⟨rfl, by rw [hT.out]; exact (((hR.drewN _).set2 0).set3 ⟨#[]⟩).set4 s.size, gb_setR (gb_setR (gb_setR (gb_drewN hg _) _ _) _ _) _ _⟩
theorem signs_any (c : UInt8) (w : World) : Calls Tryd.prog 86 #[.string ⟨#[33, 38, 124, 40, 41, 61]⟩, .int .u8 c.toNat] w fun e w' => ∃ j, e = .returned (.int .i64 j) ∧ decide ((0 : Int) ≤ j) = signC c.toNat ∧ w' = w := by
  refine (Tryd.strings_IndexByte ⟨#[33, 38, 124, 40, 41, 61]⟩ c.toNat w).mono ?_
  rintro e w' ⟨rfl, rfl⟩
  refine ⟨_, rfl, ?_, rfl⟩
  rw [Int.toNat_natCast, (indexByte_has _ _).2]
  have hc : c.toNat.toUInt8 = c := by simp
  rw [hc]
  have : ∀ c : UInt8, ([33, 38, 124, 40, 41, 61] : List UInt8).contains c = signC c.toNat := by
    intro c
    have h : ∀ c : Fin 256, ([33, 38, 124, 40, 41, 61] : List UInt8).contains (UInt8.ofNat c.val) = signC c.val := by decide +kernel
    have := h ⟨c.toNat, UInt8.toNat_lt c⟩
    simpa using this
  exact this c
set_option maxRecDepth 100000 in
set_option maxHeartbeats 3200000 in
theorem next_sign (R : Nat) (s : ByteArray) (σ : PQ) (nv : Value) (w : World) (h : PB w R s σ nv) (hp : σ.p ≤ s.size) (hs : s.size ≤ 2000000) (hi : bsk s σ.p < s.size) (hc : inW (chr s (bsk s σ.p)) = false ∧ chr s (bsk s σ.p) ≠ 34) :
    Calls Tryd.prog 63 #[.pointer (some ⟨R, 0, none⟩)] w (PS1 R s nv w (.tuple #[]) (nextP s σ)) := by
  have hT : Hid (nextP s σ = lexAt s (bsk s σ.p) σ) := rfl
  have hi32 : chr s (bsk s σ.p) ≠ 32 := bsk_not σ.p hp
  go_enter Tryd.func63, Tryd.ntmps63
  go_wp2_with fail
  go_loopg [] (s.size - σ.p) (fun k wr => ∃ q, q ≤ s.size ∧ Hid (bsk s q = bsk s σ.p) ∧ k = s.size - q ∧ PB wr R s { σ with p := q } nv ∧ w.grownBy wr (some R))
  case atStart => exact ⟨σ.p, hp, rfl, rfl, h, gb_refl _ _⟩
  case round =>
    obtain ⟨q, hq, hsk, rfl, hR, hg⟩ := hrel
    clear h
    have c0 := hR.c0
    have c1 := hR.c1
    have c2 := hR.c2
    have c3 := hR.c3
    have c4 := hR.c4
    have f1 := hR.f 1
    have f2 := hR.f 2
    have f3 := hR.f 3
    have f4 := hR.f 4
    simp only at c1 c2 c3 c4
    by_cases hlt : q < s.size
    · have hltI : (q : Int) < (s.size : Int) := by omega
      by_cases hb : chr s q = 32
      · have Hst := Lib.hid (bsk_step hb)
        rw [chr_in hlt] at hb
        have hbb : ((s[q].toNat : Int) == 32) = true := by simp; omega
        clear hb
        go_wp2_with fail
        go_quiet (fail)
        go_wp2_with fail
        go_roundg (s.size - (q + 1))
        case measure => omega
        case rel => exact ⟨q + 1, hlt, Lib.hid (Hst.out.symm.trans hsk.out), by omega, (by exact (hR.drewN _).set1 (q + 1)), (by exact gb_setR (gb_drewN hg _) _ _)⟩
      · have Hq : bsk s σ.p = q := hsk.out.symm.trans (bsk_stop hb)
        rw [Hq] at hc hT
        clear hsk hi32 hi
        have hcq := chr_in hlt
        have hbb : ((s[q].toNat : Int) == 32) = false := by rw [← hcq]; simp; omega
        have hqe : ((q : Int) == (s.size : Int)) = false := by simp; omega
        clear Hq hb
        have hwi := fun W => Lib.hid (inWord_any (chr s q) W)
        rw [hcq] at hwi
        have hw0 : inW (chr s q) = false := hc.1
        rw [hcq] at hw0
        rw [hw0] at hwi
        have h34 : ((s[q].toNat : Int) == 34) = false := by rw [← hcq]; simp; exact_mod_cast hc.2
        have hcl := UInt8.toNat_lt s[q]
        have hIB := fun W => Lib.hid (signs_any s[q] W)
        have hL : Hid (lexAt s q σ = { σ with p := q + 1, x := s.extract q (q + 1), ta := q, k := if signC (chr s q) then 4 else 5 }) := by
          unfold Hid lexAt
          rw [if_neg (by omega), if_neg (by rw [hc.1]; decide), if_neg hc.2]
        rw [hcq] at hL
        clear hc hcq hw0
        have hq1 := Lib.hid (show wrap64 ((q : Int) + 1) = ((q + 1 : Nat) : Int) from (wrap64_id (by omega) (by omega)).trans (by omega))
        go_wp2_with fail
        go_quiet (fail)
        go_wp2_with (first
          | (go_at_call 104; refine ((hwi _).out).mono ?_; rintro e w1 ⟨rfl, rfl⟩))
        (try rw [hq1.out])
        refine name_world (p := fun W => PB W R s { σ with p := q + 1, k := 0, x := ⟨#[]⟩, ta := q } nv ∧ w.grownBy W (some R)) ⟨by exact ((((hR.drewN _).set2 0).set3 ⟨#[]⟩).set4 q).set1 (q + 1), by exact gb_setR (gb_setR (gb_setR (gb_setR (gb_drewN hg _) _ _) _ _) _ _) _ _⟩ ?_
        rintro W ⟨hW, hgW⟩
        clear hR hg c0 c1 c2 c3 c4 f1 f2 f3 f4
        have c0 := hW.c0
        have c1 := hW.c1
        have c2 := hW.c2
        have c3 := hW.c3
        have f2 := hW.f 2
        have f3 := hW.f 3
        simp only at c1 c2 c3
        have hsz : q + 1 ≤ s.size := hlt
        cases hsg : signC s[q].toNat with
        | true =>
          rw [hsg] at hIB hL
          simp only [if_true] at hL
          go_region
          go_wp2_with (first
            | (go_at_call 86; refine ((hIB _).out).mono ?_; rintro e w1 ⟨j, rfl, hj, rfl⟩))
          go_end0
          exact ⟨rfl, by rw [hT.out, hL.out]; exact (((hW.set2 5).set3 _).drew).set2 4, gb_setR (gb_drew (gb_setR (gb_setR hgW _ _) _ _)) _ _⟩
        | false =>
          rw [hsg] at hIB hL
          simp only [Bool.false_eq_true, if_false] at hL
          go_region
          go_wp2_with (first
            | (go_at_call 86; refine ((hIB _).out).mono ?_; rintro e w1 ⟨j, rfl, hj, rfl⟩))
          go_end0
          exact ⟨rfl, by rw [hT.out, hL.out]; exact ((hW.set2 5).set3 _).drew, gb_drew (gb_setR (gb_setR hgW _ _) _ _)⟩
    · exfalso
      obtain rfl : q = s.size := by omega
      have h1 := hsk.out
      rw [bsk_stop (by rw [chr_out (Nat.le_refl _)]; decide)] at h1
      omega
end Go.Proofs.YtnnhkajjifmlfaaDoor.Pl
