/- (*reader).blanks and (*reader).need of package json. -/
import Derived.Test.YtnnhkajjifmlfaaDoorJ1
import Derived.Test.YtnnhkajjifmlfaaDoorShelf
import Derived.Deep.LoopGhost
namespace Go.Proofs.YtnnhkajjifmlfaaDoor
open Go.RowKit

theorem next_ok (R : Nat) (s : ByteArray) (σ : PS) (w : World) (he : σ.e = 0) (hp : σ.p ≤ s.size) (h : RD w R s σ) :
    Calls Tryd.prog 81 #[.pointer (some ⟨R, 0, none⟩)] w fun e w' => e = .returned (.int .u8 (chr s σ.p)) ∧ ∃ n, w' = w.drewN n := by
  have h1 := next_any R s σ w h hp
  have h2 : nextS s σ = chr s σ.p := by simp [nextS, he]
  rwa [h2] at h1
theorem next_er (R : Nat) (s : ByteArray) (σ : PS) (w : World) (he : σ.e ≠ 0) (hp : σ.p ≤ s.size) (h : RD w R s σ) :
    Calls Tryd.prog 81 #[.pointer (some ⟨R, 0, none⟩)] w fun e w' => e = .returned (.int .u8 0) ∧ ∃ n, w' = w.drewN n := by
  have h1 := next_any R s σ w h hp
  have h2 : nextS s σ = 0 := by simp [nextS, he]
  rwa [h2] at h1

def ibB (c : Int) : Int := if c = 32 then 0 else if c = 9 then 1 else if c = 10 then 2 else if c = 13 then 3 else -1
theorem ibB_fin : ∀ c : Fin 256, Lib.indexByte [32, 9, 10, 13] ((c.val : Int).toNat.toUInt8) = ibB (c.val : Int) := by decide +kernel
theorem ib_any (c : Nat) (hc : c < 256) (w : World) :
    Calls Tryd.prog 86 #[.string ⟨#[32, 9, 10, 13]⟩, .int .u8 c] w fun e w' => e = .returned (.int .i64 (ibB c)) ∧ w = w' := by
  refine (Tryd.strings_IndexByte ⟨#[32, 9, 10, 13]⟩ c w).mono ?_
  rintro e w' ⟨rfl, rfl⟩
  exact ⟨by rw [← ibB_fin ⟨c, hc⟩], rfl⟩

set_option maxHeartbeats 800000 in
theorem blanks_ok (R : Nat) (s : ByteArray) (σ : PS) (w : World) (he : σ.e = 0) (hp : σ.p ≤ s.size) (hs : s.size ≤ 2000000) (h : RD w R s σ) :
    Calls Tryd.prog 42 #[.pointer (some ⟨R, 0, none⟩)] w fun e w' => e = .returned (.tuple #[]) ∧ RD w' R s { σ with p := skip s σ.p } ∧ w.grownBy w' (some R) := by
  go_enter Tryd.func42, Tryd.ntmps42
  go_wp2_with fail
  go_loopg [] (s.size - σ.p) (fun k wr => ∃ q, q ≤ s.size ∧ Hid (skip s q = skip s σ.p) ∧ k = s.size - q ∧ RD wr R s { σ with p := q } ∧ w.grownBy wr (some R))
  case atStart => exact ⟨σ.p, hp, rfl, rfl, h, gb_refl _ _⟩
  case round =>
    obtain ⟨q, hq, hsk, rfl, hR, hg⟩ := hrel
    clear h
    have hc := chr_lt s q
    by_cases hb : blank (chr s q) = true
    · have hql := blank_chr hb
      have hst := skip_step hb
      have hpos : (ibB (chr s q) : Int) ≥ 0 := by
        unfold blank at hb; simp only [Bool.or_eq_true, beq_iff_eq] at hb
        rcases hb with ((h | h) | h) | h <;> rw [h] <;> decide
      have h0 : (((chr s q : Nat) : Int) != 0) = true := by
        unfold blank at hb; simp only [Bool.or_eq_true, beq_iff_eq] at hb
        simp; omega
      have Hst := Lib.hid hst
      clear hst hb
      have c1 := hR.c1
      have f1 := hR.f 1
      go_wp2_with (first
        | (go_at_call 81; refine (next_ok R s { σ with p := q } _ he hq (by exact hR)).mono ?_; rintro e w1 ⟨rfl, n, rfl⟩)
        | (go_at_call 86; refine (ib_any (chr s q) hc _).mono ?_; rintro e w1 ⟨rfl, rfl⟩))
      go_roundg (s.size - (q + 1))
      case measure => omega
      case rel => exact ⟨q + 1, hql, Lib.hid (Hst.out.symm.trans hsk.out), by omega, (by exact (hR.drewN _).set1 (q + 1)), (by exact gb_setR (gb_drewN hg _) _ _)⟩
    · have hb' : blank (chr s q) = false := by simpa using hb
      have hst := skip_stop hb'
      have Hst : Hid (skip s σ.p = q) := hsk.out.symm.trans hst
      have hneg : decide ((0 : Int) ≤ ibB (chr s q)) = false := by
        unfold blank at hb'; simp only [Bool.or_eq_false_iff, beq_eq_false_iff_ne] at hb'
        unfold ibB; rw [if_neg (by omega), if_neg (by omega), if_neg (by omega), if_neg (by omega)]; decide
      clear hst hb hb'
      have Hsk := hsk; clear hsk
      by_cases h0 : chr s q = 0
      · have h0' : (((chr s q : Nat) : Int) != 0) = false := by simp [h0]
        clear h0
        go_wp2_with (first
          | (go_at_call 81; refine (next_ok R s { σ with p := q } _ he hq (by exact hR)).mono ?_; rintro e w1 ⟨rfl, n, rfl⟩))
        go_end0
        exact ⟨rfl, by rw [Hst.out]; exact hR.drewN _, gb_drewN hg _⟩
      · have h0' : (((chr s q : Nat) : Int) != 0) = true := by simp; omega
        clear h0
        go_wp2_with (first
          | (go_at_call 81; refine (next_ok R s { σ with p := q } _ he hq (by exact hR)).mono ?_; rintro e w1 ⟨rfl, n, rfl⟩)
          | (go_at_call 86; refine (ib_any (chr s q) hc _).mono ?_; rintro e w1 ⟨rfl, rfl⟩))
        go_end0
        exact ⟨rfl, by rw [Hst.out]; exact hR.drewN _, gb_drewN hg _⟩
set_option maxHeartbeats 800000 in
theorem blanks_er (R : Nat) (s : ByteArray) (σ : PS) (w : World) (he : σ.e ≠ 0) (hp : σ.p ≤ s.size) (h : RD w R s σ) :
    Calls Tryd.prog 42 #[.pointer (some ⟨R, 0, none⟩)] w fun e w' => e = .returned (.tuple #[]) ∧ ∃ n, w' = w.drewN n := by
  go_enter Tryd.func42, Tryd.ntmps42
  go_wp2_with fail
  refine wp_loop_rounds 1 ?_; rw [rounds_succ]
  go_wp2_with (first
    | (go_at_call 81; refine (next_er R s σ _ he hp (by exact h)).mono ?_; rintro e w1 ⟨rfl, n, rfl⟩))
  go_end0
  exact ⟨rfl, _, rfl⟩
/-- (*reader).blanks -/
theorem blanks_any (R : Nat) (s : ByteArray) (σ : PS) (w : World) (h : RD w R s σ) (hp : σ.p ≤ s.size) (hs : s.size ≤ 2000000) :
    Calls Tryd.prog 42 #[.pointer (some ⟨R, 0, none⟩)] w fun e w' => e = .returned (.tuple #[]) ∧ RD w' R s (blanksS s σ) ∧ w.grownBy w' (some R) := by
  unfold blanksS
  by_cases he : σ.e = 0
  · rw [if_pos he]; exact blanks_ok R s σ w he hp hs h
  · rw [if_neg he]
    refine (blanks_er R s σ w he hp h).mono ?_
    rintro e w' ⟨rfl, n, rfl⟩
    exact ⟨rfl, h.drewN n, gb_drewN (gb_refl w _) n⟩

theorem takeS_le {s : ByteArray} {σ : PS} {c : Int} (hp : σ.p ≤ s.size) : (takeS s σ c).p ≤ s.size := by
  unfold takeS; split
  · rename_i h; simp only [takeB, Bool.and_eq_true, decide_eq_true_eq] at h; simp only; omega
  · exact hp
theorem failS_p (σ : PS) (x q : Int) : (failS σ x q).p = σ.p := by unfold failS; split <;> rfl
def needStep (s : ByteArray) (c : Nat) (σ : PS) : PS := if takeB s σ c then takeS s σ c else failS σ 4 σ.p
theorem needS_cons (s : ByteArray) (c : Nat) (r : List Nat) (σ : PS) : needS s (c :: r) σ = needS s r (needStep s c σ) := rfl
theorem needStep_le {s : ByteArray} {σ : PS} {c : Nat} (hp : σ.p ≤ s.size) : (needStep s c σ).p ≤ s.size := by
  unfold needStep; split
  · exact takeS_le hp
  · rw [failS_p]; exact hp
theorem needS_le {s : ByteArray} : ∀ (t : List Nat) {σ : PS}, σ.p ≤ s.size → (needS s t σ).p ≤ s.size
  | [], _, h => h
  | c :: r, _, h => by rw [needS_cons]; exact needS_le r (needStep_le h)
def nats (t : ByteArray) : List Nat := t.data.toList.map UInt8.toNat
theorem nats_drop {t : ByteArray} {k : Nat} (hk : k < t.size) : (nats t).drop k = t[k].toNat :: (nats t).drop (k + 1) := by
  have hl : k < (nats t).length := by simpa [nats] using hk
  rw [List.drop_eq_getElem_cons hl]
  congr 1
  simp [nats]; rfl

set_option maxHeartbeats 1600000 in
/-- (*reader).need -/
theorem need_any (R : Nat) (s t : ByteArray) (σ : PS) (w : World) (h : RD w R s σ) (hp : σ.p ≤ s.size) (hs : s.size ≤ 2000000) (ht : t.size ≤ 2000000) :
    Calls Tryd.prog 82 #[.pointer (some ⟨R, 0, none⟩), .string t] w fun e w' => e = .returned (.tuple #[]) ∧ RD w' R s (needS s (nats t) σ) ∧ w.grownBy w' (some R) := by
  go_enter Tryd.func82, Tryd.ntmps82
  go_wp2_with fail
  go_loopg [7] t.size (fun n i wr => ∃ (k : Nat) (τ : PS), k ≤ t.size ∧ n = t.size - k ∧ i = .int .i64 k ∧ τ.p ≤ s.size ∧ Hid (needS s ((nats t).drop k) τ = needS s (nats t) σ) ∧ RD wr R s τ ∧ w.grownBy wr (some R))
  case atStart => exact ⟨0, σ, Nat.zero_le _, rfl, rfl, hp, rfl, h, gb_refl _ _⟩
  case round =>
    obtain ⟨k, τ, hk, rfl, rfl, hτ, Hn, hR, hg⟩ := hrel
    clear h hp
    by_cases hlt : k < t.size
    · have Hd := Lib.hid (nats_drop hlt)
      have hki : (k : Int) < (t.size : Int) := by omega
      have Hn2 : Hid (needS s ((nats t).drop (k + 1)) (needStep s t[k].toNat τ) = needS s (nats t) σ) := by
        have := Hn.out; rw [Hd.out, needS_cons] at this; exact this
      clear Hn Hd
      by_cases htk : takeB s τ t[k].toNat = true
      · have Hst : Hid (needStep s t[k].toNat τ = takeS s τ t[k].toNat) := by unfold Hid needStep; rw [if_pos htk]
        go_wp2_with (first
          | (go_at_call 128; refine (take_any R s τ _ _ hR hτ hs).mono ?_; rintro e w1 ⟨rfl, hR1, hg1⟩))
        go_roundg (t.size - (k + 1))
        case measure => omega
        case rel => exact ⟨k + 1, takeS s τ t[k].toNat, hlt, rfl, by go_num, takeS_le hτ, (by rw [← Hst.out]; exact Hn2), hR1, gb_trans hg hg1⟩
      · have htk' : takeB s τ t[k].toNat = false := by simpa using htk
        clear htk
        have Hst : Hid (needStep s t[k].toNat τ = failS τ 4 τ.p) := by unfold Hid needStep; rw [if_neg (by simp [htk'])]
        have Htk : Hid (takeS s τ t[k].toNat = τ) := by unfold Hid takeS; rw [if_neg (by simp [htk'])]
        go_wp2_with (first
          | (go_at_call 128; refine (take_any R s τ _ _ hR hτ hs).mono ?_; rintro e w1 ⟨rfl, hR1, hg1⟩; rw [Htk.out] at hR1; have c1 := hR1.c1)
          | (go_at_call 43; refine (fail_any R s τ _ _ _ hR1).mono ?_; rintro e w2 ⟨rfl, hR2, hg2⟩))
        go_roundg (t.size - (k + 1))
        case measure => omega
        case rel => exact ⟨k + 1, failS τ 4 τ.p, hlt, rfl, by go_num, (by rw [failS_p]; exact hτ), (by rw [← Hst.out]; exact Hn2), hR2, gb_trans (gb_trans hg hg1) hg2⟩
    · obtain rfl : k = t.size := by omega
      have Hn3 : Hid (τ = needS s (nats t) σ) := by
        have := Hn.out; rw [List.drop_of_length_le (by simp [nats])] at this; exact this
      clear Hn
      go_wp2_with fail
      go_end0
      exact ⟨rfl, by rw [← Hn3.out]; exact hR, hg⟩
end Go.Proofs.YtnnhkajjifmlfaaDoor
