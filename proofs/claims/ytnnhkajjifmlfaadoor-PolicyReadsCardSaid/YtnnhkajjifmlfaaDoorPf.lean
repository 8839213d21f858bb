/- Policies: the next token, a word: the walk. -/
import Derived.Test.YtnnhkajjifmlfaaDoorPe
namespace Go.Proofs.YtnnhkajjifmlfaaDoor.Pl
open Go.RowKit Go.Maps

theorem row_new (w : World) (a : Addr) (v : Value) (o : Obj) : ((w.setCell a v).alloc o).drew.heap[w.heap.size]? = some o := by
  have h := heap_alloc_new (w.setCell a v) o
  have e : (w.setCell a v).heap.size = w.heap.size := by simp [World.setCell]
  rw [e] at h
  exact h
def wordRow : Array Value := #[.string wAlways, .string wError, .string wSlow, .string wService, .string wTag, .string wRatio]
theorem word_call (x : ByteArray) (w : World) (b : Nat) (hb : w.heap[b]? = some (.cells wordRow 9 (0, 0))) :
    Calls Tryd.prog 106 #[.slice (some ⟨b, 0, none⟩) 6 6, .string x] w fun e w' => e = .returned (.bool (wordB x)) ∧ w' = w := by
  refine (Tryd.slices_Contains_string b 0 6 6 [wAlways, wError, wSlow, wService, wTag, wRatio] x w (by simp) (by omega) ?_).mono ?_
  · intro j hj
    rw [cell_of_row w b (0 + j) _ _ _ hb, Nat.zero_add]
    have : j = 0 ∨ j = 1 ∨ j = 2 ∨ j = 3 ∨ j = 4 ∨ j = 5 := by simp at hj; omega
    rcases this with rfl | rfl | rfl | rfl | rfl | rfl <;> rfl
  · rintro e w' ⟨rfl, rfl⟩
    refine ⟨?_, rfl⟩
    congr 2
    unfold wordB
    rw [Bool.eq_iff_iff, Lib.containsS_iff, decide_eq_true_eq]
    simp
set_option maxRecDepth 100000 in
set_option maxHeartbeats 3200000 in
theorem next_word (R : Nat) (s : ByteArray) (σ : PQ) (nv : Value) (w : World) (h : PB w R s σ nv) (hp : σ.p ≤ s.size) (hs : s.size ≤ 2000000) (hi : bsk s σ.p < s.size) (hc : inW (chr s (bsk s σ.p)) = true) :
    Calls Tryd.prog 63 #[.pointer (some ⟨R, 0, none⟩)] w (PS1 R s nv w (.tuple #[]) (nextP s σ)) := by
  have hT : Hid (nextP s σ = lexAt s (bsk s σ.p) σ) := rfl
  have hi32 : chr s (bsk s σ.p) ≠ 32 := bsk_not σ.p hp
  go_enter Tryd.func63, Tryd.ntmps63
  go_wp2_with fail
  go_loopg [] (s.size - σ.p) (fun k wr => ∃ q, q ≤ s.size ∧ Hid (bsk s q = bsk s σ.p) ∧ k = s.size - q ∧ PB wr R s { σ with p := q } nv ∧ w.grownBy wr (some R))
  case atStart => exact ⟨σ.p, hp, rfl, rfl, h, gb_refl _ _⟩
  case round =>
    obtain ⟨q, hq, hsk, rfl, hR, hg⟩ := hrel
    clear h
    have c0 := hR.c0
    have c1 := hR.c1
    have c2 := hR.c2
    have c3 := hR.c3
    have c4 := hR.c4
    have f1 := hR.f 1
    have f2 := hR.f 2
    have f3 := hR.f 3
    have f4 := hR.f 4
    simp only at c1 c2 c3 c4
    by_cases hlt : q < s.size
    · have hltI : (q : Int) < (s.size : Int) := by omega
      by_cases hb : chr s q = 32
      · have Hst := Lib.hid (bsk_step hb)
        rw [chr_in hlt] at hb
        have hbb : ((s[q].toNat : Int) == 32) = true := by simp; omega
        clear hb
        go_wp2_with fail
        go_quiet (fail)
        go_wp2_with fail
        go_roundg (s.size - (q + 1))
        case measure => omega
        case rel => exact ⟨q + 1, hlt, Lib.hid (Hst.out.symm.trans hsk.out), by omega, (by exact (hR.drewN _).set1 (q + 1)), (by exact gb_setR (gb_drewN hg _) _ _)⟩
      · have Hq : bsk s σ.p = q := hsk.out.symm.trans (bsk_stop hb)
        rw [Hq] at hc hT
        clear hsk hi32 hi
        have hcq := chr_in hlt
        have hbb : ((s[q].toNat : Int) == 32) = false := by rw [← hcq]; simp; omega
        have hqe : ((q : Int) == (s.size : Int)) = false := by simp; omega
        clear Hq hb
        have hwi := fun W => Lib.hid (inWord_any (chr s q) W)
        rw [hcq, ← hcq, hc, hcq] at hwi
        have hL : Hid (lexAt s q σ = { σ with p := wsk s q, x := s.extract q (wsk s q), ta := q, k := if digitsB (s.extract q (wsk s q)) then 2 else if wordB (s.extract q (wsk s q)) then 1 else 5 }) := by
          unfold Hid lexAt
          rw [if_neg (by omega), if_pos hc]
        obtain ⟨hw1, hw2⟩ := wsk_pos hc
        have hdgC := fun W => Lib.hid (digits_all (s.extract q (wsk s q)) W (by rw [sub_size hw2]; omega) (by rw [sub_size hw2]; omega))
        have hwI1 : (q : Int) ≤ (wsk s q : Int) := by omega
        have hwI2 : (wsk s q : Int) ≤ (s.size : Int) := by omega
        clear hc hcq
        go_wp2_with fail
        go_quiet (fail)
        go_wp2_with fail
        refine name_calls (p := fun W => PB W R s { σ with p := q, k := 0, x := ⟨#[]⟩, ta := q } nv ∧ w.grownBy W (some R)) ⟨by exact (((hR.drewN _).set2 0).set3 ⟨#[]⟩).set4 q, by exact gb_setR (gb_setR (gb_setR (gb_drewN hg _) _ _) _ _) _ _⟩ ?_
        rintro W ⟨hW, hgW⟩
        clear hR hg c0 c1 c2 c3 c4 f1 f2 f3 f4
        have c0 := hW.c0
        have c1 := hW.c1
        have c2 := hW.c2
        have c3 := hW.c3
        have f1 := hW.f 1
        have f2 := hW.f 2
        have f3 := hW.f 3
        simp only at c1 c2 c3
        clear c2 c3 f2 f3
        refine ((hwi _).out).mono ?_
        rintro e w1 ⟨rfl, rfl⟩
        clear hwi
        go_wp2_with fail
        go_loopg [] (s.size - q) (fun k wr => ∃ m, q ≤ m ∧ m ≤ s.size ∧ Hid (wsk s m = wsk s q) ∧ k = s.size - m ∧ PB wr R s { σ with p := m, k := 0, x := ⟨#[]⟩, ta := q } nv ∧ w.grownBy wr (some R))
        case atStart => exact ⟨q, Nat.le_refl _, hq, rfl, rfl, hW, hgW⟩
        case round =>
          clear hW hgW c0 c1 f1
          obtain ⟨m, hqm, hm, hwk, rfl, hR, hg⟩ := hrel
          have c0 := hR.c0
          have c1 := hR.c1
          have f1 := hR.f 1
          simp only at c1
          have hq1 := (rfl : (1 : Nat) = 1)
          by_cases hml : m < s.size
          · have hmlI : (m : Int) < (s.size : Int) := by omega
            have hmd : decide ((m : Int) < (s.size : Int)) = true := decide_eq_true hmlI
            have hwi := fun W => Lib.hid (inWord_any (chr s m) W)
            have hcm := chr_in hml
            cases hin : inW (chr s m) with
            | true =>
              have Hst := Lib.hid (wsk_step hin)
              rw [hin, hcm] at hwi
              clear hin hcm
              go_wp2_with fail
              go_quiet ((go_at_call 104; exact Calls.quiet_of_same ((hwi _).out)))
              go_wp2_with fail
              go_roundg (s.size - (m + 1))
              case measure => omega
              case rel => exact ⟨m + 1, by omega, hml, Lib.hid (Hst.out.symm.trans hwk.out), by omega, (by exact (hR.drewN _).set1 (m + 1)), (by exact gb_setR (gb_drewN hg _) _ _)⟩
            | false =>
              have Hm : Hid (m = wsk s q) := (wsk_stop hin).symm.trans hwk.out
              rw [hin, hcm] at hwi
              clear hin hcm
              go_wp2_with fail
              go_quiet ((go_at_call 104; exact Calls.quiet_of_same ((hwi _).out)))
              clear hwi hwk
              go_wp2_with fail
              refine name_world (p := fun W => PB W R s { σ with p := wsk s q, k := 0, x := ⟨#[]⟩, ta := q } nv ∧ w.grownBy W (some R)) ⟨by rw [← Hm.out]; exact hR.drewN _, gb_drewN hg _⟩ ?_
              clear hR hg c0 c1 f1 hq1
              rintro W ⟨hW, hgW⟩
              have hRl := hW.lt
              have c0 := hW.c0
              have c1 := hW.c1
              have c2 := hW.c2
              have c3 := hW.c3
              have f2 := hW.f 2
              have f3 := hW.f 3
              simp only at c1 c2 c3
              clear Hm
              go_region
              cases hdg : digitsB (s.extract q (wsk s q)) with
              | true =>
                rw [hdg] at hdgC hL
                simp only [if_true] at hL
                go_wp2_with (first
                  | (go_at_call 105; refine ((hdgC _).out).mono ?_; rintro e w3 ⟨rfl, rfl⟩))
                go_end0
                exact ⟨rfl, by rw [hT.out, hL.out]; exact ((hW.set3 _).drew).set2 2, gb_setR (gb_drew (gb_setR hgW _ _)) _ _⟩
              | false =>
                rw [hdg] at hdgC hL
                simp only [Bool.false_eq_true, if_false] at hL
                cases hwd : wordB (s.extract q (wsk s q)) with
                | true =>
                  have hwC := fun (W : World) (b : Nat) (hb : W.heap[b]? = some (.cells wordRow 9 (0, 0))) => Lib.hid (word_call (s.extract q (wsk s q)) W b hb)
                  rw [hwd] at hwC hL
                  simp only [if_true] at hL
                  go_wp2_with (first
                    | (go_at_call 105; refine ((hdgC _).out).mono ?_; rintro e w3 ⟨rfl, rfl⟩)
                    | (go_at_call 106; refine ((hwC _ _ (by exact row_new W ⟨R, 3, none⟩ _ _)).out).mono ?_; rintro e w4 ⟨rfl, rfl⟩))
                  go_end0
                  exact ⟨rfl, by rw [hT.out, hL.out]; exact (((hW.set3 _).set2 1).alloc _).drew, gb_drew (gb_alloc (gb_setR (gb_setR hgW _ _) _ _) _)⟩
                | false =>
                  have hwC := fun (W : World) (b : Nat) (hb : W.heap[b]? = some (.cells wordRow 9 (0, 0))) => Lib.hid (word_call (s.extract q (wsk s q)) W b hb)
                  rw [hwd] at hwC hL
                  simp only [Bool.false_eq_true, if_false] at hL
                  go_wp2_with (first
                    | (go_at_call 105; refine ((hdgC _).out).mono ?_; rintro e w3 ⟨rfl, rfl⟩)
                    | (go_at_call 106; refine ((hwC _ _ (by exact row_new W ⟨R, 3, none⟩ _ _)).out).mono ?_; rintro e w4 ⟨rfl, rfl⟩))
                  go_end0
                  exact ⟨rfl, by rw [hT.out, hL.out]; exact (((hW.set3 _).set2 5).alloc _).drew, gb_drew (gb_alloc (gb_setR (gb_setR hgW _ _) _ _) _)⟩
          · have Hm : Hid (m = wsk s q) := (wsk_stop (by rw [chr_out (by omega)]; rfl)).symm.trans hwk.out
            have hmd : decide ((m : Int) < (s.size : Int)) = false := decide_eq_false (by omega)
            go_wp2_with fail
            go_quiet (fail)
            clear hwk
            go_wp2_with fail
            refine name_world (p := fun W => PB W R s { σ with p := wsk s q, k := 0, x := ⟨#[]⟩, ta := q } nv ∧ w.grownBy W (some R)) ⟨by rw [← Hm.out]; exact hR.drewN _, gb_drewN hg _⟩ ?_
            clear hR hg c0 c1 f1 hq1
            rintro W ⟨hW, hgW⟩
            have hRl := hW.lt
            have c0 := hW.c0
            have c1 := hW.c1
            have c2 := hW.c2
            have c3 := hW.c3
            have f2 := hW.f 2
            have f3 := hW.f 3
            simp only at c1 c2 c3
            clear Hm
            go_region
            cases hdg : digitsB (s.extract q (wsk s q)) with
            | true =>
              rw [hdg] at hdgC hL
              simp only [if_true] at hL
              go_wp2_with (first
                | (go_at_call 105; refine ((hdgC _).out).mono ?_; rintro e w3 ⟨rfl, rfl⟩))
              go_end0
              exact ⟨rfl, by rw [hT.out, hL.out]; exact ((hW.set3 _).drew).set2 2, gb_setR (gb_drew (gb_setR hgW _ _)) _ _⟩
            | false =>
              rw [hdg] at hdgC hL
              simp only [Bool.false_eq_true, if_false] at hL
              cases hwd : wordB (s.extract q (wsk s q)) with
              | true =>
                have hwC := fun (W : World) (b : Nat) (hb : W.heap[b]? = some (.cells wordRow 9 (0, 0))) => Lib.hid (word_call (s.extract q (wsk s q)) W b hb)
                rw [hwd] at hwC hL
                simp only [if_true] at hL
                go_wp2_with (first
                  | (go_at_call 105; refine ((hdgC _).out).mono ?_; rintro e w3 ⟨rfl, rfl⟩)
                  | (go_at_call 106; refine ((hwC _ _ (by exact row_new W ⟨R, 3, none⟩ _ _)).out).mono ?_; rintro e w4 ⟨rfl, rfl⟩))
                go_end0
                exact ⟨rfl, by rw [hT.out, hL.out]; exact (((hW.set3 _).set2 1).alloc _).drew, gb_drew (gb_alloc (gb_setR (gb_setR hgW _ _) _ _) _)⟩
              | false =>
                have hwC := fun (W : World) (b : Nat) (hb : W.heap[b]? = some (.cells wordRow 9 (0, 0))) => Lib.hid (word_call (s.extract q (wsk s q)) W b hb)
                rw [hwd] at hwC hL
                simp only [Bool.false_eq_true, if_false] at hL
                go_wp2_with (first
                  | (go_at_call 105; refine ((hdgC _).out).mono ?_; rintro e w3 ⟨rfl, rfl⟩)
                  | (go_at_call 106; refine ((hwC _ _ (by exact row_new W ⟨R, 3, none⟩ _ _)).out).mono ?_; rintro e w4 ⟨rfl, rfl⟩))
                go_end0
                exact ⟨rfl, by rw [hT.out, hL.out]; exact (((hW.set3 _).set2 5).alloc _).drew, gb_drew (gb_alloc (gb_setR (gb_setR hgW _ _) _ _) _)⟩
    · exfalso
      obtain rfl : q = s.size := by omega
      have h1 := hsk.out
      rw [bsk_stop (by rw [chr_out (Nat.le_refl _)]; decide)] at h1
      omega
end Go.Proofs.YtnnhkajjifmlfaaDoor.Pl
