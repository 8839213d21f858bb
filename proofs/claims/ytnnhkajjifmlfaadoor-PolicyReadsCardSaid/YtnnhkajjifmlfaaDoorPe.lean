/- Policies: the next token, a quoted text: the walk. -/
import Derived.Test.YtnnhkajjifmlfaaDoorPd
namespace Go.Proofs.YtnnhkajjifmlfaaDoor.Pl
open Go.RowKit Go.Maps

theorem ix_qskF (s : ByteArray) : ∀ (n i : Nat), s.size - i = n → i ≤ s.size → Lib.indexByte (s.data.toList.drop i) 34 = if qskF s n i < s.size then ((qskF s n i - i : Nat) : Int) else -1
  | 0, i, h, hi => by
    have hl : s.data.toList.drop i = [] := List.drop_of_length_le (by rw [Array.length_toList]; show s.size ≤ i; omega)
    rw [hl, qskF, if_neg (by omega)]; rfl
  | n + 1, i, h, hi => by
    have hlt : i < s.size := by omega
    have hl : i < s.data.toList.length := by rw [Array.length_toList]; exact hlt
    rw [List.drop_eq_getElem_cons hl]
    have hg : s.data.toList[i] = s[i] := by rw [Array.getElem_toList]; rfl
    rw [hg, qskF]
    have hc := chr_in hlt
    by_cases h34 : chr s i = 34
    · rw [if_pos h34, if_pos hlt]
      have e : s[i] = 34 := UInt8.toNat_inj.1 (by rw [← hc, h34]; rfl)
      rw [e]
      unfold Lib.indexByte
      simp
    · rw [if_neg h34]
      have e : (s[i] == 34) = false := beq_eq_false_iff_ne.2 (fun e => h34 (by rw [hc, e]; rfl))
      obtain ⟨q1, _, _, _⟩ := qskF_spec s n (i + 1) (by omega)
      unfold Lib.indexByte
      rw [e, ix_qskF s n (i + 1) (by omega) hlt]
      by_cases hm : qskF s n (i + 1) < s.size
      · rw [if_pos hm, if_pos hm]
        have : ((((qskF s n (i + 1) - (i + 1) : Nat)) : Int) == -1) = false := beq_eq_false_iff_ne.2 (by omega)
        rw [this]
        simp only [Bool.false_eq_true, if_false]
        omega
      · rw [if_neg hm, if_neg hm]; rfl
theorem quote_ix (s : ByteArray) (i : Nat) (hi : i ≤ s.size) (w : World) : Calls Tryd.prog 86 #[.string (s.extract i s.size), .int .u8 34] w fun e w' => e = .returned (.int .i64 (if qsk s i < s.size then ((qsk s i - i : Nat) : Int) else -1)) ∧ w' = w := by
  refine (Tryd.strings_IndexByte (s.extract i s.size) 34 w).mono ?_
  rintro e w' ⟨rfl, rfl⟩
  refine ⟨?_, rfl⟩
  have h1 : (s.extract i s.size).data.toList = s.data.toList.drop i := by
    rw [ByteArray.data_extract, Array.toList_extract]
    simp only [List.extract_eq_take_drop]
    rw [List.take_of_length_le]
    rw [List.length_drop, Array.length_toList]
    exact Nat.le_refl _
  rw [h1]
  unfold qsk
  rw [← ix_qskF s (s.size - i) i rfl hi]
  rfl
set_option maxRecDepth 100000 in
set_option maxHeartbeats 3200000 in
theorem next_quote (R : Nat) (s : ByteArray) (σ : PQ) (nv : Value) (w : World) (h : PB w R s σ nv) (hp : σ.p ≤ s.size) (hs : s.size ≤ 2000000) (hi : bsk s σ.p < s.size) (hc : chr s (bsk s σ.p) = 34) :
    Calls Tryd.prog 63 #[.pointer (some ⟨R, 0, none⟩)] w (PS1 R s nv w (.tuple #[]) (nextP s σ)) := by
  have hT : Hid (nextP s σ = lexAt s (bsk s σ.p) σ) := rfl
  have hi32 : chr s (bsk s σ.p) ≠ 32 := bsk_not σ.p hp
  go_enter Tryd.func63, Tryd.ntmps63
  go_wp2_with fail
  go_loopg [] (s.size - σ.p) (fun k wr => ∃ q, q ≤ s.size ∧ Hid (bsk s q = bsk s σ.p) ∧ k = s.size - q ∧ PB wr R s { σ with p := q } nv ∧ w.grownBy wr (some R))
  case atStart => exact ⟨σ.p, hp, rfl, rfl, h, gb_refl _ _⟩
  case round =>
    obtain ⟨q, hq, hsk, rfl, hR, hg⟩ := hrel
    clear h
    have c0 := hR.c0
    have c1 := hR.c1
    have c2 := hR.c2
    have c3 := hR.c3
    have c4 := hR.c4
    have f1 := hR.f 1
    have f2 := hR.f 2
    have f3 := hR.f 3
    have f4 := hR.f 4
    simp only at c1 c2 c3 c4
    by_cases hlt : q < s.size
    · have hltI : (q : Int) < (s.size : Int) := by omega
      by_cases hb : chr s q = 32
      · have Hst := Lib.hid (bsk_step hb)
        rw [chr_in hlt] at hb
        have hbb : ((s[q].toNat : Int) == 32) = true := by simp; omega
        clear hb
        go_wp2_with fail
        go_quiet (fail)
        go_wp2_with fail
        go_roundg (s.size - (q + 1))
        case measure => omega
        case rel => exact ⟨q + 1, hlt, Lib.hid (Hst.out.symm.trans hsk.out), by omega, (by exact (hR.drewN _).set1 (q + 1)), (by exact gb_setR (gb_drewN hg _) _ _)⟩
      · have Hq : bsk s σ.p = q := hsk.out.symm.trans (bsk_stop hb)
        rw [Hq] at hc hT
        clear hsk hi32 hi
        have hcq := chr_in hlt
        have hbb : ((s[q].toNat : Int) == 32) = false := by rw [← hcq]; simp; omega
        have hqe : ((q : Int) == (s.size : Int)) = false := by simp; omega
        clear Hq hb
        have hwi := fun W => Lib.hid (inWord_any (chr s q) W)
        rw [hcq] at hwi
        have hw0 : inW (chr s q) = false := by rw [hc]; rfl
        rw [hcq] at hw0
        rw [hw0] at hwi
        have h34 : ((s[q].toNat : Int) == 34) = true := by rw [← hcq, hc]; rfl
        have hL : Hid (lexAt s q σ = if qsk s (q + 1) < s.size then { σ with p := qsk s (q + 1) + 1, x := s.extract (q + 1) (qsk s (q + 1)), ta := q, k := if plainB (s.extract (q + 1) (qsk s (q + 1))) then 3 else 5 } else { σ with p := s.size, x := ⟨#[]⟩, ta := q, k := 5 }) := by
          unfold Hid lexAt
          rw [if_neg (by omega), if_neg (by rw [hc]; decide), if_pos hc]
        clear hc hcq hw0
        have hq1I : (q : Int) + 1 ≤ (s.size : Int) := by omega
        have hIB := fun W => Lib.hid (quote_ix s (q + 1) hlt W)
        obtain ⟨qs1, _, _, qs4⟩ := qskF_spec s (s.size - (q + 1)) (q + 1) rfl
        have qs4 := qs4 hlt
        go_wp2_with fail
        go_quiet (fail)
        go_wp2_with fail
        refine name_calls (p := fun W => PB W R s { σ with p := q, k := 0, x := ⟨#[]⟩, ta := q } nv ∧ w.grownBy W (some R)) ⟨by exact (((hR.drewN _).set2 0).set3 ⟨#[]⟩).set4 q, by exact gb_setR (gb_setR (gb_setR (gb_drewN hg _) _ _) _ _) _ _⟩ ?_
        rintro W ⟨hW, hgW⟩
        clear hR hg c0 c1 c2 c3 c4 f1 f2 f3 f4
        have c0 := hW.c0
        have c1 := hW.c1
        have c2 := hW.c2
        have c3 := hW.c3
        have f1 := hW.f 1
        have f2 := hW.f 2
        have f3 := hW.f 3
        simp only at c1 c2 c3
        by_cases hm : qsk s (q + 1) < s.size
        · obtain ⟨d, hd⟩ : ∃ d, qsk s (q + 1) = q + 1 + d := ⟨qsk s (q + 1) - (q + 1), by unfold qsk at *; omega⟩
          rw [if_pos hm] at hIB hL
          rw [hd] at hIB hL hm
          rw [show q + 1 + d - (q + 1) = d by omega] at hIB
          clear qs1 qs4 hd
          have hdI : (q : Int) + 1 + (d : Int) < (s.size : Int) := by omega
          have hz2 : (q : Int) + (d : Int) + 2 = ((q + 1 + d + 1 : Nat) : Int) := by omega
          have hdI2 : (q : Int) + 1 + (d : Int) ≤ (s.size : Int) := by omega
          have hpr := fun W => Lib.hid (printable_any (s.extract (q + 1) (q + 1 + d)) W (by rw [sub_size (by omega)]; omega))
          cases hpl : plainB (s.extract (q + 1) (q + 1 + d)) with
          | true =>
            rw [hpl] at hpr hL
            simp only [if_true] at hL
            go_wp2_with (first
              | (go_at_call 107; refine ((hpr _).out).mono ?_; rintro e w3 ⟨rfl, rfl⟩)
              | (go_at_call 86; refine ((hIB _).out).mono ?_; rintro e w2 ⟨rfl, rfl⟩)
              | (go_at_call 104; refine ((hwi _).out).mono ?_; rintro e w1 ⟨rfl, rfl⟩))
            rw [show (q : Int) + 1 + (d : Int) + 1 = ((q + 1 + d + 1 : Nat) : Int) from by omega]
            go_end0
            exact ⟨rfl, by rw [hT.out, hL.out]; exact (((hW.set2 5).set3 _).set1 (q + 1 + d + 1)).set2 3, gb_setR (gb_setR (gb_setR (gb_setR hgW _ _) _ _) _ _) _ _⟩
          | false =>
            rw [hpl] at hpr hL
            simp only [Bool.false_eq_true, if_false] at hL
            go_wp2_with (first
              | (go_at_call 107; refine ((hpr _).out).mono ?_; rintro e w3 ⟨rfl, rfl⟩)
              | (go_at_call 86; refine ((hIB _).out).mono ?_; rintro e w2 ⟨rfl, rfl⟩)
              | (go_at_call 104; refine ((hwi _).out).mono ?_; rintro e w1 ⟨rfl, rfl⟩))
            rw [show (q : Int) + 1 + (d : Int) + 1 = ((q + 1 + d + 1 : Nat) : Int) from by omega]
            go_end0
            exact ⟨rfl, by rw [hT.out, hL.out]; exact ((hW.set2 5).set3 _).set1 (q + 1 + d + 1), gb_setR (gb_setR (gb_setR hgW _ _) _ _) _ _⟩
        · rw [if_neg hm] at hIB hL
          go_wp2_with (first
            | (go_at_call 86; refine ((hIB _).out).mono ?_; rintro e w2 ⟨rfl, rfl⟩)
            | (go_at_call 104; refine ((hwi _).out).mono ?_; rintro e w1 ⟨rfl, rfl⟩))
          go_end0
          exact ⟨rfl, by rw [hT.out, hL.out]; exact (hW.set2 5).set1 s.size, gb_setR (gb_setR hgW _ _) _ _⟩
    · exfalso
      obtain rfl : q = s.size := by omega
      have h1 := hsk.out
      rw [bsk_stop (by rw [chr_out (Nat.le_refl _)]; decide)] at h1
      omega
end Go.Proofs.YtnnhkajjifmlfaaDoor.Pl
