/- HTTP, the document's side: a target. -/
import Derived.Test.YtdfgnoflohfnmaaGreatDoorRf
import Derived.Test.YtdfgnoflohfnmaaGreatDoorHm
namespace Go.Proofs.YtdfgnoflohfnmaaGreatDoor.Hx
open Go.RowKit Go.Maps Go.Shelf

def parsQ (q : Bs) : Option Pr := parsR (q.length + 1) q
theorem parsQ_eq (q : Bs) : parsQ q = parsP (Lib.split q [38]) := pars_eq _ q (Nat.lt_succ_self _)
theorem parsQ_nil : parsQ [] = some [] := by unfold parsQ parsR; simp
theorem cut_short {q : Bs} {c : UInt8} (h : q ≠ []) : (Lib.cut q [c]).2.1.length < q.length := by
  rcases idx_cases q c with h1 | ⟨i, h1, h2⟩
  · rw [cut_miss h1]; exact List.length_pos_iff.mpr h
  · rw [cut_hit h1, List.length_drop]; omega
theorem parsQ_step {q : Bs} (h : q ≠ []) : parsQ q = match parP (Lib.cut q [38]).1 with
    | none => none
    | some (n, v) => (parsQ (Lib.cut q [38]).2.1).map fun l => if n ≠ [] ∨ v ≠ [] then (n, v) :: l else l := by
  have h2 := cut_short (c := 38) h
  conv => lhs; unfold parsQ parsR
  rw [if_neg h]
  rw [pars_eq q.length _ h2, ← parsQ_eq]
  cases parP (Lib.cut q [38]).1 with
  | none => rfl
  | some x => rfl
theorem info_pr2 : (Tryz.prog.info? 60).map (fun i => (i.zero, i.size, i.bytes)) = some (some (.agg #[.string ⟨#[]⟩, .string ⟨#[]⟩]), 2, 32) := by kernel_rfl
/-- so much has been told; the rest is told of what is left -/
def DQ (Q cur : Bs) (acc : Pr) : Prop := parsQ Q = (parsQ cur).map (acc ++ ·)
theorem DQ.start (Q : Bs) : DQ Q Q [] := by unfold DQ; simp
theorem DQ.stop {Q : Bs} {acc : Pr} (h : DQ Q [] acc) : parsQ Q = some acc := by rw [h, parsQ_nil]; simp
theorem DQ.bad {Q cur : Bs} {acc : Pr} (h : DQ Q cur acc) (h0 : cur ≠ []) (hp : parP (Lib.cut cur [38]).1 = none) : parsQ Q = none := by rw [h, parsQ_step h0, hp]; rfl
theorem DQ.put {Q cur : Bs} {acc : Pr} (h : DQ Q cur acc) (h0 : cur ≠ []) {n v : Bs} (hp : parP (Lib.cut cur [38]).1 = some (n, v)) (hne : n ≠ [] ∨ v ≠ []) : DQ Q (Lib.cut cur [38]).2.1 (acc ++ [(n, v)]) := by
  unfold DQ at h ⊢
  rw [h, parsQ_step h0, hp]
  dsimp only
  cases parsQ (Lib.cut cur [38]).2.1 <;> simp [hne]
theorem DQ.skip {Q cur : Bs} {acc : Pr} (h : DQ Q cur acc) (h0 : cur ≠ []) {n v : Bs} (hp : parP (Lib.cut cur [38]).1 = some (n, v)) (h1 : n = []) (h2 : v = []) : DQ Q (Lib.cut cur [38]).2.1 acc := by
  unfold DQ at h ⊢
  rw [h, parsQ_step h0, hp]
  dsimp only
  cases parsQ (Lib.cut cur [38]).2.1 <;> simp [h1, h2]
theorem tgt_some {s p : Bs} {q : Pr} (h0 : ¬ (s.length < 1 ∨ 2048 < s.length ∨ s.head? ≠ some 47 ∨ s.all tgB = false)) (hp : unesc false (Lib.cut s [63]).1 = some p) (hq : parsQ (Lib.cut s [63]).2.1 = some q) : tgtP s = some (p, q) := by
  unfold tgtP; rw [if_neg h0, hp, ← parsQ_eq, hq]
theorem tgt_none1 {s : Bs} (hp : unesc false (Lib.cut s [63]).1 = none) : tgtP s = none := by
  unfold tgtP; split
  · rfl
  · rw [hp]
theorem tgt_none2 {s : Bs} (hq : parsQ (Lib.cut s [63]).2.1 = none) : tgtP s = none := by
  unfold tgtP; split
  · rfl
  · rw [← parsQ_eq, hq]; cases unesc false (Lib.cut s [63]).1 <;> rfl
theorem rcut_named (s : ByteArray) (c : UInt8) (M V : ByteArray) (f : Bool) (hM : M = ⟨(Lib.cut s.data.toList [c]).1.toArray⟩) (hV : V = ⟨(Lib.cut s.data.toList [c]).2.1.toArray⟩) (hf : f = (Lib.cut s.data.toList [c]).2.2) (hs : s.size ≤ 1000000000) (w : World) :
    Calls Tryz.prog 44 #[.string s, .int .u8 (c.toNat : Int)] w fun e w' => e = .returned (.tuple #[.string M, .string V, .bool f]) ∧ w.grownBy w' none := by
  subst hM hV hf
  exact rcut_any s c w hs
theorem cut_size1 (s : ByteArray) (c : UInt8) : (⟨(Lib.cut s.data.toList [c]).1.toArray⟩ : ByteArray).size ≤ s.size := by
  show (Lib.cut s.data.toList [c]).1.toArray.size ≤ _
  rw [List.size_toArray]
  have := cut_len1 s.data.toList [c]
  exact Nat.le_trans this (Nat.le_of_eq Array.length_toList)
theorem cut_size2 (s : ByteArray) (c : UInt8) : (⟨(Lib.cut s.data.toList [c]).2.1.toArray⟩ : ByteArray).size ≤ s.size := by
  show (Lib.cut s.data.toList [c]).2.1.toArray.size ≤ _
  rw [List.size_toArray]
  have := cut_len2 s.data.toList [c]
  exact Nat.le_trans this (Nat.le_of_eq Array.length_toList)
/-- plainly at a text that is, at one that is none -/
theorem plainly_yes (plus : Bool) (s : ByteArray) (d : Bs) (T : ByteArray) (hT : T = ⟨d.toArray⟩) (hd : unesc plus s.data.toList = some d) (hs : s.size ≤ 1000000) (w : World) :
    Calls Tryz.prog 45 #[.string s, .bool plus] w fun e w' => e = .returned (.tuple #[.string T, .bool true]) ∧ w.grownBy w' none := by
  refine (plainly_any plus s w hs).mono ?_
  rintro e w' ⟨T', rfl, h, hg⟩
  rw [hd]
  exact ⟨by rw [h d (by rw [plainly_eq plus _ _ (Nat.le_refl _)]; exact hd), hT]; rfl, hg⟩
theorem plainly_no (plus : Bool) (s : ByteArray) (hd : unesc plus s.data.toList = none) (hs : s.size ≤ 1000000) (w : World) :
    Calls Tryz.prog 45 #[.string s, .bool plus] w fun e w' => ∃ T, e = .returned (.tuple #[.string T, .bool false]) ∧ w.grownBy w' none := by
  refine (plainly_any plus s w hs).mono ?_
  rintro e w' ⟨T', rfl, h, hg⟩
  rw [hd]
  exact ⟨T', rfl, hg⟩
set_option maxRecDepth 100000 in
set_option maxHeartbeats 6400000 in
theorem rtarget_short (s : ByteArray) (w : World) (hz : s.size < 1) :
    Calls Tryz.prog 22 #[.string s] w (TK s.data.toList w) := by
  have hzl : s.data.toList.length = s.size := Array.length_toList
  have hT := Lib.hid (show tgtP s.data.toList = none from by unfold tgtP; rw [if_pos (by rw [hzl]; exact .inl hz)])
  have h1' : (s.size : Int) < 1 := by omega
  clear hz
  go_enter Tryz.func22, Tryz.ntmps22
  go_wp2_with fail
  refine bodyPost_ret (v := .tuple #[.string ⟨#[]⟩, .slice none 0 0, .int .i64 2]) (by simp [results, Tryz.results22, go_sem]) rfl ?_
  exact TK.ill hT.out (gb_refl _ _)
set_option maxRecDepth 100000 in
set_option maxHeartbeats 6400000 in
theorem rtarget_long (s : ByteArray) (w : World) (hz2 : 2048 < s.size) :
    Calls Tryz.prog 22 #[.string s] w (TK s.data.toList w) := by
  have hzl : s.data.toList.length = s.size := Array.length_toList
  have hT := Lib.hid (show tgtP s.data.toList = none from by unfold tgtP; rw [if_pos (by rw [hzl]; exact .inr (.inl hz2))])
  have h1' : ¬ (s.size : Int) < 1 := by omega
  have h2' : (2048 : Int) < (s.size : Int) := by omega
  clear hz2
  go_enter Tryz.func22, Tryz.ntmps22
  go_wp2_with fail
  refine bodyPost_ret (v := .tuple #[.string ⟨#[]⟩, .slice none 0 0, .int .i64 2]) (by simp [results, Tryz.results22, go_sem]) rfl ?_
  exact TK.ill hT.out (gb_refl _ _)
set_option maxRecDepth 100000 in
set_option maxHeartbeats 6400000 in
theorem rtarget_head (s : ByteArray) (w : World) (hz : 0 < s.size) (hz2 : ¬ 2048 < s.size) (hd : s[0].toNat ≠ 47) :
    Calls Tryz.prog 22 #[.string s] w (TK s.data.toList w) := by
  have hzl : s.data.toList.length = s.size := Array.length_toList
  have hhd : s.data.toList.head? = some s[0] := by rw [List.head?_eq_getElem?]; exact List.getElem?_eq_getElem (l := s.data.toList) (by rw [hzl]; exact hz)
  have hT := Lib.hid (show tgtP s.data.toList = none from by
    unfold tgtP
    rw [if_pos (.inr (.inr (.inl (by rw [hhd]; intro e; exact hd (by have := Option.some.inj e; rw [this]; rfl)))))])
  have h1' : ¬ (s.size : Int) < 1 := by omega
  have h2' : ¬ (2048 : Int) < (s.size : Int) := by omega
  have h3' : ((s[0].toNat : Int) != 47) = true := by simp; omega
  clear hz2 hd hhd
  go_enter Tryz.func22, Tryz.ntmps22
  go_wp2_with fail
  refine bodyPost_ret (v := .tuple #[.string ⟨#[]⟩, .slice none 0 0, .int .i64 2]) (by simp [results, Tryz.results22, go_sem]) rfl ?_
  exact TK.ill hT.out (gb_refl _ _)
set_option maxRecDepth 100000 in
set_option maxHeartbeats 6400000 in
theorem rtarget_odd (s : ByteArray) (w : World) (hz : 0 < s.size) (hz2 : ¬ 2048 < s.size) (hd : s[0].toNat = 47) (ht : s.data.toList.all tgB = false) :
    Calls Tryz.prog 22 #[.string s] w (TK s.data.toList w) := by
  have hzl : s.data.toList.length = s.size := Array.length_toList
  have hT := Lib.hid (show tgtP s.data.toList = none from by unfold tgtP; rw [if_pos (.inr (.inr (.inr ht)))])
  have h1' : ¬ (s.size : Int) < 1 := by omega
  have h2' : ¬ (2048 : Int) < (s.size : Int) := by omega
  have h3' : ((s[0].toNat : Int) != 47) = false := by simp; omega
  have hal := fun W => Lib.hid (rplain_any 33 s W (by omega))
  rw [rgB_tg, ht] at hal
  clear hz2 hd
  go_enter Tryz.func22, Tryz.ntmps22
  go_wp2_with (first
    | (go_at_call 43; refine ((hal _).out).mono ?_; rintro e w3 ⟨rfl, rfl⟩))
  refine bodyPost_ret (v := .tuple #[.string ⟨#[]⟩, .slice none 0 0, .int .i64 2]) (by simp [results, Tryz.results22, go_sem]) rfl ?_
  exact TK.ill hT.out (gb_refl _ _)
set_option maxRecDepth 100000 in
set_option maxHeartbeats 6400000 in
theorem rtarget_good (s : ByteArray) (w : World) (hz : 0 < s.size) (hz2 : ¬ 2048 < s.size) (hd : s[0].toNat = 47) (ht : s.data.toList.all tgB = true) :
    Calls Tryz.prog 22 #[.string s] w (TK s.data.toList w) := by
  have hzl : s.data.toList.length = s.size := Array.length_toList
  have hhd : s.data.toList.head? = some s[0] := by rw [List.head?_eq_getElem?]; exact List.getElem?_eq_getElem (l := s.data.toList) (by rw [hzl]; exact hz)
  have h1' : ¬ (s.size : Int) < 1 := by omega
  have h2' : ¬ (2048 : Int) < (s.size : Int) := by omega
  have h3' : ((s[0].toNat : Int) != 47) = false := by simp; omega
  have hal := fun W => Lib.hid (rplain_any 33 s W (by omega))
  rw [rgB_tg, ht] at hal
  have hok := Lib.hid (show ¬ (s.data.toList.length < 1 ∨ 2048 < s.data.toList.length ∨ s.data.toList.head? ≠ some 47 ∨ s.data.toList.all tgB = false) from by
    rintro (e | e | e | e)
    · omega
    · omega
    · exact e (by rw [hhd]; exact congrArg some (UInt8.toNat_inj.mp hd))
    · rw [ht] at e; cases e)
  obtain ⟨P1, hP1⟩ : ∃ P1 : ByteArray, P1 = ⟨(Lib.cut s.data.toList [63]).1.toArray⟩ := ⟨_, rfl⟩
  obtain ⟨Q1, hQ1⟩ : ∃ Q1 : ByteArray, Q1 = ⟨(Lib.cut s.data.toList [63]).2.1.toArray⟩ := ⟨_, rfl⟩
  obtain ⟨f1, hf1⟩ : ∃ f1, f1 = (Lib.cut s.data.toList [63]).2.2 := ⟨_, rfl⟩
  have hcut := fun W => Lib.hid (rcut_named s 63 P1 Q1 f1 hP1 hQ1 hf1 (by omega) W)
  have hPl : P1.data.toList = (Lib.cut s.data.toList [63]).1 := by rw [hP1]
  have hQl : Q1.data.toList = (Lib.cut s.data.toList [63]).2.1 := by rw [hQ1]
  have hPz : P1.size ≤ 2048 := by rw [hP1]; exact Nat.le_trans (cut_size1 s 63) (by omega)
  have hQz : Q1.size ≤ 2048 := by rw [hQ1]; exact Nat.le_trans (cut_size2 s 63) (by omega)
  clear hP1 hQ1 hf1 hz2 hd ht hhd
  cases hu : unesc false P1.data.toList with
  | none =>
    have hT := Lib.hid (tgt_none1 (s := s.data.toList) (by rw [← hPl]; exact hu))
    have hpl := fun W => Lib.hid (plainly_no false P1 hu (by omega) W)
    clear hPl hQl hPz hQz hok hu hzl
    go_enter Tryz.func22, Tryz.ntmps22
    go_wp2_with (first
      | (go_at_call 43; refine ((hal _).out).mono ?_; rintro e w3 ⟨rfl, hw3⟩; rw [hw3]; clear hw3)
      | (go_at_call 44; refine ((hcut _).out).mono ?_; rintro e w4 ⟨rfl, g4⟩)
      | (go_at_call 45; refine ((hpl _).out).mono ?_; rintro e w5 ⟨T5, rfl, g5⟩))
    refine bodyPost_ret (v := .tuple #[.string ⟨#[]⟩, .slice none 0 0, .int .i64 2]) (by simp [results, Tryz.results22, go_sem]) rfl ?_
    exact TK.ill hT.out (gb_trans g4 g5)
  | some p =>
    obtain ⟨P2, hP2⟩ : ∃ P2 : ByteArray, P2 = ⟨p.toArray⟩ := ⟨_, rfl⟩
    have hpl := fun W => Lib.hid (plainly_yes false P1 p P2 hP2 hu (by omega) W)
    have hgood := Lib.hid (fun q (hq : parsQ Q1.data.toList = some q) => tgt_some hok.out (by rw [← hPl]; exact hu) (by rw [← hQl]; exact hq))
    have hbad := Lib.hid (fun (hq : parsQ Q1.data.toList = none) => tgt_none2 (s := s.data.toList) (by rw [← hQl]; exact hq))
    replace hP2 := Lib.hid hP2
    have hQh := Lib.hid hQz
    clear hPl hQl hPz hQz hok hu hzl
    obtain ⟨i0, hi0, hz0, hz1, hz2⟩ := info_parts info_pr2
    go_enter Tryz.func22, Tryz.ntmps22
    go_wp2_with (first
      | (go_at_call 43; refine ((hal _).out).mono ?_; rintro e w3 ⟨rfl, hw3⟩; rw [hw3]; clear hw3)
      | (go_at_call 44; refine ((hcut _).out).mono ?_; rintro e w4 ⟨rfl, g4⟩)
      | (go_at_call 45; refine ((hpl _).out).mono ?_; rintro e w5 ⟨rfl, g5⟩))
    have g45 := Lib.hid (gb_trans g4 g5)
    clear g4 g5 hal hcut hpl
    go_loopg [6, 10] Q1.size (fun z u6 u10 wr => ∃ (cur : ByteArray) (acc : Pr), u6 = .string cur ∧ z = cur.size ∧ Hid (cur.size ≤ 2048 ∧ acc.length + cur.size ≤ 2048) ∧ Hid (DQ Q1.data.toList cur.data.toList acc) ∧ wr.ownsRow w.heap.size 60 2 u10 acc.length (prCells acc) ∧ Hid (w.grownBy wr none))
    case atStart => exact ⟨Q1, [], rfl, rfl, ⟨hQh.out, by simpa using hQh.out⟩, DQ.start _, World.ownsRow_nil _ _ _ _, g45.out⟩
    case round =>
      obtain ⟨cur, acc, rfl, rfl, hsz, hD, ho, hg⟩ := hrel
      have hcl : cur.data.toList.length = cur.size := Array.length_toList
      by_cases h0 : cur.data.toList = []
      · have he : (cur.toList == []) = true := by rw [Lib.toList_data, h0]; rfl
        rw [h0] at hD
        have hT := Lib.hid (hgood.out acc (DQ.stop hD.out))
        obtain ⟨A10, k10, rfl⟩ := row_shape ho
        replace ho := Lib.hid ho
        clear hD h0 hcl hgood hbad
        go_wp2_with fail
        refine bodyPost_ret (v := .tuple #[.string P2, .slice A10 acc.length k10, .int .i64 0]) (by simp [results, Tryz.results22, go_sem]) rfl ?_
        rw [hP2.out]
        exact TK.good hT.out ho.out hg.out
      · have hne : (cur.toList == []) = false := by rw [Lib.toList_data, beq_eq_false_iff_ne]; exact h0
        have hlt := cut_short (c := 38) h0
        obtain ⟨z1, z2⟩ := hsz.out
        obtain ⟨M1, hM1⟩ : ∃ M1 : ByteArray, M1 = ⟨(Lib.cut cur.data.toList [38]).1.toArray⟩ := ⟨_, rfl⟩
        obtain ⟨R1, hR1⟩ : ∃ R1 : ByteArray, R1 = ⟨(Lib.cut cur.data.toList [38]).2.1.toArray⟩ := ⟨_, rfl⟩
        obtain ⟨f2, hf2⟩ : ∃ f2, f2 = (Lib.cut cur.data.toList [38]).2.2 := ⟨_, rfl⟩
        have hc1 := fun W => Lib.hid (rcut_named cur 38 M1 R1 f2 hM1 hR1 hf2 (by omega) W)
        have hMz : M1.size ≤ 2048 := by rw [hM1]; exact Nat.le_trans (cut_size1 cur 38) z1
        have hRl : R1.data.toList = (Lib.cut cur.data.toList [38]).2.1 := by rw [hR1]
        have hRz : R1.size < cur.size := by
          have e : R1.data.toList.length = R1.size := Array.length_toList
          rw [← e, hRl]; omega
        have hMl : M1.data.toList = (Lib.cut cur.data.toList [38]).1 := by rw [hM1]
        obtain ⟨N1, hN1⟩ : ∃ N1 : ByteArray, N1 = ⟨(Lib.cut M1.data.toList [61]).1.toArray⟩ := ⟨_, rfl⟩
        obtain ⟨V1, hV1⟩ : ∃ V1 : ByteArray, V1 = ⟨(Lib.cut M1.data.toList [61]).2.1.toArray⟩ := ⟨_, rfl⟩
        obtain ⟨f3, hf3⟩ : ∃ f3, f3 = (Lib.cut M1.data.toList [61]).2.2 := ⟨_, rfl⟩
        have hc2 := fun W => Lib.hid (rcut_named M1 61 N1 V1 f3 hN1 hV1 hf3 (by omega) W)
        have hNz : N1.size ≤ 2048 := by rw [hN1]; exact Nat.le_trans (cut_size1 M1 61) hMz
        have hVz : V1.size ≤ 2048 := by rw [hV1]; exact Nat.le_trans (cut_size2 M1 61) hMz
        have hNl : N1.data.toList = (Lib.cut M1.data.toList [61]).1 := by rw [hN1]
        have hVl : V1.data.toList = (Lib.cut M1.data.toList [61]).2.1 := by rw [hV1]
        have hpar : parP (Lib.cut cur.data.toList [38]).1 = match unesc true N1.data.toList, unesc true V1.data.toList with | some n, some v => some (n, v) | _, _ => none := by
          unfold parP
          rw [← hMl, ← hNl, ← hVl]
          cases unesc true N1.data.toList <;> cases unesc true V1.data.toList <;> rfl
        have hRzh := Lib.hid hRz
        have hRh := Lib.hid hRl
        have hclh := Lib.hid hcl
        clear hM1 hR1 hf2 hN1 hV1 hf3 hMl hNl hVl hRz hRl hlt hMz hcl
        have hbd := hbad.out
        cases hu1 : unesc true N1.data.toList with
        | none =>
          have hp1 := fun W => Lib.hid (plainly_no true N1 hu1 (by omega) W)
          rw [hu1] at hpar
          have hT := Lib.hid (hbd (hD.out.bad h0 hpar))
          have hp2 : ∀ W, Hid (Calls Tryz.prog 45 #[.string V1, .bool true] W (PlK true V1.data.toList W (unesc true V1.data.toList).isSome)) := fun W => plainly_any true V1 W (by omega)
          generalize (unesc true V1.data.toList).isSome = f9 at *
          clear hD h0 hgood hbad hbd hpar hu1 hsz z1 z2
          go_wp2_with (first
            | (go_at_call 44; have hh := mk1; clear hh; refine ((hc2 _).out).mono ?_; clear hc2; rintro e w5 ⟨rfl, g5⟩)
            | (go_at_call 44; refine ((hc1 _).out).mono ?_; rintro e w4 ⟨rfl, g4⟩; have mk1 : True := trivial)
            | (go_at_call 45; have hh := mk2; clear hh; refine ((hp2 _).out).mono ?_; rintro e w7 ⟨T7, rfl, _, g7⟩)
            | (go_at_call 45; refine ((hp1 _).out).mono ?_; rintro e w6 ⟨T6, rfl, g6⟩; have mk2 : True := trivial))
          refine bodyPost_ret (v := .tuple #[.string ⟨#[]⟩, .slice none 0 0, .int .i64 2]) (by simp [results, Tryz.results22, go_sem]) rfl ?_
          exact TK.ill hT.out (gb_trans (gb_trans (gb_trans (gb_trans hg.out g4) g5) g6) g7)
        | some nn =>
          obtain ⟨T1, hT1⟩ : ∃ T1 : ByteArray, T1 = ⟨nn.toArray⟩ := ⟨_, rfl⟩
          have hp1 := fun W => Lib.hid (plainly_yes true N1 nn T1 hT1 hu1 (by omega) W)
          rw [hu1] at hpar
          cases hu2 : unesc true V1.data.toList with
          | none =>
            rw [hu2] at hpar
            have hp2 := fun W => Lib.hid (plainly_no true V1 hu2 (by omega) W)
            have hT := Lib.hid (hbd (hD.out.bad h0 hpar))
            clear hD h0 hgood hbad hbd hpar hu1 hu2 hsz z1 z2 hT1
            go_wp2_with (first
              | (go_at_call 44; have hh := mk1; clear hh; refine ((hc2 _).out).mono ?_; clear hc2; rintro e w5 ⟨rfl, g5⟩)
              | (go_at_call 44; refine ((hc1 _).out).mono ?_; rintro e w4 ⟨rfl, g4⟩; have mk1 : True := trivial)
              | (go_at_call 45; have hh := mk2; clear hh; refine ((hp2 _).out).mono ?_; rintro e w7 ⟨T7, rfl, g7⟩)
              | (go_at_call 45; refine ((hp1 _).out).mono ?_; rintro e w6 ⟨rfl, g6⟩; have mk2 : True := trivial))
            refine bodyPost_ret (v := .tuple #[.string ⟨#[]⟩, .slice none 0 0, .int .i64 2]) (by simp [results, Tryz.results22, go_sem]) rfl ?_
            exact TK.ill hT.out (gb_trans (gb_trans (gb_trans (gb_trans hg.out g4) g5) g6) g7)
          | some vv =>
            obtain ⟨T2, hT2⟩ : ∃ T2 : ByteArray, T2 = ⟨vv.toArray⟩ := ⟨_, rfl⟩
            have hp2 := fun W => Lib.hid (plainly_yes true V1 vv T2 hT2 hu2 (by omega) W)
            rw [hu2] at hpar
            have hT1l : T1.toList = nn := by rw [Lib.toList_data, hT1]
            have hT2l : T2.toList = vv := by rw [Lib.toList_data, hT2]
            have hparh := Lib.hid hpar
            have h0h := Lib.hid h0
            by_cases hnv : nn ≠ [] ∨ vv ≠ []
            · have hnx := Lib.hid (hD.out.put h0 hpar hnv)
              rw [← hRh.out] at hnx
              have hcs : (T1.toList == []) = false ∨ ((T1.toList == []) = true ∧ (T2.toList == []) = false) := by
                rw [hT1l, hT2l]
                rcases Classical.em (nn = []) with h | h
                · refine .inr ⟨by rw [h]; rfl, ?_⟩
                  rw [beq_eq_false_iff_ne]
                  rcases hnv with e | e
                  · exact absurd h e
                  · exact e
                · exact .inl (by rw [beq_eq_false_iff_ne]; exact h)
              have hTc := Lib.hid (And.intro hT1 hT2)
              clear hD h0 hgood hbad hbd hpar hu1 hu2 hnv hT1 hT2 hT1l hT2l
              rcases hcs with ht1 | ⟨ht1, ht2⟩
              · replace ho := Lib.hid ho
                have hzz := Lib.hid (And.intro z1 z2)
                clear z1 z2
                go_wp2_with (first
                  | (go_at_call 44; have hh := mk1; clear hh; refine ((hc2 _).out).mono ?_; clear hc2; rintro e w5 ⟨rfl, g5⟩)
                  | (go_at_call 44; refine ((hc1 _).out).mono ?_; rintro e w4 ⟨rfl, g4⟩; have mk1 : True := trivial)
                  | (go_at_call 45; have hh := mk2; clear hh; refine ((hp2 _).out).mono ?_; rintro e w7 ⟨rfl, g7⟩; have gx := gb_trans (gb_trans (gb_trans g4 g5) g6) g7; have hgx := gb_trans hg.out gx; have ho7 := ho.out.kept gx (by cases e : u10.ownBlock <;> simp))
                  | (go_at_call 45; refine ((hp1 _).out).mono ?_; rintro e w6 ⟨rfl, g6⟩; have mk2 : True := trivial)
                  | (at_builtin; refine wpList_append_own_at _ rfl _ _ 30 rfl w.heap.size 60 i0 (.agg #[.string ⟨#[]⟩, .string ⟨#[]⟩]) 2 32 Tryz.underlying30 hi0 hz0 hz1 hz2 rfl (by decide) u10 _ _ rfl (ho7.alloc _) ⟨_, 0, none⟩ 1 1 [.string T1, .string T2] rfl rfl (news_new _ _ rfl) (by simp [Value.oneCell']) (by have := hzz.out; unfold maxLen; omega) (by have := hzz.out; omega) (by have := hgx.size; simp; omega) ?_; intro v9 w9 o9 g9 _ _))
                go_roundg R1.size
                case measure => exact hRzh.out
                case rel =>
                  have h1 := hzz.out
                  have h2 := hRzh.out
                  have e : prCells (acc ++ [(nn, vv)]) = prCells acc ++ [.string T1, .string T2] := by rw [prCells_app, hTc.out.1, hTc.out.2]; rfl
                  exact ⟨R1, acc ++ [(nn, vv)], rfl, rfl, ⟨by omega, by rw [List.length_append]; simp; omega⟩, hnx.out, by rw [e, List.length_append]; exact o9, gb_more (gb_alloc hgx _) g9 (fun g hk => .inr (ho.out.lt g hk).1)⟩
              · replace ho := Lib.hid ho
                have hzz := Lib.hid (And.intro z1 z2)
                clear z1 z2
                go_wp2_with (first
                  | (go_at_call 44; have hh := mk1; clear hh; refine ((hc2 _).out).mono ?_; clear hc2; rintro e w5 ⟨rfl, g5⟩)
                  | (go_at_call 44; refine ((hc1 _).out).mono ?_; rintro e w4 ⟨rfl, g4⟩; have mk1 : True := trivial)
                  | (go_at_call 45; have hh := mk2; clear hh; refine ((hp2 _).out).mono ?_; rintro e w7 ⟨rfl, g7⟩; have gx := gb_trans (gb_trans (gb_trans g4 g5) g6) g7; have hgx := gb_trans hg.out gx; have ho7 := ho.out.kept gx (by cases e : u10.ownBlock <;> simp))
                  | (go_at_call 45; refine ((hp1 _).out).mono ?_; rintro e w6 ⟨rfl, g6⟩; have mk2 : True := trivial)
                  | (at_builtin; refine wpList_append_own_at _ rfl _ _ 30 rfl w.heap.size 60 i0 (.agg #[.string ⟨#[]⟩, .string ⟨#[]⟩]) 2 32 Tryz.underlying30 hi0 hz0 hz1 hz2 rfl (by decide) u10 _ _ rfl (ho7.alloc _) ⟨_, 0, none⟩ 1 1 [.string T1, .string T2] rfl rfl (news_new _ _ rfl) (by simp [Value.oneCell']) (by have := hzz.out; unfold maxLen; omega) (by have := hzz.out; omega) (by have := hgx.size; simp; omega) ?_; intro v9 w9 o9 g9 _ _))
                go_roundg R1.size
                case measure => exact hRzh.out
                case rel =>
                  have h1 := hzz.out
                  have h2 := hRzh.out
                  have e : prCells (acc ++ [(nn, vv)]) = prCells acc ++ [.string T1, .string T2] := by rw [prCells_app, hTc.out.1, hTc.out.2]; rfl
                  exact ⟨R1, acc ++ [(nn, vv)], rfl, rfl, ⟨by omega, by rw [List.length_append]; simp; omega⟩, hnx.out, by rw [e, List.length_append]; exact o9, gb_more (gb_alloc hgx _) g9 (fun g hk => .inr (ho.out.lt g hk).1)⟩
            · have hn0 : nn = [] := Classical.byContradiction fun h => hnv (.inl h)
              have hv0 : vv = [] := Classical.byContradiction fun h => hnv (.inr h)
              have hnx := Lib.hid (hD.out.skip h0 hpar hn0 hv0)
              rw [← hRh.out] at hnx
              have ht1 : (T1.toList == []) = true := by rw [hT1l, hn0]; rfl
              have ht2 : (T2.toList == []) = true := by rw [hT2l, hv0]; rfl
              replace ho := Lib.hid ho
              have hzz := Lib.hid (And.intro z1 z2)
              clear hD h0 hgood hbad hbd hpar hu1 hu2 hnv hT1 hT2 hT1l hT2l hn0 hv0 z1 z2
              go_wp2_with (first
                | (go_at_call 44; have hh := mk1; clear hh; refine ((hc2 _).out).mono ?_; clear hc2; rintro e w5 ⟨rfl, g5⟩)
                | (go_at_call 44; refine ((hc1 _).out).mono ?_; rintro e w4 ⟨rfl, g4⟩; have mk1 : True := trivial)
                | (go_at_call 45; have hh := mk2; clear hh; refine ((hp2 _).out).mono ?_; rintro e w7 ⟨rfl, g7⟩)
                | (go_at_call 45; refine ((hp1 _).out).mono ?_; rintro e w6 ⟨rfl, g6⟩; have mk2 : True := trivial))
              go_roundg R1.size
              case measure => exact hRzh.out
              case rel =>
                have gx := gb_trans (gb_trans (gb_trans g4 g5) g6) g7
                have h1 := hzz.out
                have h2 := hRzh.out
                exact ⟨R1, acc, rfl, rfl, ⟨by omega, by omega⟩, hnx.out, ho.out.kept gx (by cases e : u10.ownBlock <;> simp), gb_trans hg.out gx⟩
/-- a target -/
theorem rtarget_any (s : ByteArray) (w : World) : Calls Tryz.prog 22 #[.string s] w (TK s.data.toList w) := by
  by_cases h0 : 0 < s.size
  · by_cases h1 : 2048 < s.size
    · exact rtarget_long s w h1
    · by_cases h2 : s[0].toNat = 47
      · cases h3 : s.data.toList.all tgB with
        | true => exact rtarget_good s w h0 h1 h2 h3
        | false => exact rtarget_odd s w h0 h1 h2 h3
      · exact rtarget_head s w h0 h1 h2
  · exact rtarget_short s w (by omega)
end Go.Proofs.YtdfgnoflohfnmaaGreatDoor.Hx
