/- HTTP, the document's side: a request's first line. -/
import Derived.Test.YtdfgnoflohfnmaaGreatDoorRi
import Derived.Test.YtdfgnoflohfnmaaGreatDoorHp
namespace Go.Proofs.YtdfgnoflohfnmaaGreatDoor.Hx
open Go.RowKit Go.Maps Go.Shelf

def FnK (w : World) (e : Ending) (w' : World) : Prop := ∃ (M P : ByteArray) (A : Option Addr) (n c : Nat), e = .returned (.tuple #[.agg #[.string M, .string P, .slice A n c, .bool false, .slice none 0 0], .bool false]) ∧ w.grownBy w' none
def FyK (m p : Bs) (q : Pr) (w : World) (e : Ending) (w' : World) : Prop := ∃ (A : Option Addr) (c : Nat), e = .returned (.tuple #[.agg #[.string ⟨m.toArray⟩, .string ⟨p.toArray⟩, .slice A q.length c, .bool false, .slice none 0 0], .bool true]) ∧ w'.ownsRow w.heap.size 60 2 (.slice A q.length c) q.length (prCells q) ∧ w.grownBy w' none
def FrK (s : Bs) (w : World) (e : Ending) (w' : World) : Prop := match firstR s with | none => FnK w e w' | some (m, p, q) => FyK m p q w e w'
theorem FrK.no {s : Bs} {w w' : World} {e : Ending} (h : firstR s = none) (k : FnK w e w') : FrK s w e w' := by unfold FrK; rw [h]; exact k
theorem FrK.yes {s m p : Bs} {q : Pr} {w w' : World} {e : Ending} (h : firstR s = some (m, p, q)) (k : FyK m p q w e w') : FrK s w e w' := by unfold FrK; rw [h]; exact k
theorem capB_iff (c : UInt8) : capB c = true ↔ (65 : Int) ≤ c.toNat ∧ (c.toNat : Int) ≤ 90 := by unfold capB; simp; omega
theorem bytes_vers (V : ByteArray) : (V.toList == [72, 84, 84, 80, 47, 49, 46, 49]) = decide (V.data.toList = vers) := by
  rw [Lib.toList_data]
  rw [Bool.eq_iff_iff, beq_iff_eq, decide_eq_true_eq]
  exact Iff.rfl
set_option maxRecDepth 100000 in
set_option maxHeartbeats 1500000 in
theorem rfirst_any (s : ByteArray) (w : World) (hs : s.size ≤ 1000000) : Calls Tryz.prog 69 #[.string s] w (FrK s.data.toList w) := by
  obtain ⟨M1, hM1⟩ : ∃ M1 : ByteArray, M1 = ⟨(Lib.cut s.data.toList [32]).1.toArray⟩ := ⟨_, rfl⟩
  obtain ⟨R1, hR1⟩ : ∃ R1 : ByteArray, R1 = ⟨(Lib.cut s.data.toList [32]).2.1.toArray⟩ := ⟨_, rfl⟩
  obtain ⟨f1, hf1⟩ : ∃ f1, f1 = (Lib.cut s.data.toList [32]).2.2 := ⟨_, rfl⟩
  have hc1 := fun W => Lib.hid (rcut_named s 32 M1 R1 f1 hM1 hR1 hf1 (by omega) W)
  have hRz : R1.size ≤ 1000000 := by rw [hR1]; exact Nat.le_trans (cut_size2 s 32) hs
  have hMz : M1.size ≤ 1000000 := by rw [hM1]; exact Nat.le_trans (cut_size1 s 32) hs
  obtain ⟨T1, hT1⟩ : ∃ T1 : ByteArray, T1 = ⟨(Lib.cut R1.data.toList [32]).1.toArray⟩ := ⟨_, rfl⟩
  obtain ⟨V1, hV1⟩ : ∃ V1 : ByteArray, V1 = ⟨(Lib.cut R1.data.toList [32]).2.1.toArray⟩ := ⟨_, rfl⟩
  obtain ⟨f2, hf2⟩ : ∃ f2, f2 = (Lib.cut R1.data.toList [32]).2.2 := ⟨_, rfl⟩
  have hc2 := fun W => Lib.hid (rcut_named R1 32 T1 V1 f2 hT1 hV1 hf2 (by omega) W)
  have hMl : M1.data.toList = (Lib.cut s.data.toList [32]).1 := by rw [hM1]
  have hRl : R1.data.toList = (Lib.cut s.data.toList [32]).2.1 := by rw [hR1]
  have hTl : T1.data.toList = (Lib.cut R1.data.toList [32]).1 := by rw [hT1]
  have hVl : V1.data.toList = (Lib.cut R1.data.toList [32]).2.1 := by rw [hV1]
  have hML : M1.data.toList.length = M1.size := Array.length_toList
  have hD : firstR s.data.toList = if f1 = false ∨ f2 = false ∨ M1.size < 1 ∨ 16 < M1.size ∨ V1.data.toList ≠ vers ∨ s.data.toList.all lnB = false ∨ M1.data.toList.all capB = false then none else (tgtR T1.data.toList).map fun x => (M1.data.toList, x.1, x.2) := by
    unfold firstR
    rw [← hRl, ← hMl, ← hTl, ← hVl, ← hf1, ← hf2, hML]
  have hN : Hid ((f1 = false ∨ f2 = false ∨ M1.size < 1 ∨ 16 < M1.size ∨ V1.data.toList ≠ vers ∨ s.data.toList.all lnB = false ∨ M1.data.toList.all capB = false) → firstR s.data.toList = none) := fun h => by rw [hD, if_pos h]
  have hG : Hid (¬ (f1 = false ∨ f2 = false ∨ M1.size < 1 ∨ 16 < M1.size ∨ V1.data.toList ≠ vers ∨ s.data.toList.all lnB = false ∨ M1.data.toList.all capB = false) → firstR s.data.toList = (tgtP T1.data.toList).map fun x => (M1.data.toList, x.1, x.2)) := fun h => by rw [hD, if_neg h, tgt_eq]
  have hve := bytes_vers V1
  have hal := fun W => Lib.hid (allowed_any s W (by omega))
  obtain ⟨al, hale⟩ : ∃ al, s.data.toList.all lnB = al := ⟨_, rfl⟩
  rw [hale] at hal
  have htg : ∀ W, Hid (Calls Tryz.prog 22 #[.string T1] W (TK T1.data.toList W)) := fun W => rtarget_any T1 W
  have hMl2 := Lib.hid (show (⟨M1.data.toList.toArray⟩ : ByteArray) = M1 from rfl)
  have hMh := Lib.hid hMz
  have hzn := heap_alloc_new w zO
  have gz : w.grownBy (w.alloc zO) none := gb_alloc (gb_refl w none) zO
  obtain ⟨W0, hW0⟩ : ∃ W0, w.alloc zO = W0 := ⟨_, rfl⟩
  rw [hW0] at hzn gz
  have hZ : ZB W0 w.heap.size := hzn
  replace hZ := Lib.hid hZ
  have gzh := Lib.hid gz
  clear hM1 hR1 hf1 hT1 hV1 hf2 hMl hRl hTl hVl hD hs hRz hzn gz hML
  cases f1 with
  | false =>
    have hr := Lib.hid (hN.out (.inl rfl))
    clear hN hG hale hve htg
    go_enter Tryz.func69, Tryz.ntmps69
    go_wp2_with (first
      | (go_at_call 44; have hh := mk1; clear hh; refine ((hc2 _).out).mono ?_; clear hc2; rintro e w5 ⟨rfl, g5⟩; have g45 := gb_trans g4 g5; have hz := hZ.out.kept g45 (by simp); have z0 := hz.c0; have z1 := hz.c1; have z2 := hz.c2; have z3 := hz.c3; have z4 := hz.c4; have zf := fun i => hz.f i)
      | (go_at_call 44; refine ((hc1 _).out).mono ?_; rintro e w4 ⟨rfl, g4⟩; have mk1 : True := trivial))
    have hz5 := hz.set5 (.string ⟨#[]⟩) (.string ⟨#[]⟩) (.slice none 0 0) (.bool false) (.slice none 0 0)
    have y0 := hz5.c0
    have y1 := hz5.c1
    have y2 := hz5.c2
    have y3 := hz5.c3
    have y4 := hz5.c4
    refine bodyPost_ret (v := .tuple #[.agg #[.string ⟨#[]⟩, .string ⟨#[]⟩, .slice none 0 0, .bool false, .slice none 0 0], .bool false]) (by simp [results, Tryz.results69, go_sem, y0, y1, y2, y3, y4]) rfl ?_
    have gX := (GT.set5 (T := fun x => x = w.heap.size) (GT.refl w5 _) rfl (.string ⟨#[]⟩) (.string ⟨#[]⟩) (.slice none 0 0) (.bool false) (.slice none 0 0))
    have gw := gb_trans gzh.out g45
    exact FrK.no hr.out ⟨_, _, _, _, _, rfl, ((GT.of_none (T := fun x => x = w.heap.size) gw).trans gX (fun _ _ h => h)).grown (fun b hb e => by omega)⟩
  | true =>
    cases f2 with
    | false =>
      have hr := Lib.hid (hN.out (.inr (.inl rfl)))
      clear hN hG hale hve htg
      go_enter Tryz.func69, Tryz.ntmps69
      go_wp2_with (first
        | (go_at_call 44; have hh := mk1; clear hh; refine ((hc2 _).out).mono ?_; clear hc2; rintro e w5 ⟨rfl, g5⟩; have g45 := gb_trans g4 g5; have hz := hZ.out.kept g45 (by simp); have z0 := hz.c0; have z1 := hz.c1; have z2 := hz.c2; have z3 := hz.c3; have z4 := hz.c4; have zf := fun i => hz.f i)
        | (go_at_call 44; refine ((hc1 _).out).mono ?_; rintro e w4 ⟨rfl, g4⟩; have mk1 : True := trivial))
      have hz5 := hz.set5 (.string ⟨#[]⟩) (.string ⟨#[]⟩) (.slice none 0 0) (.bool false) (.slice none 0 0)
      have y0 := hz5.c0
      have y1 := hz5.c1
      have y2 := hz5.c2
      have y3 := hz5.c3
      have y4 := hz5.c4
      refine bodyPost_ret (v := .tuple #[.agg #[.string ⟨#[]⟩, .string ⟨#[]⟩, .slice none 0 0, .bool false, .slice none 0 0], .bool false]) (by simp [results, Tryz.results69, go_sem, y0, y1, y2, y3, y4]) rfl ?_
      have gX := (GT.set5 (T := fun x => x = w.heap.size) (GT.refl w5 _) rfl (.string ⟨#[]⟩) (.string ⟨#[]⟩) (.slice none 0 0) (.bool false) (.slice none 0 0))
      have gw := gb_trans gzh.out g45
      exact FrK.no hr.out ⟨_, _, _, _, _, rfl, ((GT.of_none (T := fun x => x = w.heap.size) gw).trans gX (fun _ _ h => h)).grown (fun b hb e => by omega)⟩
    | true =>
      by_cases h1 : (M1.size : Int) < 1
      · have hr := Lib.hid (hN.out (.inr (.inr (.inl (by omega)))))
        clear hN hG hale hve htg
        go_enter Tryz.func69, Tryz.ntmps69
        go_wp2_with (first
          | (go_at_call 44; have hh := mk1; clear hh; refine ((hc2 _).out).mono ?_; clear hc2; rintro e w5 ⟨rfl, g5⟩; have g45 := gb_trans g4 g5; have hz := hZ.out.kept g45 (by simp); have z0 := hz.c0; have z1 := hz.c1; have z2 := hz.c2; have z3 := hz.c3; have z4 := hz.c4; have zf := fun i => hz.f i)
          | (go_at_call 44; refine ((hc1 _).out).mono ?_; rintro e w4 ⟨rfl, g4⟩; have mk1 : True := trivial))
        have hz5 := hz.set5 (.string ⟨#[]⟩) (.string ⟨#[]⟩) (.slice none 0 0) (.bool false) (.slice none 0 0)
        have y0 := hz5.c0
        have y1 := hz5.c1
        have y2 := hz5.c2
        have y3 := hz5.c3
        have y4 := hz5.c4
        refine bodyPost_ret (v := .tuple #[.agg #[.string ⟨#[]⟩, .string ⟨#[]⟩, .slice none 0 0, .bool false, .slice none 0 0], .bool false]) (by simp [results, Tryz.results69, go_sem, y0, y1, y2, y3, y4]) rfl ?_
        have gX := (GT.set5 (T := fun x => x = w.heap.size) (GT.refl w5 _) rfl (.string ⟨#[]⟩) (.string ⟨#[]⟩) (.slice none 0 0) (.bool false) (.slice none 0 0))
        have gw := gb_trans gzh.out g45
        exact FrK.no hr.out ⟨_, _, _, _, _, rfl, ((GT.of_none (T := fun x => x = w.heap.size) gw).trans gX (fun _ _ h => h)).grown (fun b hb e => by omega)⟩
      · by_cases h2 : (16 : Int) < (M1.size : Int)
        · have hr := Lib.hid (hN.out (.inr (.inr (.inr (.inl (by omega))))))
          clear hN hG hale hve htg
          go_enter Tryz.func69, Tryz.ntmps69
          go_wp2_with (first
            | (go_at_call 44; have hh := mk1; clear hh; refine ((hc2 _).out).mono ?_; clear hc2; rintro e w5 ⟨rfl, g5⟩; have g45 := gb_trans g4 g5; have hz := hZ.out.kept g45 (by simp); have z0 := hz.c0; have z1 := hz.c1; have z2 := hz.c2; have z3 := hz.c3; have z4 := hz.c4; have zf := fun i => hz.f i)
            | (go_at_call 44; refine ((hc1 _).out).mono ?_; rintro e w4 ⟨rfl, g4⟩; have mk1 : True := trivial))
          have hz5 := hz.set5 (.string ⟨#[]⟩) (.string ⟨#[]⟩) (.slice none 0 0) (.bool false) (.slice none 0 0)
          have y0 := hz5.c0
          have y1 := hz5.c1
          have y2 := hz5.c2
          have y3 := hz5.c3
          have y4 := hz5.c4
          refine bodyPost_ret (v := .tuple #[.agg #[.string ⟨#[]⟩, .string ⟨#[]⟩, .slice none 0 0, .bool false, .slice none 0 0], .bool false]) (by simp [results, Tryz.results69, go_sem, y0, y1, y2, y3, y4]) rfl ?_
          have gX := (GT.set5 (T := fun x => x = w.heap.size) (GT.refl w5 _) rfl (.string ⟨#[]⟩) (.string ⟨#[]⟩) (.slice none 0 0) (.bool false) (.slice none 0 0))
          have gw := gb_trans gzh.out g45
          exact FrK.no hr.out ⟨_, _, _, _, _, rfl, ((GT.of_none (T := fun x => x = w.heap.size) gw).trans gX (fun _ _ h => h)).grown (fun b hb e => by omega)⟩
        · by_cases hv : V1.data.toList = vers
          · rw [decide_eq_true hv] at hve
            cases al with
            | false =>
              have hr := Lib.hid (hN.out (.inr (.inr (.inr (.inr (.inr (.inl hale)))))))
              clear hN hG hale htg
              go_enter Tryz.func69, Tryz.ntmps69
              go_wp2_with (first
                | (go_at_call 44; have hh := mk1; clear hh; refine ((hc2 _).out).mono ?_; clear hc2; rintro e w5 ⟨rfl, g5⟩; have g45 := gb_trans g4 g5; have hz := hZ.out.kept g45 (by simp); have z0 := hz.c0; have z1 := hz.c1; have z2 := hz.c2; have z3 := hz.c3; have z4 := hz.c4; have zf := fun i => hz.f i)
                | (go_at_call 44; refine ((hc1 _).out).mono ?_; rintro e w4 ⟨rfl, g4⟩; have mk1 : True := trivial)
                | (go_at_call 96; refine ((hal _).out).mono ?_; rintro e w6 ⟨rfl, hw6⟩; rw [hw6]; clear hw6))
              have hz5 := hz.set5 (.string ⟨#[]⟩) (.string ⟨#[]⟩) (.slice none 0 0) (.bool false) (.slice none 0 0)
              have y0 := hz5.c0
              have y1 := hz5.c1
              have y2 := hz5.c2
              have y3 := hz5.c3
              have y4 := hz5.c4
              refine bodyPost_ret (v := .tuple #[.agg #[.string ⟨#[]⟩, .string ⟨#[]⟩, .slice none 0 0, .bool false, .slice none 0 0], .bool false]) (by simp [results, Tryz.results69, go_sem, y0, y1, y2, y3, y4]) rfl ?_
              have gX := (GT.set5 (T := fun x => x = w.heap.size) (GT.refl w5 _) rfl (.string ⟨#[]⟩) (.string ⟨#[]⟩) (.slice none 0 0) (.bool false) (.slice none 0 0))
              have gw := gb_trans gzh.out g45
              exact FrK.no hr.out ⟨_, _, _, _, _, rfl, ((GT.of_none (T := fun x => x = w.heap.size) gw).trans gX (fun _ _ h => h)).grown (fun b hb e => by omega)⟩
            | true =>
              have hrest : Hid (M1.data.toList.all capB = true → firstR s.data.toList = (tgtP T1.data.toList).map fun x => (M1.data.toList, x.1, x.2)) := fun hc => hG.out (by rintro (e | e | e | e | e | e | e); cases e; cases e; omega; omega; exact e hv; rw [hale] at e; cases e; rw [hc] at e; cases e)
              clear hG hv
              go_enter Tryz.func69, Tryz.ntmps69
              go_wp2_with (first
                | (go_at_call 44; have hh := mk1; clear hh; refine ((hc2 _).out).mono ?_; clear hc2; rintro e w5 ⟨rfl, g5⟩; have g45 := gb_trans g4 g5; have hz := hZ.out.kept g45 (by simp); have z0 := hz.c0; have z1 := hz.c1; have z2 := hz.c2; have z3 := hz.c3; have z4 := hz.c4; have zf := fun i => hz.f i)
                | (go_at_call 44; refine ((hc1 _).out).mono ?_; rintro e w4 ⟨rfl, g4⟩; have mk1 : True := trivial)
                | (go_at_call 96; refine ((hal _).out).mono ?_; rintro e w6 ⟨rfl, hw6⟩; rw [hw6]; clear hw6))
              clear hc1 hal hale hve z0 z1 z2 z3 z4 zf hW0
              replace hz := Lib.hid hz
              replace g45 := Lib.hid g45
              clear g4 g5
              obtain ⟨wq, hwq⟩ : ∃ wq, wq = w5 := ⟨_, rfl⟩
              subst hwq
              go_loopg [10] M1.size (fun z u8 wr => ∃ k : Nat, k ≤ M1.size ∧ z = M1.size - k ∧ u8 = .int .i64 (k : Nat) ∧ Hid ((M1.data.toList.take k).all capB = true) ∧ wr = wq)
              case atStart => exact ⟨0, Nat.zero_le _, rfl, rfl, rfl, rfl⟩
              case round =>
                obtain ⟨k, hk, rfl, rfl, hp, hwr⟩ := hrel
                subst hwr
                by_cases hlt : k < M1.size
                · have hki : (k : Int) < (M1.size : Int) := by omega
                  have hq1 := Lib.hid (show wrap64 ((k : Int) + 1) = ((k + 1 : Nat) : Int) from (wrap64_id (by omega) (by omega)).trans (by omega))
                  by_cases a1 : (M1[k].toNat : Int) < 65
                  · have hr := Lib.hid (hN.out (.inr (.inr (.inr (.inr (.inr (.inr (all_no M1 hlt (p := capB) (by rw [Bool.eq_false_iff]; intro e; have := (capB_iff _).1 e; omega)))))))))
                    have hz9 := hz.out
                    have z0 := hz9.c0
                    have z1 := hz9.c1
                    have z2 := hz9.c2
                    have z3 := hz9.c3
                    have z4 := hz9.c4
                    have zf := fun i => hz9.f i
                    clear hp hN hrest htg
                    go_wp2_with fail
                    have hz5 := hz.out.set5 (.string ⟨#[]⟩) (.string ⟨#[]⟩) (.slice none 0 0) (.bool false) (.slice none 0 0)
                    have y0 := hz5.c0
                    have y1 := hz5.c1
                    have y2 := hz5.c2
                    have y3 := hz5.c3
                    have y4 := hz5.c4
                    refine bodyPost_ret (v := .tuple #[.agg #[.string ⟨#[]⟩, .string ⟨#[]⟩, .slice none 0 0, .bool false, .slice none 0 0], .bool false]) (by simp [results, Tryz.results69, go_sem, y0, y1, y2, y3, y4]) rfl ?_
                    have gX := (GT.set5 (T := fun x => x = w.heap.size) (GT.refl wr _) rfl (.string ⟨#[]⟩) (.string ⟨#[]⟩) (.slice none 0 0) (.bool false) (.slice none 0 0))
                    have gw := gb_trans gzh.out g45.out
                    exact FrK.no hr.out ⟨_, _, _, _, _, rfl, ((GT.of_none (T := fun x => x = w.heap.size) gw).trans gX (fun _ _ h => h)).grown (fun b hb e => by omega)⟩
                  · by_cases a2 : (90 : Int) < (M1[k].toNat : Int)
                    · have hr := Lib.hid (hN.out (.inr (.inr (.inr (.inr (.inr (.inr (all_no M1 hlt (p := capB) (by rw [Bool.eq_false_iff]; intro e; have := (capB_iff _).1 e; omega)))))))))
                      have hz9 := hz.out
                      have z0 := hz9.c0
                      have z1 := hz9.c1
                      have z2 := hz9.c2
                      have z3 := hz9.c3
                      have z4 := hz9.c4
                      have zf := fun i => hz9.f i
                      clear hp hN hrest htg
                      go_wp2_with fail
                      have hz5 := hz.out.set5 (.string ⟨#[]⟩) (.string ⟨#[]⟩) (.slice none 0 0) (.bool false) (.slice none 0 0)
                      have y0 := hz5.c0
                      have y1 := hz5.c1
                      have y2 := hz5.c2
                      have y3 := hz5.c3
                      have y4 := hz5.c4
                      refine bodyPost_ret (v := .tuple #[.agg #[.string ⟨#[]⟩, .string ⟨#[]⟩, .slice none 0 0, .bool false, .slice none 0 0], .bool false]) (by simp [results, Tryz.results69, go_sem, y0, y1, y2, y3, y4]) rfl ?_
                      have gX := (GT.set5 (T := fun x => x = w.heap.size) (GT.refl wr _) rfl (.string ⟨#[]⟩) (.string ⟨#[]⟩) (.slice none 0 0) (.bool false) (.slice none 0 0))
                      have gw := gb_trans gzh.out g45.out
                      exact FrK.no hr.out ⟨_, _, _, _, _, rfl, ((GT.of_none (T := fun x => x = w.heap.size) gw).trans gX (fun _ _ h => h)).grown (fun b hb e => by omega)⟩
                    · have hst2 : Hid ((M1.data.toList.take (k + 1)).all capB = true) := by unfold Hid; rw [all_succ M1 hlt, hp.out, (capB_iff _).2 ⟨by omega, by omega⟩]; rfl
                      clear hp hN hrest hz htg
                      go_wp2_with fail
                      go_roundg (M1.size - (k + 1))
                      case measure => omega
                      case rel => exact ⟨k + 1, hlt, rfl, by first | rw [hq1.out] | go_num, hst2, rfl⟩
                · have hke : k = M1.size := by omega
                  subst hke
                  have hall := hp.out
                  rw [show M1.size = M1.data.toList.length from rfl, List.take_length] at hall
                  have hD := hrest.out hall
                  have hni : ¬ ((M1.size : Int) < (M1.size : Int)) := by omega
                  clear hp hN hrest hall
                  cases ht : tgtP T1.data.toList with
                  | none =>
                    rw [ht] at hD
                    have hr := Lib.hid (show firstR s.data.toList = none from hD)
                    unfold TK at htg
                    rw [ht] at htg
                    clear hD ht
                    go_wp2_with (first
                      | (go_at_call 22; refine ((htg _).out).mono ?_; rintro e w7 ⟨rfl, g7⟩; have hz7 := hz.out.kept g7 (by simp); have z0 := hz7.c0; have z1 := hz7.c1; have z2 := hz7.c2; have z3 := hz7.c3; have z4 := hz7.c4; have zf := fun i => hz7.f i))
                    have hz5 := hz7.set5 (.string M1) (.string ⟨#[]⟩) (.slice none 0 0) (.bool false) (.slice none 0 0)
                    have y0 := hz5.c0
                    have y1 := hz5.c1
                    have y2 := hz5.c2
                    have y3 := hz5.c3
                    have y4 := hz5.c4
                    refine bodyPost_ret (v := .tuple #[.agg #[.string M1, .string ⟨#[]⟩, .slice none 0 0, .bool false, .slice none 0 0], .bool false]) (by simp [results, Tryz.results69, go_sem, y0, y1, y2, y3, y4]) rfl ?_
                    have gX := (GT.set5 (T := fun x => x = w.heap.size) (GT.refl w7 _) rfl (.string M1) (.string ⟨#[]⟩) (.slice none 0 0) (.bool false) (.slice none 0 0))
                    have gw := gb_trans (gb_trans gzh.out g45.out) g7
                    exact FrK.no hr.out ⟨_, _, _, _, _, rfl, ((GT.of_none (T := fun x => x = w.heap.size) gw).trans gX (fun _ _ h => h)).grown (fun b hb e => by omega)⟩
                  | some x =>
                    obtain ⟨p, q⟩ := x
                    rw [ht] at hD
                    have hr := Lib.hid (show firstR s.data.toList = some (M1.data.toList, p, q) from hD)
                    unfold TK at htg
                    rw [ht] at htg
                    dsimp only at htg
                    obtain ⟨P1, hP1⟩ : ∃ P1 : ByteArray, P1 = ⟨p.toArray⟩ := ⟨_, rfl⟩
                    rw [← hP1] at htg
                    replace hP1 := Lib.hid hP1
                    clear hD ht
                    go_wp2_with (first
                      | (go_at_call 22; refine ((htg _).out).mono ?_; rintro e w7 ⟨v7, rfl, o7, g7⟩; obtain ⟨A7, c7, rfl⟩ := row_shape o7; replace o7 := Lib.hid o7; have hz7 := hz.out.kept g7 (by simp); have z0 := hz7.c0; have z1 := hz7.c1; have z2 := hz7.c2; have z3 := hz7.c3; have z4 := hz7.c4; have zf := fun i => hz7.f i))
                    have hz5 := hz7.set5 (.string M1) (.string P1) (.slice A7 q.length c7) (.bool false) (.slice none 0 0)
                    have y0 := hz5.c0
                    have y1 := hz5.c1
                    have y2 := hz5.c2
                    have y3 := hz5.c3
                    have y4 := hz5.c4
                    refine bodyPost_ret (v := .tuple #[.agg #[.string M1, .string P1, .slice A7 q.length c7, .bool false, .slice none 0 0], .bool true]) (by simp [results, Tryz.results69, go_sem, y0, y1, y2, y3, y4]) rfl ?_
                    have gX := (GT.set5 (T := fun x => x = w.heap.size) (GT.refl w7 _) rfl (.string M1) (.string P1) (.slice A7 q.length c7) (.bool false) (.slice none 0 0))
                    have hwz := hZ.out.lt
                    have hwz2 := g45.out.size
                    have gw := gb_trans (gb_trans gzh.out g45.out) g7
                    exact FrK.yes hr.out ⟨_, _, by rw [hP1.out], own_base (own_gt o7.out gX (by omega)) (by omega), ((GT.of_none (T := fun x => x = w.heap.size) gw).trans gX (fun _ _ h => h)).grown (fun b hb e => by omega)⟩
          · rw [decide_eq_false hv] at hve
            have hr := Lib.hid (hN.out (.inr (.inr (.inr (.inr (.inl hv))))))
            clear hN hG hale htg
            go_enter Tryz.func69, Tryz.ntmps69
            go_wp2_with (first
              | (go_at_call 44; have hh := mk1; clear hh; refine ((hc2 _).out).mono ?_; clear hc2; rintro e w5 ⟨rfl, g5⟩; have g45 := gb_trans g4 g5; have hz := hZ.out.kept g45 (by simp); have z0 := hz.c0; have z1 := hz.c1; have z2 := hz.c2; have z3 := hz.c3; have z4 := hz.c4; have zf := fun i => hz.f i)
              | (go_at_call 44; refine ((hc1 _).out).mono ?_; rintro e w4 ⟨rfl, g4⟩; have mk1 : True := trivial))
            have hz5 := hz.set5 (.string ⟨#[]⟩) (.string ⟨#[]⟩) (.slice none 0 0) (.bool false) (.slice none 0 0)
            have y0 := hz5.c0
            have y1 := hz5.c1
            have y2 := hz5.c2
            have y3 := hz5.c3
            have y4 := hz5.c4
            refine bodyPost_ret (v := .tuple #[.agg #[.string ⟨#[]⟩, .string ⟨#[]⟩, .slice none 0 0, .bool false, .slice none 0 0], .bool false]) (by simp [results, Tryz.results69, go_sem, y0, y1, y2, y3, y4]) rfl ?_
            have gX := (GT.set5 (T := fun x => x = w.heap.size) (GT.refl w5 _) rfl (.string ⟨#[]⟩) (.string ⟨#[]⟩) (.slice none 0 0) (.bool false) (.slice none 0 0))
            have gw := gb_trans gzh.out g45
            exact FrK.no hr.out ⟨_, _, _, _, _, rfl, ((GT.of_none (T := fun x => x = w.heap.size) gw).trans gX (fun _ _ h => h)).grown (fun b hb e => by omega)⟩
end Go.Proofs.YtdfgnoflohfnmaaGreatDoor.Hx
