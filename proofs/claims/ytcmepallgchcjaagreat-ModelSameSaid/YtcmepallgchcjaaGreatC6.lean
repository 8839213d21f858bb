/- The kit's SameSpan. -/
import Derived.Test.YtcmepallgchcjaaGreatC7
namespace Go.Proofs.YtcmepallgchcjaaGreat
open Go.RowKit

theorem sp_ne {a1 a2 a3 a4 : Int} {a5 a6 : ByteArray} {a7 a8 a9 : Int} {a10 : Bool} {a11 : List Tg} {b1 b2 b3 b4 : Int} {b5 b6 : ByteArray} {b7 b8 b9 : Int} {b10 : Bool} {b11 : List Tg}
    (h : a1 ≠ b1 ∨ a2 ≠ b2 ∨ a3 ≠ b3 ∨ a4 ≠ b4 ∨ a5 ≠ b5 ∨ a6 ≠ b6 ∨ a7 ≠ b7 ∨ a8 ≠ b8 ∨ a9 ≠ b9 ∨ a10 ≠ b10 ∨ a11 ≠ b11) :
    eqD (Sp.mk a1 a2 a3 a4 a5 a6 a7 a8 a9 a10 a11) (Sp.mk b1 b2 b3 b4 b5 b6 b7 b8 b9 b10 b11) = false := by
  refine eqD_ne fun e => ?_
  injection e with e1 e2 e3 e4 e5 e6 e7 e8 e9 e10 e11
  rcases h with h | h | h | h | h | h | h | h | h | h | h <;> contradiction
set_option maxRecDepth 100000 in
set_option maxHeartbeats 6400000 in
theorem sameSpan_any (a b : Sp) (u v : Value) (w : World) (hl : a.tags.length ≤ 140737488355328) (hu : TAt w (fun _ => True) a.tags u) (hv : TAt w (fun _ => True) b.tags v) :
    Calls Tryz.prog 41 #[spV a u, spV b v] w fun e w' => e = .returned (.bool (eqD a b)) ∧ w.grownBy w' none := by
  obtain ⟨a1, a2, a3, a4, a5, a6, a7, a8, a9, a10, a11⟩ := a
  obtain ⟨b1, b2, b3, b4, b5, b6, b7, b8, b9, b10, b11⟩ := b
  simp only at hl hu hv
  obtain ⟨A, c, bA, oA, rfl, hA, hcl⟩ := hu
  obtain ⟨X, d, bX, oX, rfl, hX, hdl⟩ := hv
  have hgw : w.grownBy ((w.alloc (.cells #[.int .u64 a1, .int .u64 a2, .int .u64 a3, .int .u64 a4, .string a5, .string a6, .int .i64 a7, .int .i64 a8, .int .i64 a9, .bool a10, .slice A a11.length c] 43)).alloc (.cells #[.int .u64 b1, .int .u64 b2, .int .u64 b3, .int .u64 b4, .string b5, .string b6, .int .i64 b7, .int .i64 b8, .int .i64 b9, .bool b10, .slice X b11.length d] 43)) none := gb_alloc (gb_alloc (gb_refl w none) _) _
  have e0 := heap_alloc_new w (.cells #[.int .u64 a1, .int .u64 a2, .int .u64 a3, .int .u64 a4, .string a5, .string a6, .int .i64 a7, .int .i64 a8, .int .i64 a9, .bool a10, .slice A a11.length c] 43)
  have e1 := heap_alloc_new (w.alloc (.cells #[.int .u64 a1, .int .u64 a2, .int .u64 a3, .int .u64 a4, .string a5, .string a6, .int .i64 a7, .int .i64 a8, .int .i64 a9, .bool a10, .slice A a11.length c] 43)) (.cells #[.int .u64 b1, .int .u64 b2, .int .u64 b3, .int .u64 b4, .string b5, .string b6, .int .i64 b7, .int .i64 b8, .int .i64 b9, .bool b10, .slice X b11.length d] 43)
  have e0' := (Below.heap_alloc (w.alloc (.cells #[.int .u64 a1, .int .u64 a2, .int .u64 a3, .int .u64 a4, .string a5, .string a6, .int .i64 a7, .int .i64 a8, .int .i64 a9, .bool a10, .slice A a11.length c] 43)) (.cells #[.int .u64 b1, .int .u64 b2, .int .u64 b3, .int .u64 b4, .string b5, .string b6, .int .i64 b7, .int .i64 b8, .int .i64 b9, .bool b10, .slice X b11.length d] 43) w.heap.size (by simp)).trans e0
  rw [show (w.alloc (.cells #[.int .u64 a1, .int .u64 a2, .int .u64 a3, .int .u64 a4, .string a5, .string a6, .int .i64 a7, .int .i64 a8, .int .i64 a9, .bool a10, .slice A a11.length c] 43)).heap.size = w.heap.size + 1 from by simp] at e1
  have FA : ∀ (W : World) (_ : ((w.alloc (.cells #[.int .u64 a1, .int .u64 a2, .int .u64 a3, .int .u64 a4, .string a5, .string a6, .int .i64 a7, .int .i64 a8, .int .i64 a9, .bool a10, .slice A a11.length c] 43)).alloc (.cells #[.int .u64 b1, .int .u64 b2, .int .u64 b3, .int .u64 b4, .string b5, .string b6, .int .i64 b7, .int .i64 b8, .int .i64 b9, .bool b10, .slice X b11.length d] 43)).grownBy W none), W.cell? ⟨w.heap.size, 10, none⟩ = some (.slice A a11.length c) := fun W hg => cell_grown (by rw [cell_of_row _ _ _ _ _ _ e0']; rfl) hg (by simp)
  have FB : ∀ (W : World) (_ : ((w.alloc (.cells #[.int .u64 a1, .int .u64 a2, .int .u64 a3, .int .u64 a4, .string a5, .string a6, .int .i64 a7, .int .i64 a8, .int .i64 a9, .bool a10, .slice A a11.length c] 43)).alloc (.cells #[.int .u64 b1, .int .u64 b2, .int .u64 b3, .int .u64 b4, .string b5, .string b6, .int .i64 b7, .int .i64 b8, .int .i64 b9, .bool b10, .slice X b11.length d] 43)).grownBy W none), W.cell? ⟨w.heap.size + 1, 10, none⟩ = some (.slice X b11.length d) := fun W hg => cell_grown (by rw [cell_of_row _ _ _ _ _ _ e1]; rfl) hg (by simp)
  clear e0 e0' e1
  show Calls Tryz.prog 41 #[.agg #[.int .u64 a1, .int .u64 a2, .int .u64 a3, .int .u64 a4, .string a5, .string a6, .int .i64 a7, .int .i64 a8, .int .i64 a9, .bool a10, .slice A a11.length c], .agg #[.int .u64 b1, .int .u64 b2, .int .u64 b3, .int .u64 b4, .string b5, .string b6, .int .i64 b7, .int .i64 b8, .int .i64 b9, .bool b10, .slice X b11.length d]] w _
  go_enter Tryz.func41, Tryz.ntmps41
  by_cases h1 : a1 = b1
  · subst h1
    by_cases h2 : a2 = b2
    · subst h2
      by_cases h3 : a3 = b3
      · subst h3
        by_cases h4 : a4 = b4
        · subst h4
          by_cases h5 : a5 = b5
          · subst h5
            by_cases h6 : a6 = b6
            · subst h6
              by_cases h7 : a7 = b7
              · subst h7
                by_cases h8 : a8 = b8
                · subst h8
                  by_cases h9 : a9 = b9
                  · subst h9
                    by_cases h10 : a10 = b10
                    · subst h10
                      by_cases hne : a11.length = b11.length
                      · have hneH := Lib.hid hne
                        have hbf : ((a11.length : Int) != (b11.length : Int)) = false := by simp [hne]
                        have hl' := Lib.hid hl
                        clear hl hne
                        go_wp2_with fail
                        generalize hwB : World.alloc (w.alloc _) _ = wB at *
                        go_loopg [5] a11.length (fun z uk wr => ∃ q : Nat, q ≤ a11.length ∧ z = a11.length - q ∧ uk = .int .i64 q ∧ Hid (a11.take q = b11.take q) ∧ wB.grownBy wr none)
                        case atStart => exact ⟨0, Nat.zero_le _, rfl, rfl, by unfold Hid; rfl, gb_refl _ _⟩
                        case round =>
                          obtain ⟨q, hq, rfl, rfl, htk, hg⟩ := hrel
                          have fa := FA _ hg
                          have fb := FB _ hg
                          have hgr := gb_trans hgw hg
                          by_cases hlt : q < a11.length
                          · have hlt' : q < b11.length := by have := hneH.out; omega
                            obtain ⟨rfl, _⟩ := hA (by omega)
                            obtain ⟨rfl, _⟩ := hX (by omega)
                            have hqi : (q : Int) < (a11.length : Int) := by omega
                            have hqj : (q : Int) < (b11.length : Int) := by omega
                            have g0 := cell_grown (hcl q hlt).1 hgr (by simp)
                            have g1 := cell_grown (hcl q hlt).2 hgr (by simp)
                            have k0 := cell_grown (hdl q hlt').1 hgr (by simp)
                            have k1 := cell_grown (hdl q hlt').2 hgr (by simp)
                            have hq1 := Lib.hid (show wrap64 ((q : Int) + 1) = ((q + 1 : Nat) : Int) from (wrap64_id (by omega) (by have := hl'.out; omega)).trans (by omega))
                            have hnx : Hid (a11[q] = b11[q] → a11.take (q + 1) = b11.take (q + 1)) := fun e => by
                              rw [List.take_add_one, List.take_add_one, htk.out, List.getElem?_eq_getElem hlt, List.getElem?_eq_getElem hlt', e]
                            have hbad : Hid (a11[q] ≠ b11[q] → eqD (Sp.mk a1 a2 a3 a4 a5 a6 a7 a8 a9 a10 a11) (Sp.mk a1 a2 a3 a4 a5 a6 a7 a8 a9 a10 b11) = false) := fun hne2 => sp_ne (.inr (.inr (.inr (.inr (.inr (.inr (.inr (.inr (.inr (.inr fun e => hne2 (by subst e; rfl)))))))))))
                            clear hcl hdl hA hX FA FB
                            generalize a11[q] = ta at *
                            generalize b11[q] = tb at *
                            obtain ⟨ta1, ta2⟩ := ta
                            obtain ⟨tb1, tb2⟩ := tb
                            simp only at g0 g1 k0 k1
                            by_cases ht1 : ta1 = tb1
                            · subst ht1
                              by_cases ht2 : ta2 = tb2
                              · subst ht2
                                have hnx2 := Lib.hid (hnx.out rfl)
                                clear hnx hbad
                                go_wp2_with fail
                                go_region
                                all_goals go_wp2_with fail
                                all_goals go_roundg (a11.length - (q + 1))
                                all_goals first
                                  | omega
                                  | exact ⟨q + 1, hlt, rfl, by first | rw [hq1.out] | go_num, hnx2, gb_drew hg⟩
                              · have hE := Lib.hid (hbad.out (fun e => ht2 (by injection e)))
                                have hs := str_ne ht2
                                clear hnx hbad
                                go_wp2_with fail
                                go_region
                                all_goals go_wp2_with fail
                                all_goals go_ret
                                all_goals exact ⟨by rw [hE.out]; rfl, gb_drew hgr⟩
                            · have hE := Lib.hid (hbad.out (fun e => ht1 (by injection e)))
                              have hs := str_ne ht1
                              clear hnx hbad
                              go_wp2_with fail
                              go_region
                              all_goals go_wp2_with fail
                              all_goals go_ret
                              all_goals exact ⟨by rw [hE.out]; rfl, gb_drew hgr⟩
                          · obtain rfl : q = a11.length := by omega
                            have hfin := htk.out
                            rw [List.take_of_length_le (Nat.le_refl _), List.take_of_length_le (l := b11) (by have := hneH.out; omega)] at hfin
                            have hE : Hid (eqD (Sp.mk a1 a2 a3 a4 a5 a6 a7 a8 a9 a10 a11) (Sp.mk a1 a2 a3 a4 a5 a6 a7 a8 a9 a10 b11) = true) := by unfold Hid; rw [hfin]; exact eqD_self _
                            clear hfin htk hcl hdl hA hX FA FB
                            go_wp2_with fail
                            go_ret
                            exact ⟨by rw [hE.out]; rfl, hgr⟩
                      · have hE : Hid (eqD (Sp.mk a1 a2 a3 a4 a5 a6 a7 a8 a9 a10 a11) (Sp.mk a1 a2 a3 a4 a5 a6 a7 a8 a9 a10 b11) = false) := sp_ne (.inr (.inr (.inr (.inr (.inr (.inr (.inr (.inr (.inr (.inr fun e => hne (by rw [e])))))))))))
                        have hneI : ((a11.length : Int) != (b11.length : Int)) = true := by simp; omega
                        clear FA FB hcl hdl hA hX
                        go_wp2_with fail
                        all_goals go_ret
                        all_goals exact ⟨by rw [hE.out]; rfl, hgw⟩
                    · have hE := Lib.hid (sp_ne (a1 := a1) (a2 := a2) (a3 := a3) (a4 := a4) (a5 := a5) (a6 := a6) (a7 := a7) (a8 := a8) (a9 := a9) (a10 := a10) (a11 := a11) (b1 := a1) (b2 := a2) (b3 := a3) (b4 := a4) (b5 := a5) (b6 := a6) (b7 := a7) (b8 := a8) (b9 := a9) (b10 := b10) (b11 := b11) (.inr (.inr (.inr (.inr (.inr (.inr (.inr (.inr (.inr (.inl h10)))))))))))
                      have hb : b10 = !a10 := by cases a10 <;> cases b10 <;> simp_all
                      subst hb
                      cases a10
                      all_goals clear FA FB hcl hdl hA hX
                      all_goals go_wp2_with fail
                      all_goals go_ret
                      all_goals exact ⟨by rw [hE.out]; rfl, hgw⟩
                  · have hE := Lib.hid (sp_ne (a1 := a1) (a2 := a2) (a3 := a3) (a4 := a4) (a5 := a5) (a6 := a6) (a7 := a7) (a8 := a8) (a9 := a9) (a10 := a10) (a11 := a11) (b1 := a1) (b2 := a2) (b3 := a3) (b4 := a4) (b5 := a5) (b6 := a6) (b7 := a7) (b8 := a8) (b9 := b9) (b10 := b10) (b11 := b11) (.inr (.inr (.inr (.inr (.inr (.inr (.inr (.inr (.inl h9))))))))))
                    clear FA FB hcl hdl hA hX
                    go_wp2_with fail
                    all_goals go_ret
                    all_goals exact ⟨by rw [hE.out]; rfl, hgw⟩
                · have hE := Lib.hid (sp_ne (a1 := a1) (a2 := a2) (a3 := a3) (a4 := a4) (a5 := a5) (a6 := a6) (a7 := a7) (a8 := a8) (a9 := a9) (a10 := a10) (a11 := a11) (b1 := a1) (b2 := a2) (b3 := a3) (b4 := a4) (b5 := a5) (b6 := a6) (b7 := a7) (b8 := b8) (b9 := b9) (b10 := b10) (b11 := b11) (.inr (.inr (.inr (.inr (.inr (.inr (.inr (.inl h8)))))))))
                  clear FA FB hcl hdl hA hX
                  go_wp2_with fail
                  all_goals go_ret
                  all_goals exact ⟨by rw [hE.out]; rfl, hgw⟩
              · have hE := Lib.hid (sp_ne (a1 := a1) (a2 := a2) (a3 := a3) (a4 := a4) (a5 := a5) (a6 := a6) (a7 := a7) (a8 := a8) (a9 := a9) (a10 := a10) (a11 := a11) (b1 := a1) (b2 := a2) (b3 := a3) (b4 := a4) (b5 := a5) (b6 := a6) (b7 := b7) (b8 := b8) (b9 := b9) (b10 := b10) (b11 := b11) (.inr (.inr (.inr (.inr (.inr (.inr (.inl h7))))))))
                clear FA FB hcl hdl hA hX
                go_wp2_with fail
                all_goals go_ret
                all_goals exact ⟨by rw [hE.out]; rfl, hgw⟩
            · have hE := Lib.hid (sp_ne (a1 := a1) (a2 := a2) (a3 := a3) (a4 := a4) (a5 := a5) (a6 := a6) (a7 := a7) (a8 := a8) (a9 := a9) (a10 := a10) (a11 := a11) (b1 := a1) (b2 := a2) (b3 := a3) (b4 := a4) (b5 := a5) (b6 := b6) (b7 := b7) (b8 := b8) (b9 := b9) (b10 := b10) (b11 := b11) (.inr (.inr (.inr (.inr (.inr (.inl h6)))))))
              have hs := str_ne h6
              clear FA FB hcl hdl hA hX
              go_wp2_with fail
              all_goals go_ret
              all_goals exact ⟨by rw [hE.out]; rfl, hgw⟩
          · have hE := Lib.hid (sp_ne (a1 := a1) (a2 := a2) (a3 := a3) (a4 := a4) (a5 := a5) (a6 := a6) (a7 := a7) (a8 := a8) (a9 := a9) (a10 := a10) (a11 := a11) (b1 := a1) (b2 := a2) (b3 := a3) (b4 := a4) (b5 := b5) (b6 := b6) (b7 := b7) (b8 := b8) (b9 := b9) (b10 := b10) (b11 := b11) (.inr (.inr (.inr (.inr (.inl h5))))))
            have hs := str_ne h5
            clear FA FB hcl hdl hA hX
            go_wp2_with fail
            all_goals go_ret
            all_goals exact ⟨by rw [hE.out]; rfl, hgw⟩
        · have hE := Lib.hid (sp_ne (a1 := a1) (a2 := a2) (a3 := a3) (a4 := a4) (a5 := a5) (a6 := a6) (a7 := a7) (a8 := a8) (a9 := a9) (a10 := a10) (a11 := a11) (b1 := a1) (b2 := a2) (b3 := a3) (b4 := b4) (b5 := b5) (b6 := b6) (b7 := b7) (b8 := b8) (b9 := b9) (b10 := b10) (b11 := b11) (.inr (.inr (.inr (.inl h4)))))
          clear FA FB hcl hdl hA hX
          go_wp2_with fail
          all_goals go_ret
          all_goals exact ⟨by rw [hE.out]; rfl, hgw⟩
      · have hE := Lib.hid (sp_ne (a1 := a1) (a2 := a2) (a3 := a3) (a4 := a4) (a5 := a5) (a6 := a6) (a7 := a7) (a8 := a8) (a9 := a9) (a10 := a10) (a11 := a11) (b1 := a1) (b2 := a2) (b3 := b3) (b4 := b4) (b5 := b5) (b6 := b6) (b7 := b7) (b8 := b8) (b9 := b9) (b10 := b10) (b11 := b11) (.inr (.inr (.inl h3))))
        clear FA FB hcl hdl hA hX
        go_wp2_with fail
        all_goals go_ret
        all_goals exact ⟨by rw [hE.out]; rfl, hgw⟩
    · have hE := Lib.hid (sp_ne (a1 := a1) (a2 := a2) (a3 := a3) (a4 := a4) (a5 := a5) (a6 := a6) (a7 := a7) (a8 := a8) (a9 := a9) (a10 := a10) (a11 := a11) (b1 := a1) (b2 := b2) (b3 := b3) (b4 := b4) (b5 := b5) (b6 := b6) (b7 := b7) (b8 := b8) (b9 := b9) (b10 := b10) (b11 := b11) (.inr (.inl h2)))
      clear FA FB hcl hdl hA hX
      go_wp2_with fail
      all_goals go_ret
      all_goals exact ⟨by rw [hE.out]; rfl, hgw⟩
  · have hE := Lib.hid (sp_ne (a1 := a1) (a2 := a2) (a3 := a3) (a4 := a4) (a5 := a5) (a6 := a6) (a7 := a7) (a8 := a8) (a9 := a9) (a10 := a10) (a11 := a11) (b1 := b1) (b2 := b2) (b3 := b3) (b4 := b4) (b5 := b5) (b6 := b6) (b7 := b7) (b8 := b8) (b9 := b9) (b10 := b10) (b11 := b11) (.inl h1))
    clear FA FB hcl hdl hA hX
    go_wp2_with fail
    all_goals go_ret
    all_goals exact ⟨by rw [hE.out]; rfl, hgw⟩
end Go.Proofs.YtcmepallgchcjaaGreat
