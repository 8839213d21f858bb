/- Values, told: json.text, Check, Text. -/
import Derived.Test.YtnnhkajjifmlfaaDoorTa
import Derived.Test.YtnnhkajjifmlfaaDoorTfs
import Derived.Test.YtnnhkajjifmlfaaDoorTz
namespace Go.Proofs.YtnnhkajjifmlfaaDoor
open Go.RowKit Go.Maps

theorem tell_any {j : J} (hj : JBd j) : TellC j := by
  induction hj with
  | @mk k n t names list h0 h1 ht hnl hll hs hr ih =>
    intro B b acc S v w hb hl hB hbl hS hP hv hf
    have hk : k = 1 ∨ k = 2 ∨ k = 3 ∨ k = 4 ∨ k = 5 ∨ k = 6 := by
      rw [fineP] at hf
      by_cases k1 : k = 1
      · exact .inl k1
      by_cases k2 : k = 2
      · exact .inr (.inl k2)
      by_cases k3 : k = 3
      · exact .inr (.inr (.inl k3))
      by_cases k4 : k = 4
      · exact .inr (.inr (.inr (.inl k4)))
      by_cases k5 : k = 5
      · exact .inr (.inr (.inr (.inr (.inl k5))))
      by_cases k6 : k = 6
      · exact .inr (.inr (.inr (.inr (.inr k6))))
      rw [if_neg k1, if_neg k2, if_neg k3, if_neg k4, if_neg k5, if_neg k6] at hf
      cases hf
    rcases hk with rfl | rfl | rfl | rfl | rfl | rfl
    · exact tell_1 n t names list B b acc S v w hb hl hB hbl hS hP hv hf
    · exact tell_2 n t names list B b acc S v w hb hl hB hbl hS hP hv hf
    · exact tell_3 n t names list h0 h1 B b acc S v w hb hl hB hbl hS hP hv hf
    · exact tell_4 n t names list B b acc S v w hb hl hB hbl hS hP hv hf
    · exact tell_5 n t names list hr hll ih B b acc S v w hb hl hB hbl hS hP hv hf
    · exact tell_6 n t names list hr hll ih B b acc S v w hb hl hB hbl hS hP hv hf

/-- what Check answers -/
def checkP (j : J) : Int := if deepP j 64 then 3 else if fineP j then 0 else 2
set_option maxRecDepth 100000 in
set_option maxHeartbeats 800000 in
theorem check_any {j : J} (hj : JBd j) (S : Nat → Prop) (v : Value) (w : World) (hS : ∀ b, S b → b < w.heap.size) (hv : JAt w S j v) :
    Calls Tryd.prog 25 #[v] w fun e w' => e = .returned (.int .i64 (checkP j)) ∧ w.grownBy w' none := by
  have HD := fun (W : World) (hgW : w.grownBy W none) => Lib.hid (deep_any hj 64 S v W (by omega) (by omega) (fun b hb => Nat.lt_of_lt_of_le (hS b hb) hgW.size) (hv.keep (fun b hb => hgW.block b (hS b hb) (by simp)) (fun _ => id)))
  have HF := fun (W : World) (hgW : w.grownBy W none) => Lib.hid (fine_any hj S v W (fun b hb => Nat.lt_of_lt_of_le (hS b hb) hgW.size) (hv.keep (fun b hb => hgW.block b (hS b hb) (by simp)) (fun _ => id)))
  have hd : Hid (deepI j 64 = deepP j 64) := rfl
  have hC : Hid (checkP j = if deepI j 64 then 3 else if fineP j then 0 else 2) := rfl
  clear hd
  generalize deepI j 64 = x at *
  generalize fineP j = y at *
  generalize checkP j = z at *
  obtain ⟨k, n, t, names, list⟩ := j
  obtain ⟨nv, lv, rfl, hN, hL⟩ := hv.parts
  clear hv hN hL hj
  have hg1 : w.grownBy (w.alloc (.cells #[.int .i64 k, .int .i64 n, .string t, nv, lv] 26)) none := gb_alloc (gb_refl w none) _
  have J0 := JB.new w (.int .i64 k) (.int .i64 n) (.string t) nv lv
  obtain ⟨d0, d1, d2, d3, d4, df⟩ := J0.all
  go_enter Tryd.func25, Tryd.ntmps25
  cases x with
  | true =>
    go_wp2_with (first
      | (go_at_call 54; refine ((HD _ (by exact hg1)).out).mono ?_; rintro e w4 ⟨rfl, hg4⟩))
    go_ret
    exact ⟨by rw [hC.out]; rfl, gb_trans hg1 hg4⟩
  | false =>
    cases y with
    | true =>
      go_wp2_with (first
        | (go_at_call 54; refine ((HD _ (by exact hg1)).out).mono ?_; rintro e w4 ⟨rfl, hg4⟩; have K4 := J0.kept hg4 (by simp); obtain ⟨p0, p1, p2, p3, p4, pf⟩ := K4.all)
        | (go_at_call 55; refine ((HF _ (gb_trans hg1 hg4)).out).mono ?_; rintro e w5 ⟨rfl, hg5⟩))
      go_ret
      exact ⟨by rw [hC.out]; rfl, gb_trans (gb_trans hg1 hg4) hg5⟩
    | false =>
      go_wp2_with (first
        | (go_at_call 54; refine ((HD _ (by exact hg1)).out).mono ?_; rintro e w4 ⟨rfl, hg4⟩; have K4 := J0.kept hg4 (by simp); obtain ⟨p0, p1, p2, p3, p4, pf⟩ := K4.all)
        | (go_at_call 55; refine ((HF _ (gb_trans hg1 hg4)).out).mono ?_; rintro e w5 ⟨rfl, hg5⟩))
      go_ret
      exact ⟨by rw [hC.out]; rfl, gb_trans (gb_trans hg1 hg4) hg5⟩
/-- what Text tells -/
def textP (j : J) : ByteArray × Int := if checkP j ≠ 0 then (⟨#[]⟩, checkP j) else if 1048576 < (textJ j).length then (⟨#[]⟩, 3) else (⟨(textJ j).toArray⟩, 0)
theorem textJ_ne {j : J} (hf : fineP j = true) : textJ j ≠ [] := by
  obtain ⟨c, l, e, _⟩ := textJ_head hf
  rw [e]; simp
theorem check_fine {j : J} (h : checkP j = 0) : fineP j = true ∧ deepP j 64 = false := by
  unfold checkP at h
  cases hd : deepP j 64 with
  | true => rw [hd] at h; simp at h
  | false =>
    rw [hd] at h
    cases hf : fineP j with
    | true => exact ⟨rfl, rfl⟩
    | false => rw [hf] at h; simp at h
theorem bt_fresh_at (B : Nat) (w : World) (h : B ≤ w.heap.size) : BT B w.heap.size [] (w.alloc (.cells #[.pointer none, .slice none 0 0] 80)) :=
  Lib.IsBuilderF.of (Or.inl ⟨h, .slice none 0 0, heap_alloc_new w _, World.ownsRow_nil _ _ _ _, by simp [Value.ownBlock]⟩)
set_option maxRecDepth 100000 in
set_option maxHeartbeats 1600000 in
theorem Text_any {j : J} (hj : JBd j) (hsz : szJ j ≤ 1000000) (S : Nat → Prop) (v : Value) (w : World) (hS : ∀ b, S b → b < w.heap.size) (hP : PB w.heap.size w) (hv : JAt w S j v) :
    Calls Tryd.prog 17 #[v] w fun e w' => e = .returned (.tuple #[.string (textP j).1, .int .i64 (textP j).2]) ∧ w.grownBy w' none := by
  have HC := fun (W : World) (hgW : w.grownBy W none) => Lib.hid (check_any hj S v W (fun b hb => Nat.lt_of_lt_of_le (hS b hb) hgW.size) (hv.keep (fun b hb => hgW.block b (hS b hb) (by simp)) (fun _ => id)))
  by_cases hc : checkP j = 0
  · obtain ⟨hf, hd⟩ := check_fine hc
    have hne := textJ_ne hf
    have hlen := textJ_len hj
    rw [hc] at HC
    have HX := fun (b : Nat) (W : World) (hb : BT w.heap.size b [] W) (hbl : b < W.heap.size) (hgW : w.grownBy W none) => Lib.hid (tell_any hj w.heap.size b [] S v W hb (by simp; omega) hgW.size hbl hS (hP.to (below_gb' hgW (Nat.le_refl _))) (hv.keep (fun b hb => hgW.block b (hS b hb) (by simp)) (fun _ => id)) hf)
    by_cases hbig : 1048576 < (textJ j).length
    · have hR : Hid (textP j = (⟨#[]⟩, 3)) := by unfold Hid textP; rw [if_neg (by simpa using hc), if_pos hbig]
      have hbI : (1048576 : Int) < ((Lib.byteCells (textJ j)).length : Int) := by rw [Lib.byteCells_length]; omega
      rw [hR.out]
      clear hR hlen hbig hsz
      generalize textJ j = T at *
      obtain ⟨k, n, t, names, list⟩ := j
      obtain ⟨nv, lv, rfl, hN, hL⟩ := hv.parts
      clear hv hN hL hj hc hf hd
      have hg1 : w.grownBy (w.alloc (.cells #[.int .i64 k, .int .i64 n, .string t, nv, lv] 26)) none := gb_alloc (gb_refl w none) _
      have J0 := JB.new w (.int .i64 k) (.int .i64 n) (.string t) nv lv
      obtain ⟨d0, d1, d2, d3, d4, df⟩ := J0.all
      have HL := fun (W : World) (b : Nat) (hb : BT w.heap.size b T W) => Lib.hid (Tryd.Builder_Len_f w.heap.size b _ W hb)
      generalize (Lib.byteCells T).length = L at *
      go_enter Tryd.func17, Tryd.ntmps17
      go_wp2_with (first
        | (go_at_call 25; refine ((HC _ (by exact hg1)).out).mono ?_; rintro e w4 ⟨rfl, hg4⟩; have hg5 := gb_trans hg1 hg4; have K4 := J0.kept hg4 (by simp); obtain ⟨p0, p1, p2, p3, p4, pf⟩ := (K4.alloc (.cells #[.pointer none, .slice none 0 0] 80)).all)
        | (go_at_call 48; refine ((HX w4.heap.size _ (bt_fresh_at _ w4 hg5.size) (by simp) (gb_alloc hg5 _)).out).mono ?_; rintro e w6 ⟨rfl, hb6, hl6, ho6⟩)
        | (go_at_call 49; refine ((HL _ _ (by exact hb6)).out).mono ?_; rintro e w7 ⟨rfl, rfl⟩))
      go_ret2
      exact ⟨rfl, gb_of_below ((below_gb' (gb_alloc hg5 _) (Nat.le_refl _)).trans hl6)⟩
    · have hR : Hid (textP j = (⟨(textJ j).toArray⟩, 0)) := by unfold Hid textP; rw [if_neg (by simpa using hc), if_neg hbig]
      have hbI : ¬ (1048576 : Int) < ((Lib.byteCells (textJ j)).length : Int) := by rw [Lib.byteCells_length]; omega
      rw [hR.out]
      clear hR hlen hbig hsz
      generalize textJ j = T at *
      obtain ⟨k, n, t, names, list⟩ := j
      obtain ⟨nv, lv, rfl, hN, hL⟩ := hv.parts
      clear hv hN hL hj hc hf hd
      have hg1 : w.grownBy (w.alloc (.cells #[.int .i64 k, .int .i64 n, .string t, nv, lv] 26)) none := gb_alloc (gb_refl w none) _
      have J0 := JB.new w (.int .i64 k) (.int .i64 n) (.string t) nv lv
      obtain ⟨d0, d1, d2, d3, d4, df⟩ := J0.all
      have HL := fun (W : World) (b : Nat) (hb : BT w.heap.size b T W) => Lib.hid (Tryd.Builder_Len_f w.heap.size b _ W hb)
      have HS := fun (W : World) (b : Nat) (hb : BT w.heap.size b T W) => Lib.hid (Tryd.Builder_String_k w.heap.size b T W hb hne)
      generalize (Lib.byteCells T).length = L at *
      generalize (⟨T.toArray⟩ : ByteArray) = R at *
      go_enter Tryd.func17, Tryd.ntmps17
      go_wp2_with (first
        | (go_at_call 25; refine ((HC _ (by exact hg1)).out).mono ?_; rintro e w4 ⟨rfl, hg4⟩; have hg5 := gb_trans hg1 hg4; have K4 := J0.kept hg4 (by simp); obtain ⟨p0, p1, p2, p3, p4, pf⟩ := (K4.alloc (.cells #[.pointer none, .slice none 0 0] 80)).all)
        | (go_at_call 48; refine ((HX w4.heap.size _ (bt_fresh_at _ w4 hg5.size) (by simp) (gb_alloc hg5 _)).out).mono ?_; rintro e w6 ⟨rfl, hb6, hl6, ho6⟩)
        | (go_at_call 49; refine ((HL _ _ (by exact hb6)).out).mono ?_; rintro e w7 ⟨rfl, rfl⟩)
        | (go_at_call 50; refine ((HS _ _ (by exact hb6)).out).mono ?_; rintro e w8 ⟨rfl, hb8, hl8, ho8⟩))
      all_goals go_ret2
      all_goals exact ⟨rfl, gb_of_below (((below_gb' (gb_alloc hg5 _) (Nat.le_refl _)).trans hl6).trans (by exact hl8))⟩
  · have hR : Hid (textP j = (⟨#[]⟩, checkP j)) := by unfold Hid textP; rw [if_pos (by simpa using hc)]
    have hc' : (checkP j != 0) = true := by simpa using hc
    rw [hR.out]
    clear hR hsz hc
    generalize checkP j = C at *
    obtain ⟨k, n, t, names, list⟩ := j
    obtain ⟨nv, lv, rfl, hN, hL⟩ := hv.parts
    clear hv hN hL hj
    have hg1 : w.grownBy (w.alloc (.cells #[.int .i64 k, .int .i64 n, .string t, nv, lv] 26)) none := gb_alloc (gb_refl w none) _
    have J0 := JB.new w (.int .i64 k) (.int .i64 n) (.string t) nv lv
    obtain ⟨d0, d1, d2, d3, d4, df⟩ := J0.all
    go_enter Tryd.func17, Tryd.ntmps17
    go_wp2_with (first
      | (go_at_call 25; refine ((HC _ (by exact hg1)).out).mono ?_; rintro e w4 ⟨rfl, hg4⟩))
    go_ret2
    exact ⟨rfl, gb_trans hg1 hg4⟩
end Go.Proofs.YtnnhkajjifmlfaaDoor
