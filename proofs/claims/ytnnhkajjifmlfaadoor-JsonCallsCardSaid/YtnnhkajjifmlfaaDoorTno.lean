/- The document's text: of any value; its Quote. -/
import Derived.Test.YtnnhkajjifmlfaaDoorTm
namespace Go.Proofs.YtnnhkajjifmlfaaDoor
open Go.RowKit Go.Maps

theorem doc_any {j : J} (hj : JBd j) : DocC j := by
  induction hj with
  | @mk k n t names list h0 h1 ht hnl hll hs hr ih =>
    intro B acc S ov v w hb hl hB hS hv hf
    have hk : k = 1 ∨ k = 2 ∨ k = 3 ∨ k = 4 ∨ k = 5 ∨ k = 6 := by
      rw [fineP] at hf
      by_cases k1 : k = 1
      · exact .inl k1
      by_cases k2 : k = 2
      · exact .inr (.inl k2)
      by_cases k3 : k = 3
      · exact .inr (.inr (.inl k3))
      by_cases k4 : k = 4
      · exact .inr (.inr (.inr (.inl k4)))
      by_cases k5 : k = 5
      · exact .inr (.inr (.inr (.inr (.inl k5))))
      by_cases k6 : k = 6
      · exact .inr (.inr (.inr (.inr (.inr k6))))
      rw [if_neg k1, if_neg k2, if_neg k3, if_neg k4, if_neg k5, if_neg k6] at hf
      cases hf
    rcases hk with rfl | rfl | rfl | rfl | rfl | rfl
    · exact doc_1 n t names list B acc S ov v w hb hl hB hS hv hf
    · exact doc_2 n t names list B acc S ov v w hb hl hB hS hv hf
    · exact doc_3 n t names list h0 h1 B acc S ov v w hb hl hB hS hv hf
    · exact doc_4 n t names list B acc S ov v w hb hl hB hS hv hf
    · exact doc_5 n t names list hr hll ih B acc S ov v w hb hl hB hS hv hf
    · exact doc_6 n t names list hr hll ih B acc S ov v w hb hl hB hS hv hf
theorem OB.nil (B : Nat) (w : World) : OB B [] (.slice none 0 0) w := World.ownsRow_nil _ _ _ _
end Go.Proofs.YtnnhkajjifmlfaaDoor
/-! The document's text: rows of bytes made texts; Quote. -/
namespace Go.Proofs.YtnnhkajjifmlfaaDoor
open Go.RowKit Go.Maps

theorem OB.conv {B : Nat} {acc : List UInt8} {v : Value} {w : World} (h : OB B acc v w) (hne : acc ≠ []) : (convert 78 9 v).run Tryd.prog w = .ok (.string ⟨acc.toArray⟩) w := by
  rcases h.2 with ⟨_, h0⟩ | ⟨g, cap, cur, rfl, _, hh, hn, _, hc, ht⟩
  · exact absurd (List.eq_nil_of_length_eq_zero h0) hne
  · refine run_convert_bytes_back (P := Tryd.prog) w 78 9 5 ⟨g, 0, none⟩ cap acc Tryd.underlying78 Tryd.underlying5 Tryd.underlying9 ?_
    intro j hj
    have ha : (⟨g, 0, none⟩ : Addr).add j = ⟨g, j, none⟩ := by unfold Addr.add; split <;> simp_all
    first
      | rw [ha]
      | skip
    rw [cell_of_row w g j cur 5 (0, 0) hh]
    have e1 : (cur.toList.take (acc.length * 1))[j]? = some (.int .u8 (acc[j].toNat : Int)) := by
      rw [ht]
      simp [Lib.byteCells, hj]
    rw [List.getElem?_take_of_lt (by omega)] at e1
    simpa using e1
set_option maxRecDepth 100000 in
set_option maxHeartbeats 1600000 in
theorem rquote_any (s : ByteArray) (w : World) (hl : 6 * s.size + 2 ≤ 1000000000) :
    Calls Tryd.prog 29 #[.string s] w fun e w' => e = .returned (.string ⟨(quoteL s).toArray⟩) ∧ w.grownBy w' none := by
  have HQ := Lib.hid (quoted_any w.heap.size [] (.slice none 0 0) s w (OB.nil _ _) (by simpa using hl) (Nat.le_refl _))
  go_enter Tryd.func29, Tryd.ntmps29
  go_wp2_with (first
    | (go_at_call 60; refine (HQ.out).mono ?_; rintro e w4 ⟨v4, rfl, hA4⟩; have hcv := hA4.own.conv (by simp [quoteL]); simp only [List.nil_append] at hcv))
  go_ret
  exact ⟨rfl, hA4.gb⟩
end Go.Proofs.YtnnhkajjifmlfaaDoor

/-! The document's Text. -/
namespace Go.Proofs.YtnnhkajjifmlfaaDoor
open Go.RowKit Go.Maps

theorem OB.shape {B : Nat} {acc : List UInt8} {v : Value} {w : World} (h : OB B acc v w) : ∃ A c, v = .slice A acc.length c := by
  rcases h.2 with ⟨e, h0⟩ | ⟨g, cap, cur, e, _⟩
  · exact ⟨none, 0, by rw [e, h0]⟩
  · exact ⟨_, cap, e⟩
theorem gb_of_bel {w w' : World} (h : Below w.heap.size w w') : w.grownBy w' none := gb_of_below h
set_option maxRecDepth 100000 in
set_option maxHeartbeats 1600000 in
theorem rText_any {j : J} (hj : JBd j) (hsz : szJ j ≤ 1000000) (S : Nat → Prop) (v : Value) (w : World) (hS : ∀ b, S b → b < w.heap.size) (hv : JAt w S j v) :
    Calls Tryd.prog 23 #[v] w fun e w' => e = .returned (.tuple #[.string (textP j).1, .int .i64 (textP j).2]) ∧ w.grownBy w' none := by
  have HC := fun (W : World) (hgW : w.grownBy W none) => Lib.hid (rcheck_any hj S v W (fun b hb => Nat.lt_of_lt_of_le (hS b hb) hgW.size) (hv.keep (fun b hb => hgW.block b (hS b hb) (by simp)) (fun _ => id)))
  by_cases hc : checkP j = 0
  · obtain ⟨hf, hd⟩ := check_fine hc
    have hne := textJ_ne hf
    have hlen := textJ_len hj
    rw [hc] at HC
    have HX := fun (W : World) (hgW : w.grownBy W none) => Lib.hid (doc_any hj w.heap.size [] S (.slice none 0 0) v W (OB.nil _ _) (by simp; omega) hgW.size hS (hv.keep (fun b hb => hgW.block b (hS b hb) (by simp)) (fun _ => id)) hf)
    simp only [List.nil_append] at HX
    by_cases hbig : 1048576 < (textJ j).length
    · have hR : Hid (textP j = (⟨#[]⟩, 3)) := by unfold Hid textP; rw [if_neg (by simpa using hc), if_pos hbig]
      have hbI : (1048576 : Int) < ((textJ j).length : Int) := by omega
      rw [hR.out]
      clear hR hlen hbig hsz
      generalize textJ j = T at *
      obtain ⟨k, n, t, names, list⟩ := j
      obtain ⟨nv, lv, rfl, hN, hL⟩ := hv.parts
      clear hv hN hL hj hc hf hd
      have hg1 : w.grownBy (w.alloc (.cells #[.int .i64 k, .int .i64 n, .string t, nv, lv] 26)) none := gb_alloc (gb_refl w none) _
      have J0 := JB.new w (.int .i64 k) (.int .i64 n) (.string t) nv lv
      obtain ⟨d0, d1, d2, d3, d4, df⟩ := J0.all
      go_enter Tryd.func23, Tryd.ntmps23
      go_wp2_with (first
        | (go_at_call 26; refine ((HC _ (by exact hg1)).out).mono ?_; rintro e w4 ⟨rfl, hg4⟩; have hg5 := gb_trans hg1 hg4; have K4 := J0.kept hg4 (by simp); obtain ⟨p0, p1, p2, p3, p4, pf⟩ := K4.all)
        | (go_at_call 53; refine ((HX _ (by exact hg5)).out).mono ?_; rintro e w6 ⟨v6, rfl, hA6⟩; obtain ⟨A6, c6, rfl⟩ := hA6.own.shape))
      go_ret2
      exact ⟨rfl, gb_of_bel ((below_gb' hg5 (Nat.le_refl _)).trans hA6.bel)⟩
    · have hR : Hid (textP j = (⟨(textJ j).toArray⟩, 0)) := by unfold Hid textP; rw [if_neg (by simpa using hc), if_neg hbig]
      have hbI : ¬ (1048576 : Int) < ((textJ j).length : Int) := by omega
      rw [hR.out]
      clear hR hlen hbig hsz
      generalize textJ j = T at *
      obtain ⟨k, n, t, names, list⟩ := j
      obtain ⟨nv, lv, rfl, hN, hL⟩ := hv.parts
      clear hv hN hL hj hc hf hd
      have hg1 : w.grownBy (w.alloc (.cells #[.int .i64 k, .int .i64 n, .string t, nv, lv] 26)) none := gb_alloc (gb_refl w none) _
      have J0 := JB.new w (.int .i64 k) (.int .i64 n) (.string t) nv lv
      obtain ⟨d0, d1, d2, d3, d4, df⟩ := J0.all
      have HV := fun (W : World) (u : Value) (h : OB w.heap.size T u W) => h.conv hne
      go_enter Tryd.func23, Tryd.ntmps23
      go_wp2_with (first
        | (go_at_call 26; refine ((HC _ (by exact hg1)).out).mono ?_; rintro e w4 ⟨rfl, hg4⟩; have hg5 := gb_trans hg1 hg4; have K4 := J0.kept hg4 (by simp); obtain ⟨p0, p1, p2, p3, p4, pf⟩ := K4.all)
        | (go_at_call 53; refine ((HX _ (by exact hg5)).out).mono ?_; rintro e w6 ⟨v6, rfl, hA6⟩; obtain ⟨A6, c6, rfl⟩ := hA6.own.shape; have hcv := HV _ _ hA6.own))
      all_goals go_ret2
      all_goals exact ⟨rfl, gb_of_bel ((below_gb' hg5 (Nat.le_refl _)).trans hA6.bel)⟩
  · have hR : Hid (textP j = (⟨#[]⟩, checkP j)) := by unfold Hid textP; rw [if_pos (by simpa using hc)]
    have hc' : (checkP j != 0) = true := by simpa using hc
    rw [hR.out]
    clear hR
    generalize checkP j = z at *
    obtain ⟨k, n, t, names, list⟩ := j
    obtain ⟨nv, lv, rfl, hN, hL⟩ := hv.parts
    clear hv hN hL hj
    have hg1 : w.grownBy (w.alloc (.cells #[.int .i64 k, .int .i64 n, .string t, nv, lv] 26)) none := gb_alloc (gb_refl w none) _
    have J0 := JB.new w (.int .i64 k) (.int .i64 n) (.string t) nv lv
    obtain ⟨d0, d1, d2, d3, d4, df⟩ := J0.all
    go_enter Tryd.func23, Tryd.ntmps23
    go_wp2_with (first
      | (go_at_call 26; refine ((HC _ (by exact hg1)).out).mono ?_; rintro e w4 ⟨rfl, hg4⟩))
    go_ret2
    exact ⟨rfl, gb_trans hg1 hg4⟩
end Go.Proofs.YtnnhkajjifmlfaaDoor
