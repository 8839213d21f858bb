/- The document's quoted. -/
import Derived.Test.YtnnhkajjifmlfaaDoorTh
import Derived.Maps.AppendAt
import Derived.Deep.AppendLies
namespace Go.Proofs.YtnnhkajjifmlfaaDoor
open Go.RowKit Go.Maps

/-- bytes that the call owns -/
def OB (B : Nat) (acc : List UInt8) (v : Value) (w : World) : Prop := w.ownsRow B 5 1 v acc.length (Lib.byteCells acc)
/-- bytes appended: the row that they had is turned, or lies in new memory -/
structure AP (B : Nat) (w : World) (v : Value) (acc : List UInt8) (v' : Value) (w' : World) : Prop where
  own : OB B acc v' w'
  gb : w.grownBy w' v.ownBlock
  at_ : ∀ g, v'.ownBlock = some g → some g = v.ownBlock ∨ w.heap.size ≤ g
section
variable {B : Nat} {w w1 w2 : World} {v v1 v2 : Value} {acc acc1 acc2 : List UInt8}
theorem AP.trans (h : AP B w v acc1 v1 w1) (k : AP B w1 v1 acc2 v2 w2) : AP B w v acc2 v2 w2 := by
  refine ⟨k.own, gb_more h.gb k.gb (fun g hg => h.at_ g hg), fun g hg => ?_⟩
  rcases k.at_ g hg with e | e
  · exact h.at_ g e.symm
  · have := h.gb.size; exact .inr (by omega)
theorem AP.refl (h : OB B acc v w) : AP B w v acc v w := ⟨h, gb_refl _ _, fun _g hg => .inl hg.symm⟩
theorem at_or {u0 : Value} {g n l c : Nat} (h : u0.ownBlock = some g ∨ g = n) : (Value.slice (some ⟨g, 0, none⟩) l c).ownBlock = u0.ownBlock ∨ (Value.slice (some ⟨g, 0, none⟩) l c).ownBlock = some n := by
  rcases h with e | e
  · exact .inl (by rw [e]; rfl)
  · exact .inr (by rw [e]; rfl)
theorem hxd_nat (i : Nat) (h : i < 16) : (hxd i).toUInt8.toNat = hxd i := by
  rcases lt16 h with rfl | rfl | rfl | rfl | rfl | rfl | rfl | rfl | rfl | rfl | rfl | rfl | rfl | rfl | rfl | rfl <;> rfl
theorem OB.drew (h : OB B acc v w) : OB B acc v w.drew := World.ownsRow.drew h
theorem AP.drew (h : AP B w v acc v1 w1) : AP B w v acc v1 w1.drew := ⟨h.own.drew, gb_drew h.gb, h.at_⟩
theorem OB.alloc (h : OB B acc v w) (o : Obj) : OB B acc v (w.alloc o) := World.ownsRow.alloc h o
theorem news_new {n : Nat} (xs : List Value) (t : TypeId) (hn : w.heap.size = n) : ∀ j u, xs[j]? = some u → (w.alloc (.cells xs.toArray t)).cell? ((⟨n, 0, none⟩ : Addr).add j) = some u := by
  intro j u hj
  subst hn
  have hb := heap_alloc_new w (.cells xs.toArray t)
  have ha : (⟨w.heap.size, 0, none⟩ : Addr).add j = ⟨w.heap.size, j, none⟩ := by unfold Addr.add; split <;> simp_all
  rw [ha]
  unfold World.cell?
  simp only [hb]
  simp [hj]
/-- the step of an append, as the walks meet it -/
theorem AP.step {news : List UInt8} {o : Obj} {m : Nat} (h : AP B w v acc v1 w1) (hm : news.length = m) (hown : w2.ownsRow B 5 1 v2 (acc.length + m) (Lib.byteCells acc ++ Lib.byteCells news)) (hg : (w1.alloc o).grownBy w2 v1.ownBlock)
    (hat : v2.ownBlock = v1.ownBlock ∨ v2.ownBlock = some (w1.alloc o).heap.size) : AP B w v (acc ++ news) v2 w2 := by
  refine h.trans ⟨?_, ?_, ?_⟩
  · show w2.ownsRow B 5 1 v2 (acc ++ news).length (Lib.byteCells (acc ++ news))
    have e : Lib.byteCells (acc ++ news) = Lib.byteCells acc ++ Lib.byteCells news := by simp [Lib.byteCells]
    rw [e, List.length_append, hm]
    exact hown
  · exact gb_trans (gb_alloc (gb_refl _ _) _) hg
  · intro g hgb
    rcases hat with e | e
    · rw [e] at hgb; exact .inl hgb.symm
    · rw [e] at hgb; injection hgb with hgb; exact .inr (by have : (w1.alloc o).heap.size = w1.heap.size + 1 := by simp
                                                            omega)
end
set_option maxRecDepth 100000 in
set_option maxHeartbeats 6400000 in
theorem quoted_any (B : Nat) (acc : List UInt8) (v : Value) (s : ByteArray) (w : World) (hown : OB B acc v w) (hl : acc.length + 6 * s.size + 2 ≤ 1000000000) (hB : B ≤ w.heap.size) :
    Calls Tryd.prog 60 #[v, .string s] w fun e w' => ∃ v', e = .returned v' ∧ AP B w v (acc ++ quoteL s) v' w' := by
  obtain ⟨i0, hi0, hz0, hz1, hz2⟩ := info_parts info5
  have hsI : (s.size : Int) ≤ 200000000 := by omega
  have hA0 := AP.refl hown
  go_enter Tryd.func60, Tryd.ntmps60
  go_wp2_with (first
    | (at_builtin; refine wpList_append_own_at _ rfl _ _ 78 rfl B 5 i0 (.int .u8 0) 1 1 Tryd.underlying78 hi0 hz0 hz1 hz2 rfl (by decide) v _ _ rfl (hown.alloc _) ⟨w.heap.size, 0, none⟩ 1 1 [.int .u8 34] rfl rfl (news_new _ _ rfl) (by simp [Value.oneCell']) (by unfold maxLen; omega) (by omega) (by simp; omega) ?_; intro v1 w1 hown1 hg1 _ hat1))
  have hA1 := hA0.step (news := [34]) rfl hown1 hg1 hat1
  go_loopg [0, 5] s.size (fun n u0 i wr => ∃ (k : Nat) (u : Value), k ≤ s.size ∧ n = s.size - k ∧ i = .int .i64 k ∧ u = u0 ∧ AP B w v (acc ++ 34 :: qlist (s.data.toList.take k)) u wr)
  case atStart => exact ⟨0, _, Nat.zero_le _, rfl, rfl, rfl, by simpa [qlist] using hA1⟩
  case round =>
    obtain ⟨k, u0, hk, rfl, rfl, rfl, hA⟩ := hrel
    by_cases hlt : k < s.size
    · have hki : (k : Int) < (s.size : Int) := by omega
      have hc256 : s[k].toNat < 256 := UInt8.toNat_lt _
      have hal : (acc ++ 34 :: qlist (s.data.toList.take k)).length + 6 + 1 ≤ 1000000000 := by
        have h1 := qlist_len (s.data.toList.take k)
        have h2 : (s.data.toList.take k).length ≤ k := by rw [List.length_take]; exact Nat.min_le_left _ _
        simp only [List.length_append, List.length_cons]
        omega
      have hsnoc : Hid (qlist (s.data.toList.take (k + 1)) = qlist (s.data.toList.take k) ++ qch s[k]) := by
        show qlist (s.data.toList.take (k + 1)) = _
        rw [← qlist_snoc, List.take_add_one]
        congr 2
        rw [Array.getElem?_toList, Array.getElem?_eq_getElem (show k < s.data.size from hlt)]
        rfl
      have hBr : B ≤ wr.heap.size := Nat.le_trans hB hA.gb.size
      generalize hacc : acc ++ 34 :: qlist (s.data.toList.take k) = acc1 at *
      rcases (by omega : s[k].toNat = 34 ∨ s[k].toNat = 92 ∨ s[k].toNat = 8 ∨ s[k].toNat = 9 ∨ s[k].toNat = 10 ∨ s[k].toNat = 12 ∨ s[k].toNat = 13 ∨ (s[k].toNat ≠ 34 ∧ s[k].toNat ≠ 92 ∧ s[k].toNat ≠ 8 ∧ s[k].toNat ≠ 9 ∧ s[k].toNat ≠ 10 ∧ s[k].toNat ≠ 12 ∧ s[k].toNat ≠ 13)) with h0 | h0 | h0 | h0 | h0 | h0 | h0 | h0
      · -- 34

        have hx : (s[k].toNat : Int) = 34 := by omega
        have hq : Hid (qch s[k] = [92, 34]) := by unfold Hid qch; rw [show ((s[k].toNat : Nat) : Int) = 34 from hx]; rfl
        go_wp2_with (first
            | (at_builtin; refine wpList_append_own_at _ rfl _ _ 78 rfl B 5 i0 (.int .u8 0) 1 1 Tryd.underlying78 hi0 hz0 hz1 hz2 rfl (by decide) u0 _ _ rfl (hA.own.alloc _) ⟨wr.heap.size, 0, none⟩ 2 2 [.int .u8 92, .int .u8 34] rfl rfl (news_new _ _ rfl) (by simp [Value.oneCell']) (by unfold maxLen; omega) (by omega) (by simp; omega) ?_; intro v3 w3 hown3 hg3 _ hat3)
            | (at_builtin; refine wpList_append_own_at _ rfl _ _ 78 rfl B 5 i0 (.int .u8 0) 1 1 Tryd.underlying78 hi0 hz0 hz1 hz2 rfl (by decide) u0 _ _ rfl (hA.own.alloc _) ⟨wr.heap.size, 0, none⟩ 2 2 [.int .u8 92, .int .u8 (s[k].toNat : Int)] rfl rfl (news_new _ _ rfl) (by simp [Value.oneCell']) (by unfold maxLen; omega) (by omega) (by simp; omega) ?_; intro v3 w3 hown3 hg3 _ hat3))
        have hA3 := hA.step (news := [92, 34]) rfl (by simpa [Lib.byteCells, hx] using hown3) hg3 hat3
        go_roundg (s.size - (k + 1))
        case measure => omega
        case rel => exact ⟨k + 1, _, hlt, rfl, by go_num, rfl, by rw [hsnoc.out, hq.out]; simpa [← hacc] using hA3⟩
      · -- 92
        have n34 : ¬ ((s[k].toNat : Int) = 34) := by omega
        have hx : (s[k].toNat : Int) = 92 := by omega
        have hq : Hid (qch s[k] = [92, 92]) := by unfold Hid qch; rw [show ((s[k].toNat : Nat) : Int) = 92 from hx]; rfl
        go_wp2_with (first
            | (at_builtin; refine wpList_append_own_at _ rfl _ _ 78 rfl B 5 i0 (.int .u8 0) 1 1 Tryd.underlying78 hi0 hz0 hz1 hz2 rfl (by decide) u0 _ _ rfl (hA.own.alloc _) ⟨wr.heap.size, 0, none⟩ 2 2 [.int .u8 92, .int .u8 92] rfl rfl (news_new _ _ rfl) (by simp [Value.oneCell']) (by unfold maxLen; omega) (by omega) (by simp; omega) ?_; intro v3 w3 hown3 hg3 _ hat3)
            | (at_builtin; refine wpList_append_own_at _ rfl _ _ 78 rfl B 5 i0 (.int .u8 0) 1 1 Tryd.underlying78 hi0 hz0 hz1 hz2 rfl (by decide) u0 _ _ rfl (hA.own.alloc _) ⟨wr.heap.size, 0, none⟩ 2 2 [.int .u8 92, .int .u8 (s[k].toNat : Int)] rfl rfl (news_new _ _ rfl) (by simp [Value.oneCell']) (by unfold maxLen; omega) (by omega) (by simp; omega) ?_; intro v3 w3 hown3 hg3 _ hat3))
        have hA3 := hA.step (news := [92, 92]) rfl (by simpa [Lib.byteCells, hx] using hown3) hg3 hat3
        go_roundg (s.size - (k + 1))
        case measure => omega
        case rel => exact ⟨k + 1, _, hlt, rfl, by go_num, rfl, by rw [hsnoc.out, hq.out]; simpa [← hacc] using hA3⟩
      · -- 8
        have n34 : ¬ ((s[k].toNat : Int) = 34) := by omega
        have n92 : ¬ ((s[k].toNat : Int) = 92) := by omega
        have hx : (s[k].toNat : Int) = 8 := by omega
        have hq : Hid (qch s[k] = [92, 98]) := by unfold Hid qch; rw [show ((s[k].toNat : Nat) : Int) = 8 from hx]; rfl
        go_wp2_with (first
            | (at_builtin; refine wpList_append_own_at _ rfl _ _ 78 rfl B 5 i0 (.int .u8 0) 1 1 Tryd.underlying78 hi0 hz0 hz1 hz2 rfl (by decide) u0 _ _ rfl (hA.own.alloc _) ⟨wr.heap.size, 0, none⟩ 2 2 [.int .u8 92, .int .u8 98] rfl rfl (news_new _ _ rfl) (by simp [Value.oneCell']) (by unfold maxLen; omega) (by omega) (by simp; omega) ?_; intro v3 w3 hown3 hg3 _ hat3))
        have hA3 := hA.step (news := [92, 98]) rfl (by simpa [Lib.byteCells, hx] using hown3) hg3 hat3
        go_roundg (s.size - (k + 1))
        case measure => omega
        case rel => exact ⟨k + 1, _, hlt, rfl, by go_num, rfl, by rw [hsnoc.out, hq.out]; simpa [← hacc] using hA3⟩
      · -- 9
        have n34 : ¬ ((s[k].toNat : Int) = 34) := by omega
        have n92 : ¬ ((s[k].toNat : Int) = 92) := by omega
        have n8 : ¬ ((s[k].toNat : Int) = 8) := by omega
        have hx : (s[k].toNat : Int) = 9 := by omega
        have hq : Hid (qch s[k] = [92, 116]) := by unfold Hid qch; rw [show ((s[k].toNat : Nat) : Int) = 9 from hx]; rfl
        go_wp2_with (first
            | (at_builtin; refine wpList_append_own_at _ rfl _ _ 78 rfl B 5 i0 (.int .u8 0) 1 1 Tryd.underlying78 hi0 hz0 hz1 hz2 rfl (by decide) u0 _ _ rfl (hA.own.alloc _) ⟨wr.heap.size, 0, none⟩ 2 2 [.int .u8 92, .int .u8 116] rfl rfl (news_new _ _ rfl) (by simp [Value.oneCell']) (by unfold maxLen; omega) (by omega) (by simp; omega) ?_; intro v3 w3 hown3 hg3 _ hat3))
        have hA3 := hA.step (news := [92, 116]) rfl (by simpa [Lib.byteCells, hx] using hown3) hg3 hat3
        go_roundg (s.size - (k + 1))
        case measure => omega
        case rel => exact ⟨k + 1, _, hlt, rfl, by go_num, rfl, by rw [hsnoc.out, hq.out]; simpa [← hacc] using hA3⟩
      · -- 10
        have n34 : ¬ ((s[k].toNat : Int) = 34) := by omega
        have n92 : ¬ ((s[k].toNat : Int) = 92) := by omega
        have n8 : ¬ ((s[k].toNat : Int) = 8) := by omega
        have n9 : ¬ ((s[k].toNat : Int) = 9) := by omega
        have hx : (s[k].toNat : Int) = 10 := by omega
        have hq : Hid (qch s[k] = [92, 110]) := by unfold Hid qch; rw [show ((s[k].toNat : Nat) : Int) = 10 from hx]; rfl
        go_wp2_with (first
            | (at_builtin; refine wpList_append_own_at _ rfl _ _ 78 rfl B 5 i0 (.int .u8 0) 1 1 Tryd.underlying78 hi0 hz0 hz1 hz2 rfl (by decide) u0 _ _ rfl (hA.own.alloc _) ⟨wr.heap.size, 0, none⟩ 2 2 [.int .u8 92, .int .u8 110] rfl rfl (news_new _ _ rfl) (by simp [Value.oneCell']) (by unfold maxLen; omega) (by omega) (by simp; omega) ?_; intro v3 w3 hown3 hg3 _ hat3))
        have hA3 := hA.step (news := [92, 110]) rfl (by simpa [Lib.byteCells, hx] using hown3) hg3 hat3
        go_roundg (s.size - (k + 1))
        case measure => omega
        case rel => exact ⟨k + 1, _, hlt, rfl, by go_num, rfl, by rw [hsnoc.out, hq.out]; simpa [← hacc] using hA3⟩
      · -- 12
        have n34 : ¬ ((s[k].toNat : Int) = 34) := by omega
        have n92 : ¬ ((s[k].toNat : Int) = 92) := by omega
        have n8 : ¬ ((s[k].toNat : Int) = 8) := by omega
        have n9 : ¬ ((s[k].toNat : Int) = 9) := by omega
        have n10 : ¬ ((s[k].toNat : Int) = 10) := by omega
        have hx : (s[k].toNat : Int) = 12 := by omega
        have hq : Hid (qch s[k] = [92, 102]) := by unfold Hid qch; rw [show ((s[k].toNat : Nat) : Int) = 12 from hx]; rfl
        go_wp2_with (first
            | (at_builtin; refine wpList_append_own_at _ rfl _ _ 78 rfl B 5 i0 (.int .u8 0) 1 1 Tryd.underlying78 hi0 hz0 hz1 hz2 rfl (by decide) u0 _ _ rfl (hA.own.alloc _) ⟨wr.heap.size, 0, none⟩ 2 2 [.int .u8 92, .int .u8 102] rfl rfl (news_new _ _ rfl) (by simp [Value.oneCell']) (by unfold maxLen; omega) (by omega) (by simp; omega) ?_; intro v3 w3 hown3 hg3 _ hat3))
        have hA3 := hA.step (news := [92, 102]) rfl (by simpa [Lib.byteCells, hx] using hown3) hg3 hat3
        go_roundg (s.size - (k + 1))
        case measure => omega
        case rel => exact ⟨k + 1, _, hlt, rfl, by go_num, rfl, by rw [hsnoc.out, hq.out]; simpa [← hacc] using hA3⟩
      · -- 13
        have n34 : ¬ ((s[k].toNat : Int) = 34) := by omega
        have n92 : ¬ ((s[k].toNat : Int) = 92) := by omega
        have n8 : ¬ ((s[k].toNat : Int) = 8) := by omega
        have n9 : ¬ ((s[k].toNat : Int) = 9) := by omega
        have n10 : ¬ ((s[k].toNat : Int) = 10) := by omega
        have n12 : ¬ ((s[k].toNat : Int) = 12) := by omega
        have hx : (s[k].toNat : Int) = 13 := by omega
        have hq : Hid (qch s[k] = [92, 114]) := by unfold Hid qch; rw [show ((s[k].toNat : Nat) : Int) = 13 from hx]; rfl
        go_wp2_with (first
            | (at_builtin; refine wpList_append_own_at _ rfl _ _ 78 rfl B 5 i0 (.int .u8 0) 1 1 Tryd.underlying78 hi0 hz0 hz1 hz2 rfl (by decide) u0 _ _ rfl (hA.own.alloc _) ⟨wr.heap.size, 0, none⟩ 2 2 [.int .u8 92, .int .u8 114] rfl rfl (news_new _ _ rfl) (by simp [Value.oneCell']) (by unfold maxLen; omega) (by omega) (by simp; omega) ?_; intro v3 w3 hown3 hg3 _ hat3))
        have hA3 := hA.step (news := [92, 114]) rfl (by simpa [Lib.byteCells, hx] using hown3) hg3 hat3
        go_roundg (s.size - (k + 1))
        case measure => omega
        case rel => exact ⟨k + 1, _, hlt, rfl, by go_num, rfl, by rw [hsnoc.out, hq.out]; simpa [← hacc] using hA3⟩
      · skip
        have n34 : ¬ ((s[k].toNat : Int) = 34) := by omega
        have n92 : ¬ ((s[k].toNat : Int) = 92) := by omega
        have n8 : ¬ ((s[k].toNat : Int) = 8) := by omega
        have n9 : ¬ ((s[k].toNat : Int) = 9) := by omega
        have n10 : ¬ ((s[k].toNat : Int) = 10) := by omega
        have n12 : ¬ ((s[k].toNat : Int) = 12) := by omega
        have n13 : ¬ ((s[k].toNat : Int) = 13) := by omega
        have b34 : ((s[k].toNat : Int) == 34) = false := by rw [beq_eq_false_iff_ne]; omega
        have b92 : ((s[k].toNat : Int) == 92) = false := by rw [beq_eq_false_iff_ne]; omega
        have b8 : ((s[k].toNat : Int) == 8) = false := by rw [beq_eq_false_iff_ne]; omega
        have b9 : ((s[k].toNat : Int) == 9) = false := by rw [beq_eq_false_iff_ne]; omega
        have b10 : ((s[k].toNat : Int) == 10) = false := by rw [beq_eq_false_iff_ne]; omega
        have b12 : ((s[k].toNat : Int) == 12) = false := by rw [beq_eq_false_iff_ne]; omega
        have b13 : ((s[k].toNat : Int) == 13) = false := by rw [beq_eq_false_iff_ne]; omega
        have bor : (((s[k].toNat : Int) == 34) || ((s[k].toNat : Int) == 92)) = false := by rw [b34, b92]; rfl
        have hsp : ¬ (0 ≤ shc s[k].toNat) := by unfold shc; rw [if_neg n34, if_neg n92, if_neg n8, if_neg n9, if_neg n10, if_neg n12, if_neg n13]; decide
        by_cases hpr : 32 ≤ s[k].toNat ∧ s[k].toNat ≤ 126
        · have hq : Hid (qch s[k] = [s[k]]) := by unfold Hid qch; rw [if_neg hsp, if_pos hpr]
          have hp1 : (32 : Int) ≤ (s[k].toNat : Int) := by omega
          have hp2 : (s[k].toNat : Int) ≤ 126 := by omega
          go_wp2_with (first
            | (at_builtin; refine wpList_append_own_at _ rfl _ _ 78 rfl B 5 i0 (.int .u8 0) 1 1 Tryd.underlying78 hi0 hz0 hz1 hz2 rfl (by decide) u0 _ _ rfl (hA.own.alloc _) ⟨wr.heap.size, 0, none⟩ 1 1 [.int .u8 (s[k].toNat : Int)] rfl rfl (news_new _ _ rfl) (by simp [Value.oneCell']) (by unfold maxLen; omega) (by omega) (by simp; omega) ?_; intro v3 w3 hown3 hg3 _ hat3))
          have hA3 := hA.step (news := [s[k]]) rfl hown3 hg3 hat3
          go_roundg (s.size - (k + 1))
          case measure => omega
          case rel => exact ⟨k + 1, _, hlt, rfl, by go_num, rfl, by rw [hsnoc.out, hq.out]; simpa [← hacc] using hA3⟩
        · have hq : Hid (qch s[k] = [92, 117, 48, 48, (hxd (s[k].toNat / 16)).toUInt8, (hxd (s[k].toNat % 16)).toUInt8]) := by unfold Hid qch; rw [if_neg hsp, if_neg hpr]
          have hAd := hA.drew
          have hcs : Lib.byteCells [92, 117, 48, 48, (hxd (s[k].toNat / 16)).toUInt8, (hxd (s[k].toNat % 16)).toUInt8] = [.int .u8 92, .int .u8 117, .int .u8 48, .int .u8 48, .int .u8 (hxd (s[k].toNat / 16) : Int), .int .u8 (hxd (s[k].toNat % 16) : Int)] := by
            have e1 := hxd_nat (s[k].toNat / 16) (by omega)
            have e2 := hxd_nat (s[k].toNat % 16) (by omega)
            show [Value.int .u8 92, .int .u8 117, .int .u8 48, .int .u8 48, .int .u8 (((hxd (s[k].toNat / 16)).toUInt8.toNat : Nat) : Int), .int .u8 (((hxd (s[k].toNat % 16)).toUInt8.toNat : Nat) : Int)] = _
            rw [e1, e2]
          have i1 := hexs_div s[k].toNat hc256
          have i2 := hexs_bits s[k].toNat hc256
          have hp : (decide ((32 : Int) ≤ (s[k].toNat : Int)) && decide ((s[k].toNat : Int) ≤ 126)) = false := by simp; omega
          go_wp2_with fail
          all_goals
            go_region_law (refine step_append_lies _ rfl (.tmp 19) (.tmp 26) 78 rfl B 5 i0 (.int .u8 0) 1 1 Tryd.underlying78 hi0 hz0 hz1 hz2 rfl (by decide) u0 _ _ (by simp [Act.eval]) (hAd.own.alloc _) ⟨wr.heap.size, 0, none⟩ 6 6 [.int .u8 92, .int .u8 117, .int .u8 48, .int .u8 48, .int .u8 (hxd (s[k].toNat / 16) : Int), .int .u8 (hxd (s[k].toNat % 16) : Int)] (by simp [Act.eval]) rfl (news_new _ _ rfl) (by simp [Value.oneCell']) (by omega) (by unfold maxLen; omega) (by omega) (by simp; omega) (wr.heap.size + 1) (by simp) ?_; intro g3 cap3 w3 hown3 hg3 hor3 _)
          all_goals go_wp2_with fail
          all_goals
            have hA3 := hAd.step (news := [92, 117, 48, 48, (hxd (s[k].toNat / 16)).toUInt8, (hxd (s[k].toNat % 16)).toUInt8]) rfl (by rw [hcs]; exact hown3) hg3 (at_or (g := g3) (n := (wr.drew.alloc _).heap.size) (by simpa using hor3))
          all_goals go_roundg (s.size - (k + 1))
          all_goals first
            | omega
            | exact ⟨k + 1, _, hlt, rfl, by go_num, rfl, by rw [hsnoc.out, hq.out]; simpa [← hacc] using hA3⟩
    · obtain rfl : k = s.size := by omega
      have hBr : B ≤ wr.heap.size := Nat.le_trans hB hA.gb.size
      have hal : (acc ++ 34 :: qlist (s.data.toList.take s.size)).length + 1 ≤ 1000000000 := by
        have h1 := qlist_len (s.data.toList.take s.size)
        have h2 : (s.data.toList.take s.size).length ≤ s.size := by rw [List.length_take, Array.length_toList]; exact Nat.min_le_right _ _
        simp only [List.length_append, List.length_cons]
        omega
      have htk : s.data.toList.take s.size = s.data.toList := List.take_of_length_le (by rw [Array.length_toList]; exact Nat.le_refl _)
      rw [htk] at hA hal
      have hqL : Hid (acc ++ quoteL s = (acc ++ 34 :: qlist s.data.toList) ++ [34]) := by unfold Hid quoteL; simp
      generalize hacc : acc ++ 34 :: qlist s.data.toList = acc1 at *
      go_wp2_with (first
        | (at_builtin; refine wpList_append_own_at _ rfl _ _ 78 rfl B 5 i0 (.int .u8 0) 1 1 Tryd.underlying78 hi0 hz0 hz1 hz2 rfl (by decide) u0 _ _ rfl (hA.own.alloc _) ⟨wr.heap.size, 0, none⟩ 1 1 [.int .u8 34] rfl rfl (news_new _ _ rfl) (by simp [Value.oneCell']) (by unfold maxLen; omega) (by omega) (by simp; omega) ?_; intro v3 w3 hown3 hg3 _ hat3))
      have hA3 := hA.step (news := [34]) rfl hown3 hg3 hat3
      go_ret
      exact ⟨_, rfl, by rw [hqL.out]; exact hA3⟩
end Go.Proofs.YtnnhkajjifmlfaaDoor
