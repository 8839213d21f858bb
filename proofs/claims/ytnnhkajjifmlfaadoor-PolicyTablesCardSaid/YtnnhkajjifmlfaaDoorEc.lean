/- Policies: where a trace stands among 1,000 (policy.Share): the walk. -/
import Derived.Test.YtnnhkajjifmlfaaDoorEa
import Derived.Maps.AppendAt
namespace Go.Proofs.YtnnhkajjifmlfaaDoor.Pl
open Go.RowKit Go.Maps

def byteN (x k : Nat) : UInt8 := UInt8.ofNat (x / 2 ^ (56 - 8 * k) % 256)
def beN (x : Nat) : List UInt8 := (List.range 8).map (byteN x)
/-- where a trace stands -/
def shareN (hi lo : Nat) : Nat := crcN 0 (beN hi ++ beN lo) % 1000
def bytesV (l : List UInt8) : List Value := l.map fun c => .int .u8 c.toNat
theorem beN_take (x k : Nat) (h : k < 8) : (beN x).take (k + 1) = (beN x).take k ++ [byteN x k] := by
  unfold beN
  rw [List.take_add_one, List.getElem?_map, List.getElem?_range h]
  rfl
theorem byteN_val (x k : Nat) : ((byteN x k).toNat : Int) = ((x / 2 ^ (56 - 8 * k) % 256 : Nat) : Int) := by
  unfold byteN
  rw [UInt8.toNat_ofNat']
  simp
theorem bytesV_snoc (l : List UInt8) (c : UInt8) : bytesV (l ++ [c]) = bytesV l ++ [.int .u8 c.toNat] := by unfold bytesV; simp
theorem BytesAt.of_own {w : World} {B : Nat} {v : Value} {l : List UInt8} (h : w.ownsRow B 5 1 v l.length (bytesV l)) : BytesAt w (fun b => v.ownBlock = some b) v l := by
  have hv : ∃ A c, v = .slice A l.length c := by
    rcases h.2 with ⟨rfl, h0⟩ | ⟨g, cap, cur, rfl, _⟩
    · exact ⟨none, 0, by rw [h0]⟩
    · exact ⟨_, _, rfl⟩
  obtain ⟨A, c, rfl⟩ := hv
  refine ⟨A, c, rfl, fun h0 => ?_⟩
  obtain ⟨g, cap, e, _, _⟩ := h.form h0
  cases e
  refine ⟨g, 0, rfl, rfl, fun i hi => ?_⟩
  have ad : (⟨g, 0, none⟩ : Addr).add i = ⟨g, 0 + i, none⟩ := by unfold Addr.add; split <;> simp_all
  rw [← ad]
  exact h.cells (g := g) rfl i _ (by unfold bytesV; rw [List.getElem?_map, List.getElem?_eq_getElem hi]; rfl)
theorem info5 : (Tryd.prog.info? 5).map (fun i => (i.zero, i.size, i.bytes)) = some (some (.int .u8 0), 1, 1) := by kernel_rfl
theorem own_gb {w w' W : World} {B : Nat} {v : Value} {n : Nat} {xs : List Value} {e : TypeId} {sz : Nat} (h : w.grownBy W none) (hown : W.ownsRow B e sz v n xs) (hB : w.heap.size ≤ B) (hg : W.grownBy w' v.ownBlock) : w.grownBy w' none :=
  gb_more h hg fun g e => .inr (Nat.le_trans hB (hown.lt g e).1)
theorem news_new (w : World) (vs : List Value) {o : Obj} {t : TypeId} (ho : o = .cells vs.toArray t (0, 0)) : ∀ (j : Nat) (u : Value), vs[j]? = some u → (w.alloc o).cell? ((⟨w.heap.size, 0, none⟩ : Addr).add j) = some u := by
  subst ho
  intro j u hj
  have e : (⟨w.heap.size, 0, none⟩ : Addr).add j = ⟨w.heap.size, j, none⟩ := by unfold Addr.add; split <;> simp_all
  rw [e, cell_of_row _ _ j _ _ _ (heap_alloc_new w _), List.getElem?_toArray, hj]
theorem own_ne {W : World} {B b n : Nat} {v : Value} {xs : List Value} {e : TypeId} {sz : Nat} (h : W.ownsRow B e sz v n xs) (hb : b < B) : some b ≠ v.ownBlock := fun e => by
  have := (h.lt b e.symm).1
  omega
theorem own_sz {w w' : World} {B : Nat} {o : Obj} {row : Option Nat} (h : B ≤ w.heap.size) (hg : (w.alloc o).grownBy w' row) : B ≤ w'.heap.size := by
  have h1 := hg.size
  have h2 : (w.alloc o).heap.size = w.heap.size + 1 := by simp
  omega
theorem sum_any (l : List UInt8) (S : Nat → Prop) (v : Value) (w : World) (hl : l.length ≤ 1000000) (h : BytesAt w S v l) (hS : ∀ b, S b → b < w.heap.size) :
    Calls Tryd.prog 126 #[v] w fun e w' => e = .returned (.int .u32 (crcN 0 l)) ∧ w.grownBy w' none := by
  have hU := Lib.hid (update_any 0 l S v w (by omega) hl h hS)
  obtain ⟨A, c, rfl, hA⟩ := h
  clear hA
  generalize crcN 0 l = z at *
  go_enter Tryd.func126, Tryd.ntmps126
  go_wp2_with (first
    | (go_at_call 148; refine (hU.out).mono ?_; rintro e w4 ⟨rfl, hg4⟩))
  go_ret
  exact ⟨rfl, hg4⟩
def nthN (hi lo j : Nat) : Nat := if j = 0 then hi else lo
def accN (hi lo j : Nat) : List UInt8 := if j = 0 then [] else if j = 1 then beN hi else beN hi ++ beN lo
set_option maxRecDepth 100000 in
set_option maxHeartbeats 6400000 in
theorem share_any (hi lo : Nat) (w : World) (hh : hi < 18446744073709551616) (hl : lo < 18446744073709551616) :
    Calls Tryd.prog 78 #[.agg #[.int .u64 hi, .int .u64 lo]] w fun e w' => e = .returned (.int .i64 (shareN hi lo)) ∧ w.grownBy w' none := by
  obtain ⟨i0, hi0, hz0, hz1, hz2⟩ := info_parts info5
  have hg0 := gb_alloc (gb_alloc (gb_refl w none) (.cells #[.int .u64 hi, .int .u64 lo] 57)) (.cells #[.int .u64 hi, .int .u64 lo] 55)
  have hc : ∀ j, j < 2 → ((w.alloc (.cells #[.int .u64 hi, .int .u64 lo] 57)).alloc (.cells #[.int .u64 hi, .int .u64 lo] 55)).cell? ⟨w.heap.size + 1, j, none⟩ = some (.int .u64 (nthN hi lo j : Nat)) := fun j hj => by
    have e : (w.alloc (.cells #[.int .u64 hi, .int .u64 lo] 57)).heap.size = w.heap.size + 1 := by simp
    rw [← e, cell_of_row _ _ j _ _ _ (heap_alloc_new _ _)]
    have : j = 0 ∨ j = 1 := by omega
    rcases this with rfl | rfl <;> rfl
  have hsz : ((w.alloc (.cells #[.int .u64 hi, .int .u64 lo] 57)).alloc (.cells #[.int .u64 hi, .int .u64 lo] 55)).heap.size = w.heap.size + 2 := by simp
  have hcl := crcN_lt 0 (beN hi ++ beN lo) (by omega)
  have hsh : Hid (shareN hi lo = crcN 0 (beN hi ++ beN lo) % 1000) := rfl
  have hlen8 : ∀ x, (beN x).length = 8 := fun x => by unfold beN; simp
  go_enter Tryd.func78, Tryd.ntmps78
  go_wp2_with fail
  generalize (w.alloc (.cells #[.int .u64 hi, .int .u64 lo] 57)).alloc (.cells #[.int .u64 hi, .int .u64 lo] 55) = W at *
  obtain ⟨B, hB⟩ : ∃ B, B = w.heap.size + 2 := ⟨_, rfl⟩
  have hBw : w.heap.size ≤ B := by omega
  go_loopg [3, 13] 2 (fun z u3 u13 wr => ∃ j : Nat, j ≤ 2 ∧ z = 2 - j ∧ u13 = .int .i64 j ∧ wr.ownsRow B 5 1 u3 (accN hi lo j).length (bytesV (accN hi lo j)) ∧ w.grownBy wr none ∧ B ≤ wr.heap.size ∧ ∀ i, i < 2 → wr.cell? ⟨w.heap.size + 1, i, none⟩ = some (.int .u64 (nthN hi lo i : Nat)))
  case atStart => exact ⟨0, by omega, rfl, rfl, World.ownsRow_nil _ _ _ _, hg0, by omega, hc⟩
  case round =>
    clear hc hg0
    obtain ⟨j, hj, rfl, rfl, hown, hg, hBs, hc⟩ := hrel
    by_cases hlt : j < 2
    · have hjI : (j : Int) < 2 := by omega
      have hcj := hc j hlt
      have hq1 := Lib.hid (show wrap64 ((j : Int) + 1) = ((j + 1 : Nat) : Int) from (wrap64_id (by omega) (by omega)).trans (by omega))
      obtain ⟨x, hx⟩ : ∃ x, nthN hi lo j = x := ⟨_, rfl⟩
      have hxb : x < 18446744073709551616 := by rw [← hx]; unfold nthN; split <;> omega
      have hacc : Hid (accN hi lo (j + 1) = accN hi lo j ++ beN x) := by
        unfold Hid
        rw [← hx]
        have : j = 0 ∨ j = 1 := by omega
        rcases this with rfl | rfl <;> rfl
      have hal : (accN hi lo j).length ≤ 8 := by
        have : j = 0 ∨ j = 1 := by omega
        rcases this with rfl | rfl
        · exact Nat.zero_le _
        · show (beN hi).length ≤ 8; rw [hlen8]; exact Nat.le_refl _
      generalize hA : accN hi lo j = acc at *
      clear hA
      go_wp2_with fail
      clear hx
      go_loopg [3, 6] 8 (fun z u3 u6 wr2 => ∃ k : Nat, k ≤ 8 ∧ z = 8 - k ∧ u6 = .int .i64 (56 - 8 * (k : Int)) ∧ wr2.ownsRow B 5 1 u3 (acc ++ (beN x).take k).length (bytesV (acc ++ (beN x).take k)) ∧ w.grownBy wr2 none ∧ B ≤ wr2.heap.size ∧ ∀ i, i < 2 → wr2.cell? ⟨w.heap.size + 1, i, none⟩ = some (.int .u64 (nthN hi lo i : Nat)))
      case atStart => exact ⟨0, by omega, rfl, rfl, by simpa using hown, hg, hBs, hc⟩
      case round =>
        clear hown hg hBs hc hcj
        obtain ⟨k, hk, rfl, rfl, hown, hg2, hBs, hc⟩ := hrel
        by_cases hk8 : k < 8
        · have hkc : k = 0 ∨ k = 1 ∨ k = 2 ∨ k = 3 ∨ k = 4 ∨ k = 5 ∨ k = 6 ∨ k = 7 := by omega
          clear hk hk8
          have hol : ∀ k, k ≤ 8 → (acc ++ (beN x).take k).length ≤ 16 := fun k hk => by rw [List.length_append, List.length_take, hlen8]; omega
          rcases hkc with rfl | rfl | rfl | rfl | rfl | rfl | rfl | rfl
          · have hbv : (x : Int) / 72057594037927936 = ((byteN x 0).toNat : Int) := by
              have := byteN_val x 0
              simp only [Nat.reduceMul, Nat.reduceSub, Nat.reducePow] at this
              rw [this]; omega
            have hol2 := hol 0 (by omega)
            go_wp2_with (first
              | (at_builtin; refine wpList_append_own_at _ rfl _ _ 78 rfl B 5 i0 (.int .u8 0) 1 1 Tryd.underlying78 hi0 hz0 hz1 hz2 rfl (by decide) u3 _ _ rfl (hown.alloc _) ⟨wr.heap.size, 0, none⟩ 1 1 [.int .u8 (byteN x 0).toNat] rfl rfl (news_new _ _ (by first | rfl | rw [hbv])) (by simp [Value.oneCell']) (by unfold maxLen; omega) (by omega) (by simp; omega) ?_; intro v3 w3 hown3 hg3 _ hat3))
            go_roundg (8 - (0 + 1))
            case measure => omega
            case rel => exact ⟨0 + 1, by omega, rfl, by first | rfl | (congr 1), by rw [beN_take x 0 (by omega), ← List.append_assoc, bytesV_snoc, List.length_append]; exact hown3, own_gb (gb_alloc hg2 _) (hown.alloc _) hBw hg3, own_sz hBs hg3, fun i hi => cell_grown (cell_grown (hc i hi) (gb_alloc (gb_refl _ none) _) (by simp)) hg3 (own_ne hown (by omega))⟩
          · have hbv : (x : Int) / 281474976710656 % 256 = ((byteN x 1).toNat : Int) := by
              have := byteN_val x 1
              simp only [Nat.reduceMul, Nat.reduceSub, Nat.reducePow] at this
              rw [this]; omega
            have hol2 := hol 1 (by omega)
            go_wp2_with (first
              | (at_builtin; refine wpList_append_own_at _ rfl _ _ 78 rfl B 5 i0 (.int .u8 0) 1 1 Tryd.underlying78 hi0 hz0 hz1 hz2 rfl (by decide) u3 _ _ rfl (hown.alloc _) ⟨wr.heap.size, 0, none⟩ 1 1 [.int .u8 (byteN x 1).toNat] rfl rfl (news_new _ _ (by first | rfl | rw [hbv])) (by simp [Value.oneCell']) (by unfold maxLen; omega) (by omega) (by simp; omega) ?_; intro v3 w3 hown3 hg3 _ hat3))
            go_roundg (8 - (1 + 1))
            case measure => omega
            case rel => exact ⟨1 + 1, by omega, rfl, by first | rfl | (congr 1), by rw [beN_take x 1 (by omega), ← List.append_assoc, bytesV_snoc, List.length_append]; exact hown3, own_gb (gb_alloc hg2 _) (hown.alloc _) hBw hg3, own_sz hBs hg3, fun i hi => cell_grown (cell_grown (hc i hi) (gb_alloc (gb_refl _ none) _) (by simp)) hg3 (own_ne hown (by omega))⟩
          · have hbv : (x : Int) / 1099511627776 % 256 = ((byteN x 2).toNat : Int) := by
              have := byteN_val x 2
              simp only [Nat.reduceMul, Nat.reduceSub, Nat.reducePow] at this
              rw [this]; omega
            have hol2 := hol 2 (by omega)
            go_wp2_with (first
              | (at_builtin; refine wpList_append_own_at _ rfl _ _ 78 rfl B 5 i0 (.int .u8 0) 1 1 Tryd.underlying78 hi0 hz0 hz1 hz2 rfl (by decide) u3 _ _ rfl (hown.alloc _) ⟨wr.heap.size, 0, none⟩ 1 1 [.int .u8 (byteN x 2).toNat] rfl rfl (news_new _ _ (by first | rfl | rw [hbv])) (by simp [Value.oneCell']) (by unfold maxLen; omega) (by omega) (by simp; omega) ?_; intro v3 w3 hown3 hg3 _ hat3))
            go_roundg (8 - (2 + 1))
            case measure => omega
            case rel => exact ⟨2 + 1, by omega, rfl, by first | rfl | (congr 1), by rw [beN_take x 2 (by omega), ← List.append_assoc, bytesV_snoc, List.length_append]; exact hown3, own_gb (gb_alloc hg2 _) (hown.alloc _) hBw hg3, own_sz hBs hg3, fun i hi => cell_grown (cell_grown (hc i hi) (gb_alloc (gb_refl _ none) _) (by simp)) hg3 (own_ne hown (by omega))⟩
          · have hbv : (x : Int) / 4294967296 % 256 = ((byteN x 3).toNat : Int) := by
              have := byteN_val x 3
              simp only [Nat.reduceMul, Nat.reduceSub, Nat.reducePow] at this
              rw [this]; omega
            have hol2 := hol 3 (by omega)
            go_wp2_with (first
              | (at_builtin; refine wpList_append_own_at _ rfl _ _ 78 rfl B 5 i0 (.int .u8 0) 1 1 Tryd.underlying78 hi0 hz0 hz1 hz2 rfl (by decide) u3 _ _ rfl (hown.alloc _) ⟨wr.heap.size, 0, none⟩ 1 1 [.int .u8 (byteN x 3).toNat] rfl rfl (news_new _ _ (by first | rfl | rw [hbv])) (by simp [Value.oneCell']) (by unfold maxLen; omega) (by omega) (by simp; omega) ?_; intro v3 w3 hown3 hg3 _ hat3))
            go_roundg (8 - (3 + 1))
            case measure => omega
            case rel => exact ⟨3 + 1, by omega, rfl, by first | rfl | (congr 1), by rw [beN_take x 3 (by omega), ← List.append_assoc, bytesV_snoc, List.length_append]; exact hown3, own_gb (gb_alloc hg2 _) (hown.alloc _) hBw hg3, own_sz hBs hg3, fun i hi => cell_grown (cell_grown (hc i hi) (gb_alloc (gb_refl _ none) _) (by simp)) hg3 (own_ne hown (by omega))⟩
          · have hbv : (x : Int) / 16777216 % 256 = ((byteN x 4).toNat : Int) := by
              have := byteN_val x 4
              simp only [Nat.reduceMul, Nat.reduceSub, Nat.reducePow] at this
              rw [this]; omega
            have hol2 := hol 4 (by omega)
            go_wp2_with (first
              | (at_builtin; refine wpList_append_own_at _ rfl _ _ 78 rfl B 5 i0 (.int .u8 0) 1 1 Tryd.underlying78 hi0 hz0 hz1 hz2 rfl (by decide) u3 _ _ rfl (hown.alloc _) ⟨wr.heap.size, 0, none⟩ 1 1 [.int .u8 (byteN x 4).toNat] rfl rfl (news_new _ _ (by first | rfl | rw [hbv])) (by simp [Value.oneCell']) (by unfold maxLen; omega) (by omega) (by simp; omega) ?_; intro v3 w3 hown3 hg3 _ hat3))
            go_roundg (8 - (4 + 1))
            case measure => omega
            case rel => exact ⟨4 + 1, by omega, rfl, by first | rfl | (congr 1), by rw [beN_take x 4 (by omega), ← List.append_assoc, bytesV_snoc, List.length_append]; exact hown3, own_gb (gb_alloc hg2 _) (hown.alloc _) hBw hg3, own_sz hBs hg3, fun i hi => cell_grown (cell_grown (hc i hi) (gb_alloc (gb_refl _ none) _) (by simp)) hg3 (own_ne hown (by omega))⟩
          · have hbv : (x : Int) / 65536 % 256 = ((byteN x 5).toNat : Int) := by
              have := byteN_val x 5
              simp only [Nat.reduceMul, Nat.reduceSub, Nat.reducePow] at this
              rw [this]; omega
            have hol2 := hol 5 (by omega)
            go_wp2_with (first
              | (at_builtin; refine wpList_append_own_at _ rfl _ _ 78 rfl B 5 i0 (.int .u8 0) 1 1 Tryd.underlying78 hi0 hz0 hz1 hz2 rfl (by decide) u3 _ _ rfl (hown.alloc _) ⟨wr.heap.size, 0, none⟩ 1 1 [.int .u8 (byteN x 5).toNat] rfl rfl (news_new _ _ (by first | rfl | rw [hbv])) (by simp [Value.oneCell']) (by unfold maxLen; omega) (by omega) (by simp; omega) ?_; intro v3 w3 hown3 hg3 _ hat3))
            go_roundg (8 - (5 + 1))
            case measure => omega
            case rel => exact ⟨5 + 1, by omega, rfl, by first | rfl | (congr 1), by rw [beN_take x 5 (by omega), ← List.append_assoc, bytesV_snoc, List.length_append]; exact hown3, own_gb (gb_alloc hg2 _) (hown.alloc _) hBw hg3, own_sz hBs hg3, fun i hi => cell_grown (cell_grown (hc i hi) (gb_alloc (gb_refl _ none) _) (by simp)) hg3 (own_ne hown (by omega))⟩
          · have hbv : (x : Int) / 256 % 256 = ((byteN x 6).toNat : Int) := by
              have := byteN_val x 6
              simp only [Nat.reduceMul, Nat.reduceSub, Nat.reducePow] at this
              rw [this]; omega
            have hol2 := hol 6 (by omega)
            go_wp2_with (first
              | (at_builtin; refine wpList_append_own_at _ rfl _ _ 78 rfl B 5 i0 (.int .u8 0) 1 1 Tryd.underlying78 hi0 hz0 hz1 hz2 rfl (by decide) u3 _ _ rfl (hown.alloc _) ⟨wr.heap.size, 0, none⟩ 1 1 [.int .u8 (byteN x 6).toNat] rfl rfl (news_new _ _ (by first | rfl | rw [hbv])) (by simp [Value.oneCell']) (by unfold maxLen; omega) (by omega) (by simp; omega) ?_; intro v3 w3 hown3 hg3 _ hat3))
            go_roundg (8 - (6 + 1))
            case measure => omega
            case rel => exact ⟨6 + 1, by omega, rfl, by first | rfl | (congr 1), by rw [beN_take x 6 (by omega), ← List.append_assoc, bytesV_snoc, List.length_append]; exact hown3, own_gb (gb_alloc hg2 _) (hown.alloc _) hBw hg3, own_sz hBs hg3, fun i hi => cell_grown (cell_grown (hc i hi) (gb_alloc (gb_refl _ none) _) (by simp)) hg3 (own_ne hown (by omega))⟩
          · have hbv : (x : Int) % 256 = ((byteN x 7).toNat : Int) := by
              have := byteN_val x 7
              simp only [Nat.reduceMul, Nat.reduceSub, Nat.reducePow] at this
              rw [this]; omega
            have hol2 := hol 7 (by omega)
            go_wp2_with (first
              | (at_builtin; refine wpList_append_own_at _ rfl _ _ 78 rfl B 5 i0 (.int .u8 0) 1 1 Tryd.underlying78 hi0 hz0 hz1 hz2 rfl (by decide) u3 _ _ rfl (hown.alloc _) ⟨wr.heap.size, 0, none⟩ 1 1 [.int .u8 (byteN x 7).toNat] rfl rfl (news_new _ _ (by first | rfl | rw [hbv])) (by simp [Value.oneCell']) (by unfold maxLen; omega) (by omega) (by simp; omega) ?_; intro v3 w3 hown3 hg3 _ hat3))
            go_roundg (8 - (7 + 1))
            case measure => omega
            case rel => exact ⟨7 + 1, by omega, rfl, by first | rfl | (congr 1), by rw [beN_take x 7 (by omega), ← List.append_assoc, bytesV_snoc, List.length_append]; exact hown3, own_gb (gb_alloc hg2 _) (hown.alloc _) hBw hg3, own_sz hBs hg3, fun i hi => cell_grown (cell_grown (hc i hi) (gb_alloc (gb_refl _ none) _) (by simp)) hg3 (own_ne hown (by omega))⟩
        · obtain rfl : k = 8 := by omega
          go_wp2_with fail
          go_roundg (2 - (j + 1))
          case measure => omega
          case rel => exact ⟨j + 1, hlt, rfl, by first | rw [hq1.out] | go_num, by rw [hacc.out]; rw [List.take_of_length_le (by rw [hlen8]; exact Nat.le_refl _)] at hown; exact hown, hg2, hBs, hc⟩
    · obtain rfl : j = 2 := by omega
      have e2 : accN hi lo 2 = beN hi ++ beN lo := rfl
      rw [e2] at hown
      have hll : (beN hi ++ beN lo).length ≤ 1000 := by rw [List.length_append, hlen8, hlen8]; omega
      have hS126 := Lib.hid (sum_any _ _ u3 wr (by omega) (BytesAt.of_own hown) (fun b hb => (hown.lt b hb).2))
      clear e2 hll
      generalize crcN 0 (beN hi ++ beN lo) = z at *
      go_wp2_with (first
        | (go_at_call 126; refine (hS126.out).mono ?_; rintro e w4 ⟨rfl, hg4⟩))
      go_ret
      exact ⟨by rw [hsh.out]; first | rfl | simp, gb_trans hg hg4⟩
end Go.Proofs.YtnnhkajjifmlfaaDoor.Pl
/-! Policies: spans in memory; what a node asks of a span: the walks. -/
namespace Go.Proofs.YtnnhkajjifmlfaaDoor.Pl
open Go.RowKit Go.Maps

abbrev Tg := ByteArray × ByteArray
structure Sp where
  hi : Int
  lo : Int
  id : Int
  parent : Int
  service : ByteArray
  name : ByteArray
  kind : Int
  start : Int
  length : Int
  fails : Bool
  tags : List Tg
structure Ad where
  sp : Sp
  up : Int
  shift : Int
  flag : Int
/-- tags in memory -/
def TAt (w : World) (S : Nat → Prop) (l : List Tg) (v : Value) : Prop :=
  ∃ (A : Option Addr) (c b o : Nat), v = .slice A l.length c ∧ (0 < l.length → A = some ⟨b, o, none⟩ ∧ S b) ∧
    ∀ i (h : i < l.length), w.cell? ⟨b, o + i * 2, none⟩ = some (.string l[i].1) ∧ w.cell? ⟨b, o + i * 2 + 1, none⟩ = some (.string l[i].2)
theorem TAt.grown {w w' : World} {S : Nat → Prop} {l : List Tg} {v : Value} (h : TAt w S l v) (hg : w.grownBy w' none) : TAt w' S l v := by
  obtain ⟨A, c, b, o, e, ha, hc⟩ := h
  exact ⟨A, c, b, o, e, ha, fun i hi => ⟨cell_grown (hc i hi).1 hg (by simp), cell_grown (hc i hi).2 hg (by simp)⟩⟩
abbrev spV (a : Sp) (t : Value) : Value := .agg #[.int .u64 a.hi, .int .u64 a.lo, .int .u64 a.id, .int .u64 a.parent, .string a.service, .string a.name, .int .i64 a.kind, .int .i64 a.start, .int .i64 a.length, .bool a.fails, t]
abbrev adV (a : Ad) (t : Value) : Value := .agg #[.int .u64 a.sp.hi, .int .u64 a.sp.lo, .int .u64 a.sp.id, .int .u64 a.sp.parent, .string a.sp.service, .string a.sp.name, .int .i64 a.sp.kind, .int .i64 a.sp.start, .int .i64 a.sp.length, .bool a.sp.fails, t, .int .u64 a.up, .int .i64 a.shift, .int .i64 a.flag]
/-- adjusted spans in memory -/
def AAt (w : World) (list : List Ad) (v : Value) : Prop :=
  ∃ (A : Option Addr) (c b o : Nat) (T : Nat → Value), v = .slice A list.length c ∧ (0 < list.length → A = some ⟨b, o, none⟩) ∧
    ∀ i (h : i < list.length), (∃ A1 n1 c1, T i = .slice A1 n1 c1) ∧ TAt w (fun _ => True) list[i].sp.tags (T i) ∧
      w.cell? ⟨b, o + i * 14, none⟩ = some (.int .u64 list[i].sp.hi) ∧ w.cell? ⟨b, o + i * 14 + 1, none⟩ = some (.int .u64 list[i].sp.lo) ∧ w.cell? ⟨b, o + i * 14 + 2, none⟩ = some (.int .u64 list[i].sp.id) ∧ w.cell? ⟨b, o + i * 14 + 3, none⟩ = some (.int .u64 list[i].sp.parent) ∧ w.cell? ⟨b, o + i * 14 + 4, none⟩ = some (.string list[i].sp.service) ∧ w.cell? ⟨b, o + i * 14 + 5, none⟩ = some (.string list[i].sp.name) ∧ w.cell? ⟨b, o + i * 14 + 6, none⟩ = some (.int .i64 list[i].sp.kind) ∧ w.cell? ⟨b, o + i * 14 + 7, none⟩ = some (.int .i64 list[i].sp.start) ∧ w.cell? ⟨b, o + i * 14 + 8, none⟩ = some (.int .i64 list[i].sp.length) ∧ w.cell? ⟨b, o + i * 14 + 9, none⟩ = some (.bool list[i].sp.fails) ∧ w.cell? ⟨b, o + i * 14 + 10, none⟩ = some (T i) ∧ w.cell? ⟨b, o + i * 14 + 11, none⟩ = some (.int .u64 list[i].up) ∧ w.cell? ⟨b, o + i * 14 + 12, none⟩ = some (.int .i64 list[i].shift) ∧ w.cell? ⟨b, o + i * 14 + 13, none⟩ = some (.int .i64 list[i].flag)
theorem AAt.grown {w w' : World} {l : List Ad} {v : Value} (h : AAt w l v) (hg : w.grownBy w' none) : AAt w' l v := by
  obtain ⟨A, c, b, o, T, e, ha, hc⟩ := h
  refine ⟨A, c, b, o, T, e, ha, fun i hi => ?_⟩
  obtain ⟨h0, h1, q0, q1, q2, q3, q4, q5, q6, q7, q8, q9, q10, q11, q12, q13⟩ := hc i hi
  exact ⟨h0, h1.grown hg, cell_grown q0 hg (by simp), cell_grown q1 hg (by simp), cell_grown q2 hg (by simp), cell_grown q3 hg (by simp), cell_grown q4 hg (by simp), cell_grown q5 hg (by simp), cell_grown q6 hg (by simp), cell_grown q7 hg (by simp), cell_grown q8 hg (by simp), cell_grown q9 hg (by simp), cell_grown q10 hg (by simp), cell_grown q11 hg (by simp), cell_grown q12 hg (by simp), cell_grown q13 hg (by simp)⟩
/-- what may be in memory -/
def ABd (l : List Ad) : Prop := ∀ a ∈ l, a.sp.tags.length ≤ 140737488355328

/-! ### a tag among tags -/
def tagFrom (t : Tg) : List Tg → Nat → Int
  | [], _ => -1
  | x :: l, i => if t = x then (i : Int) else tagFrom t l (i + 1)
def hasTag (l : List Tg) (t : Tg) : Bool := l.any fun x => decide (t = x)
theorem tag_any (t : Tg) : ∀ (l : List Tg) (i : Nat), decide (0 ≤ tagFrom t l i) = hasTag l t
  | [], i => by rfl
  | x :: l, i => by
    unfold tagFrom hasTag
    rw [List.any_cons]
    by_cases h : t = x
    · rw [if_pos h, decide_eq_true h]; simp
    · rw [if_neg h, decide_eq_false h, Bool.false_or]; exact tag_any t l (i + 1)
theorem tag_at (t : Tg) (l : List Tg) (q : Nat) (h : q < l.length) : tagFrom t (l.drop q) q = if t = l[q] then (q : Int) else tagFrom t (l.drop (q + 1)) (q + 1) := by
  rw [List.drop_eq_getElem_cons h]; rfl
theorem run_eqTag (x y : Tg) (w : World) : (binOp .eql 148 (.agg #[.string x.1, .string x.2]) (.agg #[.string y.1, .string y.2])).run Tryd.prog w = .ok (.bool (decide (x = y))) w := by
  go_simp
  simp only [toList_iff]
  obtain ⟨a, b⟩ := x
  obtain ⟨a', b'⟩ := y
  simp only [Prod.mk.injEq]
  by_cases h1 : a = a'
  · by_cases h2 : b = b'
    · simp [h1, h2]
    · simp [h1, h2]
  · simp [h1]
set_option maxRecDepth 100000 in
set_option maxHeartbeats 3200000 in
theorem index_tag (t : Tg) (l : List Tg) (v : Value) (w : World) (hl : l.length ≤ 140737488355328) (h : TAt w (fun _ => True) l v) :
    Calls Tryd.prog 147 #[v, .agg #[.string t.1, .string t.2]] w fun e w' => e = .returned (.int .i64 (tagFrom t l 0)) ∧ w.grownBy w' none := by
  obtain ⟨A, c, b, o, rfl, hA, hcl⟩ := h
  have hl' := Lib.hid hl
  have g0 := gb_alloc (gb_refl w none) (.cells #[.string t.1, .string t.2] 148)
  have z0 : (w.alloc (.cells #[.string t.1, .string t.2] 148)).cell? ⟨w.heap.size, 0, none⟩ = some (.string t.1) := by rw [cell_of_row _ _ 0 _ _ _ (heap_alloc_new w _)]; rfl
  have z1 : (w.alloc (.cells #[.string t.1, .string t.2] 148)).cell? ⟨w.heap.size, 1, none⟩ = some (.string t.2) := by rw [cell_of_row _ _ 1 _ _ _ (heap_alloc_new w _)]; rfl
  go_enter Tryd.func147, Tryd.ntmps147
  clear hl
  go_wp2_with fail
  generalize w.alloc (.cells #[.string t.1, .string t.2] 148) = W at *
  go_loopg [8] l.length (fun z u8 wr => ∃ q : Nat, q ≤ l.length ∧ z = l.length - q ∧ u8 = .int .i64 q ∧ Hid (tagFrom t l 0 = tagFrom t (l.drop q) q) ∧ w.grownBy wr none ∧ wr.cell? ⟨w.heap.size, 0, none⟩ = some (.string t.1) ∧ wr.cell? ⟨w.heap.size, 1, none⟩ = some (.string t.2))
  case atStart => exact ⟨0, Nat.zero_le _, rfl, rfl, rfl, g0, z0, z1⟩
  case round =>
    clear g0 z0 z1
    obtain ⟨q, hq, rfl, rfl, hno, hg, z0, z1⟩ := hrel
    by_cases hlt : q < l.length
    · obtain ⟨rfl, _⟩ := hA (by omega)
      have hqi : (q : Int) < (l.length : Int) := by omega
      obtain ⟨c0, c1⟩ := hcl q hlt
      have c0 := cell_grown c0 hg (by simp)
      have c1 := cell_grown c1 hg (by simp)
      have hq1 := Lib.hid (show wrap64 ((q : Int) + 1) = ((q + 1 : Nat) : Int) from (wrap64_id (by omega) (by have := hl'.out; omega)).trans (by omega))
      have hst := Lib.hid (tag_at t l q hlt)
      have hEq := fun W => run_eqTag t l[q] W
      clear hA hcl
      have hy : Hid (decide (t = l[q]) = true ↔ t = l[q]) := decide_eq_true_iff
      generalize decide (t = l[q]) = y at *
      generalize l[q] = x at *
      cases y with
      | true =>
        have hst2 : Hid (tagFrom t l 0 = (q : Int)) := by unfold Hid; rw [hno.out, hst.out, if_pos (hy.out.1 rfl)]
        clear hst hno hy
        go_wp2_with fail
        go_quiet (fail)
        go_wp2_with fail
        go_ret
        exact ⟨by rw [hst2.out]; rfl, gb_drewN hg _⟩
      | false =>
        have hst2 : Hid (tagFrom t l 0 = tagFrom t (l.drop (q + 1)) (q + 1)) := by unfold Hid; rw [hno.out, hst.out, if_neg (fun h => by have := hy.out.2 h; cases this)]
        clear hst hno hy
        go_wp2_with fail
        go_quiet (fail)
        go_wp2_with fail
        go_roundg (l.length - (q + 1))
        case measure => omega
        case rel => exact ⟨q + 1, hlt, rfl, by first | rw [hq1.out] | go_num, hst2, gb_drewN hg _, by exact z0, by exact z1⟩
    · obtain rfl : q = l.length := by omega
      have hfin : Hid (tagFrom t l 0 = -1) := by unfold Hid; rw [hno.out, List.drop_length]; rfl
      clear hno hA hcl
      go_wp2_with fail
      go_ret
      exact ⟨by rw [hfin.out]; rfl, hg⟩
theorem contains_tag (t : Tg) (l : List Tg) (v : Value) (w : World) (hl : l.length ≤ 140737488355328) (h : TAt w (fun _ => True) l v) :
    Calls Tryd.prog 125 #[v, .agg #[.string t.1, .string t.2]] w fun e w' => e = .returned (.bool (hasTag l t)) ∧ w.grownBy w' none := by
  have hI := fun W (hg : w.grownBy W none) => Lib.hid (index_tag t l v W hl (h.grown hg))
  rw [← tag_any t l 0]
  generalize tagFrom t l 0 = j at *
  go_enter Tryd.func125, Tryd.ntmps125
  go_wp2_with (first
    | (go_at_call 147; refine ((hI _ (gb_alloc (gb_refl _ _) _)).out).mono ?_; rintro e w4 ⟨rfl, hg4⟩))
  go_ret
  exact ⟨rfl, gb_trans (gb_alloc (gb_refl _ _) _) hg4⟩
/-! ### what a node asks -/
def askN (x : PN) (a : Sp) : Bool :=
  if x.k = 2 then a.fails else if x.k = 3 then decide (x.n ≤ a.length) else if x.k = 4 then decide (a.service = x.a) else if x.k = 5 then hasTag a.tags (x.a, x.b) else false
theorem ask1_any (x : PN) (a : Sp) (t : Value) (w : World) : Calls Tryd.prog 121 #[nodeV x, spV a t] w fun e w' => e = .returned (.bool a.fails) ∧ w.grownBy w' none := by
  go_enter Tryd.func121, Tryd.ntmps121
  go_wp2_with fail
  go_ret
  exact ⟨rfl, gb_alloc (gb_alloc (gb_refl _ _) _) _⟩
theorem ask2_any (x : PN) (a : Sp) (t : Value) (w : World) : Calls Tryd.prog 122 #[nodeV x, spV a t] w fun e w' => e = .returned (.bool (decide (x.n ≤ a.length))) ∧ w.grownBy w' none := by
  go_enter Tryd.func122, Tryd.ntmps122
  go_wp2_with fail
  go_ret
  exact ⟨rfl, gb_alloc (gb_alloc (gb_refl _ _) _) _⟩
theorem ask3_any (x : PN) (a : Sp) (t : Value) (w : World) : Calls Tryd.prog 123 #[nodeV x, spV a t] w fun e w' => e = .returned (.bool (decide (a.service = x.a))) ∧ w.grownBy w' none := by
  have hE : (a.service.toList == x.a.toList) = decide (a.service = x.a) := ba_beq _ _
  generalize decide (a.service = x.a) = y at *
  go_enter Tryd.func123, Tryd.ntmps123
  go_wp2_with fail
  go_ret
  exact ⟨rfl, gb_alloc (gb_alloc (gb_refl _ _) _) _⟩
theorem ask4_any (x : PN) (a : Sp) (t : Value) (w : World) (hl : a.tags.length ≤ 140737488355328) (h : TAt w (fun _ => True) a.tags t) : Calls Tryd.prog 124 #[nodeV x, spV a t] w fun e w' => e = .returned (.bool (hasTag a.tags (x.a, x.b))) ∧ w.grownBy w' none := by
  have hC := fun W (hg : w.grownBy W none) => Lib.hid (contains_tag (x.a, x.b) a.tags t W hl (h.grown hg))
  generalize hasTag a.tags (x.a, x.b) = y at *
  go_enter Tryd.func124, Tryd.ntmps124
  go_wp2_with (first
    | (go_at_call 125; refine ((hC _ (gb_alloc (gb_alloc (gb_refl _ _) _) _)).out).mono ?_; rintro e w4 ⟨rfl, hg4⟩))
  go_ret
  exact ⟨rfl, gb_trans (gb_alloc (gb_alloc (gb_refl _ _) _) _) hg4⟩
end Go.Proofs.YtnnhkajjifmlfaaDoor.Pl
