/- wire.OrderedText of a text that is not too long; (*store.Store).Names: the walks. -/
import Derived.Test.YtpimllnmacnfoaaGreatDoorN0
import Derived.Maps.AppendAt
import Derived.Lib.Hide
namespace Go.Proofs.YtpimllnmacnfoaaGreatDoor
open Go.RowKit

theorem heap_alloc_new (w : World) (o : Obj) : (w.alloc o).heap[w.heap.size]? = some o := by
  simp only [← World.alloc_eq]; simp
theorem cell_of_row' (w : World) (b j : Nat) (arr : Array Value) (t : TypeId) (fr : Nat × Nat) (h : w.heap[b]? = some (.cells arr t fr)) : w.cell? ⟨b, j, none⟩ = arr[j]? := by
  simp [World.cell?, h]
theorem news_new' (w : World) (vs : List Value) {o : Obj} {t : TypeId} (ho : o = .cells vs.toArray t (0, 0)) : ∀ (j : Nat) (u : Value), vs[j]? = some u → (w.alloc o).cell? ((⟨w.heap.size, 0, none⟩ : Addr).add j) = some u := by
  subst ho
  intro j u hj
  have e : (⟨w.heap.size, 0, none⟩ : Addr).add j = ⟨w.heap.size, j, none⟩ := by unfold Addr.add; split <;> simp_all
  have hn : (w.alloc (.cells vs.toArray t (0, 0))).heap[w.heap.size]? = some (.cells vs.toArray t (0, 0)) := heap_alloc_new w _
  rw [e, cell_of_row' _ _ j _ _ _ hn, List.getElem?_toArray, hj]
theorem info5 : (Tryz.prog.info? 5).map (fun i => (i.zero, i.size, i.bytes)) = some (some (.int .u8 0), 1, 1) := by kernel_rfl
theorem info5_parts : ∃ i : TypeInfo, Tryz.prog.info? 5 = some i ∧ i.zero = some (.int .u8 0) ∧ i.size = 1 ∧ i.bytes = 1 := by
  have h := info5
  cases hi : Tryz.prog.info? 5 with
  | none => rw [hi] at h; cases h
  | some i =>
    rw [hi] at h
    simp only [Option.map_some, Option.some.injEq, Prod.mk.injEq] at h
    exact ⟨i, rfl, h.1, h.2.1, h.2.2⟩
theorem below_own {B n : Nat} {w W : World} {o : Obj} {w' : World} {v : Value} {xs : List Value} (h : Below B w W) (hown : (W.alloc o).ownsRow B 5 1 v n xs) (hB : B ≤ w.heap.size) (hg : (W.alloc o).grownBy w' v.ownBlock) : Below B w w' := by
  have hs := h.size
  have h1 : Below B W (W.alloc o) := below_gb (gb_alloc (gb_refl W none) o) (by omega) (by simp)
  have h2 : Below B (W.alloc o) w' := below_gb hg (by simp; omega) (fun g e => (hown.lt g e).1)
  exact (h.trans h1).trans h2
set_option maxRecDepth 100000 in
set_option maxHeartbeats 6400000 in
theorem ordered_any (B n : Nat) (v : Value) (xs : List Value) (s : ByteArray) (w : World) (hown : w.ownsRow B 5 1 v n xs) (hn : n ≤ 100) (hs : s.size ≤ 1048576) (hB : B ≤ w.heap.size) :
    Calls Tryz.prog 28 #[v, .string s] w fun e w' => ∃ u, e = .returned u ∧ Below B w w' := by
  obtain ⟨i0, hi0, hz0, hz1, hz2⟩ := info5_parts
  go_enter Tryz.func28, Tryz.ntmps28
  go_wp2_with fail
  go_loopg [0, 8] s.size (fun z u0 u8 wr => ∃ q m : Nat, ∃ ys : List Value, q ≤ s.size ∧ z = s.size - q ∧ u8 = .int .i64 q ∧ m ≤ n + 2 * q ∧ wr.ownsRow B 5 1 u0 m ys ∧ Below B w wr)
  case atStart => exact ⟨0, n, xs, Nat.zero_le _, rfl, rfl, by omega, hown, Below.refl _ _⟩
  case round =>
    clear hown
    obtain ⟨q, m, ys, hq, rfl, rfl, hm, hown, hb⟩ := hrel
    have hsz := hb.size
    by_cases hlt : q < s.size
    · have hqI : (q : Int) < (s.size : Int) := by omega
      have hq1 := Lib.hid (show wrap64 ((q : Int) + 1) = ((q + 1 : Nat) : Int) from (wrap64_id (by omega) (by omega)).trans (by omega))
      by_cases hc : s[q] = 0
      · have hcI : (s[q].toNat : Int) = 0 := by rw [hc]; rfl
        go_wp2_with (first
          | (at_builtin; have hmk := hown3; refine wpList_append_own_at _ rfl _ _ 26 rfl B 5 i0 (.int .u8 0) 1 1 Tryz.underlying26 hi0 hz0 hz1 hz2 rfl (by decide) v3 _ _ rfl (hown3.alloc _) ⟨w3.heap.size, 0, none⟩ 1 1 [.int .u8 255] rfl rfl (news_new' _ _ rfl) (by simp [Value.oneCell']) (by unfold maxLen; omega) (by omega) (by simp; omega) ?_; intro v4 w4 hown4 hg4 _ hat4; have hb4 := below_own hb3 (hown3.alloc _) hB hg4; have hsz4 := hb4.size)
          | (at_builtin; refine wpList_append_own_at _ rfl _ _ 26 rfl B 5 i0 (.int .u8 0) 1 1 Tryz.underlying26 hi0 hz0 hz1 hz2 rfl (by decide) u0 _ _ rfl (hown.alloc _) ⟨wr.heap.size, 0, none⟩ 1 1 [.int .u8 0] rfl rfl (news_new' _ _ rfl) (by simp [Value.oneCell']) (by unfold maxLen; omega) (by omega) (by simp; omega) ?_; intro v3 w3 hown3 hg3 _ hat3; have hb3 := below_own hb (hown.alloc _) hB hg3; have hsz3 := hb3.size)
          | (at_builtin; refine wpList_append_own_at _ rfl _ _ 26 rfl B 5 i0 (.int .u8 0) 1 1 Tryz.underlying26 hi0 hz0 hz1 hz2 rfl (by decide) u0 _ _ rfl (hown.alloc _) ⟨wr.heap.size, 0, none⟩ 1 1 [.int .u8 s[q].toNat] rfl rfl (news_new' _ _ rfl) (by simp [Value.oneCell']) (by unfold maxLen; omega) (by omega) (by simp; omega) ?_; intro v3 w3 hown3 hg3 _ hat3; have hb3 := below_own hb (hown.alloc _) hB hg3; have hsz3 := hb3.size))
        go_roundg (s.size - (q + 1))
        case measure => omega
        case rel => exact ⟨q + 1, m + 1 + 1, _, hlt, rfl, by first | rw [hq1.out] | go_num, by omega, hown4, hb4⟩
      · have hcI : ((s[q].toNat : Int) == 0) = false := by
          rw [beq_eq_false_iff_ne]; intro e; exact hc (UInt8.toNat_inj.1 (by have : (0 : UInt8).toNat = 0 := rfl; omega))
        go_wp2_with (first
          | (at_builtin; refine wpList_append_own_at _ rfl _ _ 26 rfl B 5 i0 (.int .u8 0) 1 1 Tryz.underlying26 hi0 hz0 hz1 hz2 rfl (by decide) u0 _ _ rfl (hown.alloc _) ⟨wr.heap.size, 0, none⟩ 1 1 [.int .u8 s[q].toNat] rfl rfl (news_new' _ _ rfl) (by simp [Value.oneCell']) (by unfold maxLen; omega) (by omega) (by simp; omega) ?_; intro v3 w3 hown3 hg3 _ hat3; have hb3 := below_own hb (hown.alloc _) hB hg3; have hsz3 := hb3.size))
        go_roundg (s.size - (q + 1))
        case measure => omega
        case rel => exact ⟨q + 1, m + 1, _, hlt, rfl, by first | rw [hq1.out] | go_num, by omega, hown3, hb3⟩
    · obtain rfl : q = s.size := by omega
      go_wp2_with (first
        | (at_builtin; refine wpList_append_own_at _ rfl _ _ 26 rfl B 5 i0 (.int .u8 0) 1 1 Tryz.underlying26 hi0 hz0 hz1 hz2 rfl (by decide) u0 _ _ rfl (hown.alloc _) ⟨wr.heap.size, 0, none⟩ 2 2 [.int .u8 0, .int .u8 1] rfl rfl (news_new' _ _ rfl) (by simp [Value.oneCell']) (by unfold maxLen; omega) (by omega) (by simp; omega) ?_; intro v3 w3 hown3 hg3 _ hat3; have hb3 := below_own hb (hown.alloc _) hB hg3; have hsz3 := hb3.size))
      go_ret
      exact ⟨_, rfl, hb3⟩
end Go.Proofs.YtpimllnmacnfoaaGreatDoor
