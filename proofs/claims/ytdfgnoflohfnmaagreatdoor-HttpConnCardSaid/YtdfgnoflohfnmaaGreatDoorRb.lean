/- HTTP, the document's side: a text cut at a byte, trimmed, in small letters; a length. -/
import Derived.Test.YtdfgnoflohfnmaaGreatDoorRa
namespace Go.Proofs.YtdfgnoflohfnmaaGreatDoor.Hx
open Go.RowKit Go.Maps

theorem occ_one (s : Bs) (c : UInt8) (i : Nat) : Lib.occAt s [c] i = (s[i]? == some c) := by
  unfold Lib.occAt
  cases h : s.drop i with
  | nil =>
    have : s[i]? = none := by rw [← List.head?_drop, h]; rfl
    rw [this]; rfl
  | cons b t =>
    have : s[i]? = some b := by rw [← List.head?_drop, h]; rfl
    rw [this]
    simp only [List.isPrefixOf, Bool.and_true]
    rw [Bool.eq_iff_iff]
    simp
    exact ⟨fun h => h.symm, fun h => h.symm⟩
theorem cut_at {s : Bs} {c : UInt8} {k : Nat} (hk : k < s.length) (h : ∀ j, j < k → s[j]? ≠ some c) (hc : s[k]? = some c) : Lib.cut s [c] = (s.take k, s.drop (k + 1), true) :=
  cut_hit (Lib.index_first (by omega) (by rw [occ_one, hc]; simp) (fun j hj => by rw [occ_one]; have := h j hj; simpa using this))
theorem cut_none {s : Bs} {c : UInt8} (h : ∀ j, j < s.length → s[j]? ≠ some c) : Lib.cut s [c] = (s, [], false) := by
  rcases idx_cases s c with h1 | ⟨i, h1, h2⟩
  · exact cut_miss h1
  · rcases Lib.index_spec s [c] with ⟨h3, _⟩ | ⟨j, h3, _, h4, _⟩
    · rw [h3] at h1; omega
    · obtain rfl : j = i := by omega
      rw [occ_one] at h4
      exact absurd (by simpa using h4) (h j h2)
theorem at_byte (s : ByteArray) {k : Nat} (h : k < s.size) : s.data.toList[k]? = some s[k] := List.getElem?_eq_getElem (l := s.data.toList) h
set_option maxRecDepth 100000 in
set_option maxHeartbeats 1600000 in
theorem rcut_any (s : ByteArray) (c : UInt8) (w : World) (hs : s.size ≤ 1000000000) : Calls Tryz.prog 44 #[.string s, .int .u8 (c.toNat : Int)] w fun e w' => e = .returned (.tuple #[.string ⟨(Lib.cut s.data.toList [c]).1.toArray⟩, .string ⟨(Lib.cut s.data.toList [c]).2.1.toArray⟩, .bool (Lib.cut s.data.toList [c]).2.2]) ∧ w.grownBy w' none := by
  obtain ⟨R, hR⟩ : ∃ R : Value, R = .tuple #[.string ⟨(Lib.cut s.data.toList [c]).1.toArray⟩, .string ⟨(Lib.cut s.data.toList [c]).2.1.toArray⟩, .bool (Lib.cut s.data.toList [c]).2.2] := ⟨_, rfl⟩
  rw [← hR]
  replace hR := Lib.hid hR
  go_enter Tryz.func44, Tryz.ntmps44
  go_wp2_with fail
  go_loopg [7] s.size (fun z u8 wr => ∃ k : Nat, k ≤ s.size ∧ z = s.size - k ∧ u8 = .int .i64 k ∧ Hid (∀ j, j < k → s.data.toList[j]? ≠ some c) ∧ wr = w)
  case atStart => exact ⟨0, Nat.zero_le _, rfl, rfl, fun j hj => absurd hj (Nat.not_lt_zero _), rfl⟩
  case round =>
    obtain ⟨k, hk, rfl, rfl, hp, rfl⟩ := hrel
    by_cases hlt : k < s.size
    · have hki : (k : Int) < (s.size : Int) := by omega
      have hk0 : (0 : Int) ≤ (k : Int) := by omega
      have hk1 : (k : Int) ≤ (s.size : Int) := by omega
      have hk2 : (k : Int) + 1 ≤ (s.size : Int) := by omega
      have hw1 : IntKind.i64.wrap ((k : Int) + 1) = (k : Int) + 1 := wrap_id (by omega) (by omega)
      have hq1 := Lib.hid (show wrap64 ((k : Int) + 1) = ((k + 1 : Nat) : Int) from (wrap64_id (by omega) (by omega)).trans (by omega))
      have hb := at_byte s hlt
      by_cases hc : s[k] = c
      · have hcut := Lib.hid (cut_at (s := s.data.toList) (c := c) hlt hp.out (by rw [hb, hc]))
        have hce : ((s[k].toNat : Int) == (c.toNat : Int)) = true := by rw [hc]; simp
        have hx1 := Lib.hid (show s.extract 0 k = (⟨(s.data.toList.take k).toArray⟩ : ByteArray) from ByteArray.ext (Array.toList_inj.1 (by simp)))
        have hx2 := Lib.hid (show s.extract (k + 1) s.size = (⟨(s.data.toList.drop (k + 1)).toArray⟩ : ByteArray) from ByteArray.ext (Array.toList_inj.1 (by rw [Lib.extract_to_end])))
        replace hp := Lib.hid hp
        clear hp hb hc hq1
        go_wp2_with fail
        go_quiet (fail)
        go_wp2_with fail
        refine bodyPost_ret (v := .tuple #[.string (s.extract 0 k), .string (s.extract (k + 1) s.size), .bool true]) (by simp [results, Tryz.results44, go_sem]) rfl ?_
        exact ⟨by rw [hR.out, hcut.out, hx1.out, hx2.out], gb_drewN (gb_refl _ _) _⟩
      · have hce : ((s[k].toNat : Int) == (c.toNat : Int)) = false := by
          rw [beq_eq_false_iff_ne]
          intro e
          exact hc (UInt8.toNat_inj.mp (by omega))
        have hst : Hid (∀ j, j < k + 1 → s.data.toList[j]? ≠ some c) := fun j hj => by
          rcases Nat.lt_succ_iff_lt_or_eq.mp hj with h | rfl
          · exact hp.out j h
          · rw [hb]; intro e; exact hc (Option.some.inj e)
        clear hp hb hc hw1
        go_wp2_with fail
        go_roundg (s.size - (k + 1))
        case measure => omega
        case rel => exact ⟨k + 1, hlt, rfl, by first | rw [hq1.out] | go_num, hst, rfl⟩
    · have hke : k = s.size := by omega
      subst hke
      have hcut := Lib.hid (cut_none (s := s.data.toList) (c := c) hp.out)
      have hni : ¬ ((s.size : Int) < (s.size : Int)) := by omega
      clear hp
      go_wp2_with fail
      refine bodyPost_ret (v := .tuple #[.string s, .string ⟨#[]⟩, .bool false]) (by simp [results, Tryz.results44, go_sem]) rfl ?_
      exact ⟨by rw [hR.out, hcut.out], gb_refl _ _⟩
/-! a text trimmed: left first is right first -/
theorem dw_nil (p : UInt8 → Bool) : ∀ l : Bs, l.dropWhile p = [] → ∀ x ∈ l, p x = true
  | [], _, x, hx => by simp at hx
  | c :: t, h, x, hx => by
    cases hp : p c with
    | true =>
      rw [List.dropWhile_cons_of_pos hp] at h
      rcases List.mem_cons.mp hx with rfl | hx
      · exact hp
      · exact dw_nil p t h x hx
    | false =>
      rw [List.dropWhile_cons_of_neg (by rw [hp]; decide)] at h
      cases h
theorem rtrim_cons (p : UInt8 → Bool) (c : UInt8) (t : Bs) : ((c :: t).reverse.dropWhile p).reverse = if (t.reverse.dropWhile p).reverse = [] ∧ p c = true then [] else c :: (t.reverse.dropWhile p).reverse := by
  rw [List.reverse_cons]
  by_cases h : t.reverse.dropWhile p = []
  · have ha : ∀ x ∈ t.reverse, p x = true := dw_nil p _ h
    rw [List.dropWhile_append_of_pos ha]
    cases hp : p c <;> simp [h, hp, List.dropWhile]
  · rw [if_neg (by simp [h])]
    have : (t.reverse ++ [c]).dropWhile p = t.reverse.dropWhile p ++ [c] := by
      rw [List.dropWhile_append]
      simp [h]
    rw [this]; simp
theorem trim_comm (p : UInt8 → Bool) : ∀ l : Bs, ((l.dropWhile p).reverse.dropWhile p).reverse = ((l.reverse.dropWhile p).reverse).dropWhile p
  | [] => rfl
  | c :: t => by
    have ih := trim_comm p t
    cases hp : p c with
    | true =>
      rw [List.dropWhile_cons_of_pos hp, ih, rtrim_cons]
      by_cases h : (t.reverse.dropWhile p).reverse = []
      · rw [if_pos ⟨h, hp⟩, h]
      · rw [if_neg (fun e => h e.1), List.dropWhile_cons_of_pos hp]
    | false =>
      rw [List.dropWhile_cons_of_neg (by rw [hp]; decide), rtrim_cons, if_neg (by rw [hp]; simp), List.dropWhile_cons_of_neg (by rw [hp]; decide)]
def blB (c : UInt8) : Bool := decide (c.toNat = 32) || decide (c.toNat = 9)
theorem blB_eq : (fun c : UInt8 => ([32, 9] : Bs).contains c) = blB := by
  funext c
  unfold blB
  simp only [List.contains_cons, List.contains_nil, Bool.or_false]
  rw [show (c == 32) = decide (c.toNat = 32) from by rw [Bool.eq_iff_iff]; simp [← UInt8.toNat_inj], show (c == 9) = decide (c.toNat = 9) from by rw [Bool.eq_iff_iff]; simp [← UInt8.toNat_inj]]
theorem trim_eq (l : Bs) : Lib.trimS l [32, 9] = ((l.dropWhile blB).reverse.dropWhile blB).reverse := by
  rw [trim_comm, ← blB_eq]; rfl
end Go.Proofs.YtdfgnoflohfnmaaGreatDoor.Hx
