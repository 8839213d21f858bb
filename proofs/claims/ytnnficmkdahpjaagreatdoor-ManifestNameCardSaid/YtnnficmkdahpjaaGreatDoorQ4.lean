/- What is a segment's name: the reference's walk. -/
import Derived.Test.YtnnficmkdahpjaaGreatDoorQ3
namespace Go.Proofs.YtnnficmkdahpjaaGreatDoor
open Go.RowKit Go.Sort Go.Lib

def isDg (c : UInt8) : Bool := decide (48 ≤ c.toNat ∧ c.toNat ≤ 57)
def valD : List UInt8 → Nat → Nat
  | [], a => a
  | c :: r, a => valD r (a * 10 + (c.toNat - 48))
def walB : ByteArray := ⟨#[109, 97, 110, 105, 102, 101, 115, 116, 45]⟩
def segP (l : List UInt8) : Nat × Bool := if l.length = 21 ∧ l.take 9 = [109, 97, 110, 105, 102, 101, 115, 116, 45] ∧ (l.drop 9).all isDg = true then (valD (l.drop 9) 0, true) else (0, false)

theorem ext_take (s : ByteArray) : (s.extract 0 9).toList = s.data.toList.take 9 := by
  rw [Lib.toList_data]
  simp [ByteArray.data_extract]
theorem drop_at (s : ByteArray) (k : Nat) (h : k < s.size) : s.data.toList.drop k = s[k] :: s.data.toList.drop (k + 1) := by
  rw [List.drop_eq_getElem_cons (by simpa using h)]
  rfl
structure NI (l : List UInt8) (k a : Nat) : Prop where
  lo : 9 ≤ k
  hi : k ≤ 21
  sm : a < 10 ^ (k - 9)
  val : valD (l.drop 9) 0 = valD (l.drop k) a
  all : (l.drop 9).all isDg = (l.drop k).all isDg

theorem NI.bad {l : List UInt8} {k a : Nat} {c : UInt8} (h : NI l k a) (hd : l.drop k = c :: l.drop (k + 1)) (hc : isDg c = false) : segP l = (0, false) := by
  unfold segP
  rw [if_neg]
  rintro ⟨_, _, h3⟩
  rw [h.all, hd, List.all_cons, hc] at h3
  simp at h3
theorem NI.done {l : List UInt8} {k a : Nat} (h : NI l k a) (hk : ¬ k < 21) (hl : l.length = 21) (hp : l.take 9 = [109, 97, 110, 105, 102, 101, 115, 116, 45]) : segP l = (a, true) := by
  have h0 : l.drop k = [] := List.drop_eq_nil_of_le (by omega)
  have h1 := h.val
  have h2 := h.all
  rw [h0] at h1 h2
  unfold segP
  rw [if_pos ⟨hl, hp, by rw [h2]; rfl⟩, h1]
  rfl
theorem NI.lt {l : List UInt8} {k a : Nat} (h : NI l k a) : a < 1000000000000 :=
  Nat.lt_of_lt_of_le h.sm (Nat.le_trans (Nat.pow_le_pow_right (by decide) (show k - 9 ≤ 12 by have := h.hi; omega)) (by decide))
theorem NI.step {l : List UInt8} {k a : Nat} {c : UInt8} (h : NI l k a) (hk : k < 21) (hd : l.drop k = c :: l.drop (k + 1)) (hc : isDg c = true) : NI l (k + 1) (a * 10 + (c.toNat - 48)) := by
  have hc' : 48 ≤ c.toNat ∧ c.toNat ≤ 57 := of_decide_eq_true hc
  refine ⟨by have := h.lo; omega, by omega, ?_, ?_, ?_⟩
  · have e : k + 1 - 9 = (k - 9) + 1 := by have := h.lo; omega
    have := h.sm
    rw [e, Nat.pow_succ]
    omega
  · rw [h.val, hd]; rfl
  · rw [h.all, hd, List.all_cons, hc]; rfl
theorem dg_no {c : UInt8} (h : c.toNat < 48 ∨ 57 < c.toNat) : isDg c = false := decide_eq_false (by omega)
theorem dg_yes {c : UInt8} (h : ¬ c.toNat < 48) (h' : ¬ 57 < c.toNat) : isDg c = true := decide_eq_true (by omega)

set_option maxRecDepth 100000 in
set_option maxHeartbeats 1600000 in
theorem number_any (s : ByteArray) (w : World) :
    Calls Tryz.prog 25 #[.string ⟨#[109, 97, 110, 105, 102, 101, 115, 116, 45]⟩, .string s] w fun e w' => e = .returned (.tuple #[.int .u64 (segP s.data.toList).1, .bool (segP s.data.toList).2]) ∧ w' = w := by
  have hl : s.data.toList.length = s.size := rfl
  by_cases h16 : s.size = 21
  · by_cases hp : s.data.toList.take 9 = [109, 97, 110, 105, 102, 101, 115, 116, 45]
    · have hpb : ((s.extract 0 9).toList == [109, 97, 110, 105, 102, 101, 115, 116, 45]) = true := by rw [ext_take, hp]; rfl
      have HP := Lib.hid hp
      have HL := Lib.hid hl
      clear hp hl
      go_enter Tryz.func25, Tryz.ntmps25
      go_wp2
      go_loopw [6, 7] (fun vn vi wr => ∃ (k a : Nat), vn = .int .u64 a ∧ vi = .int .i64 k ∧ wr = w ∧ Hid (NI s.data.toList k a)) (fun _ vi _ => (21 - RowKit.intOf vi).toNat)
      case atStart => exact ⟨9, 0, rfl, rfl, rfl, ⟨by omega, by omega, by simp, rfl, rfl⟩⟩
      case round =>
        obtain ⟨k, a, rfl, rfl, rfl, HI⟩ := hrel
        by_cases hlt : k < 21
        · have hkI : (k : Int) < 21 := by omega
          have hks : k < s.size := by omega
          have hc256 : s[k].toNat < 256 := UInt8.toNat_lt _
          by_cases hd1 : s[k].toNat < 48
          · have hd1I : ((s[k].toNat : Nat) : Int) < 48 := by omega
            go_wp2
            go_ret2
            rw [HI.out.bad (drop_at s k hks) (dg_no (.inl hd1))]
            exact ⟨rfl, rfl⟩
          · by_cases hd2 : 57 < s[k].toNat
            · have hd1I : ¬ ((s[k].toNat : Nat) : Int) < 48 := by omega
              have hd2I : (57 : Int) < ((s[k].toNat : Nat) : Int) := by omega
              go_wp2
              go_ret2
              rw [HI.out.bad (drop_at s k hks) (dg_no (.inr hd2))]
              exact ⟨rfl, rfl⟩
            · have hd1I : ¬ ((s[k].toNat : Nat) : Int) < 48 := by omega
              have hd2I : ¬ (57 : Int) < ((s[k].toNat : Nat) : Int) := by omega
              go_wp2
              have hst := HI.out.step hlt (drop_at s k hks) (dg_yes hd1 hd2)
              have hlt12 := HI.out.lt
              refine ⟨⟨k + 1, a * 10 + (s[k].toNat - 48), ?_, rfl, trivial, hst⟩, by simp [RowKit.intOf]; omega⟩
              rw [IntKind.wrap_u64, IntKind.wrap_u64]
              congr 1
              omega
        · have hkI : ¬ (k : Int) < 21 := by omega
          go_wp2
          go_ret2
          rw [HI.out.done hlt (HL.out.trans h16) HP.out]
          exact ⟨rfl, rfl⟩
    · have hpb : ((s.extract 0 9).toList == [109, 97, 110, 105, 102, 101, 115, 116, 45]) = false := by
        rw [ext_take]
        exact beq_eq_false_iff_ne.2 hp
      have hS : segP s.data.toList = (0, false) := by unfold segP; rw [if_neg (fun h => hp h.2.1)]
      rw [hS]
      clear hp hl
      go_enter Tryz.func25, Tryz.ntmps25
      go_wp2
      go_ret2
      exact ⟨rfl, rfl⟩
  · have h16I : ¬ (s.size : Int) = 21 := by omega
    have hS : segP s.data.toList = (0, false) := by unfold segP; rw [if_neg (fun h => h16 (hl ▸ h.1))]
    rw [hS]
    have hb : ((s.size : Int) != 21) = true := by simpa using h16I
    clear hl
    go_enter Tryz.func25, Tryz.ntmps25
    go_wp2
    go_ret2
    exact ⟨rfl, rfl⟩
end Go.Proofs.YtnnficmkdahpjaaGreatDoor
