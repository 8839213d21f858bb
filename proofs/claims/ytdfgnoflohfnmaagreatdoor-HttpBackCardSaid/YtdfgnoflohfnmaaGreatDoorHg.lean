/- HTTP: strings.SplitSeq's iterator, walked: its box of what is left turns; what the caller holds abides that. -/
import Derived.Test.YtdfgnoflohfnmaaGreatDoorH9
import Derived.Test.YtdfgnoflohfnmaaGreatDoorH2
import Derived.RangeFuncNested
import Derived.RangeFuncBound
import Derived.RangeFuncCalls
import Derived.RangeFuncLeaves
import Derived.Shelf.Abstract
import Derived.Shelf.RegionOpen
import Derived.OwnWalkIn
import Derived.TacticsInMore
import Derived.LoopNIn
import Derived.LoopIn
namespace Go.Proofs.YtdfgnoflohfnmaaGreatDoor.Hx
open Go.RowKit Go.Maps Go.Shelf

attribute [local go_sem] Oper.semAt_some
theorem split_len (c : UInt8) : ∀ (n : Nat) (s : Bs), s.length ≤ n → 1 ≤ (Lib.split s [c]).length ∧ (Lib.split s [c]).length ≤ s.length + 1
  | 0, s, h => by
    have : s = [] := List.length_eq_zero_iff.mp (by omega)
    subst this
    rw [split_cut, cut_miss (by rcases idx_cases ([] : Bs) c with h | ⟨i, _, h⟩; exact h; simp at h)]
    simp
  | n + 1, s, h => by
    rcases idx_cases s c with hk | ⟨i, hk, hi⟩
    · rw [split_cut, cut_miss hk]; simp
    · rw [split_cut, cut_hit hk]
      have := split_len c n (s.drop (i + 1)) (by rw [List.length_drop]; omega)
      rw [List.length_drop] at this
      simp only [if_true, List.length_cons]
      omega
/-- how long is the text in a box? -/
def boxLen (B : Nat) (W : World) : Nat := match W.cell? ⟨B, 0, none⟩ with | some (.string c) => c.size | _ => 0
theorem boxLen_eq {B : Nat} {W : World} {c : ByteArray} (h : W.cell? ⟨B, 0, none⟩ = some (.string c)) : boxLen B W = c.size := by unfold boxLen; rw [h]
set_option maxRecDepth 100000 in
set_option maxHeartbeats 2000000 in
theorem seq_in (n : Nat) (hn : 3 ≤ n) (l Bp Bs_ Bv : Nat) (s : ByteArray) (m : Int) (J : List Bs → World → Prop)
    (hJ : ∀ pre W, J pre W → W.cell? ⟨Bp, 0, none⟩ = some (.string ⟨#[38]⟩) ∧ W.cell? ⟨Bv, 0, none⟩ = some (.int .i64 0) ∧ MX W m ∧ W.frozen? ⟨Bs_, 0, none⟩ = false)
    (hJs : ∀ pre W v, J pre W → J pre (W.setCell ⟨Bs_, 0, none⟩ v))
    (hY : ∀ pre (x : ByteArray) W, J pre W → pre.length ≤ s.size → (∀ c ∈ x.data.toList, c ∈ s.data.toList) → x.size ≤ s.size → YieldAt Fence.wide (n - 1) Tryz.prog l #[.string x] W fun e W' => e = .returned (.bool true) ∧ J (pre ++ [x.data.toList]) W' ∧ W'.cell? ⟨Bs_, 0, none⟩ = W.cell? ⟨Bs_, 0, none⟩)
    (hsz : s.size ≤ 2000000) (W : World) (hc : W.cell? ⟨Bs_, 0, none⟩ = some (.string s)) (h0 : J [] W) :
    CallsIn Fence.wide n Tryz.prog 99 #[.func (.yield l) #[] #[], .pointer (some ⟨Bp, 0, none⟩), .pointer (some ⟨Bs_, 0, none⟩), .pointer (some ⟨Bv, 0, none⟩)] W fun e W' => (∃ v, e = .returned v) ∧ J (Lib.split s.data.toList [38]) W' := by
  obtain ⟨p0, v0, m0, f0⟩ := hJ _ _ h0
  have h1 : 1 ≤ n := by omega
  refine callsIn_of_wp Tryz.func99 rfl trivial ?_ rfl
  simp only [Tryz.ntmps99, List.size_toArray, List.length_cons, List.length_nil, Nat.reduceAdd, Nat.reduceSub, Array.replicate_succ, Array.replicate_zero, List.push_toArray, List.append_toArray, List.nil_append, List.cons_append]
  gi_wp2
  gi_loopw [7, 8] (fun _u7 _u8 wr => ∃ (pre : List Bs) (cur : ByteArray), Lib.split s.data.toList [38] = pre ++ Lib.split cur.data.toList [38] ∧ wr.cell? ⟨Bs_, 0, none⟩ = some (.string cur) ∧ (∀ c ∈ cur.data.toList, c ∈ s.data.toList) ∧ cur.size ≤ s.size ∧ J pre wr)
    (fun _u7 _u8 wr => boxLen Bs_ wr)
  case atStart => exact ⟨[], s, rfl, hc, fun _ h => h, Nat.le_refl _, h0⟩
  case round =>
    obtain ⟨pre, cur, hsp, hcur, hsub, hle, hJp⟩ := hrel
    obtain ⟨p1, v1, m1, f1⟩ := hJ _ _ hJp
    have hpl : pre.length ≤ s.size := by
      have h1 := (split_len 38 _ s.data.toList (Nat.le_refl _)).2
      have h2 := (split_len 38 _ cur.data.toList (Nat.le_refl _)).1
      have h3 : s.data.toList.length = s.size := Array.length_toList
      rw [hsp, List.length_append] at h1
      omega
    have hcz : cur.data.toList.length = cur.size := Array.length_toList
    rcases idx_cases cur.data.toList 38 with hk | ⟨i, hk, hi⟩
    · have hcut := cut_miss hk
      have hsp2 : Lib.split cur.data.toList [38] = [cur.data.toList] := by rw [split_cut, hcut]; rfl
      have hix : CallsIn Fence.wide (n - 1) Tryz.prog 101 #[.string cur, .string ⟨#[38]⟩] wr fun e w' => e = .returned (.int .i64 (-1)) ∧ w' = wr := callsIn_wide.2 (by
        have := Tryz.strings_Index cur ⟨#[38]⟩ m wr (by omega) m1
        rw [show (⟨#[38]⟩ : ByteArray).data.toList = [38] from rfl, hk] at this
        exact this)
      obtain ⟨fn, tmps, assign, body, hy, hR⟩ := hY pre cur wr hJp hpl hsub hle
      gi_wp2_with (refine ⟨trivial, ?_⟩; gi_at_call 101; refine hix.mono ?_; rintro e w1 ⟨rfl, rfl⟩)
      refine hR.mono ?_
      rintro e W3 ⟨rfl, hJ3, _⟩
      gi_wp2
      go_end0
      refine ⟨⟨_, rfl⟩, ?_⟩
      rw [hsp, hsp2]
      exact hJ3
    · have hcut := cut_hit hk
      have hsp2 : Lib.split cur.data.toList [38] = cur.data.toList.take i :: Lib.split (cur.data.toList.drop (i + 1)) [38] := by rw [split_cut, hcut]; rfl
      have hix : CallsIn Fence.wide (n - 1) Tryz.prog 101 #[.string cur, .string ⟨#[38]⟩] wr fun e w' => e = .returned (.int .i64 (i : Int)) ∧ w' = wr := callsIn_wide.2 (by
        have := Tryz.strings_Index cur ⟨#[38]⟩ m wr (by omega) m1
        rw [show (⟨#[38]⟩ : ByteArray).data.toList = [38] from rfl, hk] at this
        exact this)
      have hx1 : (cur.extract 0 i).data.toList = cur.data.toList.take i := by simp
      have hx2 : (cur.extract (i + 1) cur.size).data.toList = cur.data.toList.drop (i + 1) := Lib.extract_to_end _ _
      have i0 : ¬ (i : Int) < 0 := by omega
      have i1 : (i : Int) ≤ (cur.size : Int) := by omega
      have i2 : (i : Int) + 1 ≤ (cur.size : Int) := by omega
      have hw := wrap64_id (x := (i : Int)) (by omega) (by omega)
      have hw2 := wrap64_id (x := (i : Int) + 1) (by omega) (by omega)
      obtain ⟨fn, tmps, assign, body, hy, hR⟩ := hY pre (cur.extract 0 i) wr hJp hpl (fun c hc => hsub c (List.mem_of_mem_take (by rw [hx1] at hc; exact hc))) (by have : (cur.extract 0 i).size = (cur.extract 0 i).data.toList.length := Array.length_toList.symm; rw [this, hx1, List.length_take]; omega)
      gi_wp2_with (refine ⟨trivial, ?_⟩; gi_at_call 101; refine hix.mono ?_; rintro e w1 ⟨rfl, rfl⟩)
      refine hR.mono ?_
      rintro e W3 ⟨rfl, hJ3, hc3⟩
      obtain ⟨p3, v3, m3, f3⟩ := hJ _ _ hJ3
      have hc3' := hc3.trans hcur
      have hc4 := World.cell?_setCell_same' W3 ⟨Bs_, 0, none⟩ (.string (cur.extract (i + 1) cur.size)) (by rw [hc3']; rfl)
      have hx2s : (cur.extract (i + 1) cur.size).size = cur.size - (i + 1) := by
        have : (cur.extract (i + 1) cur.size).size = (cur.extract (i + 1) cur.size).data.toList.length := Array.length_toList.symm
        rw [this, hx2, List.length_drop, hcz]
      have hJ4 := hJs _ _ (.string (cur.extract (i + 1) cur.size)) hJ3
      gi_wp2
      go_roundw
      case rel =>
        refine ⟨pre ++ [(cur.extract 0 i).data.toList], cur.extract (i + 1) cur.size, ?_, hc4, ?_, by omega, hJ4⟩
        · rw [hsp, hsp2, hx1, hx2]; simp
        · intro c hc; rw [hx2] at hc; exact hsub c (List.mem_of_mem_drop hc)
      case measure => rw [boxLen_eq hc4, boxLen_eq hcur, hx2s]; omega
end Go.Proofs.YtdfgnoflohfnmaaGreatDoor.Hx
