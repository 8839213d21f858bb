/- HTTP: strings.SplitSeq's iterator, walked: its box of what is left turns; what the caller holds abides that. -/
import Derived.Test.YtdfgnoflohfnmaaGreatDoorH9
import Derived.Test.YtdfgnoflohfnmaaGreatDoorH2
import Derived.RangeFuncNested
import Derived.RangeFuncBound
import Derived.RangeFuncCalls
import Derived.RangeFuncLeaves
import Derived.Shelf.Abstract
import Derived.Shelf.RegionOpen
import Derived.OwnWalkIn
import Derived.TacticsInMore
import Derived.LoopNIn
import Derived.LoopIn
import Derived.Test.YtdfgnoflohfnmaaGreatDoorHd
namespace Go.Proofs.YtdfgnoflohfnmaaGreatDoor.Hx
open Go.RowKit Go.Maps Go.Shelf

attribute [local go_sem] Oper.semAt_some
theorem split_len (c : UInt8) : ∀ (n : Nat) (s : Bs), s.length ≤ n → 1 ≤ (Lib.split s [c]).length ∧ (Lib.split s [c]).length ≤ s.length + 1
  | 0, s, h => by
    have : s = [] := List.length_eq_zero_iff.mp (by omega)
    subst this
    rw [split_cut, cut_miss (by rcases idx_cases ([] : Bs) c with h | ⟨i, _, h⟩; exact h; simp at h)]
    simp
  | n + 1, s, h => by
    rcases idx_cases s c with hk | ⟨i, hk, hi⟩
    · rw [split_cut, cut_miss hk]; simp
    · rw [split_cut, cut_hit hk]
      have := split_len c n (s.drop (i + 1)) (by rw [List.length_drop]; omega)
      rw [List.length_drop] at this
      simp only [if_true, List.length_cons]
      omega
/-- how long is the text in a box? -/
def boxLen (B : Nat) (W : World) : Nat := match W.cell? ⟨B, 0, none⟩ with | some (.string c) => c.size | _ => 0
theorem boxLen_eq {B : Nat} {W : World} {c : ByteArray} (h : W.cell? ⟨B, 0, none⟩ = some (.string c)) : boxLen B W = c.size := by unfold boxLen; rw [h]
set_option maxRecDepth 100000 in
set_option maxHeartbeats 2000000 in
theorem seq_in (n : Nat) (hn : 3 ≤ n) (l Bp Bs_ Bv : Nat) (s : ByteArray) (m : Int) (J : List Bs → World → Prop)
    (hJ : ∀ pre W, J pre W → W.cell? ⟨Bp, 0, none⟩ = some (.string ⟨#[38]⟩) ∧ W.cell? ⟨Bv, 0, none⟩ = some (.int .i64 0) ∧ MX W m ∧ W.frozen? ⟨Bs_, 0, none⟩ = false)
    (hJs : ∀ pre W v, J pre W → J pre (W.setCell ⟨Bs_, 0, none⟩ v))
    (hY : ∀ pre (x : ByteArray) W, J pre W → pre.length ≤ s.size → (∀ c ∈ x.data.toList, c ∈ s.data.toList) → x.size ≤ s.size → YieldAt Fence.wide (n - 1) Tryz.prog l #[.string x] W fun e W' => e = .returned (.bool true) ∧ J (pre ++ [x.data.toList]) W' ∧ W'.cell? ⟨Bs_, 0, none⟩ = W.cell? ⟨Bs_, 0, none⟩)
    (hsz : s.size ≤ 2000000) (W : World) (hc : W.cell? ⟨Bs_, 0, none⟩ = some (.string s)) (h0 : J [] W) :
    CallsIn Fence.wide n Tryz.prog 99 #[.func (.yield l) #[] #[], .pointer (some ⟨Bp, 0, none⟩), .pointer (some ⟨Bs_, 0, none⟩), .pointer (some ⟨Bv, 0, none⟩)] W fun e W' => (∃ v, e = .returned v) ∧ J (Lib.split s.data.toList [38]) W' := by
  obtain ⟨p0, v0, m0, f0⟩ := hJ _ _ h0
  have h1 : 1 ≤ n := by omega
  refine callsIn_of_wp Tryz.func99 rfl trivial ?_ rfl
  simp only [Tryz.ntmps99, List.size_toArray, List.length_cons, List.length_nil, Nat.reduceAdd, Nat.reduceSub, Array.replicate_succ, Array.replicate_zero, List.push_toArray, List.append_toArray, List.nil_append, List.cons_append]
  gi_wp2
  gi_loopw [7, 8] (fun _u7 _u8 wr => ∃ (pre : List Bs) (cur : ByteArray), Lib.split s.data.toList [38] = pre ++ Lib.split cur.data.toList [38] ∧ wr.cell? ⟨Bs_, 0, none⟩ = some (.string cur) ∧ (∀ c ∈ cur.data.toList, c ∈ s.data.toList) ∧ cur.size ≤ s.size ∧ J pre wr)
    (fun _u7 _u8 wr => boxLen Bs_ wr)
  case atStart => exact ⟨[], s, rfl, hc, fun _ h => h, Nat.le_refl _, h0⟩
  case round =>
    obtain ⟨pre, cur, hsp, hcur, hsub, hle, hJp⟩ := hrel
    obtain ⟨p1, v1, m1, f1⟩ := hJ _ _ hJp
    have hpl : pre.length ≤ s.size := by
      have h1 := (split_len 38 _ s.data.toList (Nat.le_refl _)).2
      have h2 := (split_len 38 _ cur.data.toList (Nat.le_refl _)).1
      have h3 : s.data.toList.length = s.size := Array.length_toList
      rw [hsp, List.length_append] at h1
      omega
    have hcz : cur.data.toList.length = cur.size := Array.length_toList
    rcases idx_cases cur.data.toList 38 with hk | ⟨i, hk, hi⟩
    · have hcut := cut_miss hk
      have hsp2 : Lib.split cur.data.toList [38] = [cur.data.toList] := by rw [split_cut, hcut]; rfl
      have hix : CallsIn Fence.wide (n - 1) Tryz.prog 101 #[.string cur, .string ⟨#[38]⟩] wr fun e w' => e = .returned (.int .i64 (-1)) ∧ w' = wr := callsIn_wide.2 (by
        have := Tryz.strings_Index cur ⟨#[38]⟩ m wr (by omega) m1
        rw [show (⟨#[38]⟩ : ByteArray).data.toList = [38] from rfl, hk] at this
        exact this)
      obtain ⟨fn, tmps, assign, body, hy, hR⟩ := hY pre cur wr hJp hpl hsub hle
      gi_wp2_with (refine ⟨trivial, ?_⟩; gi_at_call 101; refine hix.mono ?_; rintro e w1 ⟨rfl, rfl⟩)
      refine hR.mono ?_
      rintro e W3 ⟨rfl, hJ3, _⟩
      gi_wp2
      go_end0
      refine ⟨⟨_, rfl⟩, ?_⟩
      rw [hsp, hsp2]
      exact hJ3
    · have hcut := cut_hit hk
      have hsp2 : Lib.split cur.data.toList [38] = cur.data.toList.take i :: Lib.split (cur.data.toList.drop (i + 1)) [38] := by rw [split_cut, hcut]; rfl
      have hix : CallsIn Fence.wide (n - 1) Tryz.prog 101 #[.string cur, .string ⟨#[38]⟩] wr fun e w' => e = .returned (.int .i64 (i : Int)) ∧ w' = wr := callsIn_wide.2 (by
        have := Tryz.strings_Index cur ⟨#[38]⟩ m wr (by omega) m1
        rw [show (⟨#[38]⟩ : ByteArray).data.toList = [38] from rfl, hk] at this
        exact this)
      have hx1 : (cur.extract 0 i).data.toList = cur.data.toList.take i := by simp
      have hx2 : (cur.extract (i + 1) cur.size).data.toList = cur.data.toList.drop (i + 1) := Lib.extract_to_end _ _
      have i0 : ¬ (i : Int) < 0 := by omega
      have i1 : (i : Int) ≤ (cur.size : Int) := by omega
      have i2 : (i : Int) + 1 ≤ (cur.size : Int) := by omega
      have hw := wrap64_id (x := (i : Int)) (by omega) (by omega)
      have hw2 := wrap64_id (x := (i : Int) + 1) (by omega) (by omega)
      obtain ⟨fn, tmps, assign, body, hy, hR⟩ := hY pre (cur.extract 0 i) wr hJp hpl (fun c hc => hsub c (List.mem_of_mem_take (by rw [hx1] at hc; exact hc))) (by have : (cur.extract 0 i).size = (cur.extract 0 i).data.toList.length := Array.length_toList.symm; rw [this, hx1, List.length_take]; omega)
      gi_wp2_with (refine ⟨trivial, ?_⟩; gi_at_call 101; refine hix.mono ?_; rintro e w1 ⟨rfl, rfl⟩)
      refine hR.mono ?_
      rintro e W3 ⟨rfl, hJ3, hc3⟩
      obtain ⟨p3, v3, m3, f3⟩ := hJ _ _ hJ3
      have hc3' := hc3.trans hcur
      have hc4 := World.cell?_setCell_same' W3 ⟨Bs_, 0, none⟩ (.string (cur.extract (i + 1) cur.size)) (by rw [hc3']; rfl)
      have hx2s : (cur.extract (i + 1) cur.size).size = cur.size - (i + 1) := by
        have : (cur.extract (i + 1) cur.size).size = (cur.extract (i + 1) cur.size).data.toList.length := Array.length_toList.symm
        rw [this, hx2, List.length_drop, hcz]
      have hJ4 := hJs _ _ (.string (cur.extract (i + 1) cur.size)) hJ3
      gi_wp2
      go_roundw
      case rel =>
        refine ⟨pre ++ [(cur.extract 0 i).data.toList], cur.extract (i + 1) cur.size, ?_, hc4, ?_, by omega, hJ4⟩
        · rw [hsp, hsp2, hx1, hx2]; simp
        · intro c hc; rw [hx2] at hc; exact hsub c (List.mem_of_mem_drop hc)
      case measure => rw [boxLen_eq hc4, boxLen_eq hcur, hx2s]; omega
end Go.Proofs.YtdfgnoflohfnmaaGreatDoor.Hx
/-! HTTP: a request's body: the ways joined. -/
namespace Go.Proofs.YtdfgnoflohfnmaaGreatDoor.Hx
open Go.RowKit Go.Maps

set_option maxRecDepth 100000 in
set_option maxHeartbeats 3200000 in
theorem body_full (R : Nat) (b o c : Nat) (bs : Bs) (σ : RS) (w : World) (h : RB w R (.slice (some ⟨b, o, none⟩) bs.length c) σ) (hc : bs.length ≤ c) (hci : c = σ.i) (hi : σ.i ≤ bs.length) (hl : bs.length ≤ 2000000)
    (k : Nat) (hm : max 0 σ.l = (k : Int)) (hb : ¬ (262144 : Int) < (k : Int)) (hk : ¬ bs.length < σ.i + k) :
    Calls Tryz.prog 91 #[.pointer (some ⟨R, 0, none⟩)] w (BK R (.slice (some ⟨b, o, none⟩) bs.length c) w bs σ) := by
  have c0 := h.c0
  have c1 := h.c1
  have c8 := h.c8
  obtain rfl : k = 0 := by clear hm hb; omega
  have i2 : (σ.i : Int) ≤ (c : Int) := by clear hm hb; omega
  have hw4 : IntKind.i64.wrap (σ.i : Int) = (σ.i : Int) := wrap_id (by omega) (by clear hm hb; omega)
  have hw5 : wrap64 (σ.i : Int) = (σ.i : Int) := wrap64_id (by omega) (by clear hm hb; omega)
  have hkn : ((bs.drop σ.i).take 0).length = 0 := rfl
  have hRn : some R ≠ (none : Option Nat) := by simp
  obtain ⟨hk', hw, hw2, hw3, i0, i1, hk2⟩ := body_nums hi hl hk
  have hm0 := hm
  obtain ⟨l, hsl⟩ : ∃ l, σ.l = l := ⟨_, rfl⟩
  rw [hsl] at c8 hm
  have hm0 := Lib.hid hm0
  have hkh := Lib.hid hk
  have hbh := Lib.hid hb
  clear hk
  have hsl := Lib.hid hsl
  have hcl := fun (n : Nat) (W : World) (hW : W = w.drewN n) => Lib.hid (clone_any (.slice (some ⟨b, o, none⟩) 0 0) ((bs.drop σ.i).take 0) W ⟨_, _, rfl, Nat.le_refl _, fun h => absurd rfl h⟩ (by rw [hkn]; omega))
  subst hci
  clear hc hl hi
  go_enter Tryz.func91, Tryz.ntmps91
  go_wp2_with fail
  clear hb
  go_quiet (fail)
  go_upto_region 6 with fail
  clear hk' hw hm
  go_cut [] from 25 to 44 (fun wx => ∃ (A2 : Option Addr) (c2 b2 : Nat), RB wx R (.slice (some ⟨b, o, none⟩) bs.length σ.i) { σ with bv := (.slice A2 0 c2) } ∧ Hid (BF wx (.slice A2 0 c2) b2 ((bs.drop σ.i).take 0)) ∧ w.heap.size ≤ b2 ∧ w.grownBy wx (some R))
  case first =>
    go_region_with (first
      | (go_at_call 47; refine ((hcl _ _ rfl).out).mono ?_; rintro e w2 ⟨v, b2, rfl, hv, hb2, g2⟩; obtain ⟨A2, c2, rfl, hc2⟩ := hv.shape; rw [hkn] at hv; have h2 := (h.drewN _).kept g2 hRn; have f6 := h2.f 6; have x6 := h2.c6))
    all_goals
      have hb3 : w.heap.size ≤ b2 := by simpa using hb2
      have hRb : b2 ≠ R := by have := h.lt; omega
      go_wp2_with fail
      go_meet
      exact ⟨A2, c2, b2, h2.set6 _, bf_set hv hRb 6 _, hb3, gb_setR (gb_row (gb_trans (gb_drewN (gb_refl _ _) _) g2) _) _ _⟩
  case rest =>
  obtain ⟨A2, c2, b2, h3, hv, hb3, g3⟩ := hcut
  have hRb : b2 ≠ R := by have := h.lt; omega
  have c1b := h3.c1
  have f1b := h3.f 1
  have h4 := h3.set1 (σ.i + 0)
  rw [Nat.add_zero] at h4
  have f10 := h4.f 10
  have c10 := h4.c10
  have h5 := Lib.hid (h4.set10 true)
  clear h4 hcl c0 c1 c8 h
  go_wp2_with fail
  go_ret
  refine BK.of_got hm0 hbh hkh ⟨_, b2, bf_set (bf_set hv.out hRb 1 _) hRb 10 _, hb3, rfl, h5.out, gb_setR (gb_setR g3 _ _) _ _⟩
/-- a body -/
theorem body_any (R : Nat) (bw : Value) (bs : Bs) (σ : RS) (w : World) (h : RB w R bw σ) (hB : RV w R bw bs) (h0 : bs ≠ []) (hi : σ.i ≤ bs.length) (hl : bs.length ≤ 2000000) :
    Calls Tryz.prog 91 #[.pointer (some ⟨R, 0, none⟩)] w (BK R bw w bs σ) := by
  rcases hB with ⟨_, h1⟩ | ⟨b, o, c, rfl, hc, hb, ha⟩
  · exact absurd h1 h0
  · by_cases hbig : 262144 < max 0 σ.l
    · exact body_big R _ bs σ w h hbig
    · by_cases hk : bs.length < σ.i + (max 0 σ.l).toNat
      · exact body_more R _ c bs σ w h hi hl hbig hk
      · obtain ⟨k, hm⟩ : ∃ k : Nat, max 0 σ.l = (k : Int) := ⟨(max 0 σ.l).toNat, by omega⟩
        rw [hm] at hbig hk
        rw [Int.toNat_natCast] at hk
        by_cases hci : c = σ.i
        · exact body_full R b o c bs σ w h hc hci hi hl k hm hbig hk
        · exact body_room R b o c bs σ w h ha hc hci hi hl k hm hbig hk
end Go.Proofs.YtdfgnoflohfnmaaGreatDoor.Hx

/-! HTTP: a connection's block; New, none, Over, Left, Feed. -/
namespace Go.Proofs.YtdfgnoflohfnmaaGreatDoor.Hx
open Go.RowKit Go.Maps

/-- a connection's block -/
def CB (w : World) (C : Nat) (bw : Value) (ov : Bool) : Prop := w.heap[C]? = some (.cells #[.bool true, bw, .bool ov] 62 (0, 0))
section
variable {w w' : World} {C : Nat} {bw : Value} {ov : Bool}
theorem CB.lt (h : CB w C bw ov) : C < w.heap.size := (Array.getElem?_eq_some_iff.1 h).1
theorem CB.c0 (h : CB w C bw ov) : w.cell? ⟨C, 0, none⟩ = some (.bool true) := by rw [cell_of_row w C 0 _ _ _ h]; rfl
theorem CB.c1 (h : CB w C bw ov) : w.cell? ⟨C, 1, none⟩ = some bw := by rw [cell_of_row w C 1 _ _ _ h]; rfl
theorem CB.c2 (h : CB w C bw ov) : w.cell? ⟨C, 2, none⟩ = some (.bool ov) := by rw [cell_of_row w C 2 _ _ _ h]; rfl
theorem CB.f (h : CB w C bw ov) (i : Nat) : w.frozen? ⟨C, i, none⟩ = false := by unfold CB at h; simp [World.frozen?, h]
theorem CB.set1 (h : CB w C bw ov) (q : Value) : CB (w.setCell ⟨C, 1, none⟩ q) C q ov := by unfold CB at h ⊢; simp [World.setCell, Array.getElem?_modify, h]
theorem CB.set2 (h : CB w C bw ov) (q : Bool) : CB (w.setCell ⟨C, 2, none⟩ (.bool q)) C bw q := by unfold CB at h ⊢; simp [World.setCell, Array.getElem?_modify, h]
theorem CB.drewN (h : CB w C bw ov) (n : Nat) : CB (w.drewN n) C bw ov := h
theorem CB.kept (h : CB w C bw ov) {row : Option Nat} (hg : w.grownBy w' row) (hne : some C ≠ row) : CB w' C bw ov := (hg.block C h.lt hne).trans h
theorem CB.gt (h : CB w C bw ov) {T : Nat → Prop} (hg : GT w w' T) (hne : ¬ T C) : CB w' C bw ov := (hg.block C h.lt hne).trans h
theorem CB.alloc (h : CB w C bw ov) (o : Obj) : CB (w.alloc o) C bw ov := (Below.heap_alloc w o C h.lt).trans h
end
theorem none_any (C : Nat) (bw : Value) (ov : Bool) (w : World) (h : CB w C bw ov) : Calls Tryz.prog 34 #[.pointer (some ⟨C, 0, none⟩)] w fun e w' => e = .returned (.bool false) ∧ w' = w := by
  have c0 := h.c0
  go_enter Tryz.func34, Tryz.ntmps34
  go_wp2_with fail
  go_ret
  exact ⟨rfl, rfl⟩
theorem over_any (C : Nat) (bw : Value) (ov : Bool) (w : World) (h : CB w C bw ov) : Calls Tryz.prog 11 #[.pointer (some ⟨C, 0, none⟩)] w fun e w' => e = .returned (.bool ov) ∧ w' = w := by
  have c2 := h.c2
  have hn := fun W (hW : W = w) => Lib.hid (none_any C bw ov W (hW ▸ h))
  go_enter Tryz.func11, Tryz.ntmps11
  go_wp2_with (first
    | (go_at_call 34; refine ((hn _ rfl).out).mono ?_; rintro e w1 ⟨rfl, rfl⟩))
  go_ret
  exact ⟨rfl, rfl⟩
/-- what Feed leaves -/
def FeK (C : Nat) (b : Nat) (_bw : Value) (ov : Bool) (bs news : Bs) (w : World) (e : Ending) (w' : World) : Prop :=
  if ov then e = .returned (.int .i64 10) ∧ w' = w
  else if 1048576 < bs.length + news.length then e = .returned (.int .i64 3) ∧ w' = w
  else e = .returned (.int .i64 0) ∧ ∃ v b', CB w' C v false ∧ BF w' v b' (bs ++ news) ∧ GT w w' (fun x => x = C ∨ x = b) ∧ (b' = b ∨ w.heap.size ≤ b')
theorem feed_nums {n m : Nat} (hn : n ≤ 1048576) (_hm : m ≤ 1000000) : wrap64 ((1048576 : Int) - (n : Int)) = 1048576 - (n : Int) := wrap64_id (by omega) (by omega)
set_option maxHeartbeats 3200000 in
theorem feed_any (C b : Nat) (bw : Value) (ov : Bool) (bs news : Bs) (x : Value) (w : World) (h : CB w C bw ov) (hB : BF w bw b bs) (hbC : b ≠ C) (hx : BV w x news) (hn : bs.length ≤ 1048576) (hm : news.length ≤ 1000000) :
    Calls Tryz.prog 9 #[.pointer (some ⟨C, 0, none⟩), x] w (FeK C b bw ov bs news w) := by
  obtain ⟨A, c, rfl, hc⟩ := hB.shape
  obtain ⟨X, xc, rfl, hxc, hx'⟩ := hx
  have hx : BV w (.slice X news.length xc) news := ⟨X, xc, rfl, hxc, hx'⟩
  clear hx'
  have c1 := h.c1
  have f1 := h.f 1
  have c2 := h.c2
  have hno := fun W (hW : W = w) => Lib.hid (none_any C _ ov W (hW ▸ h))
  have hw := feed_nums hn hm
  have hCl := h.lt
  cases ov with
  | true =>
    go_enter Tryz.func9, Tryz.ntmps9
    go_wp2_with (first
      | (go_at_call 34; refine ((hno _ rfl).out).mono ?_; rintro e w1 ⟨rfl, rfl⟩))
    go_ret
    unfold FeK
    rw [if_pos rfl]
    exact ⟨rfl, rfl⟩
  | false =>
    by_cases hbig : 1048576 < bs.length + news.length
    · have hb1 : (1048576 : Int) - (bs.length : Int) < (news.length : Int) := by omega
      have hbh := Lib.hid hbig
      go_enter Tryz.func9, Tryz.ntmps9
      go_wp2_with (first
        | (go_at_call 34; refine ((hno _ rfl).out).mono ?_; rintro e w1 ⟨rfl, rfl⟩))
      go_ret
      unfold FeK
      rw [if_neg (show ¬ false = true from by decide), if_pos hbh.out]
      exact ⟨rfl, rfl⟩
    · have hb1 : ¬ (1048576 : Int) - (bs.length : Int) < (news.length : Int) := by omega
      have hbh := Lib.hid hbig
      have hsm : bs.length + news.length ≤ 1000000000 := by omega
      clear hbig
      go_enter Tryz.func9, Tryz.ntmps9
      go_wp2_with (first
        | (go_at_call 34; refine ((hno _ rfl).out).mono ?_; rintro e w0 ⟨rfl, hw0⟩; rw [hw0]; clear hw0)
        | (refine wpList_append_bf rfl _ _ rfl rfl rfl hB hx hsm ?_; intro v w1 b1 h1 g1 hb1; obtain ⟨A1, k1, rfl, hk1⟩ := h1.shape; have hla := @List.length_append _ bs news; have h2 := h.kept g1 (by simpa using hbC.symm); have f1' := h2.f 1; have c1' := h2.c1))
      go_ret
      have hb1C : b1 ≠ C := by
        rcases hb1 with e | e
        · rw [e]; exact hbC
        · omega
      unfold FeK
      rw [if_neg (show ¬ false = true from by decide), if_neg hbh.out]
      refine ⟨rfl, _, b1, h2.set1 _, ?_, (GT.of_some g1 (.inr rfl)).gb (gb_setR (gb_refl _ _) _ _) (fun x _ e => .inl (Option.some.inj e).symm), hb1⟩
      rw [← hla]
      exact h1.grown (gb_setR (gb_refl _ _) _ _) (by simpa using hb1C)
end Go.Proofs.YtdfgnoflohfnmaaGreatDoor.Hx
