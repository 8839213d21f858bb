/- HTTP: a status' reason, on both sides. -/
import Derived.Test.YtdfgnoflohfnmaaGreatDoorHd
import Derived.Test.YtdfgnoflohfnmaaGreatDoorH5
import Derived.Deep.AppendSrc
import Derived.Deep.RegionHeld3
namespace Go.Proofs.YtdfgnoflohfnmaaGreatDoor.Hx
open Go.RowKit Go.Maps

/-- a map's entries, as they were put -/
def ents : List (Int × Value) → Nat → List MapEntry
  | [], _ => []
  | (k, v) :: t, i => ⟨.int .i64 k, v, i⟩ :: ents t (i + 1)
def lk (n : Int) : List (Int × Value) → Option Value
  | [] => none
  | (k, v) :: t => if n = k then some v else lk n t
theorem ents_app (k : Int) (v : Value) : ∀ (l : List (Int × Value)) (i : Nat), ents (l ++ [(k, v)]) i = ents l i ++ [⟨.int .i64 k, v, i + l.length⟩]
  | [], i => rfl
  | (k', v') :: t, i => by
    show _ :: ents (t ++ [(k, v)]) (i + 1) = _
    rw [ents_app k v t (i + 1), show i + 1 + t.length = i + ((k', v') :: t).length from by simp; omega]
    rfl
theorem find_ents (n : Int) : ∀ (l : List (Int × Value)) (j i : Nat), ∃ a, Instr.findNow (.int .i64) (.int .i64 n) (ents l j) i = some a ∧ a.map (·.2) = lk n l
  | [], _, _ => ⟨none, rfl, rfl⟩
  | (k, v) :: t, j, i => by
    by_cases h : n = k
    · subst h
      refine ⟨some (i, v), ?_, by unfold lk; rw [if_pos rfl]; rfl⟩
      simp [ents, Instr.findNow, Instr.sameNow]
    · obtain ⟨a, h1, h2⟩ := find_ents n t (j + 1) (i + 1)
      refine ⟨a, ?_, by unfold lk; rw [if_neg h]; exact h2⟩
      have hb : (n == k) = false := by simpa using h
      simp [ents, Instr.findNow, Instr.sameNow, hb, h1]
theorem upd_int {w : World} {r : Nat} {l : List (Int × Value)} {k : Int} {v : Value} (hb : w.heap[r]? = some (.map (ents l 0).toArray l.length)) (hn : lk k l = none) :
    (Instr.mapUpdate 101 (.map (some r)) (.int .i64 k) v).run Tryz.prog w = .ok () (setO w r (.map (ents (l ++ [(k, v)]) 0).toArray (l ++ [(k, v)]).length)) := by
  obtain ⟨a, h1, h2⟩ := find_ents k l 0 0
  rw [hn] at h2
  have h0 : a = none := by cases a; rfl; cases h2
  subst h0
  have e : (ents l 0).toArray.push ⟨.int .i64 k, v, l.length⟩ = (ents (l ++ [(k, v)]) 0).toArray := by rw [ents_app, Nat.zero_add]; simp
  simp [Instr.mapUpdate, run_underlying Tryz.underlying101, MapKept.run_getObj_map hb, MapKept.run_checkKey (k := .int .i64 k) Tryz.underlying3 rfl, MapKept.run_findKey Tryz.underlying3 h1, MapKept.run_setObj_map _ hb, Result.andThen, e]
theorem look_int {w : World} {r : Nat} {l : List (Int × Value)} {n : Int} {x : Option Value} (hb : w.heap[r]? = some (.map (ents l 0).toArray l.length)) (hx : lk n l = x) :
    (Instr.lookup 101 (.map (some r)) (.int .i64 n) true).run Tryz.prog w = .ok (.tuple #[x.getD (.string ⟨#[]⟩), .bool x.isSome]) w := by
  have hz : (zeroValue 9).run Tryz.prog w = .ok (.string ⟨#[]⟩) w := Tryz.zeroValue9 w
  obtain ⟨a, h1, h2⟩ := find_ents n l 0 0
  rw [hx] at h2
  have hff := MapKept.run_findKey (P := Tryz.prog) (w := w) Tryz.underlying3 h1
  simp only [Instr.lookup, Sem.run_bind, run_underlying Tryz.underlying101, MapKept.run_getObj_map hb, MapKept.run_checkKey (k := .int .i64 n) Tryz.underlying3 rfl, hff, Result.andThen, Sem.run_pure]
  cases a with
  | none => subst h2; simp [hz]
  | some p => obtain ⟨i, v⟩ := p; subst h2; simp
theorem ins_int {w : World} {ops : Array Oper} {rest : List Oper} {o : Oper} {a : Act} {Q : Exit → Act → World → Prop} {r : Nat} {l : List (Int × Value)} {k : Int} {v : Value} {mo x vo : Operand}
    (hg : o.guard = none) (hop : o.op = Op.insert 101 mo x vo) (hm : a.eval mo = .map (some r)) (hx : a.eval x = .int .i64 k) (hv : a.eval vo = v)
    (hb : w.heap[r]? = some (.map (ents l 0).toArray l.length)) (hn : lk k l = none)
    (hK : ∀ w', w'.heap[r]? = some (.map (ents (l ++ [(k, v)]) 0).toArray (l ++ [(k, v)]).length) → (∀ x : World, x.grownBy w none → x.heap.size ≤ r → x.grownBy w' none) → wpList Tryz.prog ops Q rest (a.put o.dst undef) w') : wpList Tryz.prog ops Q (o :: rest) a w :=
  ins_lit _ _ _ _ _ _ _ hg hop hm hx hv (upd_int hb hn) (hK _ (setO_at hb) (fun _ hx hr => gb_setO hx hr _))
theorem look_step {w : World} {ops : Array Oper} {rest : List Oper} {o : Oper} {a : Act} {Q : Exit → Act → World → Prop} {r : Nat} {l : List (Int × Value)} {n : Int} {x : Option Value} {mo ko : Operand}
    (hg : o.guard = none) (hop : o.op = Op.lookup 101 mo ko true) (hm : a.eval mo = .map (some r)) (hk : a.eval ko = .int .i64 n) (hb : w.heap[r]? = some (.map (ents l 0).toArray l.length)) (hx : lk n l = x)
    (hK : wpList Tryz.prog ops Q rest (a.put o.dst (.tuple #[x.getD (.string ⟨#[]⟩), .bool x.isSome])) w) : wpList Tryz.prog ops Q (o :: rest) a w := by
  refine wpList_plain hg fun K' hK' => ?_
  have := look_int hb hx
  unfold Oper.wp
  simp [execOp, hop, hm, hk, this, Result.andThen]
  exact hK' _ _ hK
def reaL : List (Int × Value) := [(200, .string ⟨#[79, 75]⟩), (202, .string ⟨#[65, 99, 99, 101, 112, 116, 101, 100]⟩), (400, .string ⟨#[66, 97, 100, 32, 82, 101, 113, 117, 101, 115, 116]⟩), (404, .string ⟨#[78, 111, 116, 32, 70, 111, 117, 110, 100]⟩), (405, .string ⟨#[77, 101, 116, 104, 111, 100, 32, 78, 111, 116, 32, 65, 108, 108, 111, 119, 101, 100]⟩), (413, .string ⟨#[67, 111, 110, 116, 101, 110, 116, 32, 84, 111, 111, 32, 76, 97, 114, 103, 101]⟩), (429, .string ⟨#[84, 111, 111, 32, 77, 97, 110, 121, 32, 82, 101, 113, 117, 101, 115, 116, 115]⟩), (500, .string ⟨#[73, 110, 116, 101, 114, 110, 97, 108, 32, 83, 101, 114, 118, 101, 114, 32, 69, 114, 114, 111, 114]⟩), (503, .string ⟨#[83, 101, 114, 118, 105, 99, 101, 32, 85, 110, 97, 118, 97, 105, 108, 97, 98, 108, 101]⟩)]
theorem rea_lk (n : Int) : (∃ s : ByteArray, lk n reaL = some (.string s) ∧ s = ⟨(reasonP n).toArray⟩) ∨ (lk n reaL = none ∧ reasonP n = [85, 110, 107, 110, 111, 119, 110]) := by
  by_cases h200 : n = 200
  · subst h200; exact .inl ⟨_, rfl, rfl⟩
  by_cases h202 : n = 202
  · subst h202; exact .inl ⟨_, rfl, rfl⟩
  by_cases h400 : n = 400
  · subst h400; exact .inl ⟨_, rfl, rfl⟩
  by_cases h404 : n = 404
  · subst h404; exact .inl ⟨_, rfl, rfl⟩
  by_cases h405 : n = 405
  · subst h405; exact .inl ⟨_, rfl, rfl⟩
  by_cases h413 : n = 413
  · subst h413; exact .inl ⟨_, rfl, rfl⟩
  by_cases h429 : n = 429
  · subst h429; exact .inl ⟨_, rfl, rfl⟩
  by_cases h500 : n = 500
  · subst h500; exact .inl ⟨_, rfl, rfl⟩
  by_cases h503 : n = 503
  · subst h503; exact .inl ⟨_, rfl, rfl⟩
  exact .inr ⟨by simp only [reaL, lk, if_neg h200, if_neg h202, if_neg h400, if_neg h404, if_neg h405, if_neg h413, if_neg h429, if_neg h500, if_neg h503], by simp only [reasonP, if_neg h200, if_neg h202, if_neg h400, if_neg h404, if_neg h405, if_neg h413, if_neg h429, if_neg h500, if_neg h503]⟩
theorem reason_len (n : Int) : (reasonP n).toArray.size ≤ 30 := by
  rw [List.size_toArray]
  unfold reasonP
  repeat' split
  all_goals decide
set_option maxRecDepth 100000 in
set_option maxHeartbeats 3200000 in
theorem reason_any (n : Int) (w : World) : Calls Tryz.prog 30 #[.int .i64 n] w fun e w' => e = .returned (.string ⟨(reasonP n).toArray⟩) ∧ w.grownBy w' none := by
  have hmm := @run_makeMap Tryz.prog
  have hb : (w.alloc (.map #[] 0)).heap[w.heap.size]? = some (.map (ents [] 0).toArray ([] : List (Int × Value)).length) := heap_alloc_new w _
  have gg : w.grownBy (w.alloc (.map #[] 0)) none := gb_alloc (gb_refl _ _) _
  rcases rea_lk n with ⟨s, hl, hs⟩ | ⟨hl, hr⟩
  · rw [← hs]
    clear hs
    go_enter Tryz.func30, Tryz.ntmps30
    go_wp2_with (first
      | (refine ins_int rfl rfl rfl rfl rfl hb rfl ?_; clear hb; intro w1 hb g1; replace gg := g1 _ gg (Nat.le_refl _); clear g1)
      | refine look_step rfl rfl rfl rfl hb hl ?_)
    go_ret
    exact ⟨rfl, gg⟩
  · rw [hr]
    clear hr
    go_enter Tryz.func30, Tryz.ntmps30
    go_wp2_with (first
      | (refine ins_int rfl rfl rfl rfl rfl hb rfl ?_; clear hb; intro w1 hb g1; replace gg := g1 _ gg (Nat.le_refl _); clear g1)
      | refine look_step rfl rfl rfl rfl hb hl ?_)
    go_ret
    exact ⟨rfl, gg⟩
set_option maxRecDepth 100000 in
set_option maxHeartbeats 3200000 in
theorem rreason_any (n : Int) (w : World) : Calls Tryz.prog 31 #[.int .i64 n] w fun e w' => e = .returned (.string ⟨(reasonP n).toArray⟩) ∧ w' = w := by
  by_cases h200 : n = 200
  · subst h200
    go_enter Tryz.func31, Tryz.ntmps31
    go_wp2_with fail
    go_ret
    exact ⟨rfl, rfl⟩
  by_cases h202 : n = 202
  · subst h202
    go_enter Tryz.func31, Tryz.ntmps31
    go_wp2_with fail
    go_ret
    exact ⟨rfl, rfl⟩
  by_cases h400 : n = 400
  · subst h400
    go_enter Tryz.func31, Tryz.ntmps31
    go_wp2_with fail
    go_ret
    exact ⟨rfl, rfl⟩
  by_cases h404 : n = 404
  · subst h404
    go_enter Tryz.func31, Tryz.ntmps31
    go_wp2_with fail
    go_ret
    exact ⟨rfl, rfl⟩
  by_cases h405 : n = 405
  · subst h405
    go_enter Tryz.func31, Tryz.ntmps31
    go_wp2_with fail
    go_ret
    exact ⟨rfl, rfl⟩
  by_cases h413 : n = 413
  · subst h413
    go_enter Tryz.func31, Tryz.ntmps31
    go_wp2_with fail
    go_ret
    exact ⟨rfl, rfl⟩
  by_cases h429 : n = 429
  · subst h429
    go_enter Tryz.func31, Tryz.ntmps31
    go_wp2_with fail
    go_ret
    exact ⟨rfl, rfl⟩
  by_cases h500 : n = 500
  · subst h500
    go_enter Tryz.func31, Tryz.ntmps31
    go_wp2_with fail
    go_ret
    exact ⟨rfl, rfl⟩
  by_cases h503 : n = 503
  · subst h503
    go_enter Tryz.func31, Tryz.ntmps31
    go_wp2_with fail
    go_ret
    exact ⟨rfl, rfl⟩
  have hr : reasonP n = [85, 110, 107, 110, 111, 119, 110] := by simp only [reasonP, if_neg h200, if_neg h202, if_neg h400, if_neg h404, if_neg h405, if_neg h413, if_neg h429, if_neg h500, if_neg h503]
  rw [hr]
  clear hr
  go_enter Tryz.func31, Tryz.ntmps31
  go_wp2_with fail
  go_ret
  exact ⟨rfl, rfl⟩
end Go.Proofs.YtdfgnoflohfnmaaGreatDoor.Hx
/-! HTTP: texts put together; a number's digits; bytes and texts appended to a buffer, in plain regions and in drawn ones. -/
namespace Go.Proofs.YtdfgnoflohfnmaaGreatDoor.Hx
open Go.RowKit Go.Maps

def btx (l : Bs) : ByteArray := ⟨l.toArray⟩
theorem btx_size (l : Bs) : (btx l).size = l.length := by show l.toArray.size = _; simp
theorem btx_list (l : Bs) : (btx l).data.toList = l := by simp [btx]
theorem ba_btx (x : ByteArray) : x = btx x.data.toList := by simp [btx]
theorem ba_size (x : ByteArray) : x.size = x.data.toList.length := by show x.data.size = _; simp
theorem add_any (a b : ByteArray) (ha : a.size ≤ 100000000) (hb : b.size ≤ 100000000) (W : World) : (Op.stringOp .add a b).run Tryz.prog W = .ok (.string (a ++ b)) W := run_string_add_sum W a b (by omega)
theorem app_list (a b : ByteArray) : (a ++ b).data.toList = a.data.toList ++ b.data.toList := by rw [ByteArray.data_append]; simp
theorem app_size (a b : ByteArray) : (a ++ b).size = a.size + b.size := ByteArray.size_append
/-- the table of powers of ten stands -/
def PTw (w : World) : Prop := ∀ W, w.grownBy W none → Lib.TabIs Tryz.prog W "internal/strconv.uint64pow10" .u64 Lib.pow10Tab
theorem PTw.grown {w w' : World} (h : PTw w) (hg : w.grownBy w' none) : PTw w' := fun W hW => h W (gb_trans hg hW)
theorem gb_grow2 (w : World) (k : Nat) (os : Array Obj) : w.grownBy (Go.Sort.grow (w.drewN k) os) none := by
  refine ⟨rfl, rfl, rfl, by simp [Go.Sort.grow], fun i hi _ => ?_⟩
  simp only [Go.Sort.grow]
  rw [Array.getElem?_append_left (by exact hi)]
  rfl
theorem itoa_w (n : Int) (h0 : -9223372036854775808 ≤ n) (h1 : n ≤ 9223372036854775807) (w : World) (hT : PTw w) :
    Calls Tryz.prog 48 #[.int .i64 n] w fun e w' => e = .returned (.string (btx (Lib.itoa n))) ∧ w.grownBy w' none := by
  refine (Tryz.strconv_Itoa n h0 h1 w (hT w (gb_refl _ _))).mono ?_
  rintro e w' ⟨rfl, k, os, rfl⟩
  exact ⟨rfl, gb_grow2 w k os⟩
theorem itoa_len (n : Int) (h0 : 0 ≤ n) (h1 : n ≤ 1000000000) : (Lib.itoa n).length ≤ 10 := by
  obtain ⟨u, rfl⟩ := Int.eq_ofNat_of_zero_le h0
  rw [itoa_nat u, Lib.decDigits_length]
  exact nd_le 9 u (by omega)
/-- whatever is appended to a buffer -/
theorem run_append_bfg {w : World} {v : Value} {b : Nat} {bs news : Bs} {x : Value} {ty tx : TypeId} (h : BF w v b bs) (hs : Src Tryz.prog 1 tx x news.length (Lib.byteCells news) w) (hl : bs.length + news.length ≤ 1000000000) :
    ∃ v' w' b', (Builtin.append_ #[22, tx] ty #[v, x]).run Tryz.prog w = .ok v' w' ∧ BF w' v' b' (bs ++ news) ∧ w.grownBy w' (some b) ∧ (b' = b ∨ w.heap.size ≤ b') := by
  obtain ⟨i0, hi0, hz0, hz1, hz2⟩ := info_parts info_u8
  have hs' : Src Tryz.prog i0.size tx x news.length (Lib.byteCells news) w := by rw [hz1]; exact hs
  by_cases hn : news = []
  · subst hn
    obtain ⟨A', c', rfl, hc'⟩ := h.shape
    exact ⟨_, w, b, run_append_nothing (P := Tryz.prog) w 22 tx ty 5 i0 Tryz.underlying22 hi0 A' bs.length c' hc' _ hs', by rw [List.append_nil]; exact h, gb_refl _ _, .inl rfl⟩
  · have hp : 0 < news.length := List.length_pos_iff.mpr hn
    rcases h with ⟨rfl, rfl⟩ | ⟨off, cap, cur, rfl, h1, h2, hb, h3, h4⟩
    · have hrun := run_append_grow_src (P := Tryz.prog) w 22 tx ty 5 i0 _ Tryz.underlying22 hi0 hz0 none 0 0 [] (run_firstCells_none w.drew i0.size 0 0 0) x news.length (Lib.byteCells news) hs' (by omega) (by simp at hl; omega) (growslice_fits (by omega) (by rw [hz2]; simp at hl; omega))
      refine ⟨_, _, w.heap.size, hrun, .inr ⟨0, _, _, by rw [Nat.zero_add]; rfl, ?_, ?_, heap_alloc_new _ _, ?_, ?_⟩, gb_row (gb_alloc (gb_drew (gb_refl _ _)) _) _, .inr (Nat.le_refl _)⟩
      · have := grownCap_ge w (0 + news.length) 0 5
        simpa using this
      · exact grownCap_le_maxLen _ _ _ _ (by unfold maxLen; simp at hl; omega)
      · have := grownCap_ge w (0 + news.length) 0 5
        simp [size_zeroCells, Lib.byteCells_length, Value.cells] at this ⊢
        omega
      · simp [Lib.byteCells]
    · by_cases hroom : bs.length + news.length ≤ cap
      · have hst := run_storeCells_at Tryz.prog b (off + bs.length) 5 (Lib.byteCells news) 0 cur w hb (by rw [Lib.byteCells_length]; omega) (one_bytes _)
        simp only [Nat.add_zero] at hst
        have hrun : (Builtin.append_ #[22, tx] ty #[.slice (some ⟨b, off, none⟩) bs.length cap, x]).run Tryz.prog w = .ok (.slice (some ⟨b, off, none⟩) (bs.length + news.length) cap) (w.setRow b (cur.toList.take (off + bs.length) ++ Lib.byteCells news ++ cur.toList.drop (off + bs.length + (Lib.byteCells news).length)).toArray) := by
          have e : (⟨b, off, none⟩ : Addr).add (bs.length * i0.size) = ⟨b, off + bs.length, none⟩ := by rw [add_lit, hz1, Nat.mul_one]
          rcases hs'.kind with ⟨e', hk⟩ | hk <;> simp [Builtin.append_, run_underlying Tryz.underlying22, run_underlying hk, sizeOf, typeInfo, hi0, hs'.len, hroom, hs'.cells, e, hst]
        refine ⟨_, _, b, hrun, .inr ⟨off, cap, _, by rw [List.length_append], by rw [List.length_append]; exact hroom, h2, setRow_heap w b cur _ _ _ hb, ?_, ?_⟩, gb_setRow _ _ _, .inl rfl⟩
        · simp [Lib.byteCells_length]
          omega
        · have e1 : (cur.toList.take (off + bs.length)).length = off + bs.length := by rw [List.length_take]; simp; omega
          rw [List.length_append, byteCells_app]
          rw [show ((cur.toList.take (off + bs.length) ++ Lib.byteCells news ++ cur.toList.drop (off + bs.length + (Lib.byteCells news).length)).toArray).toList = cur.toList.take (off + bs.length) ++ (Lib.byteCells news ++ cur.toList.drop (off + bs.length + (Lib.byteCells news).length)) from by simp]
          rw [List.drop_append_of_le_length (by omega), List.drop_take, show off + bs.length - off = bs.length from by omega, h4, List.take_append, Lib.byteCells_length, List.take_of_length_le (by rw [Lib.byteCells_length]; omega), show bs.length + news.length - bs.length = news.length from by omega, List.take_append_of_le_length (by rw [Lib.byteCells_length]; omega), List.take_of_length_le (by rw [Lib.byteCells_length]; omega)]
      · have holds : ∀ j u, (Lib.byteCells bs)[j]? = some u → w.cell? ((⟨b, off, none⟩ : Addr).add j) = some u := by
          intro j u hj
          have hlt : j < bs.length := by
            have := (List.getElem?_eq_some_iff.mp hj).1
            simpa [Lib.byteCells] using this
          rw [add_lit, cell_of_row w b (off + j) cur 5 (0, 0) hb]
          rw [← h4, List.getElem?_take_of_lt hlt, List.getElem?_drop] at hj
          simpa using hj
        have hrun := run_append_grow_src (P := Tryz.prog) w 22 tx ty 5 i0 _ Tryz.underlying22 hi0 hz0 (some ⟨b, off, none⟩) bs.length cap (Lib.byteCells bs) (run_firstCells_some w.drew i0.size bs.length ⟨b, off, none⟩ bs.length cap (Lib.byteCells bs) (by rw [hz1, Lib.byteCells_length]; omega) (by simpa using holds)) x news.length (Lib.byteCells news) hs' (by omega) (by omega) (growslice_fits (by omega) (by rw [hz2]; omega))
        refine ⟨_, _, w.heap.size, hrun, .inr ⟨0, _, _, by rw [List.length_append], ?_, ?_, heap_alloc_new _ _, ?_, ?_⟩, gb_row (gb_alloc (gb_drew (gb_refl _ _)) _) _, .inr (Nat.le_refl _)⟩
        · rw [List.length_append]; exact grownCap_ge _ _ _ _
        · exact grownCap_le_maxLen _ _ _ _ (by unfold maxLen; omega)
        · have := grownCap_ge w (bs.length + news.length) cap 5
          simp [size_zeroCells, Lib.byteCells_length, Value.cells]
          omega
        · rw [List.length_append, byteCells_app]
          simp only [List.drop_zero, Array.toList_append, List.append_assoc]
          rw [← List.append_assoc]
          exact List.take_left' (by simp [Lib.byteCells])
/-- bytes as what is appended -/
theorem BV.src {w : World} {x : Value} {news : Bs} (h : BV w x news) : Src Tryz.prog 1 22 x news.length (Lib.byteCells news) w := by
  obtain ⟨A, c, rfl, hc, hx⟩ := h
  cases A with
  | none =>
    have : news = [] := Classical.byContradiction fun h0 => by obtain ⟨_, _, e, _⟩ := hx h0; cases e
    subst this
    exact ⟨.inl ⟨_, Tryz.underlying22⟩, fun _ => rfl, run_firstCells_none w 1 0 0 c, run_firstCells_none w.drew 1 0 0 c, by simp [Lib.byteCells], fun _ h => by cases h⟩
  | some a =>
    by_cases h0 : news = []
    · subst h0
      exact Src.ofSlice w Tryz.underlying22 a 0 c [] (by simp) (fun j u h => by simp at h) (fun _ h => by cases h)
    · obtain ⟨b, o, e, hba⟩ := hx h0
      cases e
      exact Src.ofSlice w Tryz.underlying22 _ news.length c (Lib.byteCells news) (by rw [Lib.byteCells_length]; omega) hba.cells (one_bytes _)
theorem str_src (s : ByteArray) (w : World) : Src Tryz.prog 1 9 (.string s) s.data.toList.length (Lib.byteCells s.data.toList) w := by
  have := Src.ofString w (P := Tryz.prog) (tx := 9) Tryz.underlying9 s
  rw [ba_size] at this
  exact this
/-- .. for the walk -/
theorem wpList_append_bfg {w : World} {ops : Array Oper} {rest : List Oper} {o : Oper} {a : Act} {Q : Exit → Act → World → Prop} (hgd : o.guard = none) (s x : Operand) (tx : TypeId)
    (ho : o.op = .call { callee := .builtin .append, args := #[s, x], argTypes := #[22, tx] }) {v xv : Value} (hs : a.eval s = v) (hxv : a.eval x = xv) {b : Nat} {bs news : Bs} (h : BF w v b bs) (hx : Src Tryz.prog 1 tx xv news.length (Lib.byteCells news) w) (hl : bs.length + news.length ≤ 1000000000)
    (hK : ∀ A' c' w' b', BF w' (.slice A' (bs ++ news).length c') b' (bs ++ news) → w.grownBy w' (some b) → (b' = b ∨ w.heap.size ≤ b') → wpList Tryz.prog ops Q rest (a.put o.dst (.slice A' (bs ++ news).length c')) w') : wpList Tryz.prog ops Q (o :: rest) a w := by
  refine wpList_plain hgd fun K hK' => ?_
  obtain ⟨v', w', b', hrun, h1, h2, h3⟩ := run_append_bfg (ty := o.type) h hx hl
  obtain ⟨A', c', rfl, _⟩ := h1.shape
  unfold Oper.wp
  simp [execOp, ho, resolve, invoke, builtin, hs, hxv, hrun, Result.andThen]
  have := hK A' c' w' b' h1 h2 h3
  rw [List.length_append] at this
  exact hK' _ _ this
/-- .. at a step of a region that draws its order -/
theorem step_append_bfg {w : World} {ops : Array Oper} {o : Oper} {a : Act} {K : Act → World → Prop} {Q : Exit → Act → World → Prop} {E : Prop} (hgd : o.guard = none) (s x : Operand) (tx : TypeId)
    (ho : o.op = .call { callee := .builtin .append, args := #[s, x], argTypes := #[22, tx] }) {v xv : Value} (hs : a.eval s = v) (hxv : a.eval x = xv) {b : Nat} {bs news : Bs} (h : BF w v b bs) (hx : Src Tryz.prog 1 tx xv news.length (Lib.byteCells news) w) (hl : bs.length + news.length ≤ 1000000000)
    (hK : ∀ A' c' w' b', BF w' (.slice A' (bs ++ news).length c') b' (bs ++ news) → w.grownBy w' (some b) → (b' = b ∨ w.heap.size ≤ b') → K (a.put o.dst (.slice A' (bs ++ news).length c')) w') :
    if Region.wanted o (yielded ops a.tmps) = true then Oper.wp Tryz.prog o a w K Q else E := by
  have hw : Region.wanted o (yielded ops a.tmps) = true := by simp [Region.wanted, hgd]
  rw [if_pos hw]
  obtain ⟨v', w', b', hrun, h1, h2, h3⟩ := run_append_bfg (ty := o.type) h hx hl
  obtain ⟨A', c', rfl, _⟩ := h1.shape
  unfold Oper.wp
  simp [execOp, ho, resolve, invoke, builtin, hs, hxv, hrun, Result.andThen]
  have := hK A' c' w' b' h1 h2 h3
  rw [List.length_append] at this
  exact this
theorem BV.kp {w w' : World} {v : Value} {bs : Bs} (h : BV w v bs) (hg : w.grownBy w' none) : BV w' v bs := by
  obtain ⟨A, c, e, h1, h2⟩ := h
  exact ⟨A, c, e, h1, fun h0 => by obtain ⟨b, o, e, hb⟩ := h2 h0; exact ⟨b, o, e, hb.grown hg (by simp)⟩⟩
/-- a buffer of its own, in worlds that have grown out of one -/
structure BG (w0 : World) (K : Nat) (w : World) (v : Value) (cur : Bs) : Prop where
  ex : ∃ b, BF w v b cur ∧ w0.heap.size ≤ b
  gb : w0.grownBy w none
  len : cur.length ≤ K
theorem BG.grown {w0 w w' : World} {K : Nat} {v : Value} {cur : Bs} (h : BG w0 K w v cur) (hg : w.grownBy w' none) : BG w0 K w' v cur := by
  obtain ⟨b, h1, h2⟩ := h.ex
  exact ⟨⟨b, h1.grown hg (by simp), h2⟩, gb_trans h.gb hg, h.len⟩
theorem BG.step {w0 w w' : World} {K m : Nat} {v' : Value} {cur news : Bs} {b b' : Nat} (gb : w0.grownBy w none) (hb : w0.heap.size ≤ b) (hl : cur.length ≤ K) (hm : news.length ≤ m) (h1 : BF w' v' b' (cur ++ news)) (h2 : w.grownBy w' (some b)) (h3 : b' = b ∨ w.heap.size ≤ b') : BG w0 (K + m) w' v' (cur ++ news) :=
  ⟨⟨b', h1, by have := gb.size; omega⟩, gb_new gb h2 hb, by rw [List.length_append]; omega⟩
theorem wpList_append_bg {w0 w : World} {K m : Nat} {cur news : Bs} {ops : Array Oper} {rest : List Oper} {o : Oper} {a : Act} {Q : Exit → Act → World → Prop} (hgd : o.guard = none) (s x : Operand) (tx : TypeId)
    (ho : o.op = .call { callee := .builtin .append, args := #[s, x], argTypes := #[22, tx] }) {v xv : Value} (hs : a.eval s = v) (hxv : a.eval x = xv) (h : BG w0 K w v cur) (hx : Src Tryz.prog 1 tx xv news.length (Lib.byteCells news) w) (hm : news.length ≤ m) (hK0 : K + m ≤ 1000000000)
    (hK : ∀ A' N' c' w', BG w0 (K + m) w' (.slice A' N' c') (cur ++ news) → wpList Tryz.prog ops Q rest (a.put o.dst (.slice A' N' c')) w') : wpList Tryz.prog ops Q (o :: rest) a w := by
  obtain ⟨b, h1, h2⟩ := h.ex
  have := h.len
  exact wpList_append_bfg hgd s x tx ho hs hxv h1 hx (by omega) (fun A' c' w' b' k1 k2 k3 => hK A' _ c' w' (BG.step h.gb h2 h.len hm k1 k2 k3))
theorem step_append_bg {w0 w : World} {K0 m : Nat} {cur news : Bs} {ops : Array Oper} {o : Oper} {a : Act} {K : Act → World → Prop} {Q : Exit → Act → World → Prop} {E : Prop} (hgd : o.guard = none) (s x : Operand) (tx : TypeId)
    (ho : o.op = .call { callee := .builtin .append, args := #[s, x], argTypes := #[22, tx] }) {v xv : Value} (hs : a.eval s = v) (hxv : a.eval x = xv) (h : BG w0 K0 w v cur) (hx : Src Tryz.prog 1 tx xv news.length (Lib.byteCells news) w) (hm : news.length ≤ m) (hK0 : K0 + m ≤ 1000000000)
    (hK : ∀ A' N' c' w', BG w0 (K0 + m) w' (.slice A' N' c') (cur ++ news) → K (a.put o.dst (.slice A' N' c')) w') :
    if Region.wanted o (yielded ops a.tmps) = true then Oper.wp Tryz.prog o a w K Q else E := by
  obtain ⟨b, h1, h2⟩ := h.ex
  have := h.len
  exact step_append_bfg hgd s x tx ho hs hxv h1 hx (by omega) (fun A' c' w' b' k1 k2 k3 => hK A' _ c' w' (BG.step h.gb h2 h.len hm k1 k2 k3))
end Go.Proofs.YtdfgnoflohfnmaaGreatDoor.Hx
