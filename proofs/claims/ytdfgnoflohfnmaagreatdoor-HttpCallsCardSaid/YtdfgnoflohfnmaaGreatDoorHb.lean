/- HTTP: what headers count: contentLength, connection, counts' closure; the table of them. -/
import Derived.Test.YtdfgnoflohfnmaaGreatDoorHa
import Derived.MapKept
namespace Go.Proofs.YtdfgnoflohfnmaaGreatDoor.Hx
open Go.RowKit Go.Maps

theorem digitVal_dig {c : UInt8} (h : digB c = true) : Lib.digitVal c = some (c.toNat - 48) := by
  unfold digB at h
  simp only [Bool.and_eq_true, decide_eq_true_eq] at h
  unfold Lib.digitVal
  rw [if_pos h]
theorem decFrom_dig : ∀ (l : Bs) (a : Nat), l.all digB = true → ∃ n : Nat, Lib.decFrom a l = some n ∧ (n : Int) = l.foldl (fun n c => 10 * n + ((c.toNat : Int) - 48)) (a : Int)
  | [], a, _ => ⟨a, rfl, rfl⟩
  | c :: t, a, h => by
    simp only [List.all_cons, Bool.and_eq_true] at h
    obtain ⟨n, h1, h2⟩ := decFrom_dig t (a * 10 + (c.toNat - 48)) h.2
    refine ⟨n, ?_, ?_⟩
    · simp only [Lib.decFrom, digitVal_dig h.1]; exact h1
    · rw [h2, List.foldl_cons]
      congr 1
      have := h.1
      unfold digB at this
      simp only [Bool.and_eq_true, decide_eq_true_eq] at this
      omega
theorem atoi_dig {l : Bs} (h : l.all digB = true) (h1 : 1 ≤ l.length) : Lib.atoi l = some (decV l) := by
  cases l with
  | nil => simp at h1
  | cons c t =>
    have hc : digB c = true := by simp only [List.all_cons, Bool.and_eq_true] at h; exact h.1
    unfold digB at hc
    simp only [Bool.and_eq_true, decide_eq_true_eq] at hc
    obtain ⟨n, h2, h3⟩ := decFrom_dig (c :: t) 0 h
    unfold Lib.atoi
    have e1 : (c == 45) = false := by rw [beq_eq_false_iff_ne]; rintro rfl; exact absurd hc.1 (by decide)
    have e2 : (c == 43) = false := by rw [beq_eq_false_iff_ne]; rintro rfl; exact absurd hc.1 (by decide)
    dsimp only
    rw [e1, e2]
    show (Lib.decNat (c :: t)).map _ = _
    unfold Lib.decNat
    rw [if_neg (show ¬ (c :: t).isEmpty = true from (by simp)), h2]
    show some (n : Int) = some (decV (c :: t))
    unfold decV
    rw [h3]; rfl
/-- what a header's function leaves -/
abbrev FK (R : Nat) (bw : Value) (w : World) (o : Option RS) (σ : RS) (e : Ending) (w' : World) : Prop :=
  match o with
  | none => e = .returned (.bool false) ∧ RB w' R bw σ ∧ w.grownBy w' (some R)
  | some τ => e = .returned (.bool true) ∧ RB w' R bw τ ∧ w.grownBy w' (some R)
def lenS (σ : RS) (v : Bs) : Option RS := if 0 ≤ σ.l ∨ v.length < 1 ∨ 9 < v.length ∨ v.all digB = false then none else some { σ with l := decV v }
set_option maxRecDepth 100000 in
set_option maxHeartbeats 3200000 in
theorem length_any (R : Nat) (bw : Value) (v : ByteArray) (σ : RS) (w : World) (h : RB w R bw σ) (hv : v.data.toList.length ≤ 2000000) :
    Calls Tryz.prog 114 #[.pointer (some ⟨R, 0, none⟩), .string v] w (FK R bw w (lenS σ v.data.toList) σ) := by
  have c8 := h.c8
  have f8 := h.f 8
  have hz : v.data.toList.length = v.size := Array.length_toList
  obtain ⟨n, hn⟩ : ∃ n, v.size = n := ⟨_, rfl⟩
  unfold lenS
  rw [hz, hn]
  rw [hz, hn] at hv
  by_cases h1 : 0 ≤ σ.l
  · rw [if_pos (.inl h1)]
    go_enter Tryz.func114, Tryz.ntmps114
    go_wp2_with fail
    go_ret
    exact ⟨rfl, h, gb_refl _ _⟩
  · by_cases h2 : n < 1
    · rw [if_pos (.inr (.inl h2))]
      have h2' : (n : Int) < 1 := by omega
      go_enter Tryz.func114, Tryz.ntmps114
      go_wp2_with fail
      go_ret
      exact ⟨rfl, h, gb_refl _ _⟩
    · have h2' : ¬ (n : Int) < 1 := by omega
      by_cases h3 : 9 < n
      · rw [if_pos (.inr (.inr (.inl h3)))]
        have h3' : (9 : Int) < (n : Int) := by omega
        go_enter Tryz.func114, Tryz.ntmps114
        go_wp2_with fail
        go_ret
        exact ⟨rfl, h, gb_refl _ _⟩
      · have h3' : ¬ (9 : Int) < (n : Int) := by omega
        have hal := fun W => Lib.hid (all_dig v W (by rw [hn]; omega))
        cases hd : v.data.toList.all digB with
        | false =>
          rw [hd] at hal
          rw [if_pos (.inr (.inr (.inr rfl)))]
          go_enter Tryz.func114, Tryz.ntmps114
          go_wp2_with (first
            | (go_at_call 38; refine ((hal _).out).mono ?_; rintro e w2 ⟨rfl, rfl⟩))
          go_ret
          exact ⟨rfl, h, gb_refl _ _⟩
        | true =>
          rw [hd] at hal
          rw [if_neg (show ¬ (0 ≤ σ.l ∨ n < 1 ∨ 9 < n ∨ true = false) from by simp; omega)]
          have hat := fun W => Lib.hid (Tryz.strconv_Atoi v (decV v.data.toList) (by omega) (atoi_dig hd (by omega)) W)
          go_enter Tryz.func114, Tryz.ntmps114
          go_wp2_with (first
            | (go_at_call 38; refine ((hal _).out).mono ?_; rintro e w2 ⟨rfl, rfl⟩)
            | (go_at_call 79; refine ((hat _).out).mono ?_; rintro e w2 ⟨rfl, t, hw2⟩; have hg2 := (by rw [hw2]; exact gb_of_below (Lib.bytesWorld_below _ _ _) : World.grownBy _ w2 none); have h2 := h.kept hg2 (by simp); have c8' := h2.c8; have f8' := h2.f 8; clear hw2))
          go_ret
          exact ⟨rfl, h2.set8 _, gb_setR (gb_row hg2 _) _ _⟩
def conS (σ : RS) (v : Bs) : RS := { σ with cl := σ.cl || decide (Lib.toLowerA v = hClo) }
set_option maxRecDepth 100000 in
set_option maxHeartbeats 3200000 in
theorem conn_any (R : Nat) (bw : Value) (v : ByteArray) (σ : RS) (w : World) (h : RB w R bw σ) (hv : v.data.toList.length ≤ 2000000) (ha : ∀ c ∈ v.data.toList, c.toNat < 128) :
    Calls Tryz.prog 116 #[.pointer (some ⟨R, 0, none⟩), .string v] w (FK R bw w (some (conS σ v.data.toList)) σ) := by
  have c5 := h.c5
  have f5 := h.f 5
  have hz : v.data.toList.length = v.size := Array.length_toList
  have hlo := fun W => Lib.hid (Tryz.strings_ToLower_ascii v W (by omega) (fun j b hb => ha b (List.mem_of_getElem? hb)))
  obtain ⟨S, hS⟩ : ∃ S : ByteArray, S = ⟨(Lib.toLowerA v.data.toList).toArray⟩ := ⟨_, rfl⟩
  rw [← hS] at hlo
  have hSe : (S.toList == [99, 108, 111, 115, 101]) = decide (Lib.toLowerA v.data.toList = hClo) := by
    rw [Bool.eq_iff_iff, beq_iff_eq, decide_eq_true_eq, Lib.toList_data, hS]
    exact Iff.rfl
  have hSh := Lib.hid hSe
  clear hSe hS
  cases hcl : σ.cl with
  | true =>
    rw [hcl] at c5
    go_enter Tryz.func116, Tryz.ntmps116
    go_wp2_with fail
    go_ret
    refine ⟨rfl, ?_, gb_setR (gb_refl _ _) _ _⟩
    have := h.set5 true
    unfold conS
    rw [hcl]
    exact this
  | false =>
    rw [hcl] at c5
    go_enter Tryz.func116, Tryz.ntmps116
    go_wp2_with (first
      | (go_at_call 94; refine ((hlo _).out).mono ?_; rintro e w2 ⟨rfl, hb2⟩; have hg2 := gb_of_below hb2; have h2 := h.kept hg2 (by simp); have c5' := h2.c5; have f5' := h2.f 5; clear hb2))
    go_ret
    refine ⟨rfl, ?_, gb_setR (gb_row hg2 _) _ _⟩
    rw [hSh.out]
    have := h2.set5 (decide (Lib.toLowerA v.data.toList = hClo))
    unfold conS
    rw [hcl]
    exact this
theorem tra_any (R : Nat) (bw : Value) (v : ByteArray) (σ : RS) (w : World) (h : RB w R bw σ) :
    Calls Tryz.prog 115 #[.pointer (some ⟨R, 0, none⟩), .string v] w (FK R bw w none σ) := by
  go_enter Tryz.func115, Tryz.ntmps115
  go_wp2_with fail
  go_ret
  exact ⟨rfl, h, gb_refl _ _⟩
/-! the table -/
abbrev setO (w : World) (r : Nat) (o : Obj) : World := { w with heap := w.heap.setIfInBounds r o }
theorem upd_lit {w : World} {r : Nat} {es : Array MapEntry} {clock : Nat} {k : ByteArray} {v : Value} (hb : w.heap[r]? = some (.map es clock)) (hn : Instr.findNow .string (.string k) es.toList 0 = some none) :
    (Instr.mapUpdate 130 (.map (some r)) (.string k) v).run Tryz.prog w = .ok () (setO w r (.map (es.push ⟨.string k, v, clock⟩) (clock + 1))) := by
  simp [Instr.mapUpdate, run_underlying Tryz.underlying130, MapKept.run_getObj_map hb, MapKept.run_checkKey (k := .string k) Tryz.underlying9 trivial, MapKept.run_findKey Tryz.underlying9 hn, MapKept.run_setObj_map _ hb, Result.andThen]
abbrev kLen : ByteArray := { data := #[99, 111, 110, 116, 101, 110, 116, 45, 108, 101, 110, 103, 116, 104] }
abbrev kTra : ByteArray := { data := #[116, 114, 97, 110, 115, 102, 101, 114, 45, 101, 110, 99, 111, 100, 105, 110, 103] }
abbrev kCon : ByteArray := { data := #[99, 111, 110, 110, 101, 99, 116, 105, 111, 110] }
abbrev fLen : Value := .func (.func 114) #[] #[]
abbrev fTra : Value := .func (.func 115) #[] #[]
abbrev fCon : Value := .func (.func 116) #[] #[]
def cntE : Array MapEntry := #[⟨.string kLen, fLen, 0⟩, ⟨.string kTra, fTra, 1⟩, ⟨.string kCon, fCon, 2⟩]
theorem setO_at {w : World} {r : Nat} {o o' : Obj} (h : w.heap[r]? = some o) : (setO w r o').heap[r]? = some o' := by
  have := (Array.getElem?_eq_some_iff.1 h).1
  show (w.heap.setIfInBounds r o')[r]? = _
  simp [this]
theorem gb_setO {a w : World} {row : Option Nat} {r : Nat} (h : a.grownBy w row) (hr : a.heap.size ≤ r) (o : Obj) : a.grownBy (setO w r o) row :=
  ⟨h.os, h.tape, h.output, by simpa using h.size, fun k hk hne => by
    rw [← h.block k hk hne]
    show (w.heap.setIfInBounds r o)[k]? = _
    simp [show ¬ r = k from by omega]⟩
theorem ins_lit {w w' : World} {ops : Array Oper} {rest : List Oper} {o : Oper} {a : Act} {Q : Exit → Act → World → Prop} (m key val : Value) (t : TypeId) (mo x v : Operand)
    (hg : o.guard = none) (hop : o.op = Op.insert t mo x v) (hm : a.eval mo = m) (hx : a.eval x = key) (hv : a.eval v = val)
    (hu : (Instr.mapUpdate t m key val).run Tryz.prog w = .ok () w')
    (hK : wpList Tryz.prog ops Q rest (a.put o.dst undef) w') : wpList Tryz.prog ops Q (o :: rest) a w := by
  refine wpList_plain hg fun K' hK' => ?_
  unfold Oper.wp
  simp [execOp, hop, hm, hx, hv, hu, Result.andThen]
  exact hK' _ _ hK
set_option maxRecDepth 100000 in
set_option maxHeartbeats 3200000 in
theorem counts_any (w : World) :
    Calls Tryz.prog 93 #[] w fun e w' => e = .returned (.map (some w.heap.size)) ∧ w.grownBy w' none ∧ w'.heap[w.heap.size]? = some (.map cntE 3) := by
  have hmm := @run_makeMap Tryz.prog
  have b1 : (w.alloc (.map #[] 0)).heap[w.heap.size]? = some (.map #[] 0) := heap_alloc_new w _
  have u1 := Lib.hid (upd_lit (k := kLen) (v := fLen) b1 rfl)
  have b2 := setO_at (o' := .map (#[].push ⟨.string kLen, fLen, 0⟩) 1) b1
  have u2 := Lib.hid (upd_lit (k := kTra) (v := fTra) b2 (by rfl))
  have b3 := setO_at (o' := .map ((#[].push ⟨.string kLen, fLen, 0⟩).push ⟨.string kTra, fTra, 1⟩) 2) b2
  have u3 := Lib.hid (upd_lit (k := kCon) (v := fCon) b3 (by rfl))
  have b4 := Lib.hid (setO_at (o' := .map (((#[].push ⟨.string kLen, fLen, 0⟩).push ⟨.string kTra, fTra, 1⟩).push ⟨.string kCon, fCon, 2⟩) 3) b3)
  clear b1 b2 b3
  go_enter Tryz.func93, Tryz.ntmps93
  go_wp2_with (first
    | refine ins_lit _ _ _ _ _ _ _ rfl rfl rfl rfl rfl u1.out ?_
    | refine ins_lit _ _ _ _ _ _ _ rfl rfl rfl rfl rfl u2.out ?_
    | refine ins_lit _ _ _ _ _ _ _ rfl rfl rfl rfl rfl u3.out ?_)
  go_ret
  exact ⟨rfl, gb_setO (gb_setO (gb_setO (gb_alloc (gb_refl _ _) _) (Nat.le_refl _) _) (Nat.le_refl _) _) (Nat.le_refl _) _, b4.out⟩
/-- what a header's name means -/
def cntF (k : Bs) : Value := if k = hLen then fLen else if k = hTra then fTra else if k = hCon then fCon else .nilFunc
theorem ba_eq (k l : ByteArray) : (k == l) = decide (k.data.toList = l.data.toList) := by
  rw [Bool.eq_iff_iff, decide_eq_true_eq, MapKept.bytes_beq]
  exact ⟨fun h => by rw [h], fun h => ByteArray.ext (Array.toList_inj.1 h)⟩
theorem look_counts {w : World} {r : Nat} (hb : w.heap[r]? = some (.map cntE 3)) (k : ByteArray) :
    (Instr.lookup 130 (.map (some r)) (.string k) false).run Tryz.prog w = .ok (cntF k.data.toList) w := by
  have hz : (zeroValue 129).run Tryz.prog w = .ok .nilFunc w := Tryz.zeroValue129 w
  have e1 : (k == kLen) = decide (k.data.toList = hLen) := ba_eq _ _
  have e2 : (k == kTra) = decide (k.data.toList = hTra) := ba_eq _ _
  have e3 : (k == kCon) = decide (k.data.toList = hCon) := ba_eq _ _
  have hf : Instr.findNow .string (.string k) cntE.toList 0 = some (if k.data.toList = hLen then some (0, fLen) else if k.data.toList = hTra then some (1, fTra) else if k.data.toList = hCon then some (2, fCon) else none) := by
    show (match some (k == kLen) with | some true => _ | some false => _ | none => _) = _
    rw [e1]
    by_cases h1 : k.data.toList = hLen
    · rw [if_pos h1, decide_eq_true h1]
    · rw [if_neg h1, decide_eq_false h1]
      show (match some (k == kTra) with | some true => _ | some false => _ | none => _) = _
      rw [e2]
      by_cases h2 : k.data.toList = hTra
      · rw [if_pos h2, decide_eq_true h2]
      · rw [if_neg h2, decide_eq_false h2]
        show (match some (k == kCon) with | some true => _ | some false => _ | none => _) = _
        rw [e3]
        by_cases h3 : k.data.toList = hCon
        · rw [if_pos h3, decide_eq_true h3]
        · rw [if_neg h3, decide_eq_false h3]
          rfl
  unfold cntF
  have hff := MapKept.run_findKey (P := Tryz.prog) (w := w) Tryz.underlying9 hf
  have hemp : cntE.isEmpty = false := rfl
  simp only [Instr.lookup, Sem.run_bind, run_underlying Tryz.underlying130, MapKept.run_getObj_map hb, MapKept.run_checkKey (k := .string k) Tryz.underlying9 trivial, hff, Result.andThen, Sem.run_pure]
  by_cases h1 : k.data.toList = hLen
  · simp only [if_pos h1]; simp
  · by_cases h2 : k.data.toList = hTra
    · simp only [if_neg h1, if_pos h2]; simp
    · by_cases h3 : k.data.toList = hCon
      · simp only [if_neg h1, if_neg h2, if_pos h3]; simp
      · simp only [if_neg h1, if_neg h2, if_neg h3]; simp [hz]
end Go.Proofs.YtdfgnoflohfnmaaGreatDoor.Hx
