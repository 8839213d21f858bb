/- The listed variables of the laws on HTTP; bounds of a variable that may hold any number; a world for the witness. -/
import Derived.Test.YtdfgnoflohfnmaaGreatDoorY0
import Derived.Lib.LaidCaseMet
import Derived.Lib.LaidU8
import Derived.PinnedBridge
namespace Go.Proofs.YtdfgnoflohfnmaaGreatDoor
namespace Ax
open Go.Lib
def laidH : List (String × DataW Unit) := [("math/bits.deBruijn32tab", Rows.laid_math_bits_deBruijn32tab), ("math/bits.deBruijn64tab", Rows.laid_math_bits_deBruijn64tab), ("internal/strconv.uint64pow10", Rows.laid_internal_strconv_uint64pow10), ("unicode/utf8.acceptRanges", Rows.laid_unicode_utf8_acceptRanges), ("strconv.ErrRange", Rows.laid_strconv_ErrRange), ("strconv.ErrSyntax", Rows.laid_strconv_ErrSyntax), ("unicode.CaseRanges", Rows.laid_unicode_CaseRanges), ("unicode/utf8.first", Rows.laid_unicode_utf8_first)]
theorem begunH {W : World} (hL : laidMet Tryz.prog laidH W) (hsh : W.ShapedOpen Tryz.prog) : Begun gl0 E0.ng W := by
  intro x hx
  rw [ng0]
  rcases List.mem_cons.1 hx with rfl | hx
  · exact ⟨by decide, laid_block hL hsh ns0 (n := "internal/strconv.uint64pow10") (d := Rows.laid_internal_strconv_uint64pow10) (.tail _ (.tail _ (.head _))) (g := 3) (t := 179) (by kernel_rfl) (of_decide_eq_true (by kernel_rfl)) (by kernel_rfl) (by kernel_rfl) (by kernel_rfl)⟩
  rcases List.mem_cons.1 hx with rfl | hx
  · exact ⟨by decide, laid_block hL hsh ns0 (n := "strconv.ErrSyntax") (d := Rows.laid_strconv_ErrSyntax) (.tail _ (.tail _ (.tail _ (.tail _ (.tail _ (.head _)))))) (g := 4) (t := 118) (by kernel_rfl) (of_decide_eq_true (by kernel_rfl)) (by kernel_rfl) (by kernel_rfl) (by kernel_rfl)⟩
  rcases List.mem_cons.1 hx with rfl | hx
  · exact ⟨by decide, laid_block hL hsh ns0 (n := "strconv.ErrRange") (d := Rows.laid_strconv_ErrRange) (.tail _ (.tail _ (.tail _ (.tail _ (.head _))))) (g := 5) (t := 118) (by kernel_rfl) (of_decide_eq_true (by kernel_rfl)) (by kernel_rfl) (by kernel_rfl) (by kernel_rfl)⟩
  rcases List.mem_cons.1 hx with rfl | hx
  · exact ⟨by decide, laid_block hL hsh ns0 (n := "math/bits.deBruijn32tab") (d := Rows.laid_math_bits_deBruijn32tab) (.head _) (g := 7) (t := 203) (by kernel_rfl) (of_decide_eq_true (by kernel_rfl)) (by kernel_rfl) (by kernel_rfl) (by kernel_rfl)⟩
  rcases List.mem_cons.1 hx with rfl | hx
  · exact ⟨by decide, laid_block hL hsh ns0 (n := "math/bits.deBruijn64tab") (d := Rows.laid_math_bits_deBruijn64tab) (.tail _ (.head _)) (g := 8) (t := 204) (by kernel_rfl) (of_decide_eq_true (by kernel_rfl)) (by kernel_rfl) (by kernel_rfl) (by kernel_rfl)⟩
  cases hx
theorem int_var {P : Program} {W : World} {g : Nat} {t : TypeId} (hsh : W.ShapedOpen P) (hg : g < P.globals.size)
    (h0 : (((begin P (fun _ _ => 0) default).world.heap[g]?).bind Obj.row?).map (fun z => (z.1.size, z.2)) = some (1, t)) (hb : P.buildable t = true)
    (hc : P.cellTypes P.depth t = some [t]) (hu : P.underlying t = some (.int .i64)) : ∃ m : Int, W.heap[g]? = some (.cells #[.int .i64 m] t (0, 0)) ∧ IntKind.i64.has m := by
  cases hx : ((begin P (fun _ _ => 0) default).world.heap[g]?).bind Obj.row? with
  | none => rw [hx] at h0; cases h0
  | some z =>
    obtain ⟨zero, t'⟩ := z
    rw [hx] at h0
    simp only [Option.map_some, Option.some.injEq, Prod.mk.injEq] at h0
    obtain ⟨e2, rfl⟩ := h0
    obtain ⟨cs, hh, hs, hr⟩ := hsh.1 g zero _ hg hx
    obtain ⟨ts, hts, _, hall⟩ := hr hb
    rw [hc] at hts
    cases hts
    have h1 : cs.size = 1 := hs.trans e2
    obtain ⟨v, rfl⟩ : ∃ v, cs = #[v] := by
      obtain ⟨l⟩ := cs
      cases l with
      | nil => simp at h1
      | cons v r => cases r with
        | nil => exact ⟨v, rfl⟩
        | cons _ _ => simp at h1
    obtain ⟨u, hu', hok⟩ := hall 0 v rfl
    have hu2 : u = t' := by simpa using hu'.symm
    subst hu2
    unfold Cell.ok at hok
    rw [hu] at hok
    cases v with
    | int k n =>
      obtain ⟨rfl, hn⟩ : k = .i64 ∧ IntKind.i64.has n := hok
      exact ⟨n, hh, hn⟩
    | _ => simp at hok
theorem maxLen0 {W : World} (hsh : W.ShapedOpen Tryz.prog) : ∃ m : Int, W.heap[0]? = some (.cells #[.int .i64 m] 3 (0, 0)) ∧ IntKind.i64.has m :=
  int_var hsh (of_decide_eq_true (by kernel_rfl)) (by kernel_rfl) (by kernel_rfl) (by kernel_rfl) Tryz.underlying3
set_option maxRecDepth 1000000 in
noncomputable def laidWorldH (os : Os) : World :=
  let N := (World.settled Tryz.prog os).heap.size
  let w0 := World.holding Tryz.prog os ⟨#[.cells #[.string ⟨#[105, 110, 118, 97, 108, 105, 100, 32, 115, 121, 110, 116, 97, 120]⟩] 198, .cells #[.string ⟨#[118, 97, 108, 117, 101, 32, 111, 117, 116, 32, 111, 102, 32, 114, 97, 110, 103, 101]⟩] 198, .cells caseCells5 208], #[], []⟩
  let put (h : Array Obj) (g : Nat) (cs : Array Value) : Array Obj := h.modify g fun
    | .cells _ t frozen => .cells cs t frozen
    | o => o
  let h0 := put (w0.heap) 3 #[.int .u64 1, .int .u64 10, .int .u64 100, .int .u64 1000, .int .u64 10000, .int .u64 100000, .int .u64 1000000, .int .u64 10000000, .int .u64 100000000, .int .u64 1000000000, .int .u64 10000000000, .int .u64 100000000000, .int .u64 1000000000000, .int .u64 10000000000000, .int .u64 100000000000000, .int .u64 1000000000000000, .int .u64 10000000000000000, .int .u64 100000000000000000, .int .u64 1000000000000000000, .int .u64 10000000000000000000]
  let h1 := put (h0) 4 #[.iface 196 (.pointer (some ⟨N + 0, 0, none⟩))]
  let h2 := put (h1) 5 #[.iface 196 (.pointer (some ⟨N + 1, 0, none⟩))]
  let h3 := put (h2) 7 #[.int .u8 0, .int .u8 1, .int .u8 28, .int .u8 2, .int .u8 29, .int .u8 14, .int .u8 24, .int .u8 3, .int .u8 30, .int .u8 22, .int .u8 20, .int .u8 15, .int .u8 25, .int .u8 17, .int .u8 4, .int .u8 8, .int .u8 31, .int .u8 27, .int .u8 13, .int .u8 23, .int .u8 21, .int .u8 19, .int .u8 16, .int .u8 7, .int .u8 26, .int .u8 12, .int .u8 18, .int .u8 6, .int .u8 11, .int .u8 5, .int .u8 10, .int .u8 9]
  let h4 := put (h3) 8 #[.int .u8 0, .int .u8 1, .int .u8 56, .int .u8 2, .int .u8 57, .int .u8 49, .int .u8 28, .int .u8 3, .int .u8 61, .int .u8 58, .int .u8 42, .int .u8 50, .int .u8 38, .int .u8 29, .int .u8 17, .int .u8 4, .int .u8 62, .int .u8 47, .int .u8 59, .int .u8 36, .int .u8 45, .int .u8 43, .int .u8 51, .int .u8 22, .int .u8 53, .int .u8 39, .int .u8 33, .int .u8 30, .int .u8 24, .int .u8 18, .int .u8 12, .int .u8 5, .int .u8 63, .int .u8 55, .int .u8 48, .int .u8 27, .int .u8 60, .int .u8 41, .int .u8 37, .int .u8 16, .int .u8 46, .int .u8 35, .int .u8 44, .int .u8 21, .int .u8 52, .int .u8 32, .int .u8 23, .int .u8 11, .int .u8 54, .int .u8 26, .int .u8 40, .int .u8 15, .int .u8 34, .int .u8 20, .int .u8 31, .int .u8 10, .int .u8 25, .int .u8 14, .int .u8 19, .int .u8 9, .int .u8 13, .int .u8 8, .int .u8 7, .int .u8 6]
  let h5 := put (h4) 2 #[.int .u8 128, .int .u8 191, .int .u8 160, .int .u8 191, .int .u8 128, .int .u8 159, .int .u8 144, .int .u8 191, .int .u8 128, .int .u8 143, .int .u8 0, .int .u8 0, .int .u8 0, .int .u8 0, .int .u8 0, .int .u8 0, .int .u8 0, .int .u8 0, .int .u8 0, .int .u8 0, .int .u8 0, .int .u8 0, .int .u8 0, .int .u8 0, .int .u8 0, .int .u8 0, .int .u8 0, .int .u8 0, .int .u8 0, .int .u8 0, .int .u8 0, .int .u8 0]
  let h6 := put (h5) 6 #[.slice (some ⟨N + 2, 0, none⟩) caseA.size caseA.size]
  let h7 := put (h6) 1 (firstTab.map (fun z => Value.int .u8 z)).toArray
  { w0 with heap := h7 }
noncomputable abbrev N1 : Nat := (World.settled Tryz.prog default).heap.size
theorem row_reads {w : World} (x : CaseRow) (hw : rowWf x = true) (fuel : Nat) : DataW.trod (fun _ => ()) Tryz.prog w 0 (fun _ => true) false (fuel + 3) 208 (cells5 x) = some ((rowData x : DataW Unit), []) := by
  simp only [rowWf, Bool.and_eq_true] at hw
  obtain ⟨⟨⟨⟨w0, w1⟩, w2⟩, w3⟩, w4⟩ := hw
  have r3 : List.range 3 = [0, 1, 2] := rfl
  have c1 : Tryz.prog.cellsOf 208 = 5 := by kernel_rfl
  have c2 : Tryz.prog.cellsOf 165 = 1 := by kernel_rfl
  have c3 : Tryz.prog.cellsOf 21 = 1 := by kernel_rfl
  have c4 : Tryz.prog.cellsOf 206 = 3 := by kernel_rfl
  simp [DataW.trod, Tryz.underlying208, Tryz.underlying165, Tryz.underlying21, Tryz.underlying206, c1, c2, c3, c4, cells5, rowData, w0, w1, w2, w3, w4, r3]
set_option maxRecDepth 1000000 in
theorem rows_read {w : World} {R : Nat} (hT : CaseTab R 0 caseA w) (fuel : Nat) :
    DataW.trod (fun _ => ()) Tryz.prog w 0 (fun _ => true) false (fuel + 4) 192 [.slice (some ⟨R, 0, none⟩) caseA.size caseA.size] = some ((caseData : DataW Unit), MemPlace.row ⟨R, 0, none⟩ (caseA.size * 5)) := by
  have c1 : Tryz.prog.cellsOf 208 = 5 := by kernel_rfl
  have each : ∀ i ∈ List.range caseA.size, (w.cells? 0 ((⟨R, 0, none⟩ : Addr).add (i * 5)) 5).bind (DataW.trod (fun _ => ()) Tryz.prog w 0 (fun _ => true) false (fuel + 3) 208) = some ((fun i => ((rowData (caseA.getD i (0, 0, 0, 0, 0)) : DataW Unit), ([] : List MemPlace))) i) := by
    intro i hi
    have hi' := List.mem_range.1 hi
    rw [case_cells5 hT i hi']
    exact row_reads _ (caseA_wf i hi') fuel
  show DataW.trod _ _ _ _ _ _ ((fuel + 3) + 1) _ _ = _
  unfold DataW.trod
  simp only [Tryz.underlying192, c1]
  rw [if_pos ⟨Nat.zero_le _, Nat.le_refl _, by rw [caseA_size]; unfold maxLen; omega⟩, mapM_some _ _ _ each]
  simp only [caseData, ← case_rows_data]
  simp [Function.comp_def]
set_option maxRecDepth 1000000 in
theorem laid_metH (os : Os) (args : Array Value) : laidMet Tryz.prog laidH ((laidWorldH os).forCall (fun _ _ => 0) ⟨#[], args, []⟩).memory := by
  have hA := LaidIn.of_run (P := Tryz.prog) (w := ((laidWorldH os).forCall (fun _ _ => 0) ⟨#[], args, []⟩).memory) (l := [("math/bits.deBruijn32tab", Rows.laid_math_bits_deBruijn32tab), ("math/bits.deBruijn64tab", Rows.laid_math_bits_deBruijn64tab), ("internal/strconv.uint64pow10", Rows.laid_internal_strconv_uint64pow10), ("unicode/utf8.acceptRanges", Rows.laid_unicode_utf8_acceptRanges), ("strconv.ErrRange", Rows.laid_strconv_ErrRange), ("strconv.ErrSyntax", Rows.laid_strconv_ErrSyntax)]) [7, 8, 3, 2, 5, N1 + 1, 4, N1 + 0] 8 (by kernel_rfl) (by kernel_rfl) (by kernel_rfl) (by kernel_rfl)
  have hC := LaidIn.of_run (P := Tryz.prog) (w := ((laidWorldH os).forCall (fun _ _ => 0) ⟨#[], args, []⟩).memory) (l := [("unicode/utf8.first", Rows.laid_unicode_utf8_first)]) [1] 8 (by kernel_rfl) (by kernel_rfl) (by kernel_rfl) (by kernel_rfl)
  have hblk : ((laidWorldH os).forCall (fun _ _ => 0) ⟨#[], args, []⟩).memory.heap[N1 + 2]? = some (.cells caseCells5 208 (0, 0)) := by kernel_rfl
  have hvar : ((laidWorldH os).forCall (fun _ _ => 0) ⟨#[], args, []⟩).memory.heap[6]? = some (.cells #[.slice (some ⟨N1 + 2, 0, none⟩) caseA.size caseA.size] 192 (0, 0)) := by kernel_rfl
  have hread := rows_read (caseTab_of_block hblk) 0
  have hB : LaidIn Tryz.prog ((laidWorldH os).forCall (fun _ _ => 0) ⟨#[], args, []⟩).memory [("unicode.CaseRanges", Rows.laid_unicode_CaseRanges)] [6, N1 + 2] := by
    have hd : (Rows.laid_unicode_CaseRanges : DataW Unit) = caseData := Pinned.caseRanges_eq
    rw [hd]
    refine LaidIn.one _ (g := 6) (t := 192) (cs := #[.slice (some ⟨N1 + 2, 0, none⟩) caseA.size caseA.size]) (by kernel_rfl) (by kernel_rfl) ?_ hread ?_ ?_ ?_
    · rw [World.var?, show Tryz.prog.globalNamed "unicode.CaseRanges" = some 6 by kernel_rfl]
      simp only [Option.bind_some, hvar]
    · refine List.nodup_append.2 ⟨row_nodup _ _, row_nodup _ _, ?_⟩
      intro a ha b hb e
      obtain ⟨i, _, rfl⟩ := MemPlace.mem_row.1 ha
      obtain ⟨j, _, rfl⟩ := MemPlace.mem_row.1 hb
      have : 6 ≠ N1 + 2 := of_decide_eq_true (by kernel_rfl)
      injection e with e1 _
      exact this e1
    · intro b off hp
      rcases List.mem_append.1 hp with hp | hp
      · obtain ⟨i, hi, e⟩ := MemPlace.mem_row.1 hp
        injection e with e1 e2
        subst e1
        refine ⟨⟨_, _, hvar⟩, fun u v hc => ?_⟩
        have hi1 : i = 0 := by simp at hi; omega
        subst hi1
        subst e2
        simp [World.cell?, hvar] at hc
      · obtain ⟨i, hi, e⟩ := MemPlace.mem_row.1 hp
        injection e with e1 e2
        subst e1
        refine ⟨⟨_, _, hblk⟩, fun u v hc => ?_⟩
        exfalso
        have hm : Value.iface u v ∈ caseCells5 := by
          simp only [World.cell?, hblk] at hc
          exact Array.mem_of_getElem? hc
        unfold caseCells5 at hm
        rw [List.mem_toArray, List.mem_flatMap] at hm
        obtain ⟨x, _, hx⟩ := hm
        simp [cells5] at hx
    · intro x hx
      rcases List.mem_append.1 hx with hx | hx
      · obtain ⟨i, _, rfl⟩ := MemPlace.mem_row.1 hx
        simp [MemPlace.block]
      · obtain ⟨i, _, rfl⟩ := MemPlace.mem_row.1 hx
        simp [MemPlace.block]
  exact ((hA.append hB (by kernel_rfl)).append hC (by kernel_rfl)).met
end Ax
end Go.Proofs.YtdfgnoflohfnmaaGreatDoor
