/- HTTP: a range over strings.SplitSeq, the body leaving by its end alone. -/
import Derived.Test.YtdfgnoflohfnmaaGreatDoorHg
namespace Go.Proofs.YtdfgnoflohfnmaaGreatDoor.Hx
open Go.RowKit Go.Maps Go.Shelf

attribute [local go_sem] Oper.semAt_some
/-- how a round's body ends -/
def rdPost (Bs_ : Nat) (I : World → Prop) (W : World) : Exit → Act → World → Prop
  | .normal, _, W' => KeepsOthers W W' ∧ I W' ∧ W'.cell? ⟨Bs_, 0, none⟩ = W.cell? ⟨Bs_, 0, none⟩
  | _, _, _ => False
theorem put_cell {W : World} {l : Nat} {o o' : Obj} {b : Nat} {i : Nat} (_hl : W.heap[l]? = some o) (hb : b ≠ l) : (W.putObj l o').cell? ⟨b, i, none⟩ = W.cell? ⟨b, i, none⟩ :=
  World.cell?_of_block (World.putObj_heap_other (fun e => hb (by simpa using e)))
theorem range_split (n : Nat) (hn : 5 ≤ n) {g : Operand} {ps : Array Tmp} {assign body : Code} {Q : Exit → Act → World → Prop} {a : Act} {w : World} (Bp Bs_ Bv : Nat) (s : ByteArray) (m : Int)
    (hg : a.eval g = .func (.func 99) #[] #[.pointer (some ⟨Bp, 0, none⟩), .pointer (some ⟨Bs_, 0, none⟩), .pointer (some ⟨Bv, 0, none⟩)]) (hps : ps.size = 1)
    (I : List Bs → World → Prop)
    (hIc : ∀ pre W, I pre W → W.cell? ⟨Bp, 0, none⟩ = some (.string ⟨#[38]⟩) ∧ W.cell? ⟨Bv, 0, none⟩ = some (.int .i64 0) ∧ MX W m ∧ W.frozen? ⟨Bs_, 0, none⟩ = false)
    (hIs : ∀ pre W v, I pre W → I pre (W.setCell ⟨Bs_, 0, none⟩ v))
    (hIo : ∀ pre W l o o', I pre W → w.heap.size ≤ l → W.heap[l]? = some o → o.isCells = false → I pre (W.putObj l o'))
    (hIa : ∀ pre W o, I pre W → I pre (W.alloc o))
    (hBs : Bs_ < w.heap.size) (hsz : s.size ≤ 2000000) (hs : w.cell? ⟨Bs_, 0, none⟩ = some (.string s)) (h0 : I [] w) (a₁ : ByteArray → Act)
    (hassign : ∀ (l : Nat) (x : ByteArray) (W : World) (K : Act → World → Prop), K (a₁ x) W →
      assign.wpIn (Fence.wide.inRound l) (n - 1 - 1) Tryz.prog (Exit.then K (fun _ _ _ => False)) { tmps := (ps.zip #[.string x]).foldl (fun t (p, v) => t.setIfInBounds p v) a.tmps, defers := [] } W)
    (hbody : ∀ (l : Nat) (pre : List Bs) (x : ByteArray) (W : World), I pre W → pre.length ≤ s.size → (∀ c ∈ x.data.toList, c ∈ s.data.toList) → x.size ≤ s.size → body.wpIn (Fence.wide.inRound l) (n - 1 - 1) Tryz.prog (rdPost Bs_ (I (pre ++ [x.data.toList])) W) (a₁ x) W)
    (hdone : ∀ (D : Nat) (W : World), w.heap.size ≤ D → I (Lib.split s.data.toList [38]) W → W.heap[D]? = some (.deferred (some [])) → Q .normal { a with defers := { target := .collected D, args := #[] } :: a.defers } W) :
    (Code.rangeFunc g ps assign body).wpIn Fence.wide n Tryz.prog Q a w := by
  have h1 : 1 ≤ n := by omega
  have eg : ∀ args w, (callFunc 99 args).run Tryz.prog w = .ok (.enter 99 args) w := enters_of Tryz.func99 (by kernel_rfl) rfl
  refine wpIn_rangeFunc ?_
  intro fn hfn
  rw [show Fence.wide.round = none from rfl]
  obtain ⟨rec, hrec⟩ : ∃ rec : LoopState → Loop, rec = fun st => { state := st, pending := none, fn, tmps := a.tmps, params := ps, assign, body, defers := w.heap.size } := ⟨_, rfl⟩
  obtain ⟨W1, hW1⟩ : ∃ W1, (w.alloc (.deferred (some []))).alloc (.loop (rec .ready)) = W1 := ⟨_, rfl⟩
  have e1 : (w.alloc (.deferred (some []))).heap.size = w.heap.size + 1 := by simp
  have hL1 : W1.heap[w.heap.size + 1]? = some (.loop (rec .ready)) := by rw [← hW1, ← e1]; exact heap_alloc_new _ _
  have hK1 : W1.heap[w.heap.size]? = some (.deferred (some [])) := by rw [← hW1]; exact (Below.heap_alloc _ _ _ (by simp)).trans (heap_alloc_new w _)
  have hI1 : I [] W1 := by rw [← hW1]; exact hIa _ _ _ (hIa _ _ _ h0)
  have hs1 : W1.cell? ⟨Bs_, 0, none⟩ = some (.string s) := by
    rw [← hW1]
    exact cell_grown hs (gb_alloc (gb_alloc (gb_refl w none) _) _) (by simp)
  refine ⟨w.heap.size + 1, [{ target := .collected w.heap.size, args := #[] }], W1, { target := .fn (.func 99) #[.pointer (some ⟨Bp, 0, none⟩), .pointer (some ⟨Bs_, 0, none⟩), .pointer (some ⟨Bv, 0, none⟩)], args := #[.func (.yield (w.heap.size + 1)) #[] #[]] }, W1, 99,
    #[.func (.yield (w.heap.size + 1)) #[] #[]] ++ #[.pointer (some ⟨Bp, 0, none⟩), .pointer (some ⟨Bs_, 0, none⟩), .pointer (some ⟨Bv, 0, none⟩)], W1, ?_, ?_, ?_, ?_, fun _ => h1, ?_⟩
  · rw [← hW1, hrec]; exact run_enterLoop_outer _ _ _ _ _
  · simp only [resolve, hg]
    simp [go_sem]
  · intro f' _; trivial
  · simp [invoke, go_sem, eg]
  · refine (seq_in (n - 1) (by omega) (w.heap.size + 1) Bp Bs_ Bv s m
      (fun pre W => I pre W ∧ W.heap[w.heap.size + 1]? = some (.loop (rec .ready)) ∧ W.heap[w.heap.size]? = some (.deferred (some [])))
      (fun pre W h => hIc pre W h.1)
      (fun pre W v h => ⟨hIs _ _ _ h.1, (Below.heap_setCell W ⟨Bs_, 0, none⟩ v _ (by show w.heap.size + 1 ≠ Bs_; omega)).trans h.2.1, (Below.heap_setCell W ⟨Bs_, 0, none⟩ v _ (by show w.heap.size ≠ Bs_; omega)).trans h.2.2⟩)
      ?_ hsz W1 hs1 ⟨hI1, hL1, hK1⟩).mono ?_
    · rintro pre x W ⟨hi, hl, hk⟩ hpl hxs hxl
      have hlt : w.heap.size + 1 < W.heap.size := (Array.getElem?_eq_some_iff.1 hl).1
      have hy := run_yield (P := Tryz.prog) (args := #[.string x]) hl (by rw [hrec]; exact hps.symm)
      rw [hrec] at hy
      refine ⟨fn, _, assign, body, hy, roundIn_of_wpIn hfn (hassign _ x W _ ⟨_, run_beginRound hl (by rw [hrec]), ?_⟩)⟩
      obtain ⟨W2, hW2⟩ : ∃ W2, W.putObj (w.heap.size + 1) (.loop { rec .ready with state := .busy }) = W2 := ⟨_, rfl⟩
      have hl2 : W2.heap[w.heap.size + 1]? = some (.loop { rec .ready with state := .busy }) := by rw [← hW2]; exact World.putObj_heap_same hlt
      have hk2 : W2.heap[w.heap.size]? = some (.deferred (some [])) := by rw [← hW2]; exact (World.putObj_heap_other (by omega)).trans hk
      have hi2 : I pre W2 := by rw [← hW2]; exact hIo _ _ _ _ _ hi (by omega) hl rfl
      have hc2 : W2.cell? ⟨Bs_, 0, none⟩ = W.cell? ⟨Bs_, 0, none⟩ := by rw [← hW2]; exact put_cell hl (by omega)
      have hb := hbody (w.heap.size + 1) pre x W2 hi2 hpl hxs hxl
      rw [← hW2] at hb
      rw [hrec] at hb ⊢
      refine wpIn_mono hb ?_
      rintro e a3 W3 hp
      cases e with
      | normal =>
        obtain ⟨hk3, hi3, hc3⟩ := hp
        rw [← hrec, hW2] at hk3 hc3
        have hl3 := hk3.same _ _ hl2 rfl
        have hk4 := hk3.same _ _ hk2 rfl
        have hr := run_endRound (P := Tryz.prog) none hl3
        have hlt3 : w.heap.size + 1 < W3.heap.size := (Array.getElem?_eq_some_iff.1 hl3).1
        refine ⟨_, _, hr, rfl, ⟨hIo _ _ _ _ _ hi3 (by omega) hl3 rfl, ?_, (World.putObj_heap_other (by omega)).trans hk4⟩, (put_cell hl3 (by omega)).trans (hc3.trans hc2)⟩
        rw [World.putObj_heap_same hlt3, hrec]
        rfl
      | _ => exact hp.elim
    · rintro e W2 ⟨⟨v, rfl⟩, hi, hl, hk⟩
      refine ⟨none, _, (by have := run_endLoop (P := Tryz.prog) hl (by rw [hrec]; simp); rw [hrec] at this; exact this), hdone _ _ (Nat.le_refl _) (hIo _ _ _ _ _ hi (by omega) hl rfl) ((World.putObj_heap_other (by omega)).trans hk)⟩
/-- .. at one loop variable in slot p2, handed over in p1 -/
theorem range_split1 (n : Nat) (hn : 5 ≤ n) {g : Operand} {p1 p2 : Nat} {assign body : Code} {Q : Exit → Act → World → Prop} {a : Act} {w : World} (Bp Bs_ Bv : Nat) (s : ByteArray) (m : Int)
    (hg : a.eval g = .func (.func 99) #[] #[.pointer (some ⟨Bp, 0, none⟩), .pointer (some ⟨Bs_, 0, none⟩), .pointer (some ⟨Bv, 0, none⟩)])
    (I : List Bs → World → Prop)
    (hIc : ∀ pre W, I pre W → W.cell? ⟨Bp, 0, none⟩ = some (.string ⟨#[38]⟩) ∧ W.cell? ⟨Bv, 0, none⟩ = some (.int .i64 0) ∧ MX W m ∧ W.frozen? ⟨Bs_, 0, none⟩ = false)
    (hIs : ∀ pre W v, I pre W → I pre (W.setCell ⟨Bs_, 0, none⟩ v))
    (hIo : ∀ pre W l o o', I pre W → w.heap.size ≤ l → W.heap[l]? = some o → o.isCells = false → I pre (W.putObj l o'))
    (hIa : ∀ pre W o, I pre W → I pre (W.alloc o))
    (hBs : Bs_ < w.heap.size) (hsz : s.size ≤ 2000000) (hs : w.cell? ⟨Bs_, 0, none⟩ = some (.string s)) (h0 : I [] w)
    (hassign : ∀ (l : Nat) (x : ByteArray) (W : World) (K : Act → World → Prop), K { tmps := (a.tmps.setIfInBounds p1 (.string x)).setIfInBounds p2 (.string x), defers := [] } W →
      assign.wpIn (Fence.wide.inRound l) (n - 1 - 1) Tryz.prog (Exit.then K (fun _ _ _ => False)) { tmps := a.tmps.setIfInBounds p1 (.string x), defers := [] } W)
    (hbody : ∀ (l : Nat) (pre : List Bs) (x : ByteArray) (W : World), I pre W → pre.length ≤ s.size → (∀ c ∈ x.data.toList, c ∈ s.data.toList) → x.size ≤ s.size → body.wpIn (Fence.wide.inRound l) (n - 1 - 1) Tryz.prog (rdPost Bs_ (I (pre ++ [x.data.toList])) W) { tmps := (a.tmps.setIfInBounds p1 (.string x)).setIfInBounds p2 (.string x), defers := [] } W)
    (hdone : ∀ (D : Nat) (W : World), w.heap.size ≤ D → I (Lib.split s.data.toList [38]) W → W.heap[D]? = some (.deferred (some [])) → Q .normal { a with defers := { target := .collected D, args := #[] } :: a.defers } W) :
    (Code.rangeFunc g #[p1] assign body).wpIn Fence.wide n Tryz.prog Q a w :=
  range_split n hn Bp Bs_ Bv s m hg rfl I hIc hIs hIo hIa hBs hsz hs h0 (fun x => { tmps := (a.tmps.setIfInBounds p1 (.string x)).setIfInBounds p2 (.string x), defers := [] }) (fun l x W K hK => by
    have := hassign l x W K hK
    have e : (#[p1].zip #[Value.string x]).foldl (fun t (p, v) => t.setIfInBounds p v) a.tmps = a.tmps.setIfInBounds p1 (.string x) := by simp
    rw [e]
    exact this) hbody hdone
end Go.Proofs.YtdfgnoflohfnmaaGreatDoor.Hx
/-! HTTP: strings.SplitSeq's value. -/
namespace Go.Proofs.YtdfgnoflohfnmaaGreatDoor.Hx
open Go.RowKit Go.Maps Go.Shelf

abbrev sqW (w : World) (s sep : ByteArray) : World := ((w.alloc (.cells #[.string s] 9 (0, 0))).alloc (.cells #[.string sep] 9 (0, 0))).alloc (.cells #[.int .i64 0] 3 (0, 0))
abbrev sqV (n : Nat) : Value := .func (.func 99) #[] #[.pointer (some ⟨n + 1, 0, none⟩), .pointer (some ⟨n, 0, none⟩), .pointer (some ⟨n + 2, 0, none⟩)]
theorem split_make0 (s sep : ByteArray) (w : World) : Calls Tryz.prog 75 #[.string s, .string sep, .int .i64 0] w fun e w' => e = .returned (sqV w.heap.size) ∧ w' = sqW w s sep := by
  go_enter Tryz.func75, Tryz.ntmps75
  go_wp2_with fail
  go_ret
  exact ⟨rfl, rfl⟩
theorem split_make (s sep : ByteArray) (w : World) : Calls Tryz.prog 42 #[.string s, .string sep] w fun e w' => e = .returned (sqV w.heap.size) ∧ w' = sqW w s sep := by
  have hm := fun W => Lib.hid (split_make0 s sep W)
  go_enter Tryz.func42, Tryz.ntmps42
  go_wp2_with (first
    | (go_at_call 75; refine ((hm _).out).mono ?_; rintro e w1 ⟨rfl, rfl⟩))
  go_ret
  exact ⟨rfl, rfl⟩
end Go.Proofs.YtdfgnoflohfnmaaGreatDoor.Hx
