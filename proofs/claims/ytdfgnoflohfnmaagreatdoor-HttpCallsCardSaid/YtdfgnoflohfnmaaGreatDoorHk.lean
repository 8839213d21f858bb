/- HTTP: a target: bootprint/http.Target, walked. -/
import Derived.Test.YtdfgnoflohfnmaaGreatDoorHj
import Derived.Test.YtdfgnoflohfnmaaGreatDoorHd
namespace Go.Proofs.YtdfgnoflohfnmaaGreatDoor.Hx
open Go.RowKit Go.Maps Go.Shelf

attribute [local go_sem] Oper.semAt_some
abbrev Pr := List (Bs × Bs)
def prCells (q : Pr) : List Value := q.flatMap fun x => [.string ⟨x.1.toArray⟩, .string ⟨x.2.toArray⟩]
theorem prCells_app (a b : Pr) : prCells (a ++ b) = prCells a ++ prCells b := by simp [prCells]
/-- a round of the loop: is all well? what is told? -/
def stQ (st : Bool × Pr) (seg : Bs) : Bool × Pr :=
  ((st.1 && (unesc true (Lib.cut seg [61]).1).isSome && (unesc true (Lib.cut seg [61]).2.1).isSome),
   if (unesc true (Lib.cut seg [61]).1).getD [] ≠ [] ∨ (unesc true (Lib.cut seg [61]).2.1).getD [] ≠ [] then st.2 ++ [((unesc true (Lib.cut seg [61]).1).getD [], (unesc true (Lib.cut seg [61]).2.1).getD [])] else st.2)
theorem fold_pars : ∀ (segs : List Bs) (ok : Bool) (l : Pr), (segs.foldl stQ (ok, l)).1 = (ok && (parsP segs).isSome) ∧ ∀ q, parsP segs = some q → (segs.foldl stQ (ok, l)).2 = l ++ q
  | [], ok, l => ⟨by simp [parsP], fun q h => by simp [parsP] at h; subst h; simp⟩
  | s :: t, ok, l => by
    rw [List.foldl_cons]
    obtain ⟨h1, h2⟩ := fold_pars t (stQ (ok, l) s).1 (stQ (ok, l) s).2
    rw [pars_cons]
    refine ⟨?_, ?_⟩
    · rw [show stQ (ok, l) s = ((stQ (ok, l) s).1, (stQ (ok, l) s).2) from rfl, h1]
      unfold stQ parP
      cases unesc true (Lib.cut s [61]).1 <;> cases unesc true (Lib.cut s [61]).2.1 <;> simp
    · intro q hq
      unfold parP at hq
      rw [show stQ (ok, l) s = ((stQ (ok, l) s).1, (stQ (ok, l) s).2) from rfl]
      cases hn : unesc true (Lib.cut s [61]).1 with
      | none => rw [hn] at hq; simp at hq
      | some n =>
        cases hv : unesc true (Lib.cut s [61]).2.1 with
        | none => rw [hn, hv] at hq; simp at hq
        | some v =>
          rw [hn, hv] at hq
          simp only [Option.map_eq_some_iff] at hq
          obtain ⟨r, hr, rfl⟩ := hq
          rw [h2 r hr]
          unfold stQ
          rw [hn, hv]
          simp only [Option.getD_some]
          split <;> simp
/-- what a target leaves -/
def TK (s : Bs) (w : World) (e : Ending) (w' : World) : Prop :=
  match tgtP s with
  | none => e = .returned (.tuple #[.string ⟨#[]⟩, .slice none 0 0, .int .i64 2]) ∧ w.grownBy w' none
  | some (p, q) => ∃ v, e = .returned (.tuple #[.string ⟨p.toArray⟩, v, .int .i64 0]) ∧ w'.ownsRow w.heap.size 60 2 v q.length (prCells q) ∧ w.grownBy w' none
theorem TK.ill {s : Bs} {w : World} (h : tgtP s = none) {w' : World} (hg : w.grownBy w' none) : TK s w (.returned (.tuple #[.string ⟨#[]⟩, .slice none 0 0, .int .i64 2])) w' := by
  unfold TK; rw [h]; exact ⟨rfl, hg⟩
set_option maxRecDepth 100000 in
set_option maxHeartbeats 6400000 in
theorem target_short (s : ByteArray) (w : World) (hz : s.size < 1) :
    Calls Tryz.prog 21 #[.string s] w (TK s.data.toList w) := by
  have hzl : s.data.toList.length = s.size := Array.length_toList
  have hT := Lib.hid (show tgtP s.data.toList = none from by unfold tgtP; rw [if_pos (by rw [hzl]; exact .inl hz)])
  have h1' : (s.size : Int) < 1 := by omega
  clear hz
  go_enter Tryz.func21, Tryz.ntmps21
  go_wp2_with fail
  have hc := cell_of_row _ w.heap.size 0 _ _ _ (heap_alloc_new w (.cells #[.slice none 0 0] 30))
  refine bodyPost_ret (v := .tuple #[.string ⟨#[]⟩, .slice none 0 0, .int .i64 2]) (by simp [results, Tryz.results21, go_sem, hc]) rfl ?_
  exact TK.ill hT.out (gb_alloc (gb_refl _ _) _)
set_option maxRecDepth 100000 in
set_option maxHeartbeats 6400000 in
theorem target_long (s : ByteArray) (w : World) (hz2 : 2048 < s.size) :
    Calls Tryz.prog 21 #[.string s] w (TK s.data.toList w) := by
  have hzl : s.data.toList.length = s.size := Array.length_toList
  have hT := Lib.hid (show tgtP s.data.toList = none from by unfold tgtP; rw [if_pos (by rw [hzl]; exact .inr (.inl hz2))])
  have h1' : ¬ (s.size : Int) < 1 := by omega
  have h2' : (2048 : Int) < (s.size : Int) := by omega
  clear hz2
  go_enter Tryz.func21, Tryz.ntmps21
  go_wp2_with fail
  have hc := cell_of_row _ w.heap.size 0 _ _ _ (heap_alloc_new w (.cells #[.slice none 0 0] 30))
  refine bodyPost_ret (v := .tuple #[.string ⟨#[]⟩, .slice none 0 0, .int .i64 2]) (by simp [results, Tryz.results21, go_sem, hc]) rfl ?_
  exact TK.ill hT.out (gb_alloc (gb_refl _ _) _)
set_option maxRecDepth 100000 in
set_option maxHeartbeats 6400000 in
theorem target_head (s : ByteArray) (w : World) (hz : 0 < s.size) (hz2 : ¬ 2048 < s.size) (hd : s[0].toNat ≠ 47) :
    Calls Tryz.prog 21 #[.string s] w (TK s.data.toList w) := by
  have hzl : s.data.toList.length = s.size := Array.length_toList
  have hhd : s.data.toList.head? = some s[0] := by rw [List.head?_eq_getElem?]; exact List.getElem?_eq_getElem (l := s.data.toList) (by rw [hzl]; exact hz)
  have hT := Lib.hid (show tgtP s.data.toList = none from by
    unfold tgtP
    rw [if_pos (.inr (.inr (.inl (by rw [hhd]; intro e; exact hd (by have := Option.some.inj e; rw [this]; rfl)))))])
  have h1' : ¬ (s.size : Int) < 1 := by omega
  have h2' : ¬ (2048 : Int) < (s.size : Int) := by omega
  have h3' : ¬ (s[0].toNat : Int) = 47 := by omega
  clear hz2 hd hhd
  go_enter Tryz.func21, Tryz.ntmps21
  go_wp2_with fail
  have hc := cell_of_row _ w.heap.size 0 _ _ _ (heap_alloc_new w (.cells #[.slice none 0 0] 30))
  refine bodyPost_ret (v := .tuple #[.string ⟨#[]⟩, .slice none 0 0, .int .i64 2]) (by simp [results, Tryz.results21, go_sem, hc]) rfl ?_
  exact TK.ill hT.out (gb_alloc (gb_refl _ _) _)
set_option maxRecDepth 100000 in
set_option maxHeartbeats 6400000 in
theorem target_odd (s : ByteArray) (w : World) (hz : 0 < s.size) (hz2 : ¬ 2048 < s.size) (hd : s[0].toNat = 47) (ht : s.data.toList.all tgB = false) :
    Calls Tryz.prog 21 #[.string s] w (TK s.data.toList w) := by
  have hzl : s.data.toList.length = s.size := Array.length_toList
  have hT := Lib.hid (show tgtP s.data.toList = none from by unfold tgtP; rw [if_pos (.inr (.inr (.inr ht)))])
  have h1' : ¬ (s.size : Int) < 1 := by omega
  have h2' : ¬ (2048 : Int) < (s.size : Int) := by omega
  have h3' : (s[0].toNat : Int) = 47 := by omega
  have hal := fun W => Lib.hid (all_tg s W (by omega))
  rw [ht] at hal
  clear hz2 hd
  go_enter Tryz.func21, Tryz.ntmps21
  go_wp2_with (first
    | (go_at_call 38; refine ((hal _).out).mono ?_; rintro e w3 ⟨rfl, rfl⟩))
  have hc := cell_of_row _ w.heap.size 0 _ _ _ (heap_alloc_new w (.cells #[.slice none 0 0] 30))
  refine bodyPost_ret (v := .tuple #[.string ⟨#[]⟩, .slice none 0 0, .int .i64 2]) (by simp [results, Tryz.results21, go_sem, hc]) rfl ?_
  exact TK.ill hT.out (gb_alloc (gb_refl _ _) _)
end Go.Proofs.YtdfgnoflohfnmaaGreatDoor.Hx
