/- HTTP: a target that is well formed so far: bootprint/http.Target, walked. -/
import Derived.Test.YtdfgnoflohfnmaaGreatDoorHm
import Derived.Maps.OwnIn
namespace Go.Proofs.YtdfgnoflohfnmaaGreatDoor.Hx
open Go.RowKit Go.Maps Go.Shelf

attribute [local go_sem] Oper.semAt_some
theorem info_pr : (Tryz.prog.info? 60).map (fun i => (i.zero, i.size, i.bytes)) = some (some (.agg #[.string ⟨#[]⟩, .string ⟨#[]⟩]), 2, 32) := by kernel_rfl
theorem fold_len : ∀ (segs : List Bs) (ok : Bool) (l : Pr), (segs.foldl stQ (ok, l)).2.length ≤ l.length + segs.length
  | [], _, l => by simp
  | s :: t, ok, l => by
    rw [List.foldl_cons, show stQ (ok, l) s = ((stQ (ok, l) s).1, (stQ (ok, l) s).2) from rfl]
    refine Nat.le_trans (fold_len t _ _) ?_
    have : (stQ (ok, l) s).2.length ≤ l.length + 1 := by unfold stQ; dsimp only; split <;> simp
    simp only [List.length_cons]; omega
theorem own_ne {W : World} {base e size n : Nat} {v : Value} {xs : List Value} {k : Nat} (h : W.ownsRow base e size v n xs) (hk : k < base) : v.ownBlock = none ∨ v.ownBlock ≠ some k := by
  refine .inr (fun e => ?_)
  have := (h.lt k e).1
  omega
theorem unesc_ret (plus : Bool) (s : ByteArray) (w : World) (hs : s.size ≤ 1000000) :
    Calls Tryz.prog 41 #[.string s, .bool plus] w fun e w' => e = .returned (.tuple #[.string ⟨((unesc plus s.data.toList).getD []).toArray⟩, .bool (unesc plus s.data.toList).isSome]) ∧ w.grownBy w' none :=
  (unescape_any plus s w hs).mono fun e w' h => ⟨by rw [h.1]; cases unesc plus s.data.toList <;> rfl, h.2⟩
set_option maxRecDepth 100000 in
set_option maxHeartbeats 6400000 in
theorem target_good (s : ByteArray) (m : Int) (w : World) (hm : MX w m) (hz : 0 < s.size) (hz2 : ¬ 2048 < s.size) (hd : s[0].toNat = 47) (ht : s.data.toList.all tgB = true) :
    Calls Tryz.prog 21 #[.string s] w (TK s.data.toList w) := by
  have hzl : s.data.toList.length = s.size := Array.length_toList
  have h1' : ¬ (s.size : Int) < 1 := by omega
  have h2' : ¬ (2048 : Int) < (s.size : Int) := by omega
  have h3' : (s[0].toNat : Int) = 47 := by omega
  have hal : ∀ W, CallsIn Fence.wide (10 - 1) Tryz.prog 38 #[.string s, .func (.func 39) #[] #[]] W fun e w' => e = .returned (.bool true) ∧ w' = W := fun W => callsIn_wide.2 (by have := all_tg s W (by omega); rw [ht] at this; exact this)
  obtain ⟨P1, hP1⟩ : ∃ P1 : ByteArray, P1 = ⟨(Lib.cut s.data.toList [63]).1.toArray⟩ := ⟨_, rfl⟩
  obtain ⟨Q1, hQ1⟩ : ∃ Q1 : ByteArray, Q1 = ⟨(Lib.cut s.data.toList [63]).2.1.toArray⟩ := ⟨_, rfl⟩
  obtain ⟨f1, hf1⟩ : ∃ f1, f1 = (Lib.cut s.data.toList [63]).2.2 := ⟨_, rfl⟩
  have hcut : ∀ W, MX W m → CallsIn Fence.wide (10 - 1) Tryz.prog 40 #[.string s, .string ⟨#[63]⟩] W fun e w' => e = .returned (.tuple #[.string P1, .string Q1, .bool f1]) ∧ ∃ q, w' = W.drewN q := fun W hW => callsIn_wide.2 (by
    have := Tryz.strings_Cut s ⟨#[63]⟩ m W (by omega) hW
    rw [show (⟨#[63]⟩ : ByteArray).data.toList = [63] from rfl, ← hP1, ← hQ1, ← hf1] at this
    exact this)
  have hPl : P1.data.toList = (Lib.cut s.data.toList [63]).1 := by rw [hP1]
  have hQl : Q1.data.toList = (Lib.cut s.data.toList [63]).2.1 := by rw [hQ1]
  have hPz : P1.size ≤ 2048 := by
    have h1 : P1.data.toList.length = P1.size := Array.length_toList
    have := cut_len1 s.data.toList [63]
    rw [← h1, hPl]; omega
  have hQz : Q1.size ≤ 2048 := by
    have h1 : Q1.data.toList.length = Q1.size := Array.length_toList
    have := cut_len2 s.data.toList [63]
    rw [← h1, hQl]; omega
  obtain ⟨P2, hP2⟩ : ∃ P2 : ByteArray, P2 = ⟨((unesc false P1.data.toList).getD []).toArray⟩ := ⟨_, rfl⟩
  obtain ⟨o2, ho2⟩ : ∃ o2 : Bool, o2 = (unesc false P1.data.toList).isSome := ⟨_, rfl⟩
  have hun : ∀ W, CallsIn Fence.wide (10 - 1) Tryz.prog 41 #[.string P1, .bool false] W fun e w' => e = .returned (.tuple #[.string P2, .bool o2]) ∧ W.grownBy w' none := fun W => callsIn_wide.2 (by
    have := unesc_ret false P1 W (by omega)
    rw [← hP2, ← ho2] at this
    exact this)
  have hsm : ∀ W, CallsIn Fence.wide (10 - 1) Tryz.prog 42 #[.string Q1, .string ⟨#[38]⟩] W fun e w' => e = .returned (sqV W.heap.size) ∧ w' = sqW W Q1 ⟨#[38]⟩ := fun W => callsIn_wide.2 (split_make Q1 ⟨#[38]⟩ W)
  have hmx : MX (w.alloc (.cells #[.slice none 0 0] 30 (0, 0))) m := hm.grown (gb_alloc (gb_refl w none) _) (by simp)
  have h10 : 1 ≤ 10 := by decide
  have hF1 : Fence.wide.fn 38 := trivial
  have hF2 : Fence.wide.fn 40 := trivial
  have hF3 : Fence.wide.fn 41 := trivial
  have hF4 : Fence.wide.fn 42 := trivial
  have hQzh := Lib.hid hQz
  have hEnd := Lib.hid (show tgtP s.data.toList = tgJoin (unesc false P1.data.toList) (parsP (Lib.split Q1.data.toList [38])) from by
    unfold tgtP
    rw [if_neg, hPl, hQl]
    · rfl
    · rintro (e | e | e | e)
      · omega
      · omega
      · apply e
        rw [List.head?_eq_getElem?, List.getElem?_eq_getElem (l := s.data.toList) (by rw [hzl]; exact hz)]
        exact congrArg some (UInt8.toNat_inj.mp hd)
      · rw [ht] at e; cases e)
  have hP2h := Lib.hid hP2
  have ho2h := Lib.hid ho2
  have hmz : 0 < w.heap.size := block_lt hm
  have hmh := Lib.hid hm
  clear hP1 hQ1 hf1 hPl hQl hPz hQz hP2 ho2 hm hz2 hd ht hzl
  refine (callsIn_wide (n := 10)).1 ?_
  refine callsIn_of_wp_marks Tryz.func21 rfl trivial ?_ rfl
  simp only [Tryz.ntmps21, List.size_toArray, List.length_cons, List.length_nil, Nat.reduceAdd, Nat.reduceSub, Array.replicate_succ, Array.replicate_zero, List.push_toArray, List.append_toArray, List.nil_append, List.cons_append]
  gi_wp2_with (first
    | (gi_at_call 38; refine (hal _).mono ?_; rintro e w3 ⟨rfl, rfl⟩)
    | (gi_at_call 40; refine (hcut _ hmx).mono ?_; rintro e w3 ⟨rfl, q3, rfl⟩)
    | (gi_at_call 41; refine (hun _).mono ?_; rintro e w4 ⟨rfl, g4⟩)
    | (gi_at_call 42; refine (hsm _).mono ?_; rintro e w5 ⟨rfl, rfl⟩))
  have hg45 : w.heap.size + 1 ≤ w4.heap.size := by have := g4.size; simpa using this
  have G : TG w w.heap.size w4.heap.size (w4.heap.size + 1) (w4.heap.size + 4) := ⟨Nat.le_refl _, by omega, by omega, by omega⟩
  obtain ⟨t1, t2, t3, t4, t5, t6, t7, t8⟩ := tg_start w4 o2 Q1
  refine range_split1 (p2 := 9) 10 (by decide) (w4.heap.size + 1 + 1) (w4.heap.size + 1) (w4.heap.size + 1 + 2) Q1 m (by simp [Act.eval]) (fun pre W => TI w m w.heap.size w4.heap.size (w4.heap.size + 1) (w4.heap.size + 4) (pre.foldl stQ (o2, [])) W) ?hIc ?hIs ?hIo ?hIa ?hBs (by have := hQzh.out; omega) ?hs ?h0 ?assign ?body ?done
  case hIc => exact fun pre W h => ⟨h.b1, h.b2, h.mx, h.fs⟩
  case hIs => exact fun pre W v h => h.box G v
  case hIo => exact fun pre W l o o' h hl ho hc => h.put G o' (by simp at hl; omega) ho hc
  case hIa => exact fun pre W o h => h.alloc G o
  case hBs => simp
  case hs => exact t5
  case h0 =>
    have r0 : w4.cell? ⟨w.heap.size, 0, none⟩ = some (.slice none 0 0) := cell_grown (row := none) (by exact cell_of_row _ w.heap.size 0 _ _ _ (heap_alloc_new w _)) g4 (by simp)
    have r1 : w4.frozen? ⟨w.heap.size, 0, none⟩ = false := (frozen_gb (by simp) g4 (by simp)).trans (by exact new_thaw w _ _ rfl)
    have gW : w.grownBy w4 none := gb_trans (gb_drewN (gb_alloc (gb_refl w none) _) q3) g4
    exact ⟨⟨_, cell_grown r0 t1 (by simp), World.ownsRow_nil _ _ _ _⟩, (frozen_gb (by omega) t1 (by simp)).trans r1, t3, t4, t7, t8, t6, by rw [t2]; omega, (hmh.out.grown gW (by simp)).grown t1 (by simp), hmz, gb_trans gW t1⟩
  case assign =>
    intro l x W K hK
    gi_wp2
    exact hK
  case body =>
    rintro l pre x W hI hpl hxs hxl
    clear hal hcut hun hsm hmx hF1 hF2 hF3 hF4 t1 t2 t3 t4 t5 t6 t7 t8 g4
    obtain ⟨st, hst⟩ : ∃ st, pre.foldl stQ (o2, []) = st := ⟨_, rfl⟩
    rw [hst] at hI
    have hstl : st.2.length ≤ 2048 := by
      rw [← hst]
      exact Nat.le_trans (fold_len pre o2 []) (by have := hQzh.out; simp; omega)
    clear hpl
    have hpost : Hid ((pre ++ [x.data.toList]).foldl stQ (o2, []) = stQ st x.data.toList) := by unfold Hid; rw [List.foldl_append, hst]; rfl
    have hxz : x.data.toList.length = x.size := Array.length_toList
    have hxs2 : x.size ≤ 2048 := Nat.le_trans hxl hQzh.out
    obtain ⟨N1, hN1⟩ : ∃ N1 : ByteArray, N1 = ⟨(Lib.cut x.data.toList [61]).1.toArray⟩ := ⟨_, rfl⟩
    obtain ⟨V1, hV1⟩ : ∃ V1 : ByteArray, V1 = ⟨(Lib.cut x.data.toList [61]).2.1.toArray⟩ := ⟨_, rfl⟩
    obtain ⟨f2, hf2⟩ : ∃ f2, f2 = (Lib.cut x.data.toList [61]).2.2 := ⟨_, rfl⟩
    have hcx : CallsIn (Fence.wide.inRound l) (10 - 1 - 1 - 1) Tryz.prog 40 #[.string x, .string ⟨#[61]⟩] W fun e w' => e = .returned (.tuple #[.string N1, .string V1, .bool f2]) ∧ ∃ q, w' = W.drewN q := CallsIn.inRound l (callsIn_wide.2 (by
      have := Tryz.strings_Cut x ⟨#[61]⟩ m W (by omega) hI.mx
      rw [show (⟨#[61]⟩ : ByteArray).data.toList = [61] from rfl, ← hN1, ← hV1, ← hf2] at this
      exact this))
    have hNl : N1.data.toList = (Lib.cut x.data.toList [61]).1 := by rw [hN1]
    have hVl : V1.data.toList = (Lib.cut x.data.toList [61]).2.1 := by rw [hV1]
    have hNz : N1.size ≤ 2048 := by
      have h1 : N1.data.toList.length = N1.size := Array.length_toList
      have := cut_len1 x.data.toList [61]
      rw [← h1, hNl]; omega
    have hVz : V1.size ≤ 2048 := by
      have h1 : V1.data.toList.length = V1.size := Array.length_toList
      have := cut_len2 x.data.toList [61]
      rw [← h1, hVl]; omega
    obtain ⟨N2, hN2⟩ : ∃ N2 : ByteArray, N2 = ⟨((unesc true N1.data.toList).getD []).toArray⟩ := ⟨_, rfl⟩
    obtain ⟨n2, hn2⟩ : ∃ n2 : Bool, n2 = (unesc true N1.data.toList).isSome := ⟨_, rfl⟩
    obtain ⟨V2, hV2⟩ : ∃ V2 : ByteArray, V2 = ⟨((unesc true V1.data.toList).getD []).toArray⟩ := ⟨_, rfl⟩
    obtain ⟨v2, hv2⟩ : ∃ v2 : Bool, v2 = (unesc true V1.data.toList).isSome := ⟨_, rfl⟩
    have hu1 : ∀ W, CallsIn (Fence.wide.inRound l) (10 - 1 - 1 - 1) Tryz.prog 41 #[.string N1, .bool true] W fun e w' => e = .returned (.tuple #[.string N2, .bool n2]) ∧ W.grownBy w' none := fun W => CallsIn.inRound l (callsIn_wide.2 (by
      have := unesc_ret true N1 W (by omega)
      rw [← hN2, ← hn2] at this
      exact this))
    have hu2 : ∀ W, CallsIn (Fence.wide.inRound l) (10 - 1 - 1 - 1) Tryz.prog 41 #[.string V1, .bool true] W fun e w' => e = .returned (.tuple #[.string V2, .bool v2]) ∧ W.grownBy w' none := fun W => CallsIn.inRound l (callsIn_wide.2 (by
      have := unesc_ret true V1 W (by omega)
      rw [← hV2, ← hv2] at this
      exact this))
    have hStep : Hid (stQ st x.data.toList = (st.1 && n2 && v2, if N2.data.toList ≠ [] ∨ V2.data.toList ≠ [] then st.2 ++ [(N2.data.toList, V2.data.toList)] else st.2)) := by
      unfold Hid stQ
      rw [← hNl, ← hVl, ← hn2, ← hv2, hN2, hV2]
    obtain ⟨i0, hi0, hz0, hz1, hz2⟩ := info_parts info_pr
    have hB1 : Fence.wide.fn 40 := trivial
    have hB2 : Fence.wide.fn 41 := trivial
    have hB3 : 1 ≤ 10 - 1 - 1 := by decide
    have hIh := Lib.hid hI
    clear hN1 hV1 hf2 hNl hVl hNz hVz hN2 hn2 hV2 hv2 hI hxs hxl hxs2 hxz hst
    gi_wp2_with (first
      | (gi_at_call 40; refine hcx.mono ?_; clear hcx; rintro e w5 ⟨rfl, q5, rfl⟩)
      | (gi_at_call 41; refine (hu1 _).mono ?_; clear hu1; rintro e w6 ⟨rfl, g6⟩)
      | (gi_at_call 41; refine (hu2 _).mono ?_; clear hu2; rintro e w7 ⟨rfl, g7⟩; have hI7 := ((hIh.out.still G (gb_drewN (gb_refl _ _) _)).still G g6).still G g7; have k7 := hI7.ok; have f7 := hI7.fk; obtain ⟨v7, r7, o7⟩ := hI7.row; have hr7 := hI7.fr; have o8 := fun b : Bool => (o7.kept (gb_setR (gb_refl w7 (some w4.heap.size)) 0 (.bool b)) (own_ne o7 (by omega))); have r8 := fun b : Bool => cell_grown r7 (gb_setR (gb_refl w7 (some w4.heap.size)) 0 (.bool b)) (by simp; omega); have fr8 : ∀ b : Bool, (w7.setCell ⟨w4.heap.size, 0, none⟩ (.bool b)).frozen? ⟨w.heap.size, 0, none⟩ = false := (fun b => (by rw [World.frozen?_setCell]; exact hr7)); have z7 : w4.heap.size + 4 ≤ w7.heap.size := (by have := block_lt hI7.b2; omega))
      | (gi_at_builtin; refine wpListIn_append_own_at _ rfl _ _ 30 rfl (w4.heap.size + 4) 60 i0 (.agg #[.string ⟨#[]⟩, .string ⟨#[]⟩]) 2 32 Tryz.underlying30 hi0 hz0 hz1 hz2 rfl (by decide) v7 _ _ rfl ((o8 _).alloc _) ⟨_, 0, none⟩ 1 1 [.string N2, .string V2] rfl rfl (news_new _ _ (by simp [World.setCell])) (by simp [Value.oneCell']) (by unfold maxLen; omega) (by omega) (by simp; omega) ?_; intro v9 w9 o9 g9 _ at9; obtain ⟨g2, cap2, rfl⟩ := ownsRow_succ o9; clear at9; have r9 := cell_grown (cell_grown (r8 _) (gb_alloc (gb_refl _ none) _) (by simp)) g9 (own_some o7 (by omega)); have fr9 := (frozen_gb (by simp [World.setCell]; omega) g9 (own_some o7 (by omega))).trans ((frozen_gb (by simp [World.setCell]; omega) (gb_alloc (gb_refl _ none) _) (by simp)).trans (fr8 _))))
    all_goals
      have gW : W.grownBy w7 none := gb_trans (gb_trans (gb_drewN (gb_refl _ _) _) g6) g7
      have hS := hpost.out.trans hStep.out
      clear hpost hStep
      first
        | (refine end_skip hIh.out G gW _ (fun W' hW => ?_) _
           rw [hS, st_skip (by first | (rw [‹st.fst = true›, ‹n2 = true›] <;> rfl) | (rw [‹st.fst = true›, show n2 = false from by simpa using ‹¬ n2 = true›] <;> rfl) | (rw [show st.fst = false from by simpa using ‹¬ st.fst = true›] <;> rfl)) ‹N2.toList = []› (by first | exact is_empty ‹¬ (!V2.toList.isEmpty) = true› | exact is_empty' ‹(!V2.toList.isEmpty) = false› | assumption)]
           exact hW)
        | (refine end_put hIh.out G gW _ _ r7 o7 g9 o9 (fun W' hW => ?_) _
           rw [hS, st_app (by first | (rw [‹st.fst = true›, ‹n2 = true›] <;> rfl) | (rw [‹st.fst = true›, show n2 = false from by simpa using ‹¬ n2 = true›] <;> rfl) | (rw [show st.fst = false from by simpa using ‹¬ st.fst = true›] <;> rfl)) (by first | exact .inl ‹¬ N2.toList = []› | exact .inr (not_empty ‹(!V2.toList.isEmpty) = true›))]
           exact hW)
  case done =>
    rintro D W hD hI hK
    have hI : TI w m w.heap.size w4.heap.size (w4.heap.size + 1) (w4.heap.size + 4) ((Lib.split Q1.data.toList [38]).foldl stQ (o2, [])) W := hI
    obtain ⟨st, hst⟩ : ∃ st, (Lib.split Q1.data.toList [38]).foldl stQ (o2, []) = st := ⟨_, rfl⟩
    rw [hst] at hI
    obtain ⟨okv, l⟩ := st
    rw [ho2h.out] at hst
    obtain ⟨v, rv, ov⟩ := hI.row
    obtain ⟨A, c, rfl⟩ := row_shape ov
    have kv := hI.ok
    have fr := hI.fr
    have gW := hI.gb
    have hD2 : w.heap.size + 1 ≤ D := by have hD3 : (tgW w4 o2 Q1).heap.size ≤ D := hD; rw [t2] at hD3; omega
    have hD4 : w4.heap.size + 4 ≤ D := by have hD3 : (tgW w4 o2 Q1).heap.size ≤ D := hD; rw [t2] at hD3; exact hD3
    clear hal hcut hun hsm hmx hF1 hF2 hF3 hF4 t1 t2 t3 t4 t5 t6 t7 t8 g4 hI hD
    dsimp only at kv ov rv
    cases okv with
    | false =>
      have hT := Lib.hid (hEnd.out.trans (tgt_no hst))
      clear hst hEnd
      gi_wp2
      have hK2 := (Below.heap_setCell W ⟨w.heap.size, 0, none⟩ (.slice none 0 0) D (by show D ≠ w.heap.size; omega)).trans hK
      have hc2 := (put_cell (o' := .deferred none) hK2 (show w.heap.size ≠ D by omega)).trans (World.cell?_setCell_same' W ⟨w.heap.size, 0, none⟩ (.slice none 0 0) (by rw [rv]; rfl))
      refine ⟨by simp, .inl ⟨_, _, rfl, run_takeDeferred hK2, ?_⟩⟩
      refine ⟨.tuple #[.string ⟨#[]⟩, .slice none 0 0, .int .i64 2], by simp [results, Tryz.results21, go_sem, hc2], ?_⟩
      exact TK.ill hT.out (gb_more (gb_setN gW (Nat.le_refl _) _ _) (grownBy_putObj' _ D _) (fun g e => .inr (by have := Option.some.inj e; omega)))
    | true =>
      have hT := Lib.hid (hEnd.out.trans (tgt_yes hst))
      clear hst hEnd
      gi_wp2
      gi_region
      all_goals
        gi_wp2
        have hK2 : ((W.setCell ⟨w.heap.size, 0, none⟩ (.slice A l.length c)).drew).heap[D]? = some (.deferred (some [])) := (Below.heap_setCell W ⟨w.heap.size, 0, none⟩ (.slice A l.length c) D (by show D ≠ w.heap.size; omega)).trans hK
        have hs2 : ((W.setCell ⟨w.heap.size, 0, none⟩ (.slice A l.length c)).drew).cell? ⟨w.heap.size, 0, none⟩ = some (.slice A l.length c) := World.cell?_setCell_same' W ⟨w.heap.size, 0, none⟩ (.slice A l.length c) (by rw [rv]; rfl)
        have hc2 := (put_cell (o' := .deferred none) hK2 (show w.heap.size ≠ D by omega)).trans hs2
        have gX := gb_drew (gb_setR (gb_refl W (some w.heap.size)) 0 (.slice A l.length c))
        refine ⟨by simp, .inl ⟨_, _, rfl, run_takeDeferred hK2, ?_⟩⟩
        refine ⟨.tuple #[.string P2, .slice A l.length c, .int .i64 0], by simp [results, Tryz.results21, go_sem, hc2], ?_⟩
        rw [hP2h.out]
        refine TK.good hT.out (ownsRow_putObj (own_base (ov.kept gX (own_ne' ov (by omega))) (by omega)) _ hK2 rfl) (gb_more (gb_drew (gb_setN gW (Nat.le_refl _) _ _)) (grownBy_putObj' _ D _) (fun g e => .inr (by have := Option.some.inj e; omega)))
/-- a target -/
theorem target_any (s : ByteArray) (m : Int) (w : World) (hm : MX w m) : Calls Tryz.prog 21 #[.string s] w (TK s.data.toList w) := by
  by_cases h0 : 0 < s.size
  · by_cases h1 : 2048 < s.size
    · exact target_long s w h1
    · by_cases h2 : s[0].toNat = 47
      · cases h3 : s.data.toList.all tgB with
        | true => exact target_good s m w hm h0 h1 h2 h3
        | false => exact target_odd s w h0 h1 h2 h3
      · exact target_head s w h0 h1 h2
  · exact target_short s w (by omega)
end Go.Proofs.YtdfgnoflohfnmaaGreatDoor.Hx
