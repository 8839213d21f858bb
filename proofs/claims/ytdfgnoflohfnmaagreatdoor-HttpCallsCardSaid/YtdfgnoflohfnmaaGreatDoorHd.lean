/- HTTP: a header: bootprint/http.header, walked. -/
import Derived.Test.YtdfgnoflohfnmaaGreatDoorHb
import Derived.Deep.RegionWith
import Derived.Deep.CutRange
namespace Go.Proofs.YtdfgnoflohfnmaaGreatDoor.Hx
open Go.RowKit Go.Maps

/-! a function value held against nil -/
theorem run_equalIn_func_nil {P : Program} {t : TypeId} {ps rs : Array TypeId} {v : Bool} (h : P.underlying t = some (.func ps rs v)) (d : Nat) (f : Fn) (x y : Array Value) (w : World) :
    (Op.equalIn (d + 1) t (.func f x y) .nilFunc).run P w = .ok false w := by simp [Op.equalIn, run_underlying h]
theorem run_equalIn_nilFunc {P : Program} {t : TypeId} {ps rs : Array TypeId} {v : Bool} (h : P.underlying t = some (.func ps rs v)) (d : Nat) (w : World) :
    (Op.equalIn (d + 1) t .nilFunc .nilFunc).run P w = .ok true w := by simp [Op.equalIn, run_underlying h]
theorem run_neq_func_nil {P : Program} {t : TypeId} {ps rs : Array TypeId} {v : Bool} (h : P.underlying t = some (.func ps rs v)) (f : Fn) (x y : Array Value) (w : World) :
    (binOp .neq t (.func f x y) .nilFunc).run P w = .ok (.bool true) w := by
  simp only [binOp]
  simp [Op.equal, Op.maxDepth, run_equalIn_func_nil h 9999]
theorem run_neq_nilFunc {P : Program} {t : TypeId} {ps rs : Array TypeId} {v : Bool} (h : P.underlying t = some (.func ps rs v)) (w : World) :
    (binOp .neq t .nilFunc .nilFunc).run P w = .ok (.bool false) w := by
  simp only [binOp]
  simp [Op.equal, Op.maxDepth, run_equalIn_nilFunc h 9999]

/-! lines, cut and trimmed -/
theorem lineP_got {b : Bs} {s : Bs} {n : Nat} (h : lineP b = .got s n) : s.all lnB = true ∧ s.length ≤ 4096 ∧ n = s.length + 2 ∧ n ≤ b.length := by
  unfold lineP at h
  split at h
  · cases h
  · next h1 =>
    split at h
    · cases h
    · next h2 =>
      split at h
      · next h3 =>
        cases h
        have hr := Lib.index_room b crlf (by omega)
        have e : crlf.length = 2 := rfl
        rw [e] at hr
        have hl : (b.take (Lib.index b crlf).toNat).length = (Lib.index b crlf).toNat := by rw [List.length_take]; omega
        have h4 : ¬ 4096 < Lib.index b crlf := fun e => h1 (.inl e)
        exact ⟨h3, by omega, by omega, by omega⟩
      · cases h
theorem lnB_ascii {c : UInt8} (h : lnB c = true) : c.toNat < 128 := by
  unfold lnB prB at h
  simp only [Bool.or_eq_true, Bool.and_eq_true, decide_eq_true_eq] at h
  omega
theorem cut_mem1 {s p : Bs} {c : UInt8} (h : c ∈ (Lib.cut s p).1) : c ∈ s := by
  unfold Lib.cut at h
  split at h
  · exact List.mem_of_mem_take h
  · exact h
theorem cut_mem2 {s p : Bs} {c : UInt8} (h : c ∈ (Lib.cut s p).2.1) : c ∈ s := by
  unfold Lib.cut at h
  split at h
  · exact List.mem_of_mem_drop h
  · cases h
theorem cut_len1 (s p : Bs) : (Lib.cut s p).1.length ≤ s.length := by
  unfold Lib.cut
  split
  · rw [List.length_take]; omega
  · exact Nat.le_refl _
theorem cut_len2 (s p : Bs) : (Lib.cut s p).2.1.length ≤ s.length := by
  unfold Lib.cut
  split
  · rw [List.length_drop]; omega
  · simp
theorem trim_sub (l cs : Bs) : (Lib.trimS l cs).Sublist l := by
  unfold Lib.trimS Lib.trimLeftS Lib.trimRightS
  refine List.Sublist.trans (List.dropWhile_sublist _) ?_
  have := (List.dropWhile_sublist (cs.contains ·) (l := l.reverse)).reverse
  simpa using this
/-- what a header leaves -/
def HK (R : Nat) (bw : Value) (w : World) (bs : Bs) (σ : RS) (e : Ending) (w' : World) : Prop :=
  match lineP (bs.drop σ.i) with
  | .more => QS1 R bw w .nilFunc σ e w'
  | .bad => ∃ τ : RS, τ.st = 400 ∧ τ.wh = σ.wh ∧ QS1 R bw w .nilFunc τ e w'
  | .got s n =>
    if s = [] then QS1 R bw w (.func (.func 91) #[] #[]) { σ with i := σ.i + n } e w'
    else if 32 < σ.h + 1 then ∃ τ : RS, τ.st = 400 ∧ τ.wh = σ.wh ∧ QS1 R bw w .nilFunc τ e w'
    else match hdrP s σ.l σ.cl with
      | none => ∃ τ : RS, τ.st = 400 ∧ τ.wh = σ.wh ∧ QS1 R bw w .nilFunc τ e w'
      | some (l, c) => QS1 R bw w (.func (.func 67) #[] #[]) { σ with i := σ.i + n, h := σ.h + 1, l := l, cl := c } e w'
set_option maxRecDepth 100000 in
set_option maxHeartbeats 6400000 in
theorem header_none (R : Nat) (bw : Value) (bs : Bs) (σ : RS) (m : Int) (w : World) (h : RB w R bw σ) (hB : RV w R bw bs) (hm : MX w m) (hi : σ.i ≤ bs.length) (hl : bs.length ≤ 2000000) (_hR0 : some 0 ≠ some R) (hL : (∃ s n, lineP (bs.drop σ.i) = .got s n) → ∃ n, lineP (bs.drop σ.i) = .got [] n) :
    Calls Tryz.prog 67 #[.pointer (some ⟨R, 0, none⟩)] w (HK R bw w bs σ) := by
  have hl := line_any R bw bs σ m w h hB hm hi hl
  unfold LK at hl
  unfold HK
  cases hp : lineP (bs.drop σ.i) with
  | more =>
    rw [hp] at hl
    have hl := Lib.hid hl
    clear hL hp hi hm h
    go_enter Tryz.func67, Tryz.ntmps67
    go_wp2_with (first
      | (go_at_call 63; refine (hl.out).mono ?_; rintro e w1 ⟨rfl, h1, g1⟩))
    go_ret
    exact ⟨rfl, h1, g1⟩
  | bad =>
    rw [hp] at hl
    have hl := Lib.hid hl
    clear hL hp hi hm h
    go_enter Tryz.func67, Tryz.ntmps67
    go_wp2_with (first
      | (go_at_call 63; refine (hl.out).mono ?_; rintro e w1 ⟨i1, rfl, h1, g1⟩))
    go_ret
    exact ⟨{ σ with i := i1, st := 400 }, rfl, rfl, rfl, h1, g1⟩
  | got s n =>
    obtain ⟨n', hn⟩ := hL ⟨s, n, hp⟩
    rw [hp] at hl hn
    cases hn
    have hl := Lib.hid hl
    clear hL hp hi hm h
    go_enter Tryz.func67, Tryz.ntmps67
    go_wp2_with (first
      | (go_at_call 63; refine (hl.out).mono ?_; rintro e w1 ⟨rfl, h1, g1⟩))
    go_ret
    exact ⟨rfl, h1, g1⟩
theorem HK.of_wrong {R : Nat} {bw : Value} {w : World} {bs : Bs} {σ : RS} {e : Ending} {w' : World} {s : Bs} {n : Nat} (hp : lineP (bs.drop σ.i) = .got s n) (hs : s ≠ []) (hx : 32 < σ.h + 1 ∨ hdrP s σ.l σ.cl = none) (τ : RS) (h1 : τ.st = 400) (h2 : τ.wh = σ.wh) (h3 : QS1 R bw w .nilFunc τ e w') : HK R bw w bs σ e w' := by
  unfold HK
  rw [hp]
  dsimp only
  rw [if_neg hs]
  by_cases hk : 32 < σ.h + 1
  · rw [if_pos hk]; exact ⟨τ, h1, h2, h3⟩
  · rw [if_neg hk]
    rcases hx with hx | hx
    · exact absurd hx hk
    · rw [hx]; exact ⟨τ, h1, h2, h3⟩
theorem HK.of_more {R : Nat} {bw : Value} {w : World} {bs : Bs} {σ : RS} {e : Ending} {w' : World} {s : Bs} {n : Nat} {l : Int} {c : Bool} (hp : lineP (bs.drop σ.i) = .got s n) (hs : s ≠ []) (hk : ¬ 32 < σ.h + 1) (hx : hdrP s σ.l σ.cl = some (l, c)) (h3 : QS1 R bw w (.func (.func 67) #[] #[]) { σ with i := σ.i + n, h := σ.h + 1, l := l, cl := c } e w') : HK R bw w bs σ e w' := by
  unfold HK
  rw [hp]
  dsimp only
  rw [if_neg hs, if_neg hk, hx]
  exact h3
/-- what a header's name and value tell, the name a name -/
theorem hdrP_none {s : Bs} (len : Int) (cl : Bool) (h : (Lib.cut s [58]).2.2 = false ∨ (Lib.cut s [58]).1.length < 1 ∨ 64 < (Lib.cut s [58]).1.length ∨ (Lib.cut s [58]).1.all nmB = false) : hdrP s len cl = none := by
  unfold hdrP
  rw [if_pos h]
theorem hdrP_name {s : Bs} (len : Int) (cl : Bool) (h : ¬ ((Lib.cut s [58]).2.2 = false ∨ (Lib.cut s [58]).1.length < 1 ∨ 64 < (Lib.cut s [58]).1.length ∨ (Lib.cut s [58]).1.all nmB = false)) : hdrP s len cl =
    (if Lib.toLowerA (Lib.cut s [58]).1 = hLen then (if 0 ≤ len ∨ (Lib.trimS (Lib.cut s [58]).2.1 [32, 9]).length < 1 ∨ 9 < (Lib.trimS (Lib.cut s [58]).2.1 [32, 9]).length ∨ (Lib.trimS (Lib.cut s [58]).2.1 [32, 9]).all digB = false then none else some (decV (Lib.trimS (Lib.cut s [58]).2.1 [32, 9]), cl))
    else if Lib.toLowerA (Lib.cut s [58]).1 = hTra then none
    else if Lib.toLowerA (Lib.cut s [58]).1 = hCon then some (len, cl || decide (Lib.toLowerA (Lib.trimS (Lib.cut s [58]).2.1 [32, 9]) = hClo))
    else some (len, cl)) := by
  unfold hdrP
  rw [if_neg h]
set_option maxRecDepth 100000 in
set_option maxHeartbeats 6400000 in
theorem header_nok (R : Nat) (bw : Value) (bs : Bs) (σ : RS) (m : Int) (w : World) (h : RB w R bw σ) (hB : RV w R bw bs) (hm : MX w m) (hi : σ.i ≤ bs.length) (hl : bs.length ≤ 2000000) (hR0 : some 0 ≠ some R)
    (s : Bs) (n : Nat) (hp : lineP (bs.drop σ.i) = .got s n) (hs : s ≠ []) (hh : 0 ≤ σ.h ∧ σ.h ≤ 100) (hx : (Lib.cut s [58]).2.2 = false) :
    Calls Tryz.prog 67 #[.pointer (some ⟨R, 0, none⟩)] w (HK R bw w bs σ) := by
  have hl := line_any R bw bs σ m w h hB hm hi hl
  unfold LK at hl
  rw [hp] at hl
  dsimp only at hl
  have hl := Lib.hid hl
  obtain ⟨hsl, hsn, _, _⟩ := lineP_got hp
  have hasc : ∀ c ∈ s, c.toNat < 128 := fun c hc => lnB_ascii (List.all_eq_true.mp hsl c hc)
  obtain ⟨S, hS⟩ : ∃ S : ByteArray, S = ⟨s.toArray⟩ := ⟨_, rfl⟩
  rw [← hS] at hl
  have hSl : S.data.toList = s := by rw [hS]
  have hne : (S.toList == []) = false := by rw [Lib.toList_data, hSl, beq_eq_false_iff_ne]; exact hs
  have hSz : S.size = s.length := by rw [← hSl]; exact Array.length_toList.symm
  have hcut := fun W (hm : MX W m) => Lib.hid (Tryz.strings_Cut S ⟨#[58]⟩ m W (by omega) hm)
  rw [show (⟨#[58]⟩ : ByteArray).data.toList = [58] from rfl, hSl] at hcut
  have hw7 : wrap64 (σ.h + 1) = σ.h + 1 := wrap64_id (by omega) (by omega)
  obtain ⟨N, hN⟩ : ∃ N : ByteArray, N = ⟨(Lib.cut s [58]).1.toArray⟩ := ⟨_, rfl⟩
  obtain ⟨V, hV⟩ : ∃ V : ByteArray, V = ⟨(Lib.cut s [58]).2.1.toArray⟩ := ⟨_, rfl⟩
  obtain ⟨ok, hok⟩ : ∃ ok, ok = (Lib.cut s [58]).2.2 := ⟨_, rfl⟩
  rw [← hN, ← hV, ← hok] at hcut
  have hNl : N.data.toList = (Lib.cut s [58]).1 := by rw [hN]
  have hVl : V.data.toList = (Lib.cut s [58]).2.1 := by rw [hV]
  have hNz : (Lib.cut s [58]).1.length = N.size := by rw [← hNl]; exact Array.length_toList
  have hNs := cut_len1 s [58]
  have hVs := cut_len2 s [58]
  have hp := Lib.hid hp
  have hs := Lib.hid hs
  have hmh := Lib.hid hm
  clear hi hm h hS hN hV hSl hSz hsl hB
  rw [← hok] at hx
  subst hx
  have hhd : Hid (hdrP s σ.l σ.cl = none) := hdrP_none _ _ (.inl hok.symm)
  clear hok hNl hVl hNz hNs hVs hasc hsn
  go_enter Tryz.func67, Tryz.ntmps67
  go_wp2_with (first
    | (go_at_call 63; refine (hl.out).mono ?_; rintro e w1 ⟨rfl, h1, g1⟩; have c7 := h1.c7; have f7 := h1.f 7; have m1 := fun v => Lib.hid ((hmh.out.grown g1 hR0).grown (gb_setR (gb_refl _ (some R)) 7 v) hR0))
    | (go_at_call 40; refine ((hcut _ (m1 _).out).out).mono ?_; rintro e w2 ⟨rfl, q2, rfl⟩; have h2 := (h1.set7 (σ.h + 1)).drewN q2; have g2 := gb_drewN (gb_setR g1 7 (.int .i64 (σ.h + 1))) q2; have c7' := h2.c7)
    | (go_at_call 66; refine (wrong_any R bw 400 _ _ h2).mono ?_; rintro e w4 ⟨rfl, h4, g4⟩))
  go_ret
  refine HK.of_wrong hp.out hs.out (.inr hhd.out) _ ?_ ?_ ⟨rfl, h4, gb_trans g2 g4⟩
  · rfl
  · rfl
set_option maxRecDepth 100000 in
set_option maxHeartbeats 6400000 in
theorem header_many (R : Nat) (bw : Value) (bs : Bs) (σ : RS) (m : Int) (w : World) (h : RB w R bw σ) (hB : RV w R bw bs) (hm : MX w m) (hi : σ.i ≤ bs.length) (hl : bs.length ≤ 2000000) (hR0 : some 0 ≠ some R)
    (s : Bs) (n : Nat) (hp : lineP (bs.drop σ.i) = .got s n) (hs : s ≠ []) (hh : 0 ≤ σ.h ∧ σ.h ≤ 100) (hx : (Lib.cut s [58]).2.2 = true) (hk : 32 < σ.h + 1) :
    Calls Tryz.prog 67 #[.pointer (some ⟨R, 0, none⟩)] w (HK R bw w bs σ) := by
  have hl := line_any R bw bs σ m w h hB hm hi hl
  unfold LK at hl
  rw [hp] at hl
  dsimp only at hl
  have hl := Lib.hid hl
  obtain ⟨hsl, hsn, _, _⟩ := lineP_got hp
  have hasc : ∀ c ∈ s, c.toNat < 128 := fun c hc => lnB_ascii (List.all_eq_true.mp hsl c hc)
  obtain ⟨S, hS⟩ : ∃ S : ByteArray, S = ⟨s.toArray⟩ := ⟨_, rfl⟩
  rw [← hS] at hl
  have hSl : S.data.toList = s := by rw [hS]
  have hne : (S.toList == []) = false := by rw [Lib.toList_data, hSl, beq_eq_false_iff_ne]; exact hs
  have hSz : S.size = s.length := by rw [← hSl]; exact Array.length_toList.symm
  have hcut := fun W (hm : MX W m) => Lib.hid (Tryz.strings_Cut S ⟨#[58]⟩ m W (by omega) hm)
  rw [show (⟨#[58]⟩ : ByteArray).data.toList = [58] from rfl, hSl] at hcut
  have hw7 : wrap64 (σ.h + 1) = σ.h + 1 := wrap64_id (by omega) (by omega)
  obtain ⟨N, hN⟩ : ∃ N : ByteArray, N = ⟨(Lib.cut s [58]).1.toArray⟩ := ⟨_, rfl⟩
  obtain ⟨V, hV⟩ : ∃ V : ByteArray, V = ⟨(Lib.cut s [58]).2.1.toArray⟩ := ⟨_, rfl⟩
  obtain ⟨ok, hok⟩ : ∃ ok, ok = (Lib.cut s [58]).2.2 := ⟨_, rfl⟩
  rw [← hN, ← hV, ← hok] at hcut
  have hNl : N.data.toList = (Lib.cut s [58]).1 := by rw [hN]
  have hVl : V.data.toList = (Lib.cut s [58]).2.1 := by rw [hV]
  have hNz : (Lib.cut s [58]).1.length = N.size := by rw [← hNl]; exact Array.length_toList
  have hNs := cut_len1 s [58]
  have hVs := cut_len2 s [58]
  have hp := Lib.hid hp
  have hs := Lib.hid hs
  have hmh := Lib.hid hm
  clear hi hm h hS hN hV hSl hSz hsl hB
  rw [← hok] at hx
  subst hx
  clear hok hNl hVl hNz hNs hVs hasc hsn
  go_enter Tryz.func67, Tryz.ntmps67
  go_wp2_with (first
    | (go_at_call 63; refine (hl.out).mono ?_; rintro e w1 ⟨rfl, h1, g1⟩; have c7 := h1.c7; have f7 := h1.f 7; have m1 := fun v => Lib.hid ((hmh.out.grown g1 hR0).grown (gb_setR (gb_refl _ (some R)) 7 v) hR0))
    | (go_at_call 40; refine ((hcut _ (m1 _).out).out).mono ?_; rintro e w2 ⟨rfl, q2, rfl⟩; have h2 := (h1.set7 (σ.h + 1)).drewN q2; have g2 := gb_drewN (gb_setR g1 7 (.int .i64 (σ.h + 1))) q2; have c7' := h2.c7)
    | (go_at_call 66; refine (wrong_any R bw 400 _ _ h2).mono ?_; rintro e w4 ⟨rfl, h4, g4⟩))
  go_ret
  refine HK.of_wrong hp.out hs.out (.inl hk) _ ?_ ?_ ⟨rfl, h4, gb_trans g2 g4⟩
  · rfl
  · rfl
set_option maxRecDepth 100000 in
set_option maxHeartbeats 6400000 in
theorem header_short (R : Nat) (bw : Value) (bs : Bs) (σ : RS) (m : Int) (w : World) (h : RB w R bw σ) (hB : RV w R bw bs) (hm : MX w m) (hi : σ.i ≤ bs.length) (hl : bs.length ≤ 2000000) (hR0 : some 0 ≠ some R)
    (s : Bs) (n : Nat) (hp : lineP (bs.drop σ.i) = .got s n) (hs : s ≠ []) (hh : 0 ≤ σ.h ∧ σ.h ≤ 100) (hx : (Lib.cut s [58]).2.2 = true) (hk : ¬ 32 < σ.h + 1) (hy : (Lib.cut s [58]).1.length < 1) :
    Calls Tryz.prog 67 #[.pointer (some ⟨R, 0, none⟩)] w (HK R bw w bs σ) := by
  have hl := line_any R bw bs σ m w h hB hm hi hl
  unfold LK at hl
  rw [hp] at hl
  dsimp only at hl
  have hl := Lib.hid hl
  obtain ⟨hsl, hsn, _, _⟩ := lineP_got hp
  have hasc : ∀ c ∈ s, c.toNat < 128 := fun c hc => lnB_ascii (List.all_eq_true.mp hsl c hc)
  obtain ⟨S, hS⟩ : ∃ S : ByteArray, S = ⟨s.toArray⟩ := ⟨_, rfl⟩
  rw [← hS] at hl
  have hSl : S.data.toList = s := by rw [hS]
  have hne : (S.toList == []) = false := by rw [Lib.toList_data, hSl, beq_eq_false_iff_ne]; exact hs
  have hSz : S.size = s.length := by rw [← hSl]; exact Array.length_toList.symm
  have hcut := fun W (hm : MX W m) => Lib.hid (Tryz.strings_Cut S ⟨#[58]⟩ m W (by omega) hm)
  rw [show (⟨#[58]⟩ : ByteArray).data.toList = [58] from rfl, hSl] at hcut
  have hw7 : wrap64 (σ.h + 1) = σ.h + 1 := wrap64_id (by omega) (by omega)
  obtain ⟨N, hN⟩ : ∃ N : ByteArray, N = ⟨(Lib.cut s [58]).1.toArray⟩ := ⟨_, rfl⟩
  obtain ⟨V, hV⟩ : ∃ V : ByteArray, V = ⟨(Lib.cut s [58]).2.1.toArray⟩ := ⟨_, rfl⟩
  obtain ⟨ok, hok⟩ : ∃ ok, ok = (Lib.cut s [58]).2.2 := ⟨_, rfl⟩
  rw [← hN, ← hV, ← hok] at hcut
  have hNl : N.data.toList = (Lib.cut s [58]).1 := by rw [hN]
  have hVl : V.data.toList = (Lib.cut s [58]).2.1 := by rw [hV]
  have hNz : (Lib.cut s [58]).1.length = N.size := by rw [← hNl]; exact Array.length_toList
  have hNs := cut_len1 s [58]
  have hVs := cut_len2 s [58]
  have hp := Lib.hid hp
  have hs := Lib.hid hs
  have hmh := Lib.hid hm
  clear hi hm h hS hN hV hSl hSz hsl hB
  rw [← hok] at hx
  subst hx
  have hhd : Hid (hdrP s σ.l σ.cl = none) := hdrP_none _ _ (.inr (.inl hy))
  have hy0 : (N.size : Int) < 1 := by omega
  clear hok hNl hVl hNz hNs hVs hasc hsn
  clear hy
  go_enter Tryz.func67, Tryz.ntmps67
  go_wp2_with (first
    | (go_at_call 63; refine (hl.out).mono ?_; rintro e w1 ⟨rfl, h1, g1⟩; have c7 := h1.c7; have f7 := h1.f 7; have m1 := fun v => Lib.hid ((hmh.out.grown g1 hR0).grown (gb_setR (gb_refl _ (some R)) 7 v) hR0))
    | (go_at_call 40; refine ((hcut _ (m1 _).out).out).mono ?_; rintro e w2 ⟨rfl, q2, rfl⟩; have h2 := (h1.set7 (σ.h + 1)).drewN q2; have g2 := gb_drewN (gb_setR g1 7 (.int .i64 (σ.h + 1))) q2; have c7' := h2.c7)
    | (go_at_call 66; refine (wrong_any R bw 400 _ _ h2).mono ?_; rintro e w4 ⟨rfl, h4, g4⟩))
  go_ret
  refine HK.of_wrong hp.out hs.out (.inr hhd.out) _ ?_ ?_ ⟨rfl, h4, gb_trans g2 g4⟩
  · rfl
  · rfl
set_option maxRecDepth 100000 in
set_option maxHeartbeats 6400000 in
theorem header_long (R : Nat) (bw : Value) (bs : Bs) (σ : RS) (m : Int) (w : World) (h : RB w R bw σ) (hB : RV w R bw bs) (hm : MX w m) (hi : σ.i ≤ bs.length) (hl : bs.length ≤ 2000000) (hR0 : some 0 ≠ some R)
    (s : Bs) (n : Nat) (hp : lineP (bs.drop σ.i) = .got s n) (hs : s ≠ []) (hh : 0 ≤ σ.h ∧ σ.h ≤ 100) (hx : (Lib.cut s [58]).2.2 = true) (hk : ¬ 32 < σ.h + 1) (hy : 64 < (Lib.cut s [58]).1.length) :
    Calls Tryz.prog 67 #[.pointer (some ⟨R, 0, none⟩)] w (HK R bw w bs σ) := by
  have hl := line_any R bw bs σ m w h hB hm hi hl
  unfold LK at hl
  rw [hp] at hl
  dsimp only at hl
  have hl := Lib.hid hl
  obtain ⟨hsl, hsn, _, _⟩ := lineP_got hp
  have hasc : ∀ c ∈ s, c.toNat < 128 := fun c hc => lnB_ascii (List.all_eq_true.mp hsl c hc)
  obtain ⟨S, hS⟩ : ∃ S : ByteArray, S = ⟨s.toArray⟩ := ⟨_, rfl⟩
  rw [← hS] at hl
  have hSl : S.data.toList = s := by rw [hS]
  have hne : (S.toList == []) = false := by rw [Lib.toList_data, hSl, beq_eq_false_iff_ne]; exact hs
  have hSz : S.size = s.length := by rw [← hSl]; exact Array.length_toList.symm
  have hcut := fun W (hm : MX W m) => Lib.hid (Tryz.strings_Cut S ⟨#[58]⟩ m W (by omega) hm)
  rw [show (⟨#[58]⟩ : ByteArray).data.toList = [58] from rfl, hSl] at hcut
  have hw7 : wrap64 (σ.h + 1) = σ.h + 1 := wrap64_id (by omega) (by omega)
  obtain ⟨N, hN⟩ : ∃ N : ByteArray, N = ⟨(Lib.cut s [58]).1.toArray⟩ := ⟨_, rfl⟩
  obtain ⟨V, hV⟩ : ∃ V : ByteArray, V = ⟨(Lib.cut s [58]).2.1.toArray⟩ := ⟨_, rfl⟩
  obtain ⟨ok, hok⟩ : ∃ ok, ok = (Lib.cut s [58]).2.2 := ⟨_, rfl⟩
  rw [← hN, ← hV, ← hok] at hcut
  have hNl : N.data.toList = (Lib.cut s [58]).1 := by rw [hN]
  have hVl : V.data.toList = (Lib.cut s [58]).2.1 := by rw [hV]
  have hNz : (Lib.cut s [58]).1.length = N.size := by rw [← hNl]; exact Array.length_toList
  have hNs := cut_len1 s [58]
  have hVs := cut_len2 s [58]
  have hp := Lib.hid hp
  have hs := Lib.hid hs
  have hmh := Lib.hid hm
  clear hi hm h hS hN hV hSl hSz hsl hB
  rw [← hok] at hx
  subst hx
  have hhd : Hid (hdrP s σ.l σ.cl = none) := hdrP_none _ _ (.inr (.inr (.inl hy)))
  have hy0 : (64 : Int) < (N.size : Int) := by omega
  have hy1 : ¬ (N.size : Int) < 1 := by omega
  clear hok hNl hVl hNz hNs hVs hasc hsn
  clear hy
  go_enter Tryz.func67, Tryz.ntmps67
  go_wp2_with (first
    | (go_at_call 63; refine (hl.out).mono ?_; rintro e w1 ⟨rfl, h1, g1⟩; have c7 := h1.c7; have f7 := h1.f 7; have m1 := fun v => Lib.hid ((hmh.out.grown g1 hR0).grown (gb_setR (gb_refl _ (some R)) 7 v) hR0))
    | (go_at_call 40; refine ((hcut _ (m1 _).out).out).mono ?_; rintro e w2 ⟨rfl, q2, rfl⟩; have h2 := (h1.set7 (σ.h + 1)).drewN q2; have g2 := gb_drewN (gb_setR g1 7 (.int .i64 (σ.h + 1))) q2; have c7' := h2.c7)
    | (go_at_call 66; refine (wrong_any R bw 400 _ _ h2).mono ?_; rintro e w4 ⟨rfl, h4, g4⟩))
  go_ret
  refine HK.of_wrong hp.out hs.out (.inr hhd.out) _ ?_ ?_ ⟨rfl, h4, gb_trans g2 g4⟩
  · rfl
  · rfl
set_option maxRecDepth 100000 in
set_option maxHeartbeats 6400000 in
theorem header_ill (R : Nat) (bw : Value) (bs : Bs) (σ : RS) (m : Int) (w : World) (h : RB w R bw σ) (hB : RV w R bw bs) (hm : MX w m) (hi : σ.i ≤ bs.length) (hl : bs.length ≤ 2000000) (hR0 : some 0 ≠ some R)
    (s : Bs) (n : Nat) (hp : lineP (bs.drop σ.i) = .got s n) (hs : s ≠ []) (hh : 0 ≤ σ.h ∧ σ.h ≤ 100) (hx : (Lib.cut s [58]).2.2 = true) (hk : ¬ 32 < σ.h + 1) (hy1 : ¬ (Lib.cut s [58]).1.length < 1) (hy2 : ¬ 64 < (Lib.cut s [58]).1.length) (hz : (Lib.cut s [58]).1.all nmB = false) :
    Calls Tryz.prog 67 #[.pointer (some ⟨R, 0, none⟩)] w (HK R bw w bs σ) := by
  have hl := line_any R bw bs σ m w h hB hm hi hl
  unfold LK at hl
  rw [hp] at hl
  dsimp only at hl
  have hl := Lib.hid hl
  obtain ⟨hsl, hsn, _, _⟩ := lineP_got hp
  have hasc : ∀ c ∈ s, c.toNat < 128 := fun c hc => lnB_ascii (List.all_eq_true.mp hsl c hc)
  obtain ⟨S, hS⟩ : ∃ S : ByteArray, S = ⟨s.toArray⟩ := ⟨_, rfl⟩
  rw [← hS] at hl
  have hSl : S.data.toList = s := by rw [hS]
  have hne : (S.toList == []) = false := by rw [Lib.toList_data, hSl, beq_eq_false_iff_ne]; exact hs
  have hSz : S.size = s.length := by rw [← hSl]; exact Array.length_toList.symm
  have hcut := fun W (hm : MX W m) => Lib.hid (Tryz.strings_Cut S ⟨#[58]⟩ m W (by omega) hm)
  rw [show (⟨#[58]⟩ : ByteArray).data.toList = [58] from rfl, hSl] at hcut
  have hw7 : wrap64 (σ.h + 1) = σ.h + 1 := wrap64_id (by omega) (by omega)
  obtain ⟨N, hN⟩ : ∃ N : ByteArray, N = ⟨(Lib.cut s [58]).1.toArray⟩ := ⟨_, rfl⟩
  obtain ⟨V, hV⟩ : ∃ V : ByteArray, V = ⟨(Lib.cut s [58]).2.1.toArray⟩ := ⟨_, rfl⟩
  obtain ⟨ok, hok⟩ : ∃ ok, ok = (Lib.cut s [58]).2.2 := ⟨_, rfl⟩
  rw [← hN, ← hV, ← hok] at hcut
  have hNl : N.data.toList = (Lib.cut s [58]).1 := by rw [hN]
  have hVl : V.data.toList = (Lib.cut s [58]).2.1 := by rw [hV]
  have hNz : (Lib.cut s [58]).1.length = N.size := by rw [← hNl]; exact Array.length_toList
  have hNs := cut_len1 s [58]
  have hVs := cut_len2 s [58]
  have hp := Lib.hid hp
  have hs := Lib.hid hs
  have hmh := Lib.hid hm
  clear hi hm h hS hN hV hSl hSz hsl hB
  rw [← hok] at hx
  subst hx
  have hhd : Hid (hdrP s σ.l σ.cl = none) := hdrP_none _ _ (.inr (.inr (.inr hz)))
  have hy0 : ¬ (N.size : Int) < 1 := by omega
  have hy3 : ¬ (64 : Int) < (N.size : Int) := by omega
  have hal := fun W => Lib.hid (all_nm N W (by omega))
  rw [hNl, hz] at hal
  clear hok hNl hVl hNz hNs hVs hasc hsn
  clear hy1 hy2
  go_enter Tryz.func67, Tryz.ntmps67
  go_wp2_with (first
    | (go_at_call 63; refine (hl.out).mono ?_; rintro e w1 ⟨rfl, h1, g1⟩; have c7 := h1.c7; have f7 := h1.f 7; have m1 := fun v => Lib.hid ((hmh.out.grown g1 hR0).grown (gb_setR (gb_refl _ (some R)) 7 v) hR0))
    | (go_at_call 40; refine ((hcut _ (m1 _).out).out).mono ?_; rintro e w2 ⟨rfl, q2, rfl⟩; have h2 := (h1.set7 (σ.h + 1)).drewN q2; have g2 := gb_drewN (gb_setR g1 7 (.int .i64 (σ.h + 1))) q2; have c7' := h2.c7)
    | (go_at_call 38; refine ((hal _).out).mono ?_; rintro e w3 ⟨rfl, rfl⟩)
    | (go_at_call 66; refine (wrong_any R bw 400 _ _ h2).mono ?_; rintro e w4 ⟨rfl, h4, g4⟩))
  go_ret
  refine HK.of_wrong hp.out hs.out (.inr hhd.out) _ ?_ ?_ ⟨rfl, h4, gb_trans g2 g4⟩
  · rfl
  · rfl
theorem counts_ex (w : World) : Calls Tryz.prog 93 #[] w fun e w' => ∃ r, e = .returned (.map (some r)) ∧ w.grownBy w' none ∧ w'.heap[r]? = some (.map cntE 3) :=
  (counts_any w).mono fun _ _ h => ⟨w.heap.size, h⟩
set_option maxRecDepth 100000 in
set_option maxHeartbeats 6400000 in
theorem header_tra (R : Nat) (bw : Value) (bs : Bs) (σ : RS) (m : Int) (w : World) (h : RB w R bw σ) (hB : RV w R bw bs) (hm : MX w m) (hi : σ.i ≤ bs.length) (hl : bs.length ≤ 2000000) (hR0 : some 0 ≠ some R)
    (s : Bs) (n : Nat) (hp : lineP (bs.drop σ.i) = .got s n) (hs : s ≠ []) (hh : 0 ≤ σ.h ∧ σ.h ≤ 100) (hx : (Lib.cut s [58]).2.2 = true) (hk : ¬ 32 < σ.h + 1) (hy1 : ¬ (Lib.cut s [58]).1.length < 1) (hy2 : ¬ 64 < (Lib.cut s [58]).1.length) (hz : (Lib.cut s [58]).1.all nmB = true) (hKk : Lib.toLowerA (Lib.cut s [58]).1 = hTra) :
    Calls Tryz.prog 67 #[.pointer (some ⟨R, 0, none⟩)] w (HK R bw w bs σ) := by
  have hl := line_any R bw bs σ m w h hB hm hi hl
  unfold LK at hl
  rw [hp] at hl
  dsimp only at hl
  have hl := Lib.hid hl
  obtain ⟨hsl, hsn, _, _⟩ := lineP_got hp
  have hasc : ∀ c ∈ s, c.toNat < 128 := fun c hc => lnB_ascii (List.all_eq_true.mp hsl c hc)
  obtain ⟨S, hS⟩ : ∃ S : ByteArray, S = ⟨s.toArray⟩ := ⟨_, rfl⟩
  rw [← hS] at hl
  have hSl : S.data.toList = s := by rw [hS]
  have hne : (S.toList == []) = false := by rw [Lib.toList_data, hSl, beq_eq_false_iff_ne]; exact hs
  have hSz : S.size = s.length := by rw [← hSl]; exact Array.length_toList.symm
  have hcut := fun W (hm : MX W m) => Lib.hid (Tryz.strings_Cut S ⟨#[58]⟩ m W (by omega) hm)
  rw [show (⟨#[58]⟩ : ByteArray).data.toList = [58] from rfl, hSl] at hcut
  have hw7 : wrap64 (σ.h + 1) = σ.h + 1 := wrap64_id (by omega) (by omega)
  obtain ⟨N, hN⟩ : ∃ N : ByteArray, N = ⟨(Lib.cut s [58]).1.toArray⟩ := ⟨_, rfl⟩
  obtain ⟨V, hV⟩ : ∃ V : ByteArray, V = ⟨(Lib.cut s [58]).2.1.toArray⟩ := ⟨_, rfl⟩
  obtain ⟨ok, hok⟩ : ∃ ok, ok = (Lib.cut s [58]).2.2 := ⟨_, rfl⟩
  rw [← hN, ← hV, ← hok] at hcut
  have hNl : N.data.toList = (Lib.cut s [58]).1 := by rw [hN]
  have hVl : V.data.toList = (Lib.cut s [58]).2.1 := by rw [hV]
  have hNz : (Lib.cut s [58]).1.length = N.size := by rw [← hNl]; exact Array.length_toList
  have hNs := cut_len1 s [58]
  have hVs := cut_len2 s [58]
  have hp := Lib.hid hp
  have hs := Lib.hid hs
  have hmh := Lib.hid hm
  clear hi hm h hS hN hV hSl hSz hsl hB
  rw [← hok] at hx
  subst hx
  have hhd := hdrP_name (s := s) σ.l σ.cl (by rw [← hok, hz]; rintro (e | e | e | e) <;> first | cases e | exact hy1 e | exact hy2 e)
  have hy0 : ¬ (N.size : Int) < 1 := by omega
  have hy3 : ¬ (64 : Int) < (N.size : Int) := by omega
  have hal := fun W => Lib.hid (all_nm N W (by omega))
  rw [hNl, hz] at hal
  have hRn : some R ≠ (none : Option Nat) := by simp
  have fq1 := run_neq_func_nil Tryz.underlying129
  have fq2 := run_neq_nilFunc Tryz.underlying129
  obtain ⟨K, hK⟩ : ∃ K : ByteArray, K = ⟨(Lib.toLowerA N.data.toList).toArray⟩ := ⟨_, rfl⟩
  have hlo := fun W => Lib.hid (Tryz.strings_ToLower_ascii N W (by omega) (fun j b hb => hasc b (cut_mem1 (p := [58]) (by rw [← hNl]; exact List.mem_of_getElem? hb))))
  rw [← hK] at hlo
  have hKl : K.data.toList = Lib.toLowerA (Lib.cut s [58]).1 := by rw [hK, hNl]
  obtain ⟨T, hT⟩ : ∃ T : ByteArray, T = ⟨(Lib.trimS V.data.toList [32, 9]).toArray⟩ := ⟨_, rfl⟩
  have hVz : V.size = V.data.toList.length := Array.length_toList.symm
  have htr := fun W => Lib.hid (Tryz.strings_Trim_laid V ⟨#[32, 9]⟩ W (by rw [hVz, hVl]; omega) (by decide) (fun j b hb => by
    have hm2 := List.mem_of_getElem? hb
    revert hm2
    show b ∈ [32, 9] → _
    intro hm2
    simp at hm2
    rcases hm2 with rfl | rfl <;> decide))
  rw [show (⟨#[32, 9]⟩ : ByteArray).data.toList = [32, 9] from rfl, ← hT] at htr
  have hTl : T.data.toList = Lib.trimS (Lib.cut s [58]).2.1 [32, 9] := by rw [hT, hVl]
  have hTs : T.data.toList.length ≤ 2000000 := by
    have := (trim_sub (Lib.cut s [58]).2.1 [32, 9]).length_le
    rw [hTl]; exact Nat.le_trans this (by omega)
  have hTa : ∀ c ∈ T.data.toList, c.toNat < 128 := fun c hc => hasc c (cut_mem2 (p := [58]) ((trim_sub _ _).subset (by rw [← hTl]; exact hc)))
  rw [← hTl, ← hKl] at hhd
  rw [← hKl] at hKk
  have hn1 : K.data.toList ≠ hLen := by rw [hKk]; decide
  rw [if_neg hn1, if_pos hKk] at hhd
  have hhd := Lib.hid hhd
  have hcf := Lib.hid (show cntF K.data.toList = fTra from by unfold cntF; rw [if_neg hn1, if_pos hKk])
  clear hKk hn1
  clear hok hNl hVl hNz hNs hVs hasc hsn hy1 hy2 hz hK hKl hT hVz hTl
  go_enter Tryz.func67, Tryz.ntmps67
  go_wp2_with (first
    | (go_at_call 63; refine (hl.out).mono ?_; rintro e w1 ⟨rfl, h1, g1⟩; have c7 := h1.c7; have f7 := h1.f 7; have m1 := fun v => Lib.hid ((hmh.out.grown g1 hR0).grown (gb_setR (gb_refl _ (some R)) 7 v) hR0))
    | (go_at_call 40; refine ((hcut _ (m1 _).out).out).mono ?_; rintro e w2 ⟨rfl, q2, rfl⟩; have h2 := (h1.set7 (σ.h + 1)).drewN q2; have g2 := gb_drewN (gb_setR g1 7 (.int .i64 (σ.h + 1))) q2; have c7' := h2.c7)
    | (go_at_call 38; refine ((hal _).out).mono ?_; rintro e w3 ⟨rfl, rfl⟩)
    | (go_at_call 93; refine (counts_ex _).mono ?_; rintro e w5 ⟨r, rfl, g5, b5⟩; have h5 := h2.kept g5 hRn)
    | (go_at_call 94; refine ((hlo _).out).mono ?_; rintro e w6 ⟨rfl, b6⟩; have g6 := gb_of_below b6; have lk := look_counts ((g6.block r (Array.getElem?_eq_some_iff.1 b5).1 (by simp)).trans b5) K; rw [hcf.out] at lk; have h6 := h5.kept g6 hRn; clear b5 b6)
    | (go_at_call 95; refine ((htr _).out).mono ?_; rintro e w7 ⟨rfl, b7⟩; have g7 := gb_of_below b7; have h7 := h6.kept g7 hRn; clear b7)
    | (go_at_call 115; refine (tra_any R bw T { σ with i := σ.i + n, h := σ.h + 1 } _ h7).mono ?_; rintro e w8 ⟨rfl, h8, g8⟩)
    | (go_at_call 66; refine (wrong_any R bw 400 _ _ h8).mono ?_; rintro e w4 ⟨rfl, h4, g4⟩))
  go_ret
  refine HK.of_wrong hp.out hs.out (.inr hhd.out) _ ?_ ?_ ⟨rfl, h4, gb_trans (gb_trans (gb_trans (gb_trans (gb_trans g2 (gb_row g5 _)) (gb_row g6 _)) (gb_row g7 _)) g8) g4⟩
  · rfl
  · rfl
set_option maxRecDepth 100000 in
set_option maxHeartbeats 6400000 in
theorem header_len0 (R : Nat) (bw : Value) (bs : Bs) (σ : RS) (m : Int) (w : World) (h : RB w R bw σ) (hB : RV w R bw bs) (hm : MX w m) (hi : σ.i ≤ bs.length) (hl : bs.length ≤ 2000000) (hR0 : some 0 ≠ some R)
    (s : Bs) (n : Nat) (hp : lineP (bs.drop σ.i) = .got s n) (hs : s ≠ []) (hh : 0 ≤ σ.h ∧ σ.h ≤ 100) (hx : (Lib.cut s [58]).2.2 = true) (hk : ¬ 32 < σ.h + 1) (hy1 : ¬ (Lib.cut s [58]).1.length < 1) (hy2 : ¬ 64 < (Lib.cut s [58]).1.length) (hz : (Lib.cut s [58]).1.all nmB = true) (hKk : Lib.toLowerA (Lib.cut s [58]).1 = hLen) (hq : 0 ≤ σ.l ∨ (Lib.trimS (Lib.cut s [58]).2.1 [32, 9]).length < 1 ∨ 9 < (Lib.trimS (Lib.cut s [58]).2.1 [32, 9]).length ∨ (Lib.trimS (Lib.cut s [58]).2.1 [32, 9]).all digB = false) :
    Calls Tryz.prog 67 #[.pointer (some ⟨R, 0, none⟩)] w (HK R bw w bs σ) := by
  have hl := line_any R bw bs σ m w h hB hm hi hl
  unfold LK at hl
  rw [hp] at hl
  dsimp only at hl
  have hl := Lib.hid hl
  obtain ⟨hsl, hsn, _, _⟩ := lineP_got hp
  have hasc : ∀ c ∈ s, c.toNat < 128 := fun c hc => lnB_ascii (List.all_eq_true.mp hsl c hc)
  obtain ⟨S, hS⟩ : ∃ S : ByteArray, S = ⟨s.toArray⟩ := ⟨_, rfl⟩
  rw [← hS] at hl
  have hSl : S.data.toList = s := by rw [hS]
  have hne : (S.toList == []) = false := by rw [Lib.toList_data, hSl, beq_eq_false_iff_ne]; exact hs
  have hSz : S.size = s.length := by rw [← hSl]; exact Array.length_toList.symm
  have hcut := fun W (hm : MX W m) => Lib.hid (Tryz.strings_Cut S ⟨#[58]⟩ m W (by omega) hm)
  rw [show (⟨#[58]⟩ : ByteArray).data.toList = [58] from rfl, hSl] at hcut
  have hw7 : wrap64 (σ.h + 1) = σ.h + 1 := wrap64_id (by omega) (by omega)
  obtain ⟨N, hN⟩ : ∃ N : ByteArray, N = ⟨(Lib.cut s [58]).1.toArray⟩ := ⟨_, rfl⟩
  obtain ⟨V, hV⟩ : ∃ V : ByteArray, V = ⟨(Lib.cut s [58]).2.1.toArray⟩ := ⟨_, rfl⟩
  obtain ⟨ok, hok⟩ : ∃ ok, ok = (Lib.cut s [58]).2.2 := ⟨_, rfl⟩
  rw [← hN, ← hV, ← hok] at hcut
  have hNl : N.data.toList = (Lib.cut s [58]).1 := by rw [hN]
  have hVl : V.data.toList = (Lib.cut s [58]).2.1 := by rw [hV]
  have hNz : (Lib.cut s [58]).1.length = N.size := by rw [← hNl]; exact Array.length_toList
  have hNs := cut_len1 s [58]
  have hVs := cut_len2 s [58]
  have hp := Lib.hid hp
  have hs := Lib.hid hs
  have hmh := Lib.hid hm
  clear hi hm h hS hN hV hSl hSz hsl hB
  rw [← hok] at hx
  subst hx
  have hhd := hdrP_name (s := s) σ.l σ.cl (by rw [← hok, hz]; rintro (e | e | e | e) <;> first | cases e | exact hy1 e | exact hy2 e)
  have hy0 : ¬ (N.size : Int) < 1 := by omega
  have hy3 : ¬ (64 : Int) < (N.size : Int) := by omega
  have hal := fun W => Lib.hid (all_nm N W (by omega))
  rw [hNl, hz] at hal
  have hRn : some R ≠ (none : Option Nat) := by simp
  have fq1 := run_neq_func_nil Tryz.underlying129
  have fq2 := run_neq_nilFunc Tryz.underlying129
  obtain ⟨K, hK⟩ : ∃ K : ByteArray, K = ⟨(Lib.toLowerA N.data.toList).toArray⟩ := ⟨_, rfl⟩
  have hlo := fun W => Lib.hid (Tryz.strings_ToLower_ascii N W (by omega) (fun j b hb => hasc b (cut_mem1 (p := [58]) (by rw [← hNl]; exact List.mem_of_getElem? hb))))
  rw [← hK] at hlo
  have hKl : K.data.toList = Lib.toLowerA (Lib.cut s [58]).1 := by rw [hK, hNl]
  obtain ⟨T, hT⟩ : ∃ T : ByteArray, T = ⟨(Lib.trimS V.data.toList [32, 9]).toArray⟩ := ⟨_, rfl⟩
  have hVz : V.size = V.data.toList.length := Array.length_toList.symm
  have htr := fun W => Lib.hid (Tryz.strings_Trim_laid V ⟨#[32, 9]⟩ W (by rw [hVz, hVl]; omega) (by decide) (fun j b hb => by
    have hm2 := List.mem_of_getElem? hb
    revert hm2
    show b ∈ [32, 9] → _
    intro hm2
    simp at hm2
    rcases hm2 with rfl | rfl <;> decide))
  rw [show (⟨#[32, 9]⟩ : ByteArray).data.toList = [32, 9] from rfl, ← hT] at htr
  have hTl : T.data.toList = Lib.trimS (Lib.cut s [58]).2.1 [32, 9] := by rw [hT, hVl]
  have hTs : T.data.toList.length ≤ 2000000 := by
    have := (trim_sub (Lib.cut s [58]).2.1 [32, 9]).length_le
    rw [hTl]; exact Nat.le_trans this (by omega)
  have hTa : ∀ c ∈ T.data.toList, c.toNat < 128 := fun c hc => hasc c (cut_mem2 (p := [58]) ((trim_sub _ _).subset (by rw [← hTl]; exact hc)))
  rw [← hTl, ← hKl] at hhd
  rw [← hKl] at hKk
  rw [if_pos hKk] at hhd
  have hcf := Lib.hid (show cntF K.data.toList = fLen from by unfold cntF; rw [if_pos hKk])
  clear hKk
  rw [← hTl] at hq
  rw [if_pos hq] at hhd
  have hhd := Lib.hid hhd
  have hls := Lib.hid (show lenS { σ with i := σ.i + n, h := σ.h + 1 } T.data.toList = none from if_pos hq)
  clear hq
  clear hok hNl hVl hNz hNs hVs hasc hsn hy1 hy2 hz hK hKl hT hVz hTl
  go_enter Tryz.func67, Tryz.ntmps67
  go_wp2_with (first
    | (go_at_call 63; refine (hl.out).mono ?_; rintro e w1 ⟨rfl, h1, g1⟩; have c7 := h1.c7; have f7 := h1.f 7; have m1 := fun v => Lib.hid ((hmh.out.grown g1 hR0).grown (gb_setR (gb_refl _ (some R)) 7 v) hR0))
    | (go_at_call 40; refine ((hcut _ (m1 _).out).out).mono ?_; rintro e w2 ⟨rfl, q2, rfl⟩; have h2 := (h1.set7 (σ.h + 1)).drewN q2; have g2 := gb_drewN (gb_setR g1 7 (.int .i64 (σ.h + 1))) q2; have c7' := h2.c7)
    | (go_at_call 38; refine ((hal _).out).mono ?_; rintro e w3 ⟨rfl, rfl⟩)
    | (go_at_call 93; refine (counts_ex _).mono ?_; rintro e w5 ⟨r, rfl, g5, b5⟩; have h5 := h2.kept g5 hRn)
    | (go_at_call 94; refine ((hlo _).out).mono ?_; rintro e w6 ⟨rfl, b6⟩; have g6 := gb_of_below b6; have lk := look_counts ((g6.block r (Array.getElem?_eq_some_iff.1 b5).1 (by simp)).trans b5) K; rw [hcf.out] at lk; have h6 := h5.kept g6 hRn; clear b5 b6)
    | (go_at_call 95; refine ((htr _).out).mono ?_; rintro e w7 ⟨rfl, b7⟩; have g7 := gb_of_below b7; have h7 := h6.kept g7 hRn; clear b7)
    | (go_at_call 114; refine (length_any R bw T { σ with i := σ.i + n, h := σ.h + 1 } _ h7 hTs).mono ?_; intro e w8 k8; rw [hls.out] at k8; obtain ⟨rfl, h8, g8⟩ := k8)
    | (go_at_call 66; refine (wrong_any R bw 400 _ _ h8).mono ?_; rintro e w4 ⟨rfl, h4, g4⟩))
  go_ret
  refine HK.of_wrong hp.out hs.out (.inr hhd.out) _ ?_ ?_ ⟨rfl, h4, gb_trans (gb_trans (gb_trans (gb_trans (gb_trans g2 (gb_row g5 _)) (gb_row g6 _)) (gb_row g7 _)) g8) g4⟩
  · rfl
  · rfl
set_option maxRecDepth 100000 in
set_option maxHeartbeats 6400000 in
theorem header_len1 (R : Nat) (bw : Value) (bs : Bs) (σ : RS) (m : Int) (w : World) (h : RB w R bw σ) (hB : RV w R bw bs) (hm : MX w m) (hi : σ.i ≤ bs.length) (hl : bs.length ≤ 2000000) (hR0 : some 0 ≠ some R)
    (s : Bs) (n : Nat) (hp : lineP (bs.drop σ.i) = .got s n) (hs : s ≠ []) (hh : 0 ≤ σ.h ∧ σ.h ≤ 100) (hx : (Lib.cut s [58]).2.2 = true) (hk : ¬ 32 < σ.h + 1) (hy1 : ¬ (Lib.cut s [58]).1.length < 1) (hy2 : ¬ 64 < (Lib.cut s [58]).1.length) (hz : (Lib.cut s [58]).1.all nmB = true) (hKk : Lib.toLowerA (Lib.cut s [58]).1 = hLen) (hq : ¬ (0 ≤ σ.l ∨ (Lib.trimS (Lib.cut s [58]).2.1 [32, 9]).length < 1 ∨ 9 < (Lib.trimS (Lib.cut s [58]).2.1 [32, 9]).length ∨ (Lib.trimS (Lib.cut s [58]).2.1 [32, 9]).all digB = false)) :
    Calls Tryz.prog 67 #[.pointer (some ⟨R, 0, none⟩)] w (HK R bw w bs σ) := by
  have hl := line_any R bw bs σ m w h hB hm hi hl
  unfold LK at hl
  rw [hp] at hl
  dsimp only at hl
  have hl := Lib.hid hl
  obtain ⟨hsl, hsn, _, _⟩ := lineP_got hp
  have hasc : ∀ c ∈ s, c.toNat < 128 := fun c hc => lnB_ascii (List.all_eq_true.mp hsl c hc)
  obtain ⟨S, hS⟩ : ∃ S : ByteArray, S = ⟨s.toArray⟩ := ⟨_, rfl⟩
  rw [← hS] at hl
  have hSl : S.data.toList = s := by rw [hS]
  have hne : (S.toList == []) = false := by rw [Lib.toList_data, hSl, beq_eq_false_iff_ne]; exact hs
  have hSz : S.size = s.length := by rw [← hSl]; exact Array.length_toList.symm
  have hcut := fun W (hm : MX W m) => Lib.hid (Tryz.strings_Cut S ⟨#[58]⟩ m W (by omega) hm)
  rw [show (⟨#[58]⟩ : ByteArray).data.toList = [58] from rfl, hSl] at hcut
  have hw7 : wrap64 (σ.h + 1) = σ.h + 1 := wrap64_id (by omega) (by omega)
  obtain ⟨N, hN⟩ : ∃ N : ByteArray, N = ⟨(Lib.cut s [58]).1.toArray⟩ := ⟨_, rfl⟩
  obtain ⟨V, hV⟩ : ∃ V : ByteArray, V = ⟨(Lib.cut s [58]).2.1.toArray⟩ := ⟨_, rfl⟩
  obtain ⟨ok, hok⟩ : ∃ ok, ok = (Lib.cut s [58]).2.2 := ⟨_, rfl⟩
  rw [← hN, ← hV, ← hok] at hcut
  have hNl : N.data.toList = (Lib.cut s [58]).1 := by rw [hN]
  have hVl : V.data.toList = (Lib.cut s [58]).2.1 := by rw [hV]
  have hNz : (Lib.cut s [58]).1.length = N.size := by rw [← hNl]; exact Array.length_toList
  have hNs := cut_len1 s [58]
  have hVs := cut_len2 s [58]
  have hp := Lib.hid hp
  have hs := Lib.hid hs
  have hmh := Lib.hid hm
  clear hi hm h hS hN hV hSl hSz hsl hB
  rw [← hok] at hx
  subst hx
  have hhd := hdrP_name (s := s) σ.l σ.cl (by rw [← hok, hz]; rintro (e | e | e | e) <;> first | cases e | exact hy1 e | exact hy2 e)
  have hy0 : ¬ (N.size : Int) < 1 := by omega
  have hy3 : ¬ (64 : Int) < (N.size : Int) := by omega
  have hal := fun W => Lib.hid (all_nm N W (by omega))
  rw [hNl, hz] at hal
  have hRn : some R ≠ (none : Option Nat) := by simp
  have fq1 := run_neq_func_nil Tryz.underlying129
  have fq2 := run_neq_nilFunc Tryz.underlying129
  obtain ⟨K, hK⟩ : ∃ K : ByteArray, K = ⟨(Lib.toLowerA N.data.toList).toArray⟩ := ⟨_, rfl⟩
  have hlo := fun W => Lib.hid (Tryz.strings_ToLower_ascii N W (by omega) (fun j b hb => hasc b (cut_mem1 (p := [58]) (by rw [← hNl]; exact List.mem_of_getElem? hb))))
  rw [← hK] at hlo
  have hKl : K.data.toList = Lib.toLowerA (Lib.cut s [58]).1 := by rw [hK, hNl]
  obtain ⟨T, hT⟩ : ∃ T : ByteArray, T = ⟨(Lib.trimS V.data.toList [32, 9]).toArray⟩ := ⟨_, rfl⟩
  have hVz : V.size = V.data.toList.length := Array.length_toList.symm
  have htr := fun W => Lib.hid (Tryz.strings_Trim_laid V ⟨#[32, 9]⟩ W (by rw [hVz, hVl]; omega) (by decide) (fun j b hb => by
    have hm2 := List.mem_of_getElem? hb
    revert hm2
    show b ∈ [32, 9] → _
    intro hm2
    simp at hm2
    rcases hm2 with rfl | rfl <;> decide))
  rw [show (⟨#[32, 9]⟩ : ByteArray).data.toList = [32, 9] from rfl, ← hT] at htr
  have hTl : T.data.toList = Lib.trimS (Lib.cut s [58]).2.1 [32, 9] := by rw [hT, hVl]
  have hTs : T.data.toList.length ≤ 2000000 := by
    have := (trim_sub (Lib.cut s [58]).2.1 [32, 9]).length_le
    rw [hTl]; exact Nat.le_trans this (by omega)
  have hTa : ∀ c ∈ T.data.toList, c.toNat < 128 := fun c hc => hasc c (cut_mem2 (p := [58]) ((trim_sub _ _).subset (by rw [← hTl]; exact hc)))
  rw [← hTl, ← hKl] at hhd
  rw [← hKl] at hKk
  rw [if_pos hKk] at hhd
  have hcf := Lib.hid (show cntF K.data.toList = fLen from by unfold cntF; rw [if_pos hKk])
  clear hKk
  rw [← hTl] at hq
  rw [if_neg hq] at hhd
  have hhd := Lib.hid hhd
  have hls := Lib.hid (show lenS { σ with i := σ.i + n, h := σ.h + 1 } T.data.toList = some { σ with i := σ.i + n, h := σ.h + 1, l := decV T.data.toList } from if_neg hq)
  clear hq
  clear hok hNl hVl hNz hNs hVs hasc hsn hy1 hy2 hz hK hKl hT hVz hTl
  go_enter Tryz.func67, Tryz.ntmps67
  go_wp2_with (first
    | (go_at_call 63; refine (hl.out).mono ?_; rintro e w1 ⟨rfl, h1, g1⟩; have c7 := h1.c7; have f7 := h1.f 7; have m1 := fun v => Lib.hid ((hmh.out.grown g1 hR0).grown (gb_setR (gb_refl _ (some R)) 7 v) hR0))
    | (go_at_call 40; refine ((hcut _ (m1 _).out).out).mono ?_; rintro e w2 ⟨rfl, q2, rfl⟩; have h2 := (h1.set7 (σ.h + 1)).drewN q2; have g2 := gb_drewN (gb_setR g1 7 (.int .i64 (σ.h + 1))) q2; have c7' := h2.c7)
    | (go_at_call 38; refine ((hal _).out).mono ?_; rintro e w3 ⟨rfl, rfl⟩)
    | (go_at_call 93; refine (counts_ex _).mono ?_; rintro e w5 ⟨r, rfl, g5, b5⟩; have h5 := h2.kept g5 hRn)
    | (go_at_call 94; refine ((hlo _).out).mono ?_; rintro e w6 ⟨rfl, b6⟩; have g6 := gb_of_below b6; have lk := look_counts ((g6.block r (Array.getElem?_eq_some_iff.1 b5).1 (by simp)).trans b5) K; rw [hcf.out] at lk; have h6 := h5.kept g6 hRn; clear b5 b6)
    | (go_at_call 95; refine ((htr _).out).mono ?_; rintro e w7 ⟨rfl, b7⟩; have g7 := gb_of_below b7; have h7 := h6.kept g7 hRn; clear b7)
    | (go_at_call 114; refine (length_any R bw T { σ with i := σ.i + n, h := σ.h + 1 } _ h7 hTs).mono ?_; intro e w8 k8; rw [hls.out] at k8; obtain ⟨rfl, h8, g8⟩ := k8)
    | (go_at_call 66; refine (wrong_any R bw 400 _ _ h8).mono ?_; rintro e w4 ⟨rfl, h4, g4⟩))
  go_ret
  exact HK.of_more hp.out hs.out (Int.not_lt.mpr hk) hhd.out ⟨rfl, h8, (gb_trans (gb_trans (gb_trans (gb_trans g2 (gb_row g5 _)) (gb_row g6 _)) (gb_row g7 _)) g8)⟩
set_option maxRecDepth 100000 in
set_option maxHeartbeats 6400000 in
theorem header_con (R : Nat) (bw : Value) (bs : Bs) (σ : RS) (m : Int) (w : World) (h : RB w R bw σ) (hB : RV w R bw bs) (hm : MX w m) (hi : σ.i ≤ bs.length) (hl : bs.length ≤ 2000000) (hR0 : some 0 ≠ some R)
    (s : Bs) (n : Nat) (hp : lineP (bs.drop σ.i) = .got s n) (hs : s ≠ []) (hh : 0 ≤ σ.h ∧ σ.h ≤ 100) (hx : (Lib.cut s [58]).2.2 = true) (hk : ¬ 32 < σ.h + 1) (hy1 : ¬ (Lib.cut s [58]).1.length < 1) (hy2 : ¬ 64 < (Lib.cut s [58]).1.length) (hz : (Lib.cut s [58]).1.all nmB = true) (hKk : Lib.toLowerA (Lib.cut s [58]).1 = hCon) :
    Calls Tryz.prog 67 #[.pointer (some ⟨R, 0, none⟩)] w (HK R bw w bs σ) := by
  have hl := line_any R bw bs σ m w h hB hm hi hl
  unfold LK at hl
  rw [hp] at hl
  dsimp only at hl
  have hl := Lib.hid hl
  obtain ⟨hsl, hsn, _, _⟩ := lineP_got hp
  have hasc : ∀ c ∈ s, c.toNat < 128 := fun c hc => lnB_ascii (List.all_eq_true.mp hsl c hc)
  obtain ⟨S, hS⟩ : ∃ S : ByteArray, S = ⟨s.toArray⟩ := ⟨_, rfl⟩
  rw [← hS] at hl
  have hSl : S.data.toList = s := by rw [hS]
  have hne : (S.toList == []) = false := by rw [Lib.toList_data, hSl, beq_eq_false_iff_ne]; exact hs
  have hSz : S.size = s.length := by rw [← hSl]; exact Array.length_toList.symm
  have hcut := fun W (hm : MX W m) => Lib.hid (Tryz.strings_Cut S ⟨#[58]⟩ m W (by omega) hm)
  rw [show (⟨#[58]⟩ : ByteArray).data.toList = [58] from rfl, hSl] at hcut
  have hw7 : wrap64 (σ.h + 1) = σ.h + 1 := wrap64_id (by omega) (by omega)
  obtain ⟨N, hN⟩ : ∃ N : ByteArray, N = ⟨(Lib.cut s [58]).1.toArray⟩ := ⟨_, rfl⟩
  obtain ⟨V, hV⟩ : ∃ V : ByteArray, V = ⟨(Lib.cut s [58]).2.1.toArray⟩ := ⟨_, rfl⟩
  obtain ⟨ok, hok⟩ : ∃ ok, ok = (Lib.cut s [58]).2.2 := ⟨_, rfl⟩
  rw [← hN, ← hV, ← hok] at hcut
  have hNl : N.data.toList = (Lib.cut s [58]).1 := by rw [hN]
  have hVl : V.data.toList = (Lib.cut s [58]).2.1 := by rw [hV]
  have hNz : (Lib.cut s [58]).1.length = N.size := by rw [← hNl]; exact Array.length_toList
  have hNs := cut_len1 s [58]
  have hVs := cut_len2 s [58]
  have hp := Lib.hid hp
  have hs := Lib.hid hs
  have hmh := Lib.hid hm
  clear hi hm h hS hN hV hSl hSz hsl hB
  rw [← hok] at hx
  subst hx
  have hhd := hdrP_name (s := s) σ.l σ.cl (by rw [← hok, hz]; rintro (e | e | e | e) <;> first | cases e | exact hy1 e | exact hy2 e)
  have hy0 : ¬ (N.size : Int) < 1 := by omega
  have hy3 : ¬ (64 : Int) < (N.size : Int) := by omega
  have hal := fun W => Lib.hid (all_nm N W (by omega))
  rw [hNl, hz] at hal
  have hRn : some R ≠ (none : Option Nat) := by simp
  have fq1 := run_neq_func_nil Tryz.underlying129
  have fq2 := run_neq_nilFunc Tryz.underlying129
  obtain ⟨K, hK⟩ : ∃ K : ByteArray, K = ⟨(Lib.toLowerA N.data.toList).toArray⟩ := ⟨_, rfl⟩
  have hlo := fun W => Lib.hid (Tryz.strings_ToLower_ascii N W (by omega) (fun j b hb => hasc b (cut_mem1 (p := [58]) (by rw [← hNl]; exact List.mem_of_getElem? hb))))
  rw [← hK] at hlo
  have hKl : K.data.toList = Lib.toLowerA (Lib.cut s [58]).1 := by rw [hK, hNl]
  obtain ⟨T, hT⟩ : ∃ T : ByteArray, T = ⟨(Lib.trimS V.data.toList [32, 9]).toArray⟩ := ⟨_, rfl⟩
  have hVz : V.size = V.data.toList.length := Array.length_toList.symm
  have htr := fun W => Lib.hid (Tryz.strings_Trim_laid V ⟨#[32, 9]⟩ W (by rw [hVz, hVl]; omega) (by decide) (fun j b hb => by
    have hm2 := List.mem_of_getElem? hb
    revert hm2
    show b ∈ [32, 9] → _
    intro hm2
    simp at hm2
    rcases hm2 with rfl | rfl <;> decide))
  rw [show (⟨#[32, 9]⟩ : ByteArray).data.toList = [32, 9] from rfl, ← hT] at htr
  have hTl : T.data.toList = Lib.trimS (Lib.cut s [58]).2.1 [32, 9] := by rw [hT, hVl]
  have hTs : T.data.toList.length ≤ 2000000 := by
    have := (trim_sub (Lib.cut s [58]).2.1 [32, 9]).length_le
    rw [hTl]; exact Nat.le_trans this (by omega)
  have hTa : ∀ c ∈ T.data.toList, c.toNat < 128 := fun c hc => hasc c (cut_mem2 (p := [58]) ((trim_sub _ _).subset (by rw [← hTl]; exact hc)))
  rw [← hTl, ← hKl] at hhd
  rw [← hKl] at hKk
  have hn1 : K.data.toList ≠ hLen := by rw [hKk]; decide
  have hn2 : K.data.toList ≠ hTra := by rw [hKk]; decide
  rw [if_neg hn1, if_neg hn2, if_pos hKk] at hhd
  have hhd := Lib.hid hhd
  have hcf := Lib.hid (show cntF K.data.toList = fCon from by unfold cntF; rw [if_neg hn1, if_neg hn2, if_pos hKk])
  have hTaH := Lib.hid hTa
  clear hKk hn1 hn2 hTa
  clear hok hNl hVl hNz hNs hVs hasc hsn hy1 hy2 hz hK hKl hT hVz hTl
  go_enter Tryz.func67, Tryz.ntmps67
  go_wp2_with (first
    | (go_at_call 63; refine (hl.out).mono ?_; rintro e w1 ⟨rfl, h1, g1⟩; have c7 := h1.c7; have f7 := h1.f 7; have m1 := fun v => Lib.hid ((hmh.out.grown g1 hR0).grown (gb_setR (gb_refl _ (some R)) 7 v) hR0))
    | (go_at_call 40; refine ((hcut _ (m1 _).out).out).mono ?_; rintro e w2 ⟨rfl, q2, rfl⟩; have h2 := (h1.set7 (σ.h + 1)).drewN q2; have g2 := gb_drewN (gb_setR g1 7 (.int .i64 (σ.h + 1))) q2; have c7' := h2.c7)
    | (go_at_call 38; refine ((hal _).out).mono ?_; rintro e w3 ⟨rfl, rfl⟩)
    | (go_at_call 93; refine (counts_ex _).mono ?_; rintro e w5 ⟨r, rfl, g5, b5⟩; have h5 := h2.kept g5 hRn)
    | (go_at_call 94; refine ((hlo _).out).mono ?_; rintro e w6 ⟨rfl, b6⟩; have g6 := gb_of_below b6; have lk := look_counts ((g6.block r (Array.getElem?_eq_some_iff.1 b5).1 (by simp)).trans b5) K; rw [hcf.out] at lk; have h6 := h5.kept g6 hRn; clear b5 b6)
    | (go_at_call 95; refine ((htr _).out).mono ?_; rintro e w7 ⟨rfl, b7⟩; have g7 := gb_of_below b7; have h7 := h6.kept g7 hRn; clear b7)
    | (go_at_call 116; refine (conn_any R bw T { σ with i := σ.i + n, h := σ.h + 1 } _ h7 hTs hTaH.out).mono ?_; rintro e w8 ⟨rfl, h8, g8⟩))
  go_ret
  exact HK.of_more hp.out hs.out (Int.not_lt.mpr hk) hhd.out ⟨rfl, h8, (gb_trans (gb_trans (gb_trans (gb_trans g2 (gb_row g5 _)) (gb_row g6 _)) (gb_row g7 _)) g8)⟩
set_option maxRecDepth 100000 in
set_option maxHeartbeats 6400000 in
theorem header_any_ (R : Nat) (bw : Value) (bs : Bs) (σ : RS) (m : Int) (w : World) (h : RB w R bw σ) (hB : RV w R bw bs) (hm : MX w m) (hi : σ.i ≤ bs.length) (hl : bs.length ≤ 2000000) (hR0 : some 0 ≠ some R)
    (s : Bs) (n : Nat) (hp : lineP (bs.drop σ.i) = .got s n) (hs : s ≠ []) (hh : 0 ≤ σ.h ∧ σ.h ≤ 100) (hx : (Lib.cut s [58]).2.2 = true) (hk : ¬ 32 < σ.h + 1) (hy1 : ¬ (Lib.cut s [58]).1.length < 1) (hy2 : ¬ 64 < (Lib.cut s [58]).1.length) (hz : (Lib.cut s [58]).1.all nmB = true) (hK1 : Lib.toLowerA (Lib.cut s [58]).1 ≠ hLen) (hK2 : Lib.toLowerA (Lib.cut s [58]).1 ≠ hTra) (hK3 : Lib.toLowerA (Lib.cut s [58]).1 ≠ hCon) :
    Calls Tryz.prog 67 #[.pointer (some ⟨R, 0, none⟩)] w (HK R bw w bs σ) := by
  have hl := line_any R bw bs σ m w h hB hm hi hl
  unfold LK at hl
  rw [hp] at hl
  dsimp only at hl
  have hl := Lib.hid hl
  obtain ⟨hsl, hsn, _, _⟩ := lineP_got hp
  have hasc : ∀ c ∈ s, c.toNat < 128 := fun c hc => lnB_ascii (List.all_eq_true.mp hsl c hc)
  obtain ⟨S, hS⟩ : ∃ S : ByteArray, S = ⟨s.toArray⟩ := ⟨_, rfl⟩
  rw [← hS] at hl
  have hSl : S.data.toList = s := by rw [hS]
  have hne : (S.toList == []) = false := by rw [Lib.toList_data, hSl, beq_eq_false_iff_ne]; exact hs
  have hSz : S.size = s.length := by rw [← hSl]; exact Array.length_toList.symm
  have hcut := fun W (hm : MX W m) => Lib.hid (Tryz.strings_Cut S ⟨#[58]⟩ m W (by omega) hm)
  rw [show (⟨#[58]⟩ : ByteArray).data.toList = [58] from rfl, hSl] at hcut
  have hw7 : wrap64 (σ.h + 1) = σ.h + 1 := wrap64_id (by omega) (by omega)
  obtain ⟨N, hN⟩ : ∃ N : ByteArray, N = ⟨(Lib.cut s [58]).1.toArray⟩ := ⟨_, rfl⟩
  obtain ⟨V, hV⟩ : ∃ V : ByteArray, V = ⟨(Lib.cut s [58]).2.1.toArray⟩ := ⟨_, rfl⟩
  obtain ⟨ok, hok⟩ : ∃ ok, ok = (Lib.cut s [58]).2.2 := ⟨_, rfl⟩
  rw [← hN, ← hV, ← hok] at hcut
  have hNl : N.data.toList = (Lib.cut s [58]).1 := by rw [hN]
  have hVl : V.data.toList = (Lib.cut s [58]).2.1 := by rw [hV]
  have hNz : (Lib.cut s [58]).1.length = N.size := by rw [← hNl]; exact Array.length_toList
  have hNs := cut_len1 s [58]
  have hVs := cut_len2 s [58]
  have hp := Lib.hid hp
  have hs := Lib.hid hs
  have hmh := Lib.hid hm
  clear hi hm h hS hN hV hSl hSz hsl hB
  rw [← hok] at hx
  subst hx
  have hhd := hdrP_name (s := s) σ.l σ.cl (by rw [← hok, hz]; rintro (e | e | e | e) <;> first | cases e | exact hy1 e | exact hy2 e)
  have hy0 : ¬ (N.size : Int) < 1 := by omega
  have hy3 : ¬ (64 : Int) < (N.size : Int) := by omega
  have hal := fun W => Lib.hid (all_nm N W (by omega))
  rw [hNl, hz] at hal
  have hRn : some R ≠ (none : Option Nat) := by simp
  have fq1 := run_neq_func_nil Tryz.underlying129
  have fq2 := run_neq_nilFunc Tryz.underlying129
  obtain ⟨K, hK⟩ : ∃ K : ByteArray, K = ⟨(Lib.toLowerA N.data.toList).toArray⟩ := ⟨_, rfl⟩
  have hlo := fun W => Lib.hid (Tryz.strings_ToLower_ascii N W (by omega) (fun j b hb => hasc b (cut_mem1 (p := [58]) (by rw [← hNl]; exact List.mem_of_getElem? hb))))
  rw [← hK] at hlo
  have hKl : K.data.toList = Lib.toLowerA (Lib.cut s [58]).1 := by rw [hK, hNl]
  obtain ⟨T, hT⟩ : ∃ T : ByteArray, T = ⟨(Lib.trimS V.data.toList [32, 9]).toArray⟩ := ⟨_, rfl⟩
  have hVz : V.size = V.data.toList.length := Array.length_toList.symm
  have htr := fun W => Lib.hid (Tryz.strings_Trim_laid V ⟨#[32, 9]⟩ W (by rw [hVz, hVl]; omega) (by decide) (fun j b hb => by
    have hm2 := List.mem_of_getElem? hb
    revert hm2
    show b ∈ [32, 9] → _
    intro hm2
    simp at hm2
    rcases hm2 with rfl | rfl <;> decide))
  rw [show (⟨#[32, 9]⟩ : ByteArray).data.toList = [32, 9] from rfl, ← hT] at htr
  have hTl : T.data.toList = Lib.trimS (Lib.cut s [58]).2.1 [32, 9] := by rw [hT, hVl]
  have hTs : T.data.toList.length ≤ 2000000 := by
    have := (trim_sub (Lib.cut s [58]).2.1 [32, 9]).length_le
    rw [hTl]; exact Nat.le_trans this (by omega)
  have hTa : ∀ c ∈ T.data.toList, c.toNat < 128 := fun c hc => hasc c (cut_mem2 (p := [58]) ((trim_sub _ _).subset (by rw [← hTl]; exact hc)))
  rw [← hTl, ← hKl] at hhd
  rw [← hKl] at hK1 hK2 hK3
  rw [if_neg hK1, if_neg hK2, if_neg hK3] at hhd
  have hhd := Lib.hid hhd
  have hcf := Lib.hid (show cntF K.data.toList = .nilFunc from by unfold cntF; rw [if_neg hK1, if_neg hK2, if_neg hK3])
  clear hK1 hK2 hK3 hTa hTs htr
  clear hok hNl hVl hNz hNs hVs hasc hsn hy1 hy2 hz hK hKl hT hVz hTl
  go_enter Tryz.func67, Tryz.ntmps67
  go_wp2_with (first
    | (go_at_call 63; refine (hl.out).mono ?_; rintro e w1 ⟨rfl, h1, g1⟩; have c7 := h1.c7; have f7 := h1.f 7; have m1 := fun v => Lib.hid ((hmh.out.grown g1 hR0).grown (gb_setR (gb_refl _ (some R)) 7 v) hR0))
    | (go_at_call 40; refine ((hcut _ (m1 _).out).out).mono ?_; rintro e w2 ⟨rfl, q2, rfl⟩; have h2 := (h1.set7 (σ.h + 1)).drewN q2; have g2 := gb_drewN (gb_setR g1 7 (.int .i64 (σ.h + 1))) q2; have c7' := h2.c7)
    | (go_at_call 38; refine ((hal _).out).mono ?_; rintro e w3 ⟨rfl, rfl⟩)
    | (go_at_call 93; refine (counts_ex _).mono ?_; rintro e w5 ⟨r, rfl, g5, b5⟩; have h5 := h2.kept g5 hRn)
    | (go_at_call 94; refine ((hlo _).out).mono ?_; rintro e w6 ⟨rfl, b6⟩; have g6 := gb_of_below b6; have lk := look_counts ((g6.block r (Array.getElem?_eq_some_iff.1 b5).1 (by simp)).trans b5) K; rw [hcf.out] at lk; have h6 := h5.kept g6 hRn; clear b5 b6))
  go_ret
  exact HK.of_more hp.out hs.out (Int.not_lt.mpr hk) hhd.out ⟨rfl, h6, (gb_trans (gb_trans g2 (gb_row g5 _)) (gb_row g6 _))⟩
/-- a header -/
theorem header_any (R : Nat) (bw : Value) (bs : Bs) (σ : RS) (m : Int) (w : World) (h : RB w R bw σ) (hB : RV w R bw bs) (hm : MX w m) (hi : σ.i ≤ bs.length) (hl : bs.length ≤ 2000000) (hR0 : some 0 ≠ some R) (hh : 0 ≤ σ.h ∧ σ.h ≤ 100) :
    Calls Tryz.prog 67 #[.pointer (some ⟨R, 0, none⟩)] w (HK R bw w bs σ) := by
  cases hp : lineP (bs.drop σ.i) with
  | more => exact header_none R bw bs σ m w h hB hm hi hl hR0 (fun ⟨s, n, e⟩ => by rw [hp] at e; cases e)
  | bad => exact header_none R bw bs σ m w h hB hm hi hl hR0 (fun ⟨s, n, e⟩ => by rw [hp] at e; cases e)
  | got s n =>
    by_cases hs : s = []
    · subst hs
      exact header_none R bw bs σ m w h hB hm hi hl hR0 (fun _ => ⟨n, hp⟩)
    · by_cases hx : (Lib.cut s [58]).2.2 = true
      · by_cases hk : 32 < σ.h + 1
        · exact header_many R bw bs σ m w h hB hm hi hl hR0 s n hp hs hh hx hk
        · by_cases y1 : (Lib.cut s [58]).1.length < 1
          · exact header_short R bw bs σ m w h hB hm hi hl hR0 s n hp hs hh hx hk y1
          · by_cases y2 : 64 < (Lib.cut s [58]).1.length
            · exact header_long R bw bs σ m w h hB hm hi hl hR0 s n hp hs hh hx hk y2
            · by_cases hz : (Lib.cut s [58]).1.all nmB = true
              · by_cases k1 : Lib.toLowerA (Lib.cut s [58]).1 = hLen
                · by_cases hq : 0 ≤ σ.l ∨ (Lib.trimS (Lib.cut s [58]).2.1 [32, 9]).length < 1 ∨ 9 < (Lib.trimS (Lib.cut s [58]).2.1 [32, 9]).length ∨ (Lib.trimS (Lib.cut s [58]).2.1 [32, 9]).all digB = false
                  · exact header_len0 R bw bs σ m w h hB hm hi hl hR0 s n hp hs hh hx hk y1 y2 hz k1 hq
                  · exact header_len1 R bw bs σ m w h hB hm hi hl hR0 s n hp hs hh hx hk y1 y2 hz k1 hq
                · by_cases k2 : Lib.toLowerA (Lib.cut s [58]).1 = hTra
                  · exact header_tra R bw bs σ m w h hB hm hi hl hR0 s n hp hs hh hx hk y1 y2 hz k2
                  · by_cases k3 : Lib.toLowerA (Lib.cut s [58]).1 = hCon
                    · exact header_con R bw bs σ m w h hB hm hi hl hR0 s n hp hs hh hx hk y1 y2 hz k3
                    · exact header_any_ R bw bs σ m w h hB hm hi hl hR0 s n hp hs hh hx hk y1 y2 hz k1 k2 k3
              · exact header_ill R bw bs σ m w h hB hm hi hl hR0 s n hp hs hh hx hk y1 y2 (by simpa using hz)
      · exact header_nok R bw bs σ m w h hB hm hi hl hR0 s n hp hs hh (by simpa using hx)
end Go.Proofs.YtdfgnoflohfnmaaGreatDoor.Hx
/-! HTTP: bytes cloned; a request's body: bootprint/http.body, walked. -/
namespace Go.Proofs.YtdfgnoflohfnmaaGreatDoor.Hx
open Go.RowKit Go.Maps

set_option maxRecDepth 100000 in
set_option maxHeartbeats 3200000 in
theorem clone_any (x : Value) (bs : Bs) (w : World) (hx : BV w x bs) (hl : bs.length ≤ 1000000000) :
    Calls Tryz.prog 47 #[x] w fun e w' => ∃ v b, e = .returned v ∧ BF w' v b bs ∧ w.heap.size ≤ b ∧ w.grownBy w' none := by
  obtain ⟨A, c, rfl, hc, ha⟩ := hx
  cases A with
  | none =>
    have h0 : bs = [] := Classical.byContradiction fun h => by obtain ⟨b, o, e, _⟩ := ha h; cases e
    subst h0
    clear ha
    have hq := fun W a n c => Lib.run_eql_slice_nil (P := Tryz.prog) W 22 5 a n c 0 0 Tryz.underlying22
    go_enter Tryz.func47, Tryz.ntmps47
    go_wp2_with fail
    go_ret
    exact ⟨.slice none 0 0, w.heap.size, rfl, BF.nil _ _, Nat.le_refl _, gb_refl _ _⟩
  | some a =>
    have hb0 : BF (w.alloc (.cells #[] 5 (0, 0))) (.slice (some ⟨w.heap.size, 0, none⟩) 0 0) w.heap.size [] :=
      .inr ⟨0, 0, #[], rfl, Nat.le_refl _, by unfold maxLen; omega, heap_alloc_new _ _, Nat.le_refl _, rfl⟩
    have hx1 : BV (w.alloc (.cells #[] 5 (0, 0))) (.slice (some a) bs.length c) bs := ⟨some a, c, rfl, hc, fun h0 => by
      obtain ⟨b, o, e, hb⟩ := ha h0
      exact ⟨b, o, e, hb.grown (gb_alloc (gb_refl w none) _) (by simp)⟩⟩
    clear ha
    have hq := fun W a n c => Lib.run_eql_slice_nil (P := Tryz.prog) W 22 5 a n c 0 0 Tryz.underlying22
    go_enter Tryz.func47, Tryz.ntmps47
    go_wp2_with (first
      | (refine wpList_append_bf rfl _ _ rfl rfl rfl hb0 hx1 (by simpa using hl) ?_; intro v w1 b h1 g1 hb1))
    go_ret
    have g0 : w.grownBy (w.alloc (.cells #[] 5 (0, 0))) none := gb_alloc (gb_refl _ _) _
    exact ⟨v, b, rfl, h1, by have := g0.size; simp at this; rcases hb1 with rfl | h; exact Nat.le_refl _; simp at h; omega, gb_more g0 g1 (fun g hg => by cases hg; exact .inr (Nat.le_refl _))⟩
/-- what a body leaves -/
def BK (R : Nat) (bw : Value) (w : World) (bs : Bs) (σ : RS) (e : Ending) (w' : World) : Prop :=
  if 262144 < max 0 σ.l then QS1 R bw w .nilFunc { σ with st := 413 } e w'
  else if bs.length < σ.i + (max 0 σ.l).toNat then QS1 R bw w .nilFunc σ e w'
  else ∃ v b, BF w' v b ((bs.drop σ.i).take (max 0 σ.l).toNat) ∧ w.heap.size ≤ b ∧ QS1 R bw w .nilFunc { σ with i := σ.i + (max 0 σ.l).toNat, bv := v, wh := true } e w'
set_option maxRecDepth 100000 in
set_option maxHeartbeats 3200000 in
theorem body_big (R : Nat) (bw : Value) (bs : Bs) (σ : RS) (w : World) (h : RB w R bw σ) (hb : 262144 < max 0 σ.l) :
    Calls Tryz.prog 91 #[.pointer (some ⟨R, 0, none⟩)] w (BK R bw w bs σ) := by
  have c8 := h.c8
  obtain ⟨l, hl⟩ : ∃ l, σ.l = l := ⟨_, rfl⟩
  rw [hl] at c8
  have hm : max 0 l = l := by rw [hl] at hb; omega
  have hb' : 262144 < l := by rw [hl] at hb; omega
  have hb := Lib.hid hb
  go_enter Tryz.func91, Tryz.ntmps91
  go_wp2_with (first
    | (go_at_call 66; refine (wrong_any R bw 413 _ _ h).mono ?_; rintro e w4 ⟨rfl, h4, g4⟩))
  go_ret
  unfold BK
  rw [if_pos hb.out]
  exact ⟨rfl, h4, g4⟩
set_option maxRecDepth 100000 in
set_option maxHeartbeats 3200000 in
theorem body_more (R : Nat) (A : Option Addr) (c : Nat) (bs : Bs) (σ : RS) (w : World) (h : RB w R (.slice A bs.length c) σ) (hi : σ.i ≤ bs.length) (hl : bs.length ≤ 2000000) (hb : ¬ 262144 < max 0 σ.l) (hk : bs.length < σ.i + (max 0 σ.l).toNat) :
    Calls Tryz.prog 91 #[.pointer (some ⟨R, 0, none⟩)] w (BK R (.slice A bs.length c) w bs σ) := by
  have c0 := h.c0
  have c1 := h.c1
  have c8 := h.c8
  obtain ⟨l, hl⟩ : ∃ l, σ.l = l := ⟨_, rfl⟩
  rw [hl] at c8
  obtain ⟨k, hm⟩ : ∃ k : Nat, max 0 l = (k : Int) := ⟨(max 0 l).toNat, by omega⟩
  have hb' : ¬ (262144 : Int) < (k : Int) := by rw [hl] at hb; omega
  have hk' : (bs.length : Int) - (σ.i : Int) < (k : Int) := by rw [hl, hm] at hk; simp at hk; omega
  have hw : wrap64 ((bs.length : Int) - (σ.i : Int)) = (bs.length : Int) - (σ.i : Int) := wrap64_id (by omega) (by omega)
  have hb := Lib.hid hb
  have hk := Lib.hid hk
  go_enter Tryz.func91, Tryz.ntmps91
  go_wp2_with fail
  go_quiet (fail)
  go_wp2_with fail
  go_ret
  unfold BK
  rw [if_neg (show ¬ 262144 < max 0 σ.l from by have := hb.out; omega), if_pos hk.out]
  exact ⟨rfl, h.drewN _, gb_drewN (gb_refl _ _) _⟩
theorem BK.of_got {R : Nat} {bw : Value} {w : World} {bs : Bs} {σ : RS} {e : Ending} {w' : World} {k : Nat} (hm : Hid (max 0 σ.l = (k : Int))) (hb : Hid ((k : Int) ≤ 262144)) (hk : Hid (¬ bs.length < σ.i + k))
    (h : ∃ v b, BF w' v b ((bs.drop σ.i).take k) ∧ w.heap.size ≤ b ∧ QS1 R bw w .nilFunc { σ with i := σ.i + k, bv := v, wh := true } e w') : BK R bw w bs σ e w' := by
  unfold BK
  rw [hm.out, Int.toNat_natCast, if_neg (Int.not_lt.mpr hb.out), if_neg hk.out]
  exact h
theorem bf_set {w : World} {v : Value} {b : Nat} {bs : Bs} (h : BF w v b bs) {R : Nat} (hne : b ≠ R) (i : Nat) (u : Value) : BF (w.setCell ⟨R, i, none⟩ u) v b bs := h.grown (gb_setR (gb_refl _ _) i u) (by simpa using hne)
theorem body_nums {i k L : Nat} (hi : i ≤ L) (hl : L ≤ 2000000) (hk : ¬ L < i + k) : (¬ (L : Int) - (i : Int) < (k : Int)) ∧ wrap64 ((L : Int) - (i : Int)) = (L : Int) - (i : Int) ∧ wrap64 ((i : Int) + (k : Int)) = (i : Int) + (k : Int) ∧ IntKind.i64.wrap ((i : Int) + (k : Int)) = (i : Int) + (k : Int) ∧ (0 : Int) ≤ (i : Int) ∧ (i : Int) ≤ (i : Int) + (k : Int) ∧ k ≤ 2000000 :=
  ⟨by omega, wrap64_id (by omega) (by omega), wrap64_id (by omega) (by omega), wrap_id (by omega) (by omega), by omega, by omega, by omega⟩
set_option maxRecDepth 100000 in
set_option maxHeartbeats 3200000 in
theorem body_room (R : Nat) (b o c : Nat) (bs : Bs) (σ : RS) (w : World) (h : RB w R (.slice (some ⟨b, o, none⟩) bs.length c) σ) (hB : BA w b o bs) (hc : bs.length ≤ c) (hci : c ≠ σ.i) (hi : σ.i ≤ bs.length) (hl : bs.length ≤ 2000000)
    (k : Nat) (hm : max 0 σ.l = (k : Int)) (hb : ¬ (262144 : Int) < (k : Int)) (hk : ¬ bs.length < σ.i + k) :
    Calls Tryz.prog 91 #[.pointer (some ⟨R, 0, none⟩)] w (BK R (.slice (some ⟨b, o, none⟩) bs.length c) w bs σ) := by
  have c0 := h.c0
  have c1 := h.c1
  have c8 := h.c8
  have i2 : (σ.i : Int) + (k : Int) ≤ (c : Int) := by clear hm hci hb; omega
  have i3 : ¬ c = σ.i := hci
  have hkn : ((bs.drop σ.i).take k).length = k := by rw [List.length_take, List.length_drop]; clear hm i3 hci hb; omega
  have hRn : some R ≠ (none : Option Nat) := by simp
  obtain ⟨hk', hw, hw2, hw3, i0, i1, hk2⟩ := body_nums hi hl hk
  have hm0 := hm
  obtain ⟨l, hsl⟩ : ∃ l, σ.l = l := ⟨_, rfl⟩
  rw [hsl] at c8 hm
  have hm0 := Lib.hid hm0
  have hkh := Lib.hid hk
  have hbh := Lib.hid hb
  clear hk
  have hsl := Lib.hid hsl
  have hcl := fun (n : Nat) (W : World) (hW : W = w.drewN n) => Lib.hid (clone_any (.slice (some ⟨b, o + σ.i, none⟩) k (c - σ.i)) ((bs.drop σ.i).take k) W ⟨_, _, by rw [hkn], by rw [hkn]; omega, fun _ => ⟨b, o + σ.i, rfl, by subst hW; exact (hB.drop σ.i).take k⟩⟩ (by rw [hkn]; omega))
  have hsub : ((σ.i : Int) + (k : Int)).toNat - σ.i = k := by omega
  clear hc hl hci hi
  go_enter Tryz.func91, Tryz.ntmps91
  go_wp2_with fail
  clear hb
  go_quiet (fail)
  go_upto_region 6 with fail
  clear hk' hw hm
  go_cut [] from 25 to 44 (fun wx => ∃ (A2 : Option Addr) (c2 b2 : Nat), RB wx R (.slice (some ⟨b, o, none⟩) bs.length c) { σ with bv := .slice A2 k c2 } ∧ Hid (BF wx (.slice A2 k c2) b2 ((bs.drop σ.i).take k)) ∧ w.heap.size ≤ b2 ∧ w.grownBy wx (some R))
  case first =>
    go_region_with (first
      | (go_at_call 47; refine ((hcl _ _ rfl).out).mono ?_; rintro e w2 ⟨v, b2, rfl, hv, hb2, g2⟩; obtain ⟨A2, c2, rfl, hc2⟩ := hv.shape; rw [hkn] at hv; have h2 := (h.drewN _).kept g2 hRn; have f6 := h2.f 6; have x6 := h2.c6))
    all_goals
      have hb3 : w.heap.size ≤ b2 := by simpa using hb2
      have hRb : b2 ≠ R := by have := h.lt; omega
      go_wp2_with fail
      go_meet
      exact ⟨A2, c2, b2, h2.set6 _, bf_set hv hRb 6 _, hb3, gb_setR (gb_row (gb_trans (gb_drewN (gb_refl _ _) _) g2) _) _ _⟩
  case rest =>
  obtain ⟨A2, c2, b2, h3, hv, hb3, g3⟩ := hcut
  have hRb : b2 ≠ R := by have := h.lt; omega
  have c1b := h3.c1
  have f1b := h3.f 1
  have h4 := h3.set1 (σ.i + k)
  rw [Int.natCast_add] at h4
  have f10 := h4.f 10
  have c10 := h4.c10
  have h5 := Lib.hid (h4.set10 true)
  clear h4 hcl c0 c1 c8 h
  go_wp2_with fail
  go_ret
  refine BK.of_got hm0 hbh hkh ⟨_, b2, bf_set (bf_set hv.out hRb 1 _) hRb 10 _, hb3, rfl, h5.out, gb_setR (gb_setR g3 _ _) _ _⟩
end Go.Proofs.YtdfgnoflohfnmaaGreatDoor.Hx
