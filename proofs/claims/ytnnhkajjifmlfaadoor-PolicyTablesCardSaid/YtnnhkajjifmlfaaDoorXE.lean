/- (*reader).escape of package json at an escaped quote or backslash, as the executor has it: the walk goes through the map in any order. -/
import Derived.Test.YtnnhkajjifmlfaaDoorXd
import Derived.Test.YtnnhkajjifmlfaaDoorJa
namespace Go.Proofs.YtnnhkajjifmlfaaDoor
open Go.RowKit Go.Maps

/-- what escape looks at -/
structure RF (w : World) (R : Nat) (s : ByteArray) (p : Nat) : Prop where
  lt : R < w.heap.size
  c0 : w.cell? ⟨R, 0, none⟩ = some (.string s)
  c1 : w.cell? ⟨R, 1, none⟩ = some (.int .i64 p)
  c2 : w.cell? ⟨R, 2, none⟩ = some (.int .i64 0)
  f1 : w.frozen? ⟨R, 1, none⟩ = false
theorem RF.kept {w w' : World} {R : Nat} {s : ByteArray} {p : Nat} {row : Option Nat} (h : RF w R s p) (hg : w.grownBy w' row) (hne : some R ≠ row) : RF w' R s p := by
  have e := hg.block R h.lt hne
  have k : ∀ q, w'.cell? ⟨R, q, none⟩ = w.cell? ⟨R, q, none⟩ := fun q => World.cell?_of_block (w := w) (a := ⟨R, q, none⟩) e
  exact ⟨Nat.lt_of_lt_of_le h.lt hg.size, (k 0).trans h.c0, (k 1).trans h.c1, (k 2).trans h.c2, (World.frozen?_of_block (w := w) (a := ⟨R, 1, none⟩) e).trans h.f1⟩
theorem RF.drewN {w : World} {R : Nat} {s : ByteArray} {p : Nat} (h : RF w R s p) (n : Nat) : RF (w.drewN n) R s p := h.kept (gb_drewN (gb_refl w none) n) (by simp)
set_option maxHeartbeats 400000 in
theorem next_own (R : Nat) (s : ByteArray) (p : Nat) (w : World) (h : RF w R s p) (hlt : p < s.size) :
    Calls Tryd.prog 81 #[.pointer (some ⟨R, 0, none⟩)] w fun e w' => e = .returned (.int .u8 (chr s p)) ∧ ∃ n, w' = w.drewN n := by
  have c0 := h.c0
  have c1 := h.c1
  have c2 := h.c2
  clear h
  have hd : decide ((s.size : Int) ≤ (p : Int)) = false := by simp; omega
  have hi : (p : Int) < (s.size : Int) := by omega
  rw [chr_in hlt]
  go_enter Tryd.func81, Tryd.ntmps81
  go_wp2
  go_quiet (fail)
  go_wp2
  go_quiet (fail)
  go_wp2
  go_ret
  exact ⟨rfl, _, by first | rfl | exact World.drewN_drewN _ _ _⟩
set_option maxHeartbeats 1600000 in
theorem esc_own (R : Nat) (s : ByteArray) (p : Nat) (w : World) (c : Nat) (hcn : chr s p = c) (hc : c = 34 ∨ c = 92) (h : RF w R s p) (hlt : p < s.size) (hs : s.size ≤ 2000000) :
    Calls Tryd.prog 129 #[.pointer (some ⟨R, 0, none⟩)] w fun e w' => e = .returned (.int .u8 c) ∧ ∃ w1, w.grownBy w1 none ∧ w' = w1.setCell ⟨R, 1, none⟩ (.int .i64 ((p : Int) + 1)) := by
  have hn := next_own R s p w h hlt
  rw [hcn] at hn
  have Hn := Lib.hid hn
  have hu : unesc c = c := by rcases hc with rfl | rfl <;> decide
  have b0 : ((c : Int) == 117) = false := by simp; omega
  have b1 : ((c : Int) == 47) = false := by simp; omega
  clear hn hcn
  have hRl := h.lt
  go_enter Tryd.func129, Tryd.ntmps129
  go_wp2_with (first
    | (go_at_call 81; refine (Hn.out).mono ?_; rintro e w1 ⟨rfl, n, rfl⟩)
    | (go_at_call 97; refine (short_any _).mono ?_; rintro e w2 ⟨rfl, hown2, hg2⟩)
    | (at_range; refine wpList_range_own _ rfl _ 133 rfl 5 5 lawU8 Tryd.underlying133 _ w.heap.size 7 _ rfl hown2 ?_; intro w3 hrg3 hg3 hs3))
  go_frame
  have hR3 : RF w3 R s p := ((h.drewN n).kept hg2 (by simp)).kept hg3 (by simp)
  have hgg : w.grownBy w3 none := gb_more (gb_more (gb_drewN (gb_refl w _) n) hg2 (by simp)) hg3 (by simp)
  have hB2 : w.heap.size ≤ w2.heap.size := hg2.size
  go_loopg [] 7 (fun k wr => ∃ (left : Lit → Bool) (cnt : Nat), k = cnt ∧ wr.ranges Tryd.prog 5 (plainElem Tryd.prog 5) w.heap.size w2.heap.size 7 shortD left cnt ∧ RF wr R s p ∧ w.grownBy wr none ∧ Hid (left (.int .u8 (unesc c)) = true))
  case atStart => exact ⟨_, _, by kernel_rfl, hrg3, hR3, hgg, (unesc_at c (by omega)).2⟩
  case round =>
    obtain ⟨left, cnt, rfl, hrg, hR, hg, Hl⟩ := hrel
    clear h hR3 hgg hrg3 hg3 hown2
    have c1 := hR.c1
    have f1 := hR.f1
    go_wp2_with (first
      | (at_next; refine wpList_next_ranges_ii _ rfl _ rfl 5 5 .u8 .u8 lawU8 Tryd.underlying5 Tryd.underlying5 w.heap.size w2.heap.size 7 _ _ _ rfl hrg ?_ ?_))
    · intro _ hl0
      exfalso
      have := Hl.out
      rw [hl0] at this; cases this
    · intro x c' w1 cnt1 hwx hwc hlx hat hrg1 hlt1 hg1 hs1 hen
      have hne : R ≠ w2.heap.size := by omega
      have hR1 := hR.kept hg1 (by simpa using hne)
      have c11 := hR1.c1
      have f11 := hR1.f1
      clear c1 f1
      have Hat := Lib.hid hat
      clear hat
      by_cases hcc : c' = c
      · obtain ⟨hx1, hx2, hx3⟩ := unesc_hit (hcc ▸ Hat.out)
        have hxc : x = c := by rw [← hx1, hu]
        subst hcc
        clear hx1 Hl hc
        go_wp2_with fail
        go_ret
        exact ⟨by rw [hxc]; rfl, _, gb_more hg hg1 (by intro g hgx; cases hgx; exact .inr hB2), rfl⟩
      · have hcb : (c' == (c : Int)) = false := by simpa using hcc
        have Hl1 : Hid ((left (.int .u8 (unesc c)) && !(Lit.int .u8 (unesc c)).sameKey (.int .u8 x)) = true) := by
          show (left (.int .u8 (unesc c)) && !(Lit.int .u8 (unesc c)).sameKey (.int .u8 x)) = true
          rw [Hl.out]
          have h2 := (unesc_at c (by omega)).1
          by_cases hxe : unesc c = x
          · rw [hxe] at h2
            have := (Hat.out .nil).symm.trans (h2 .nil)
            simp at this; exact absurd this hcc
          · simp [Lit.sameKey, hxe]
        clear hcc
        go_wp2_with fail
        go_roundg cnt1
        case measure => exact hlt1
        case rel => exact ⟨_, cnt1, rfl, hrg1, hR1, gb_more hg hg1 (by intro g hgx; cases hgx; exact .inr hB2), Hl1⟩
namespace Ax
/-- a world that has grown -/
theorem Step.grown {ρ : Ren} {H : Hp} {w w' : World} {n : Pn} (h : Rel ρ H w) (hg : w.grownBy w' none) : Step ρ H w n ρ H w' n where
  ext := fun _ _ h => h
  nw := fun _ h k => absurd h k
  lv := fun _ h => .inl h
  le := Nat.le_refl _
  rel := ⟨fun b hb => by
    obtain ⟨t, h1, h2⟩ := h.ob b hb
    exact ⟨t, h1, by rw [hg.block t.c (rel_lt h b t hb h1) (by simp)]; exact h2⟩, h.inj⟩
  size := hg.size
  same := fun k hk _ => hg.block k hk (by simp)
  owns := fun b t h1 h2 => .inl ⟨b, t, h1, h2, rfl⟩
  os := hg.os
  tape := hg.tape
  output := hg.output
  ks := fun _ _ _ e => e
noncomputable def ixEs : Ix := fun vs h n k => match vs with
  | [.p b 0] => wblkK h b fun l ty fz => match l with
    | [.s s, .i q1 (.ofNat p), .i q2 (.ofNat e), x3, x4] => ifK (Nat.beq (kidx q1) 3 && Nat.beq (kidx q2) 3 && Nat.beq e 0 && !fz && Nat.ble s.length 2000000) 911 fun _ => nthK s p fun c =>
        ifK (Nat.beq c.toNat 34 || Nat.beq c.toNat 92) 912 fun _ => h.setK .x (.c [.s s, .i .i64 (.ofNat (p + 1)), .i q2 (.ofNat e), x3, x4] ty fz) b fun h => k (.i .u8 (.ofNat c.toNat)) h n
    | _ => .er 905
  | _ => .er 906
theorem kidx3 {q : IntKind} (h : Nat.beq (kidx q) 3 = true) : q = .i64 := by cases q <;> first | rfl | (simp [kidx] at h)
theorem ix_es {E : Env} (hE : E.P = Tryd.prog) (hf : EOK E) {fn : Func} {cd : Code} (hfn : E.fn 129 = some fn) (hc : fn.body = some cd) : ∀ us h n k, Ok (ixEs us h n k) → ∃ v h' n', ixEs us h n k = k v h' n' ∧ CallS E 129 us h n v h' n' := by
  intro us h n k hk
  unfold ixEs at hk ⊢
  split at hk
  · rename_i b
    obtain ⟨l, ty, fz, h1, h2⟩ := wblkK_inv hk
    rw [h2] at hk ⊢
    split at hk
    · rename_i s q1 p q2 e x3 x4
      obtain ⟨h3, h4⟩ := ifK_inv hk
      rw [h4] at hk
      simp only [h4]
      obtain ⟨c, h5, h6⟩ := nthK_inv s hk
      rw [h6] at hk
      simp only [h6]
      obtain ⟨h7, h8⟩ := ifK_inv hk
      rw [h8] at hk
      simp only [h8]
      rw [setK_eq] at hk ⊢
      simp only [Bool.and_eq_true, beq_iff, ble_iff, Bool.not_eq_true', Bool.or_eq_true] at h3 h7
      obtain ⟨⟨⟨⟨k1, k2⟩, k3⟩, k4⟩, k5⟩ := h3
      obtain rfl := kidx3 (beq_iff.2 k1)
      obtain rfl := kidx3 (beq_iff.2 k2)
      subst k3
      subst k4
      refine ⟨_, _, _, rfl, Nat.le_refl _, fun ρ w args hg hu hR hF => ?_⟩
      obtain ⟨a0, r0, e0, g1, g2⟩ := hu.cons_inv
      have e2 := g2.nil_inv
      subst e2
      obtain ⟨t, ht, rfl⟩ : ∃ t : Bk, ρ b = some t ∧ a0 = .pointer (some ⟨t.c, t.d + 0, none⟩) := by
        cases g1 with
        | p h => exact ⟨_, h, rfl⟩
      have hargs : args = #[.pointer (some ⟨t.c, t.d + 0, none⟩)] := by
        apply Array.ext'
        rw [e0]
      have h1' : hv h b = .c [.s s, .i .i64 (.ofNat p), .i .i64 (.ofNat 0), x3, x4] ty false := h1
      have hne : hv h b ≠ .x := by rw [h1']; simp
      have hob := hR.ob b hne
      rw [h1'] at hob
      obtain ⟨t', ht', arr, lo, hi, p1, ⟨p2, p3⟩, p4, p5, p6⟩ := hob
      obtain rfl := Option.some.inj (ht.symm.trans ht')
      have hd : t.d = 0 := p3 rfl
      rw [hd] at hargs p5 p6
      simp only [Nat.zero_add, List.drop_zero] at hargs p5 p6
      have hlo : hi = lo := by rcases p4 with h | ⟨h, _⟩ <;> first | exact h | cases h
      subst hlo
      have hat : ∀ (i : Nat) (x : AV), [AV.s s, .i .i64 (.ofNat p), .i .i64 (.ofNat 0), x3, x4][i]? = some x → ∃ v, arr[i]? = some v ∧ VR ρ x v := by
        intro i x hx
        have hi5 : i < 5 := (List.getElem?_eq_some_iff.1 hx).1
        have hsz : i < arr.size := by simp only [List.length_cons, List.length_nil] at p5; omega
        refine ⟨arr[i], Array.getElem?_eq_getElem hsz, p6.2 i x _ hx ?_⟩
        rw [List.getElem?_take, if_pos (by simpa using hi5), Array.getElem?_toList]
        exact Array.getElem?_eq_getElem hsz
      have hcell : ∀ i v, arr[i]? = some v → w.cell? ⟨t.c, i, none⟩ = some v := by
        intro i v hv
        simp [World.cell?, p1, hv]
      obtain ⟨v0, a1, a2⟩ := hat 0 _ rfl
      obtain ⟨v1, a3, a4⟩ := hat 1 _ rfl
      obtain ⟨v2, a5, a6⟩ := hat 2 _ rfl
      have b0 := hcell _ _ a1
      have b1 := hcell _ _ a3
      have b2 := hcell _ _ a5
      rw [a2.s_inv] at b0
      rw [a4.i_inv] at b1
      rw [a6.i_inv] at b2
      have hps : p < (⟨s.toArray⟩ : ByteArray).size := by
        have := (List.getElem?_eq_some_iff.1 h5).1
        simpa [s_size] using this
      have hch : chr ⟨s.toArray⟩ p = c.toNat := by
        rw [chr_in hps]
        have := (List.getElem?_eq_some_iff.1 h5).2
        rw [← this]; rfl
      have hRF : RF w t.c ⟨s.toArray⟩ p := ⟨rel_lt hR b t hne ht, b0, b1, b2, by simp [World.frozen?, p1]⟩
      have hcall := esc_own t.c ⟨s.toArray⟩ p w c.toNat hch h7 hRF hps (by rw [s_size]; exact k5)
      have hsz : ((p : Int) + 1) = ((p + 1 : Nat) : Int) := by omega
      refine ⟨.enter 129 args, w, run_callFunc hf hfn hc args w, ?_⟩
      have hcall' : CallsIn (FW none) 0 E.P 129 args w (RetT fun v' w' => ∃ ρ', Step ρ (hv h) w n ρ' (hv (h.put .x (.c [.s s, .i .i64 (.ofNat (p + 1)), .i .i64 (.ofNat 0), x3, x4] ty false) b)) w' n ∧ VR ρ' (.i .u8 (.ofNat c.toNat)) v') := by
        rw [hE, hargs]
        refine callsIn_wide.2 (Calls.mono hcall ?_)
        rintro e w' ⟨rfl, w1, hg1, rfl⟩
        have s1 : Step ρ (hv h) w n ρ (hv h) w1 n := Step.grown hR hg1
        obtain ⟨w2, q1, q2⟩ := store_rel (P := Tryd.prog) (n := n) (b := b) (p := 1) (xs := [.i .i64 (.ofNat (p + 1))]) (vs := [.int .i64 ((p + 1 : Nat) : Int)]) s1.rel h1 ht ((VRs.nil ρ).cons (.i _ _)) rfl (by simp)
        have q3 := store_arr (P := Tryd.prog) (p := 1) (vs := [.int .i64 ((p + 1 : Nat) : Int)]) (w := w1) (c := t.c) (arr := arr) (ty := ty) (lo := hi) (hi := hi) (by rw [hg1.block t.c hRF.lt (by simp)]; exact p1) (.inl rfl) (by simp only [List.length_cons, List.length_nil] at p5 ⊢; omega) (by simp [Value.oneCell'])
        rw [hd, Nat.zero_add, q3] at q1
        injection q1 with _ q1
        have hset : w1.setCell ⟨t.c, 1, none⟩ (.int .i64 ((p : Int) + 1)) = w2 := by rw [← q1, hsz]; rfl
        rw [hset, hv_put]
        exact ⟨ρ, s1.trans q2, .i _ _⟩
      exact hcall'
    · exact (ok_er hk).elim
  · exact (ok_er hk).elim
end Ax
end Go.Proofs.YtnnhkajjifmlfaaDoor
