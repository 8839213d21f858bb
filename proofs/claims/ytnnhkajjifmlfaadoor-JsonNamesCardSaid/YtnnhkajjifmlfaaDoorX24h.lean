/- Regions that draw their order: one operation more. -/
import Derived.Test.YtnnhkajjifmlfaaDoorX24g
namespace Go.Proofs.YtnnhkajjifmlfaaDoor
namespace Ax
section
variable {E : Env} {l : Option Nat} {ops : Array Oper} {nt : Nat} {ck : List Ck} {F : List (Tr AO)} {es : List Nat} {evs : List Ev} {s0 sN : St}
theorem Row.heap_at (hr : Row E l ops nt ck F es evs s0 sN) {e : Ev} (he : e ∈ evs) : F.getD e.s.k .leaf = e.s.h := by
  rw [List.getD_eq_getElem?_getD, hr.fs e he]; rfl
theorem Row.next_at (hr : Row E l ops nt ck F es evs s0 sN) {i : Nat} {e : Ev} (he : evs[i]? = some e) (hef : e.eff = true) : F.getD (e.s.k + 1) .leaf = e.s'.h ∧ (∀ e' ∈ evs, e'.s.k = e.s.k + 1 → e'.s.df = e.s'.df) ∧ (sN.k = e.s.k + 1 → sN.df = e.s'.df) := by
  have hk := hr.kr e (List.mem_of_getElem? he)
  unfold KRule at hk
  rw [hef, if_pos rfl] at hk
  obtain ⟨l1, l2⟩ := links_get hr.links he
  have hc := links_const l2 (fun x hx => hr.ok x (List.mem_of_mem_drop hx)) (fun x hx => hr.kr x (List.mem_of_mem_drop hx))
  refine ⟨?_, fun e' he' hke => ?_, fun h => (hc.2.1 (by omega)).1⟩
  · rw [← hk, List.getD_eq_getElem?_getD]
    cases hd : evs.drop (i + 1) with
    | nil =>
      rw [hd] at l2
      have : e.s' = sN := l2
      rw [this, hr.fN]; rfl
    | cons e2 r =>
      rw [hd] at l2
      rw [← l2.1, hr.fs e2 (List.mem_of_mem_drop (i := i + 1) (by rw [hd]; simp))]; rfl
  · obtain ⟨j, hj⟩ := List.getElem?_of_mem he'
    by_cases hij : j < i + 1
    · exfalso
      by_cases hji : j = i
      · subst hji; rw [he] at hj; injection hj with hj; subst hj; omega
      · have h5 : (evs.take i)[j]? = some e' := by rw [List.getElem?_take, if_pos (by omega)]; exact hj
        obtain ⟨_, m2⟩ := links_get l1 h5
        have h6 := (links_const m2 (fun x hx => hr.ok x (List.mem_of_mem_take (List.mem_of_mem_drop hx))) (fun x hx => hr.kr x (List.mem_of_mem_take (List.mem_of_mem_drop hx)))).1
        have h7 := hr.kr e' he'
        unfold KRule at h7
        split at h7 <;> omega
    · have h5 : (evs.drop (i + 1))[j - (i + 1)]? = some e' := by rw [List.getElem?_drop, show i + 1 + (j - (i + 1)) = j from by omega]; exact hj
      exact ((hc.2.2 e' (List.mem_of_getElem? h5)).2 (by omega)).1
theorem Row.step (hr : Row E l ops nt ck F es evs s0 sN) {ρ0 : Ren} {w0 : World} (hg0 : GL E ρ0) {S : Nat → Prop} {i : Nat} {e : Ev} {a : Act} {w : World} {ρ : Ren} {k : Nat} {df : List AD}
    (inv : Inv E nt F es evs s0 sN (befores ops.toList []) ρ0 w0 S a w ρ k df) (hi : Ready ops.toList S i) (hn : ¬ S i) (he : evs[i]? = some e) (Q : Exit → Act → World → Prop) :
    wpOpIn (FW l) 0 E.P ops Q i (fun a' w' => ∃ ρ' k' df', Inv E nt F es evs s0 sN (befores ops.toList []) ρ0 w0 (fun x => x = i ∨ S x) a' w' ρ' k' df') a w := by
  have hmem := List.mem_of_getElem? he
  have ho := hr.ok e hmem
  have hg : GL E ρ := hg0.mono inv.st.ext
  obtain ⟨hvr, hw⟩ := hr.vro inv.cl hi hn he hg inv.tm
  have hcl := closed_add inv.cl hi
  have hwin := hr.in_win inv.cl inv.ks hi hn he
  unfold wpOpIn
  simp only [hr.op_at he, hw]
  cases hb : e.b with
  | false =>
    simp only [Bool.false_eq_true, if_false]
    obtain ⟨n1, n2, n3, n4⟩ := ho.nb hb
    refine ⟨fun _ _ => trivial, ?_⟩
    obtain ⟨t1, t2⟩ := hr.tm_add inv.cl hi hn he (v' := undef) inv.sz inv.tm (Ren.le_refl ρ) (by rw [n1]; exact VR.undef ρ)
    cases hef : e.eff with
    | false =>
      refine ⟨ρ, k, df, hcl, hr.ks_same he hef inv.ks, by rw [hr.xs_same he n2]; exact inv.st, ?_, ?_, t1, t2, inv.dfc, by rw [put_defers]; exact inv.dr⟩
      · intro j e' hj hns b h1 h2
        rw [hr.xs_same he n2]
        exact inv.fr j e' hj (fun h => hns (.inr h)) b h1 h2
      · intro j e' ob hj hje ha hh
        rcases hj with rfl | hj
        · rw [he] at hje; injection hje with hje; subst hje; rw [n2] at ha; cases ha
        · exact inv.ap j e' ob hj hje ha hh
    | true =>
      obtain ⟨hk, hks⟩ := hr.ks_next inv.cl hi hn he hef inv.ks
      subst hk
      obtain ⟨f1, f2, f3⟩ := hr.next_at he hef
      have hhl := ho.efb hef hb
      have hlaid := hr.laid inv.cl hi he hef rfl
      have hst := inv.st
      have hfr := inv.fr
      have hap := inv.ap
      rw [hr.heap_at hmem] at hst
      simp only [hr.heap_at hmem] at hfr hap
      have hhp : ovl (XS evs (fun x => x = i ∨ S x) (e.s.k + 1)) (hv (F.getD (e.s.k + 1) .leaf)) = ovl (XS evs S e.s.k) (hv e.s.h) := by
        rw [hr.xs_same he n2, f1, hhl, hlaid]
      refine ⟨ρ, e.s.k + 1, df, hcl, hks, by rw [hhp]; exact hst, ?_, ?_, t1, t2, ?_, by rw [put_defers]; exact inv.dr⟩
      · intro j e' hj hns b h1 h2
        rw [hhp]
        exact hfr j e' hj (fun h => hns (.inr h)) b h1 h2
      · intro j e' ob hj hje ha hh
        rcases hj with rfl | hj
        · rw [he] at hje; injection hje with hje; subst hje; rw [n2] at ha; cases ha
        · rw [f1, hhl]
          exact hr.apart_hl he hef rfl hap hj hje ha hh
      · have hdf := inv.dfc.1 e hmem rfl
        exact ⟨fun e' he' hk' => by rw [f2 e' he' hk', n4, hdf], fun hk' => by rw [f3 hk', n4, hdf]⟩
  | true =>
    simp only [if_true]
    have hex : (∀ c, e.o.op ≠ .defer c) → e.o.semAt l a.eval = execOp a.eval e.o := fun h => Oper.semAt_eq _ _ _ h
    have hFk : F[k]? = some (F.getD k .leaf) := by
      have h1 := hr.fN
      have h2 : k < F.length := by
        have := (List.getElem?_eq_some_iff.1 h1).1
        have := inv.ks.1
        have := hr.efN
        omega
      rw [List.getD_eq_getElem?_getD, List.getElem?_eq_getElem h2]; rfl
    have hweak : Rel ρ (hv (F.getD k .leaf)) w := inv.st.rel.weak fun b hb' => by
      by_cases hx : XS evs S k b = .x
      · rw [ovl_none hx]
      · obtain ⟨ob, j, ev, h1, h2, h3, h4, h5⟩ := xs_inv hx
        subst h5
        exact absurd (inv.ap j ev ob h1 h2 h3 h4) hb'
    cases hef : e.eff with
    | false =>
      cases hal : e.al with
      | none =>
        have hpu := ho.pu hb hef hal
        obtain ⟨v', g1, g2⟩ := pu_sem hpu (hr.fs e hmem) (hr.own_win he) hr.ckE hFk hwin.1 hwin.2 ρ a w hvr hweak
        refine ⟨fun _ _ => trivial, ?_⟩
        show e.o.uponIn (FW l) 0 E.P a _ Q ((e.o.semAt l a.eval).run E.P w)
        rw [hex hpu.1, g2]
        obtain ⟨t1, t2⟩ := hr.tm_add inv.cl hi hn he (v' := v') inv.sz inv.tm (Ren.le_refl ρ) g1
        refine ⟨ρ, k, df, hcl, hr.ks_same he hef inv.ks, by rw [hr.xs_same he hal]; exact inv.st, ?_, ?_, t1, t2, inv.dfc, by rw [put_defers]; exact inv.dr⟩
        · intro j e' hj hns b h1 h2
          rw [hr.xs_same he hal]
          exact inv.fr j e' hj (fun h => hns (.inr h)) b h1 h2
        · intro j e' ob hj hje ha hh
          rcases hj with rfl | hj
          · rw [he] at hje; injection hje with hje; subst hje; rw [hal] at ha; cases ha
          · exact inv.ap j e' ob hj hje ha hh
      | some ob =>
        obtain ⟨_, _, hn', _, hnd, hob, hsem⟩ := ho.al ob hal
        have hfr := inv.fr i e he hn e.s.n (Nat.le_refl _) (by rw [hn', nat_succ]; omega)
        obtain ⟨v', w', ob', t, g1, g2, g3, g4, g5⟩ := hsem ρ a w hvr hfr.1
        refine ⟨fun _ _ => trivial, ?_⟩
        show e.o.uponIn (FW l) 0 E.P a _ Q ((e.o.semAt l a.eval).run E.P w)
        rw [hex hnd, g1]
        have hst := Step.new inv.st.rel hfr.1 hfr.2 g3 g5 (rel_lt inv.st.rel) g2.heap g2.os g2.tape g2.output hob.2
        rw [← ovl_upd hob.1, ← hr.xs_add he hal hwin.2] at hst
        have hrg := hr.range he
        have hst2 := inv.st.within hst (by omega) (by rw [hn'] at hrg; omega)
        obtain ⟨t1, t2⟩ := hr.tm_add inv.cl hi hn he (v' := v') inv.sz inv.tm hst.ext g4
        refine ⟨_, k, df, hcl, hr.ks_same he hef inv.ks, hst2, ?_, ?_, t1, t2, inv.dfc, by rw [put_defers]; exact inv.dr.mono hst.ext⟩
        · intro j e' hj hns b h1 h2
          have hbn : b ≠ e.s.n := by
            intro hbe
            subst hbe
            rcases Nat.lt_trichotomy i j with h | h | h
            · have := hr.names he hj h; rw [hn', nat_succ] at this; omega
            · exact hns (.inl h.symm)
            · have := hr.names hj he h; omega
          have := inv.fr j e' hj (fun h => hns (.inr h)) b h1 h2
          rw [updR_other _ hbn, hr.xs_add he hal hwin.2, ovl_upd hob.1, upd_other _ _ hbn]
          exact this
        · intro j e' ob2 hj hje ha hh
          rcases hj with rfl | hj
          · rw [he] at hje; injection hje with hje; subst hje
            have := hfr.2
            by_cases hx : XS evs S k e.s.n = .x
            · rw [ovl_none hx] at this; exact this
            · rw [ovl_some hx] at this; exact absurd this hx
          · exact inv.ap j e' ob2 hj hje ha hh
    | true =>
      obtain ⟨hk, hks⟩ := hr.ks_next inv.cl hi hn he hef inv.ks
      subst hk
      obtain ⟨f1, f2, f3⟩ := hr.next_at he hef
      obtain ⟨hal, _, _, _⟩ := ho.ef hef
      have hlaid := hr.laid inv.cl hi he hef rfl
      have hst := inv.st
      have hfr := inv.fr
      have hap := inv.ap
      have hdf := inv.dfc.1 e hmem rfl
      rw [hr.heap_at hmem, hlaid] at hst
      simp only [hr.heap_at hmem, hlaid] at hfr
      simp only [hr.heap_at hmem] at hap
      have hX : ∀ b, XS evs S (e.s.k + 1) b ≠ .x → own (XS evs S (e.s.k + 1) b) ∧ hv e.hl b = .x ∧ ∃ j ev, S j ∧ evs[j]? = some ev ∧ ev.s.n = b ∧ ev.s'.n = ev.s.n.succ := by
        intro b hb'
        obtain ⟨ob, j, ev, h1, h2, h3, h4, h5⟩ := xs_inv hb'
        subst h5
        rw [hr.xs_some h2 h1 h3 h4]
        exact ⟨hr.al_own h2 h3, hr.apart_hl he hef rfl hap h1 h2 h3 h4, j, ev, h1, h2, rfl, ((hr.ok ev (List.mem_of_getElem? h2)).al ob h3).2.2.1⟩
      -- names of another operation are none of this one's
      have hapart : ∀ (j : Nat) (ev : Ev), evs[j]? = some ev → j ≠ i → ∀ b : Pn, ev.s.n.nat ≤ b.nat → b.nat < ev.s'.n.nat → ¬ (e.s.n.nat ≤ b.nat ∧ b.nat < e.s'.n.nat) := by
        intro j ev hj hji b h1 h2 h3
        rcases Nat.lt_or_gt_of_ne hji with h | h
        · have := hr.names hj he h; omega
        · have := hr.names he hj h; omega
      have hnil : ∀ b, ovl (XS evs S (e.s.k + 1)) (hv e.hl) b = .x → XS evs S (e.s.k + 1) b = .x ∧ hv e.hl b = .x := by
        intro b h
        by_cases hx : XS evs S (e.s.k + 1) b = .x
        · exact ⟨hx, by rwa [ovl_none hx] at h⟩
        · rw [ovl_some hx] at h; exact absurd h hx
      have hR2 : Rel ρ (hv e.hl) w := hst.rel.weak fun b hb' => by
        by_cases hx : XS evs S (e.s.k + 1) b = .x
        · rw [ovl_none hx]
        · exact absurd (hX b hx).2.1 hb'
      have hF2 : Fresh ρ (hv e.hl) e.s.n e.s'.n := fun b h1 h2 => by
        obtain ⟨q1, q2⟩ := hfr i e he hn b h1 h2
        exact ⟨q1, (hnil b q2).2⟩
      have hdr : DR E ρ e.s.df a.defers := by rw [hdf]; exact inv.dr
      refine ho.efs hb hef ρ a w hg hvr hdr hR2 hF2 _ Q fun ρ' v' w' ds' st vr dr' => ?_
      have hx3 : ∀ b, XS evs S (e.s.k + 1) b ≠ .x → own (XS evs S (e.s.k + 1) b) ∧ hv e.hl b = .x ∧ hv e.s'.h b = .x := by
        intro b hb'
        obtain ⟨g1, g2, j, ev, g3, g4, g5, g6⟩ := hX b hb'
        refine ⟨g1, g2, ?_⟩
        apply Classical.byContradiction
        intro hc
        rcases st.lv b hc with h | h
        · exact h g2
        · exact hapart j ev g4 (fun hji => hn (by rw [← hji]; exact g3)) b (by rw [g5]; exact Nat.le_refl _) (by rw [g6, nat_succ, g5]; omega) h
      have hfs := Step.frame hst.rel st hx3
      have hrg := hr.range he
      have hst2 := hst.within hfs hrg.1 hrg.2.2
      have hhp : ovl (XS evs (fun x => x = i ∨ S x) (e.s.k + 1)) (hv (F.getD (e.s.k + 1) .leaf)) = ovl (XS evs S (e.s.k + 1)) (hv e.s'.h) := by
        rw [hr.xs_same he hal, f1]
      obtain ⟨t1, t2⟩ := hr.tm_add (a := { a with defers := ds' }) inv.cl hi hn he (v' := v') inv.sz inv.tm st.ext vr
      refine ⟨ρ', e.s.k + 1, e.s'.df, hcl, hks, by rw [hhp]; exact hst2, ?_, ?_, t1, t2, ⟨f2, f3⟩, by rw [put_defers]; exact dr'⟩
      · intro j e' hj hns b h1 h2
        obtain ⟨q1, q2⟩ := hfr j e' hj (fun h => hns (.inr h)) b h1 h2
        obtain ⟨q3, q4⟩ := hnil b q2
        have hnr := hapart j e' hj (fun h => hns (.inl h)) b h1 h2
        constructor
        · apply Classical.byContradiction
          intro hc
          exact hnr (st.nw b q1 hc)
        · rw [hhp, ovl_none q3]
          apply Classical.byContradiction
          intro hc
          rcases st.lv b hc with h | h
          · exact h q4
          · exact hnr h
      · intro j e' ob hj hje ha hh
        rcases hj with rfl | hj
        · rw [he] at hje; injection hje with hje; subst hje; rw [hal] at ha; cases ha
        · rw [f1]
          have hxs := hr.xs_some (k := e.s.k + 1) hje hj ha hh
          exact (hx3 e'.s.n (by rw [hxs]; exact (hr.al_own hje ha).1)).2.2
end
end Ax
end Go.Proofs.YtnnhkajjifmlfaaDoor
