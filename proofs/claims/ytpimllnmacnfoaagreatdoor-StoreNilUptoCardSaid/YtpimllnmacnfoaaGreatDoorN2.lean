/- (*store.Store).Names of a text that is not too long, whatever it is: what stands in its place. -/
import Derived.Test.YtpimllnmacnfoaaGreatDoorN1
import Derived.Test.YtpimllnmacnfoaaGreatDoorXd
namespace Go.Proofs.YtpimllnmacnfoaaGreatDoor
open Go.RowKit

theorem gb_behind {w W w1 : World} (h0 : w.grownBy W none) (hb : Below w.heap.size W w1) : w.grownBy w1 none :=
  ⟨hb.os.trans h0.os, hb.tape.trans h0.tape, hb.output.trans h0.output, Nat.le_trans h0.size hb.size, fun i hi hn => (hb.block i hi).trans (h0.block i hi hn)⟩
set_option maxRecDepth 100000 in
set_option maxHeartbeats 1600000 in
/-- Names, over what read does -/
theorem names_own (sv : Value) (s : ByteArray) (w : World) (hs : s.size ≤ 1048576) (T : Value → World → Prop)
    (h26 : ∀ (u : Value) (w1 : World), w.grownBy w1 none → Calls Tryz.prog 26 #[sv, u, .func (.func 29) #[] #[]] w1 fun e w' => ∃ a b, e = .returned (.tuple #[a, b]) ∧ T (.tuple #[a, b]) w') :
    Calls Tryz.prog 9 #[sv, .string s] w fun e w' => ∃ v, e = .returned v ∧ T v w' := by
  have hO := Lib.hid (ordered_any w.heap.size 1 (.slice (some ⟨w.heap.size, 0, none⟩) 1 1) [.int .u8 110] s (w.alloc (.cells #[.int .u8 110] 5)) ⟨rfl, .inr ⟨_, 1, #[.int .u8 110], rfl, Nat.le_refl _, heap_alloc_new w _, Nat.le_refl _, by unfold maxLen; omega, rfl, rfl⟩⟩ (by omega) hs (by simp))
  have hg0 := gb_alloc (gb_refl w none) (.cells #[.int .u8 110] 5)
  have hR := fun u w1 hg => Lib.hid (h26 u w1 hg)
  clear h26
  go_enter Tryz.func9, Tryz.ntmps9
  go_wp2_with (first
    | (go_at_call 26; refine ((hR _ _ hg1).out).mono ?_; rintro e w2 ⟨a, b, rfl, hT⟩)
    | (go_at_call 28; refine (hO.out).mono ?_; rintro e w1 ⟨u, rfl, hb⟩; have hg1 := gb_behind hg0 hb))
  refine bodyPost_ret (v := .tuple #[a, b]) (by simp [results, Tryz.results9, go_sem]) rfl ?_
  exact ⟨_, rfl, hT⟩
namespace Ax
/-- a world that has grown -/
theorem Step.grown {ρ : Ren} {H : Hp} {w w' : World} {n : Pn} (h : Rel ρ H w) (hg : w.grownBy w' none) : Step ρ H w n ρ H w' n where
  ext := fun _ _ h => h
  nw := fun _ h k => absurd h k
  lv := fun _ h => .inl h
  le := Nat.le_refl _
  rel := ⟨fun b hb => by
    obtain ⟨t, h1, h2⟩ := h.ob b hb
    exact ⟨t, h1, by rw [hg.block t.c (rel_lt h b t hb h1) (by simp)]; exact h2⟩, h.inj⟩
  size := hg.size
  same := fun k hk _ => hg.block k hk (by simp)
  owns := fun b t h1 h2 => .inl ⟨b, t, h1, h2, rfl⟩
  os := hg.os
  tape := hg.tape
  output := hg.output
  ks := fun _ _ _ e => e
/-- Names of an unknown text: read is run; what the text has become is not known. Else the call as it is -/
noncomputable def ixNm (E : Env) (ix : FuncId → Option Ix) : Ix := fun B us h n k => match us with
  | [x, .tx m] => ifK (Nat.ble m 1048576) 951 fun _ => oneK (callB E 26 [x, .z, .f (.func 29) [] []] B h n pkO) fun v h' n' => match v with
    | .tu [a, b] => k (.tu [a, b]) h' n'
    | _ => .er 952
  | _ => callK E ix 9 us B h n k
theorem pk_one {o : Ot} {t : Tr AV} {df : List AD} {h : Tr AO} {n : Pn} (e : o.app pkO = .nm t df h n) : ∃ v, o = .one v h n ∧ t = .node .leaf v .leaf := by
  cases o with
  | one v h' n' =>
    have e : R.nm (.node .leaf v .leaf) [] h' n' = .nm t df h n := e
    injection e with e1 e2 e3 e4
    subst e1 e2 e3 e4
    exact ⟨v, rfl, rfl⟩
  | al a b => exact absurd (show R.al (a.app pkO) (b.app pkO) = .nm t df h n from e) (by simp)
theorem oneK_inv' {r : R} {k : AV → Tr AO → Pn → R} (h : Ok (oneK r k)) : ∃ t hh n, r = .nm t [] hh n ∧ oneK r k = k (t.get (.tu []) .one) hh n := by
  unfold oneK at h ⊢
  split at h
  · exact ⟨_, _, _, rfl, getK_eq _ _ _ _⟩
  · exact (ok_er h).elim
  · exact (ok_er h).elim
theorem ix_nm {E : Env} (hP : E.P = Tryz.prog) (hE : EOK E) {ix : FuncId → Option Ix} (hI : IxOK E ix) {fn : Func} (hfn : E.fn 9 = some fn) (hb : fn.body.isSome = true) : ∀ B, BdOK E B → ∀ us h n k, Ok (ixNm E ix B us h n k) → ∃ o : Ot, ixNm E ix B us h n k = o.app k ∧ CallA E 9 us h n o := by
  obtain ⟨cd, hc⟩ := Option.isSome_iff_exists.1 hb
  intro B hB us h n k hk
  unfold ixNm at hk ⊢
  split at hk
  · rename_i x m
    obtain ⟨h1, h2⟩ := ifK_inv hk
    rw [h2] at hk ⊢
    rw [ble_iff] at h1
    obtain ⟨t, hh, nn, e1, e2⟩ := oneK_inv' hk
    rw [e2] at hk ⊢
    have hok : Ok (callB E 26 [x, .z, .f (.func 29) [] []] B h n pkO) := by rw [e1]; exact trivial
    obtain ⟨o, g1, g2, g3⟩ := callB_inv hE hB hok
    rw [g1] at e1
    obtain ⟨v, rfl, rfl⟩ := pk_one e1
    have hv1 : (Tr.node (Tr.leaf : Tr AV) v .leaf).get (.tu []) .one = v := rfl
    rw [hv1] at hk ⊢
    split at hk
    · rename_i a b
      refine ⟨.one (.tu [a, b]) hh nn, rfl, CallS.all ⟨g2, fun ρ w args hg hu hR hF => ?_⟩⟩
      obtain ⟨sv, r0, e0, hx, hr0⟩ := hu.cons_inv
      obtain ⟨tv, r1, e3, ht, hr1⟩ := hr0.cons_inv
      have e4 := hr1.nil_inv
      subst e4
      subst e3
      cases ht with
      | tx hts =>
        rename_i s
        have hargs : args = #[sv, .string s] := by
          apply Array.ext'
          rw [e0]
        have hcall := names_own sv s w (Nat.le_trans hts h1) (fun v' w' => ∃ ρ', Step ρ (hv h) w n ρ' (hv hh) w' nn ∧ VR ρ' (.tu [a, b]) v') (fun u w1 hg1 => by
          have s1 := Step.grown (n := n) hR hg1
          obtain ⟨_, q2⟩ := g3 ρ w1 #[sv, u, .func (.func 29) #[] #[]] hg ((((VRs.nil ρ).cons (.f rfl rfl (fun i x v h => by simp at h) (fun i x v h => by simp at h))).cons (.z u)).cons hx) s1.rel hF
          rw [hP] at q2
          refine (callsIn_wide.1 q2).mono fun e w' hr => ?_
          cases e with
          | panicked c => exact hr.elim
          | outgrown => exact hr.elim
          | returned v' =>
            obtain ⟨v0, h0, n0, hh0, ρ', st, hvr⟩ := hr
            obtain ⟨rfl, rfl, rfl⟩ := hh0
            obtain ⟨vs, rfl, hvs⟩ := hvr.tu_inv
            obtain ⟨p, r2, rfl, hp, hr2⟩ := hvs.cons_inv
            obtain ⟨q, r3, rfl, hq, hr3⟩ := hr2.cons_inv
            have e5 := hr3.nil_inv
            subst e5
            exact ⟨p, q, rfl, ρ', s1.trans st, VR.tu' (((VRs.nil _).cons hq).cons hp)⟩)
        refine ⟨.enter 9 args, w, run_callFunc hE hfn hc args w, ?_⟩
        rw [hargs, hP]
        refine callsIn_wide.2 (hcall.mono fun e w' hr => ?_)
        obtain ⟨v', rfl, hT⟩ := hr
        exact hT
    · exact (ok_er hk).elim
  · exact callK_inv hE hI hB hk
end Ax
end Go.Proofs.YtpimllnmacnfoaaGreatDoor
