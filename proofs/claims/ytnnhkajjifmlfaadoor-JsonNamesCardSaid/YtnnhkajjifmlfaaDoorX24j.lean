/- Regions that draw their order: the theorem. -/
import Derived.Test.YtnnhkajjifmlfaaDoorX24i
namespace Go.Proofs.YtnnhkajjifmlfaaDoor
namespace Ax
section
variable {E : Env} {o : Oper}
theorem krule_of {E : Env} {l : Option Nat} {ops : Array Oper} {nt : Nat} {ck : List Ck} {e : Ev} (h : EvOK E l ops nt ck e) : KRule e := by
  unfold KRule
  cases he : e.eff with
  | false => simp [(h.ne he).1]
  | true => simp [(h.ef he).2.1]
theorem drw_inv (hE : EOK E) {ix : FuncId → Option Ix} (hI : IxOK E ix) {B : Bd} (hB : BdOK E B) {nt : Nat} {ro : Bool} {l : Option Nat} (hl : ro = false → l = none) {ops : Array Oper} {ds : List DO} (hd : drawOf (cosOf E ix nt ro ops.toList ops.toList) ops.toList = some ds)
    {tm : Tr AV} {df : List AD} {h : Tr AO} {n : Pn} (hk : Ok (drw ds B tm df h n .nm)) :
    ∃ tm' df' h' n', drw ds B tm df h n .nm = .nm tm' df' h' n' ∧ n.nat ≤ n'.nat ∧ ∀ (ρ : Ren) (a : Act) (w : World), GL E ρ → FR ρ nt tm a.tmps → DR E ρ df a.defers → Rel ρ (hv h) w → Fresh ρ (hv h) n n' →
      ∀ Q : Exit → Act → World → Prop, (∀ ρ' a' w', Step ρ (hv h) w n ρ' (hv h') w' n' → FR ρ' nt tm' a'.tmps → DR E ρ' df' a'.defers → Q .normal a' w') → ∀ t, wpOpsIn (FW l) 0 E.P ops Q (Region.schedule (E.P.follows .mixedOrders) ops t) a w := by
  unfold drawOf at hd
  simp only at hd
  split at hd
  · rename_i hcond
    injection hd with hd
    subst hd
    simp only [Bool.and_eq_true] at hcond
    obtain ⟨⟨hch, hte⟩, hed⟩ := hcond
    unfold drw at hk ⊢
    obtain ⟨evs, tm', df', h', n', s', k1, k2, k3, k4, k5, k6, k6', k7, k8, k9, k10⟩ := drwL_inv hE hI hB hl (bs := befores ops.toList []) (es := effs (cosOf E ix nt ro ops.toList ops.toList) 0) ops.toList 0 hk (by simp) rfl (by simp)
    rw [k1] at hk ⊢
    obtain ⟨h1, h2⟩ := ckAll_inv _ _ k6' hk
    rw [h1] at hk ⊢
    obtain ⟨hF, h3, h4⟩ := layP_eq s'.kc s'.pd h' (fun p hp => (k7 p hp).1)
    rw [h3]
    have hkr : ∀ e ∈ evs, KRule e := fun e he => krule_of (k6 e he)
    have hmap : (cosOf E ix nt ro ops.toList ops.toList).map (fun c => isEff c.c) = evs.map (·.eff) := by
      have hc : ∀ l : List Oper, cosOf E ix nt ro ops.toList l = l.map (coOf E ix nt ro ops.toList) := by
        intro l; induction l with
        | nil => rfl
        | cons o r ih => exact congrArg (_ :: ·) ih
      have e0 : List.map (coOf E ix nt ro ops.toList) ops.toList = List.map (coOf E ix nt ro ops.toList) (evs.map (·.o)) := by rw [k3]
      rw [hc, e0, List.map_map, List.map_map]
      apply List.map_congr_left
      intro ev hev
      obtain ⟨q, hq⟩ := List.getElem?_of_mem hev
      exact (k4 q ev hq).2.2.symm
    obtain ⟨e1, e2, e3⟩ := effs_links 0 hmap k2 hkr
    have hnn := (links_names k2 k6).1
    refine ⟨_, _, _, _, rfl, hnn, fun ρ a w hg hf hdr hR hFr Q hq t => ?_⟩
    have row : Row E l ops nt s'.ck (s'.sn.reverse ++ [h']) (effs (cosOf E ix nt ro ops.toList ops.toList) 0) evs (stOf tm df h n { kc := 0, sn := [], pd := [], ck := [] }) (stOf tm' df' h' n' s') :=
      { links := k2, opsE := k3, ok := k6
        win := fun q ev hq => by
          have := k4 q ev hq
          rw [Nat.zero_add] at this
          exact ⟨this.1, this.2.1⟩
        fs := k10
        fN := by
          show (s'.sn.reverse ++ [h'])[s'.kc]? = some h'
          rw [← k8, List.getElem?_append_right (by simp)]
          simp
        ckE := by simpa using h2
        ef1 := fun q ev hq he => by
          have := (e2 q ev hq).2.2 he
          simpa [stOf] using this
        ef2 := fun k p hp => by
          obtain ⟨q, ev, g1, g2, g3, g4⟩ := e3 k p hp
          exact ⟨ev, by rw [g1, Nat.zero_add]; exact g2, g3, by rw [g4]; simp [stOf]⟩
        efN := by rw [e1]; simp [stOf]
        kr := hkr, ch := hch, te := hte, ed := hed, z := ⟨rfl, rfl⟩ }
    have hno : ∀ x, ¬ ((Array.replicate ops.size false).getD x false = true) := by
      intro x hx
      by_cases hlt : x < ops.size <;> simp [Array.getD, hlt] at hx
    have hF0 : (s'.sn.reverse ++ [h']).getD 0 .leaf = h := by
      obtain ⟨tt, ht⟩ := k9
      rw [ht]; rfl
    have hX0 : XS evs (fun x => (Array.replicate ops.size false).getD x false = true) 0 = fun _ => .x := by
      funext b
      exact xs_none fun ob i ev hi => absurd hi (hno i)
    have hov : ovl (XS evs (fun x => (Array.replicate ops.size false).getD x false = true) 0) (hv ((s'.sn.reverse ++ [h']).getD 0 .leaf)) = hv h := by
      rw [hX0, hF0, ovl_empty]
    have hlc := links_const k2 k6 hkr
    have inv0 : Inv E nt (s'.sn.reverse ++ [h']) (effs (cosOf E ix nt ro ops.toList ops.toList) 0) evs (stOf tm df h n { kc := 0, sn := [], pd := [], ck := [] }) (stOf tm' df' h' n' s') (befores ops.toList []) ρ w (fun x => (Array.replicate ops.size false).getD x false = true) a w ρ 0 df :=
      { cl := fun i hi => absurd hi (hno i)
        ks := ⟨Nat.zero_le _, fun q e _ => ⟨fun h => absurd h (hno e), fun h => absurd h (Nat.not_lt_zero q)⟩⟩
        st := by rw [hov]; exact Step.start hR hnn
        fr := fun i e he _ b h1 h2 => by
          rw [hov]
          have := row.range he
          exact hFr b (Nat.le_trans this.1 h1) (Nat.lt_of_lt_of_le h2 this.2.2)
        ap := fun i e ob hi => absurd hi (hno i)
        sz := hf.1
        tm := fun t => ⟨_, .inl ⟨rfl, fun i ev hi => absurd hi (hno i)⟩, hf.2 t⟩
        dfc := ⟨fun e he hk => ((hlc.2.2 e he).2 hk).1, fun hk => (hlc.2.1 hk).1⟩
        dr := hdr }
    have hmix := hE.mix
    unfold Region.schedule
    rw [hmix, Bool.true_or, if_pos rfl]
    refine wpAnyIn_sound ops.size t _ a w (row.any hg Q ?_ ops.size _ a w (by simp) ?_ ⟨ρ, 0, df, inv0⟩)
    · intro S a' w' ρ' k' df2 hall inv
      have hlen := row.len
      have hkk : k' = s'.kc := by
        have h5 : (effs (cosOf E ix nt ro ops.toList ops.toList) 0).length = s'.kc := row.efN
        have h6 := inv.ks.1
        apply Classical.byContradiction
        intro hne
        have hlt : k' < (effs (cosOf E ix nt ro ops.toList ops.toList) 0).length := by omega
        have h7 := List.getElem?_eq_getElem hlt
        obtain ⟨ev, g1, _, _⟩ := row.ef2 _ _ h7
        have h8 := (List.getElem?_eq_some_iff.1 g1).1
        have := (inv.ks.2 _ _ h7).1 (hall _ (by omega))
        omega
      subst hkk
      have hpd := row_pend row.ok row.kr (fun e he => by obtain ⟨i, hi⟩ := List.getElem?_of_mem he; exact (row.own_win hi).2) row.z.2 evs.length _ (Nat.le_refl _) (by rw [List.take_length]; exact k2)
      have hFk : (s'.sn.reverse ++ [h']).getD s'.kc .leaf = h' := by
        have := row.fN
        rw [List.getD_eq_getElem?_getD]
        show ((s'.sn.reverse ++ [h'])[s'.kc]?).getD .leaf = h'
        rw [show (s'.sn.reverse ++ [h'])[s'.kc]? = some h' from this]; rfl
      have hst := inv.st
      rw [hFk] at hst
      refine hq ρ' a' w' (hst.weak fun b hb => ?_) ⟨inv.sz, fun t => ?_⟩ (by have h20 : df' = df2 := inv.dfc.2 rfl; rw [h20]; exact inv.dr)
      · rw [h4] at hb ⊢
        by_cases hx : XS evs S s'.kc b = .x
        · rw [ovl_none hx, ovl_none]
          refine ph_none fun p hp hpb => ?_
          rw [List.mem_filter] at hp
          obtain ⟨j, ev, ob, g1, g2, g3, rfl, g5⟩ := (hpd p).1 hp.1
          have := row.xs_some (k := s'.kc) g2 (hall j (by omega)) g3 g5
          rw [show ev.s.n = b from hpb, hx] at this
          exact (row.al_own g2 g3).1 this.symm
        · obtain ⟨ob, j, ev, g1, g2, g3, g4, g5⟩ := xs_inv hx
          subst g5
          rw [ovl_some hx, row.xs_some g2 g1 g3 g4]
          have hj : j < evs.length := (List.getElem?_eq_some_iff.1 g2).1
          have hph : PH (s'.pd.filter fun e => Nat.ble e.1 s'.kc) ev.s.n = ob := by
            refine ph_some ⟨(ev.hi, ev.s.n, ob), ?_, rfl⟩ (fun p hp hb2 => ?_) (row.al_own g2 g3).1
            · rw [List.mem_filter]
              refine ⟨(hpd _).2 ⟨j, ev, ob, hj, g2, g3, rfl, g4⟩, ble_iff.2 ?_⟩
              have h9 := (hiOf_spec (befores ops.toList []) j (effs (cosOf E ix nt ro ops.toList ops.toList) 0)).1
              rw [← (row.win j ev g2).2] at h9
              have h10 : (effs (cosOf E ix nt ro ops.toList ops.toList) 0).length = s'.kc := row.efN
              simp only; omega
            · rw [List.mem_filter] at hp
              obtain ⟨j', ev', ob', q1, q2, q3, rfl, q5⟩ := (hpd p).1 hp.1
              have := row.al_one q2 g2 q3 g3 hb2
              subst this
              rw [g2] at q2; injection q2 with q2; subst q2
              rw [g3] at q3; injection q3 with q3; exact q3.symm
          rw [ovl_some (by rw [hph]; exact (row.al_own g2 g3).1), hph]
      · obtain ⟨v, v1, v2⟩ := inv.tm t
        have h11 := row_tmps row.ok t evs.length _ (Nat.le_refl _) (by rw [List.take_length]; exact k2)
        have := v1.unique h11 fun i ev hi _ => by
          have h12 := (List.getElem?_eq_some_iff.1 hi).1
          exact ⟨fun _ => h12, fun _ => hall i (by omega)⟩
        rw [← show v = tm'.get (.tu []) (pth t) from this]
        exact v2
    · unfold Ax.left
      exact Nat.le_trans (List.length_filter_le _ _) (by simp)
  · cases hd
end
end Ax
end Go.Proofs.YtnnhkajjifmlfaaDoor
