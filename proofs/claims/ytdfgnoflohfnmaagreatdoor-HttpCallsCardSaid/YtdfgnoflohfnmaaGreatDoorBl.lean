/- HTTP: a request is sent: the program's Send. -/
import Derived.Test.YtdfgnoflohfnmaaGreatDoorBj
import Derived.BigRegion
namespace Go.Proofs.YtdfgnoflohfnmaaGreatDoor.Hx
open Go.RowKit Go.Maps

theorem idx_mark (i : Int) (h0 : 0 ≤ i) (h1 : i < 2) (W : World) : (Instr.index 99 (.agg #[.string ⟨#[63]⟩, .string ⟨#[38]⟩]) (.int .i64 i)).run Tryz.prog W = .ok (.string (if i = 0 then ⟨#[63]⟩ else ⟨#[38]⟩)) W := by
  have hu := run_underlying (P := Tryz.prog) Tryz.underlying99
  have hz : (Tryz.prog.info? 9).map (fun i => i.size) = some 1 := by kernel_rfl
  obtain ⟨i0, hi0, hz1⟩ := Option.map_eq_some_iff.1 hz
  obtain rfl | rfl : i = 0 ∨ i = 1 := by omega
  · simp [Instr.index, hu, asIntOf, go_sem, part, sizeOf, typeInfo, hi0, hz1]
  · simp [Instr.index, hu, asIntOf, go_sem, part, sizeOf, typeInfo, hi0, hz1]
def r0len (q : Pr) (k : Nat) : Prop := ∃ h : k < q.length, q[k].1.length ≤ 20000 ∧ q[k].2.length ≤ 20000
def fine1 (m p : Bs) : Bool := decide (1 ≤ m.length) && decide (m.length ≤ 16) && m.all capB && Lib.hasPrefix p [47] && p.all prB
theorem hp_head : ∀ p : Bs, Lib.hasPrefix p [47] = true ↔ p.head? = some 47
  | [] => by simp [Lib.hasPrefix]
  | c :: t => by
    show (47 == c && true) = true ↔ _
    simp
    exact eq_comm
theorem may_fine (r : Rq) (h : (fine1 r.m r.p && r.q.all parOK) = false) : mayS r = 2 := by
  unfold mayS
  rw [if_pos]
  by_cases a1 : r.m.length < 1
  · exact .inl a1
  by_cases a2 : 16 < r.m.length
  · exact .inr (.inl a2)
  cases a3 : r.m.all capB with
  | false => exact .inr (.inr (.inl rfl))
  | true =>
    by_cases a4 : r.p.head? = some 47
    · cases a5 : r.p.all prB with
      | false => exact .inr (.inr (.inr (.inr (.inl rfl))))
      | true =>
        cases a6 : r.q.all parOK with
        | false => exact .inr (.inr (.inr (.inr (.inr rfl))))
        | true =>
          exfalso
          unfold fine1 at h
          rw [a3, a5, a6, (hp_head _).2 a4, decide_eq_true (by omega : 1 ≤ r.m.length), decide_eq_true (by omega : r.m.length ≤ 16)] at h
          cases h
    · exact .inr (.inr (.inr (.inl a4)))
theorem may_ok (r : Rq) (h : (fine1 r.m r.p && r.q.all parOK) = true) : mayS r = if 2048 < (tgtO r.p r.q).length ∨ 262144 < r.body.length ∨ 32 < r.q.length then 3 else 0 := by
  unfold fine1 at h
  simp only [Bool.and_eq_true, decide_eq_true_eq] at h
  obtain ⟨⟨⟨⟨⟨h1, h2⟩, h3⟩, h4⟩, h5⟩, h6⟩ := h
  unfold mayS
  rw [if_neg]
  rintro (e | e | e | e | e | e)
  · omega
  · omega
  · rw [h3] at e; cases e
  · exact e ((hp_head _).1 h4)
  · rw [h5] at e; cases e
  · rw [h6] at e; cases e
theorem wpList_append_conv {w0 : World} {t : ByteArray} {ops : Array Oper} {rest : List Oper} {o : Oper} {a : Act} {Q : Exit → Act → World → Prop} (hgd : o.guard = none) (s x : Operand)
    (ho : o.op = .call { callee := .builtin .append, args := #[s, x], argTypes := #[22, 22] }) {v xv : Value} (hs : a.eval s = v) (hv : v = .slice (some ⟨w0.heap.size, 0, none⟩) t.size (grownCap w0 t.size 0 5)) (hxv : a.eval x = xv) {body : Bs} (hx : BV w0 xv body) (hl : t.size + body.length ≤ 1000000000)
    (hK : ∀ A' c' w', BS w' (fun k => w0.heap.size ≤ k) (.slice A' (t.data.toList ++ body).length c') (t.data.toList ++ body) → w0.grownBy w' none → wpList Tryz.prog ops Q rest (a.put o.dst (.slice A' (t.data.toList ++ body).length c')) w') : wpList Tryz.prog ops Q (o :: rest) a (Lib.bytesWorld w0 5 t) := by
  subst hv
  refine wpList_plain hgd fun K hK' => ?_
  obtain ⟨A', c', w', hrun, h1, h2⟩ := conv_append (ty := o.type) hx hl
  unfold Oper.wp
  simp only [execOp, ho, resolve, invoke, builtin, Array.map]
  simp [hs, hxv, hrun, Result.andThen]
  have := hK A' c' w' h1 h2
  rw [List.length_append] at this
  exact hK' _ _ this
/-- what Send leaves -/
def SdK (r : Rq) (w : World) (e : Ending) (w' : World) : Prop :=
  w.grownBy w' none ∧ (mayS r ≠ 0 → e = .returned (.tuple #[.slice none 0 0, .int .i64 (mayS r)])) ∧
  (mayS r = 0 → ∃ v, e = .returned (.tuple #[v, .int .i64 0]) ∧ BS w' (fun k => w.heap.size ≤ k) v (sendP r))
set_option maxRecDepth 100000 in
set_option maxHeartbeats 3200000 in
theorem send_any (r : Rq) (x : R5) (w : World) (hx : RA w (fun _ => True) r x) (hsm : SmR r) (hT : PTw w) :
    Calls Tryz.prog 27 #[x.val] w (SdK r w) := by
  obtain ⟨rm, rp, q, body, cl⟩ := r
  obtain ⟨M, P, qv, cl1, bv⟩ := x
  have hm1 := hx.m
  have hp1 := hx.p
  have hc1 := hx.cl
  dsimp only at hm1 hp1 hc1
  obtain ⟨A, c, b, o, hA0, hl, hA, hcl⟩ := hx.q
  unfold maxLen at hl
  dsimp only at hA0 hA hcl hl
  subst hA0 hc1
  obtain ⟨A2, c2, hb0, hb1, hb2⟩ := hx.b.bv
  dsimp only at hb0 hb1 hb2
  subst hb0
  have hbv : BV w (.slice A2 body.length c2) body := ⟨A2, c2, rfl, hb1, hb2⟩
  obtain ⟨s1, s2, s3, s4, s5⟩ := hsm
  dsimp only at s1 s2 s3 s4 s5
  have hMs : M.size = rm.length := by rw [hm1]; show rm.toArray.size = _; simp
  have hPs : P.size = rp.length := by rw [hp1]; show rp.toArray.size = _; simp
  have hMd : M.data.toList = rm := by rw [hm1]
  have hPd : P.data.toList = rp := by rw [hp1]
  clear hm1 hp1 hx
  have hpl := Lib.hid (pars_len (q := q) s5)
  obtain ⟨W1, hW1⟩ : ∃ W1, w.alloc (.cells #[.string M, .string P, .slice A q.length c, .bool cl1, .slice A2 body.length c2] 32) = W1 := ⟨_, rfl⟩
  have hgw : w.grownBy W1 none := hW1 ▸ gb_alloc (gb_refl w none) _
  have e0 : W1.heap[w.heap.size]? = some (.cells #[.string M, .string P, .slice A q.length c, .bool cl1, .slice A2 body.length c2] 32 (0, 0)) := hW1 ▸ heap_alloc_new w _
  have kF : ∀ W, W1.grownBy W none → ZF W w.heap.size (.string M) (.string P) (.slice A q.length c) (.bool cl1) (.slice A2 body.length c2) := fun W hW => (hW.block _ (Array.getElem?_eq_some_iff.1 e0).1 (by simp)).trans e0
  have z1 := kF W1 (gb_refl _ _)
  have z0 := z1.c0
  have zp := z1.c1
  have zq := z1.c2
  clear e0 z1
  have kFh := Lib.hid kF
  clear kF
  show Calls Tryz.prog 27 #[.agg #[.string M, .string P, .slice A q.length c, .bool cl1, .slice A2 body.length c2]] w _
  go_enter Tryz.func27, Tryz.ntmps27
  go_upto_region 1 with fail
  try rw [hW1]
  go_cut [4] from 9 to 33 (fun u4 wx => u4 = .bool (fine1 rm rp) ∧ wx = W1)
  case first =>
    have hcc := Lib.hid (all_cap2 M W1 (by omega))
    have hcp := Lib.hid (all_pr P W1 (by omega))
    have hch := Lib.hid (Tryz.strings_HasPrefix P ⟨#[47]⟩ W1)
    rw [hMd] at hcc
    rw [hPd] at hcp hch
    by_cases h1 : 1 ≤ rm.length
    · have i1 : (1 : Int) ≤ (M.size : Int) := by omega
      by_cases h2 : rm.length ≤ 16
      · have i2 : (M.size : Int) ≤ 16 := by omega
        cases h3 : rm.all capB with
        | false =>
          rw [h3] at hcc
          have hF : Hid (fine1 rm rp = false) := Lib.hid (by unfold fine1; simp [h3])
          go_wp2_with (first
            | (have hh := hcc; clear hh; go_at_call 38; refine (hcc.out).mono ?_; rintro e w2 ⟨rfl, rfl⟩; clear hcc)
            | (go_at_call 38; refine (hcp.out).mono ?_; rintro e w2 ⟨rfl, rfl⟩)
            | (go_at_call 60; refine (hch.out).mono ?_; rintro e w2 ⟨rfl, rfl⟩))
          go_meet
          exact ⟨by rw [hF.out], rfl⟩
        | true =>
          rw [h3] at hcc
          cases h4 : Lib.hasPrefix rp [47] with
          | false =>
            have hch2 : Hid (Calls Tryz.prog 60 #[.string P, .string ⟨#[47]⟩] W1 fun e w' => e = .returned (.bool false) ∧ w' = W1) := Lib.hid (by rw [← h4]; exact hch.out)
            replace hch := hch2
            have hF : Hid (fine1 rm rp = false) := Lib.hid (by unfold fine1; simp [h4])
            go_wp2_with (first
              | (have hh := hcc; clear hh; go_at_call 38; refine (hcc.out).mono ?_; rintro e w2 ⟨rfl, rfl⟩; clear hcc)
              | (go_at_call 38; refine (hcp.out).mono ?_; rintro e w2 ⟨rfl, rfl⟩)
              | (go_at_call 60; refine (hch.out).mono ?_; rintro e w2 ⟨rfl, rfl⟩))
            go_meet
            exact ⟨by rw [hF.out], rfl⟩
          | true =>
            have hch2 : Hid (Calls Tryz.prog 60 #[.string P, .string ⟨#[47]⟩] W1 fun e w' => e = .returned (.bool true) ∧ w' = W1) := Lib.hid (by rw [← h4]; exact hch.out)
            replace hch := hch2
            cases h5 : rp.all prB with
            | false =>
              rw [h5] at hcp
              have hF : Hid (fine1 rm rp = false) := Lib.hid (by unfold fine1; simp [h5])
              go_wp2_with (first
                | (have hh := hcc; clear hh; go_at_call 38; refine (hcc.out).mono ?_; rintro e w2 ⟨rfl, rfl⟩; clear hcc)
                | (go_at_call 38; refine (hcp.out).mono ?_; rintro e w2 ⟨rfl, rfl⟩)
                | (go_at_call 60; refine (hch.out).mono ?_; rintro e w2 ⟨rfl, rfl⟩))
              go_meet
              exact ⟨by rw [hF.out], rfl⟩
            | true =>
              rw [h5] at hcp
              have hF : Hid (fine1 rm rp = true) := Lib.hid (by unfold fine1; simp [h1, h2, h3, h4, h5])
              go_wp2_with (first
                | (have hh := hcc; clear hh; go_at_call 38; refine (hcc.out).mono ?_; rintro e w2 ⟨rfl, rfl⟩; clear hcc)
                | (go_at_call 38; refine (hcp.out).mono ?_; rintro e w2 ⟨rfl, rfl⟩)
                | (go_at_call 60; refine (hch.out).mono ?_; rintro e w2 ⟨rfl, rfl⟩))
              go_meet
              exact ⟨by rw [hF.out], rfl⟩
      · have i2 : ¬ (M.size : Int) ≤ 16 := by omega
        have hF : Hid (fine1 rm rp = false) := Lib.hid (by unfold fine1; simp [h2])
        go_wp2_with (first
          | (have hh := hcc; clear hh; go_at_call 38; refine (hcc.out).mono ?_; rintro e w2 ⟨rfl, rfl⟩; clear hcc)
          | (go_at_call 38; refine (hcp.out).mono ?_; rintro e w2 ⟨rfl, rfl⟩)
          | (go_at_call 60; refine (hch.out).mono ?_; rintro e w2 ⟨rfl, rfl⟩))
        go_meet
        exact ⟨by rw [hF.out], rfl⟩
    · have i1 : ¬ (1 : Int) ≤ (M.size : Int) := by omega
      have hF : Hid (fine1 rm rp = false) := Lib.hid (by unfold fine1; simp [h1])
      go_wp2_with (first
        | (have hh := hcc; clear hh; go_at_call 38; refine (hcc.out).mono ?_; rintro e w2 ⟨rfl, rfl⟩; clear hcc)
        | (go_at_call 38; refine (hcp.out).mono ?_; rintro e w2 ⟨rfl, rfl⟩)
        | (go_at_call 60; refine (hch.out).mono ?_; rintro e w2 ⟨rfl, rfl⟩))
      go_meet
      exact ⟨by rw [hF.out], rfl⟩
  case rest =>
  obtain ⟨rfl, rfl⟩ := hcut
  have hes := Lib.hid (show Calls Tryz.prog 61 #[.string P, .string ⟨#[47]⟩] wc _ from esc_any true P wc (by omega))
  rw [hPd] at hes
  go_upto_region 3 with (first
    | (go_at_call 61; refine ((hes).out).mono ?_; rintro e w3 ⟨rfl, g3⟩; have zq3 := (kFh.out _ g3).c2; replace g3 := Lib.hid g3))
  clear hes z0 zp zq
  obtain ⟨F1, hF1⟩ : ∃ F, fine1 rm rp = F := ⟨_, rfl⟩
  rw [hF1]
  replace hF1 := Lib.hid hF1
  replace hW1 := Lib.hid hW1
  replace hgw := Lib.hid hgw
  go_wp2_with fail
  go_loopg [4, 5, 40] q.length (fun z u4 u5 u40 wr => ∃ k : Nat, k ≤ q.length ∧ z = q.length - k ∧ u4 = .bool (F1 && (q.take k).all parOK) ∧ u40 = .int .i64 k ∧ (∃ T : ByteArray, u5 = .string T ∧ Hid (T = btx (escP true rp ++ parsO true (q.take k)))) ∧ Hid (wc.grownBy wr none))
  case atStart => exact ⟨0, Nat.zero_le _, rfl, by simp, rfl, ⟨_, rfl, by unfold Hid; simp [parsO]⟩, g3⟩
  case round =>
    obtain ⟨k, hk, rfl, rfl, rfl, ⟨T, rfl, hTe⟩, hg⟩ := hrel
    have hgr := gb_trans hgw.out hg.out
    by_cases hlt : k < q.length
    · obtain ⟨rfl, _⟩ := hA (by omega)
      have hki : (k : Int) < (q.length : Int) := by omega
      have k0 := cell_grown (hcl k hlt).1 hgr (by simp)
      have k1 := cell_grown (hcl k hlt).2 hgr (by simp)
      obtain ⟨N, hN⟩ : ∃ N : ByteArray, (⟨q[k].1.toArray⟩ : ByteArray) = N := ⟨_, rfl⟩
      obtain ⟨V, hV⟩ : ∃ N : ByteArray, (⟨q[k].2.toArray⟩ : ByteArray) = N := ⟨_, rfl⟩
      rw [hN] at k0
      rw [hV] at k1
      clear hcl hA
      have hrl : r0len q k := ⟨hlt, s5 k hlt⟩
      obtain ⟨n1, hn1⟩ : ∃ n, q[k].1 = n := ⟨_, rfl⟩
      obtain ⟨n2, hn2⟩ : ∃ n, q[k].2 = n := ⟨_, rfl⟩
      have hNl : n1.length ≤ 20000 := by rw [← hn1]; exact (s5 k hlt).1
      have hVl : n2.length ≤ 20000 := by rw [← hn2]; exact (s5 k hlt).2
      have hNd : N.data.toList = n1 := by rw [← hN, ← hn1]
      have hVd : V.data.toList = n2 := by rw [← hV, ← hn2]
      have hNs : N.size = n1.length := by rw [ba_size, hNd]
      have hVs : V.size = n2.length := by rw [ba_size, hVd]
      have htk : q.take (k + 1) = q.take k ++ [(n1, n2)] := by rw [List.take_succ_eq_append_getElem hlt, ← hn1, ← hn2]
      have hal : (q.take (k + 1)).all parOK = ((q.take k).all parOK && parOK (n1, n2)) := by rw [htk, List.all_append]; simp
      have hps : parsO true (q.take (k + 1)) = parsO true (q.take k) ++ ((if k = 0 then 63 else 38) :: (escP false n1 ++ 61 :: escP false n2)) := by
        rw [htk, pars_snoc, Bool.true_and]
        have : (q.take k).isEmpty = decide (k = 0) := by
          rw [Bool.eq_iff_iff]
          simp
          intro h; subst h; simp at hlt
        rw [this]
        by_cases h : k = 0
        · rw [if_pos h, if_pos (by simpa using h)]
        · rw [if_neg h, if_neg (by simpa using h)]
      have hq1 := Lib.hid (show wrap64 ((k : Int) + 1) = ((k + 1 : Nat) : Int) from (wrap64_id (by omega) (by omega)).trans (by omega))
      replace hal := Lib.hid hal
      replace hps := Lib.hid hps
      clear hN hV hn1 hn2 htk s5 hrl
      go_upto_region 6 with fail
      obtain ⟨W2, hW2⟩ : ∃ W2, wr.alloc (.cells #[.string N, .string V] 60) = W2 := ⟨_, rfl⟩
      have g2 : wr.grownBy W2 none := hW2 ▸ gb_alloc (gb_refl _ _) _
      have b2 : W2.heap[wr.heap.size]? = some (.cells #[.string N, .string V] 60 (0, 0)) := hW2 ▸ heap_alloc_new _ _
      have kN : ∀ W, W2.grownBy W none → W.cell? ⟨wr.heap.size, 0, none⟩ = some (.string N) := fun W hW => cell_grown (by rw [cell_of_row _ _ _ _ _ _ b2]; rfl) hW (by simp)
      have kV : ∀ W, W2.grownBy W none → W.cell? ⟨wr.heap.size, 1, none⟩ = some (.string V) := fun W hW => cell_grown (by rw [cell_of_row _ _ _ _ _ _ b2]; rfl) hW (by simp)
      have x0 := kN W2 (gb_refl _ _)
      have x1 := kV W2 (gb_refl _ _)
      rw [hW2]
      clear b2 hW2 k0 k1
      obtain ⟨FB, hFB⟩ : ∃ B, (F1 && (q.take k).all parOK) = B := ⟨_, rfl⟩
      rw [hFB]
      replace hFB := Lib.hid hFB
      generalize wr.heap.size = Z at *
      go_cut [4] from 45 to 65 (fun u4 wx => u4 = .bool (FB && parOK (n1, n2)) ∧ wx = W2)
      case first =>
        have hcn := Lib.hid (all_pr N W2 (by omega))
        have hcv := Lib.hid (all_pr V W2 (by omega))
        rw [hNd] at hcn
        rw [hVd] at hcv
        have bN := ba_beq_nil N
        have bV := ba_beq_nil V
        rw [hNd] at bN
        rw [hVd] at bV
        clear kN kV
        cases FB with
        | false =>
          go_wp2_with fail
          go_meet
          exact ⟨rfl, rfl⟩
        | true =>
          cases h1 : n1.all prB with
          | false =>
            rw [h1] at hcn
            have hF : Hid (parOK (n1, n2) = false) := Lib.hid (by unfold parOK; simp [h1])
            go_wp2_with (first
              | (have hh := hcn; clear hh; go_at_call 38; refine (hcn.out).mono ?_; rintro e w2 ⟨rfl, rfl⟩; clear hcn)
              | (go_at_call 38; refine (hcv.out).mono ?_; rintro e w2 ⟨rfl, rfl⟩))
            go_meet
            exact ⟨by rw [hF.out]; first | rfl | (rw [show List.isEmpty n2 = false from by simpa using h4]; rfl), rfl⟩
          | true =>
            rw [h1] at hcn
            cases h2 : n2.all prB with
            | false =>
              rw [h2] at hcv
              have hF : Hid (parOK (n1, n2) = false) := Lib.hid (by unfold parOK; simp [h2])
              go_wp2_with (first
                | (have hh := hcn; clear hh; go_at_call 38; refine (hcn.out).mono ?_; rintro e w2 ⟨rfl, rfl⟩; clear hcn)
                | (go_at_call 38; refine (hcv.out).mono ?_; rintro e w2 ⟨rfl, rfl⟩))
              go_meet
              exact ⟨by rw [hF.out]; first | rfl | (rw [show List.isEmpty n2 = false from by simpa using h4]; rfl), rfl⟩
            | true =>
              rw [h2] at hcv
              by_cases h3 : n1 = []
              · have cN : (N.toList == []) = true := by rw [bN, h3]; rfl
                by_cases h4 : n2 = []
                · have cV : (V.toList == []) = true := by rw [bV, h4]; rfl
                  have hF : Hid (parOK (n1, n2) = false) := Lib.hid (by unfold parOK; simp [h3, h4])
                  go_wp2_with (first
                    | (have hh := hcn; clear hh; go_at_call 38; refine (hcn.out).mono ?_; rintro e w2 ⟨rfl, rfl⟩; clear hcn)
                    | (go_at_call 38; refine (hcv.out).mono ?_; rintro e w2 ⟨rfl, rfl⟩))
                  go_meet
                  exact ⟨by rw [hF.out]; first | rfl | (rw [show List.isEmpty n2 = false from by simpa using h4]; rfl), rfl⟩
                · have cV : (V.toList == []) = false := by rw [bV]; simpa using h4
                  have hF : Hid (parOK (n1, n2) = true) := Lib.hid (by unfold parOK; simp [h2, h3, h4])
                  go_wp2_with (first
                    | (have hh := hcn; clear hh; go_at_call 38; refine (hcn.out).mono ?_; rintro e w2 ⟨rfl, rfl⟩; clear hcn)
                    | (go_at_call 38; refine (hcv.out).mono ?_; rintro e w2 ⟨rfl, rfl⟩))
                  go_meet
                  exact ⟨by rw [hF.out]; first | rfl | (rw [show List.isEmpty n2 = false from by simpa using h4]; rfl), rfl⟩
              · have cN : (N.toList == []) = false := by rw [bN]; simpa using h3
                have hF : Hid (parOK (n1, n2) = true) := Lib.hid (by unfold parOK; simp [h1, h2, h3])
                go_wp2_with (first
                  | (have hh := hcn; clear hh; go_at_call 38; refine (hcn.out).mono ?_; rintro e w2 ⟨rfl, rfl⟩; clear hcn)
                  | (go_at_call 38; refine (hcv.out).mono ?_; rintro e w2 ⟨rfl, rfl⟩))
                go_meet
                exact ⟨by rw [hF.out]; first | rfl | (rw [show List.isEmpty n2 = false from by simpa using h4]; rfl), rfl⟩
      case rest =>
      obtain ⟨rfl, rfl⟩ := hcut
      go_upto_region 7 with fail
      obtain ⟨MK, hMK⟩ : ∃ MK : ByteArray, (if k = 0 then ⟨#[63]⟩ else ⟨#[38]⟩ : ByteArray) = MK := ⟨_, rfl⟩
      have hMl : MK.data.toList = [if k = 0 then 63 else 38] := by rw [← hMK]; split <;> rfl
      have hMs1 : MK.size = 1 := by rw [ba_size, hMl]; rfl
      obtain ⟨E1, hE1⟩ : ∃ E, btx (escP false n1) = E := ⟨_, rfl⟩
      obtain ⟨E2, hE2⟩ : ∃ E, btx (escP false n2) = E := ⟨_, rfl⟩
      have l1 : E1.size ≤ 60000 := by rw [← hE1, btx_size]; have := esc_len false n1; omega
      have l2 : E2.size ≤ 60000 := by rw [← hE2, btx_size]; have := esc_len false n2; omega
      have lT : T.size ≤ 5000000 := by
        rw [hTe.out, btx_size, List.length_append]
        have a1 := esc_len true rp
        have a2 := hpl.out k hk
        have a3 : k * 120002 ≤ 40 * 120002 := Nat.mul_le_mul_right _ (by omega)
        omega
      obtain ⟨S1, hS1⟩ : ∃ S, MK ++ E1 = S := ⟨_, rfl⟩
      obtain ⟨S2, hS2⟩ : ∃ S, S1 ++ ⟨#[61]⟩ = S := ⟨_, rfl⟩
      obtain ⟨S3, hS3⟩ : ∃ S, S2 ++ E2 = S := ⟨_, rfl⟩
      obtain ⟨S4, hS4⟩ : ∃ S, T ++ S3 = S := ⟨_, rfl⟩
      have m1 : S1.size ≤ 60001 := by rw [← hS1, app_size]; omega
      have m2 : S2.size ≤ 60002 := by rw [← hS2, app_size]; have : (⟨#[61]⟩ : ByteArray).size = 1 := rfl; omega
      have m3 : S3.size ≤ 120002 := by rw [← hS3, app_size]; omega
      have q1 : ∀ W, (Op.stringOp .add MK E1).run Tryz.prog W = .ok (.string S1) W := fun W => by rw [← hS1]; exact add_any _ _ (by omega) (by omega) W
      have q2 : ∀ W, (Op.stringOp .add S1 ⟨#[61]⟩).run Tryz.prog W = .ok (.string S2) W := fun W => by rw [← hS2]; exact add_any _ _ (by omega) (by decide) W
      have q3 : ∀ W, (Op.stringOp .add S2 E2).run Tryz.prog W = .ok (.string S3) W := fun W => by rw [← hS3]; exact add_any _ _ (by omega) (by omega) W
      have q4 : ∀ W, (Op.stringOp .add T S3).run Tryz.prog W = .ok (.string S4) W := fun W => by rw [← hS4]; exact add_any _ _ (by omega) (by omega) W
      have hS4e : Hid (S4 = btx (escP true rp ++ parsO true (q.take (k + 1)))) := by
        unfold Hid
        rw [ba_btx S4, ← hS4, app_list, hTe.out, btx_list, ← hS3, app_list, ← hS2, app_list, ← hS1, app_list, hMl, ← hE1, ← hE2, btx_list, btx_list, hps.out]
        congr 1
        simp
      have hen := Lib.hid (fun W (hW : wc.grownBy W none) => Lib.hid ((show Calls Tryz.prog 61 #[.string N, .string ⟨#[]⟩] W (fun e w' => e = .returned (.string E1) ∧ wc.grownBy w' none) from by
        have := esc_any false N W (by omega)
        rw [hNd, hE1] at this
        exact this.mono fun e w' h => ⟨h.1, gb_trans hW h.2⟩)))
      have hev := Lib.hid (fun W (hW : wc.grownBy W none) => Lib.hid ((show Calls Tryz.prog 61 #[.string V, .string ⟨#[]⟩] W (fun e w' => e = .returned (.string E2) ∧ wc.grownBy w' none) from by
        have := esc_any false V W (by omega)
        rw [hVd, hE2] at this
        exact this.mono fun e w' h => ⟨h.1, gb_trans hW h.2⟩)))
      have kS : ∀ W, wc.grownBy W none → W.cell? ⟨Z, 0, none⟩ = some (.string N) ∧ W.cell? ⟨Z, 1, none⟩ = some (.string V) := fun W hW => ⟨kN W hW, kV W hW⟩
      have kSh := Lib.hid kS
      clear kN kV hNd hVd hE1 hE2 hS1 hS2 hS3 hS4 l1 l2 lT m1 m2 m3 hMl hMs1 kS
      have gcc := gb_refl wc none
      by_cases hk0 : k = 0
      · subst hk0
        rw [if_pos rfl] at hMK
        subst hMK
        have hix := fun W => idx_mark (min 0 1) (by decide) (by decide) W
        simp only [show (min (0 : Int) 1 = 0) = True from by simp; rfl, if_true] at hix
        go_region_held3 (fun W' => W'.cell? ⟨Z, 0, none⟩ = some (.string N) ∧ W'.cell? ⟨Z, 1, none⟩ = some (.string V)) (exact kSh.out _ (by repeat (first | assumption | (with_reducible exact gb_refl _ _) | (with_reducible refine gb_drew ?_))))
          (first
            | (go_at_call 61; with_reducible refine ((hen.out _ (by repeat (first | assumption | (with_reducible exact gb_refl _ _) | (with_reducible refine gb_drew ?_)))).out).mono ?_; rintro e w5 ⟨rfl, g5⟩)
            | (go_at_call 61; with_reducible refine ((hev.out _ (by repeat (first | assumption | (with_reducible exact gb_refl _ _) | (with_reducible refine gb_drew ?_)))).out).mono ?_; rintro e w6 ⟨rfl, g6⟩))
        all_goals
          go_wp2_with fail
          go_roundg (q.length - (0 + 1))
        all_goals first
          | omega
          | exact ⟨0 + 1, hlt, rfl, by rw [hal.out, ← hFB.out, Bool.and_assoc], by first | rw [hq1.out] | go_num | rfl, ⟨S4, rfl, hS4e⟩, Lib.hid (gb_trans (gb_trans hg.out g2) (by assumption))⟩
      · rw [if_neg hk0] at hMK
        subst hMK
        have hmin : min (k : Int) 1 = 1 := by omega
        have hix := fun W => idx_mark 1 (by decide) (by decide) W
        rw [if_neg (by decide)] at hix
        go_region_held3 (fun W' => W'.cell? ⟨Z, 0, none⟩ = some (.string N) ∧ W'.cell? ⟨Z, 1, none⟩ = some (.string V)) (exact kSh.out _ (by repeat (first | assumption | (with_reducible exact gb_refl _ _) | (with_reducible refine gb_drew ?_))))
          (first
            | (go_at_call 61; with_reducible refine ((hen.out _ (by repeat (first | assumption | (with_reducible exact gb_refl _ _) | (with_reducible refine gb_drew ?_)))).out).mono ?_; rintro e w5 ⟨rfl, g5⟩)
            | (go_at_call 61; with_reducible refine ((hev.out _ (by repeat (first | assumption | (with_reducible exact gb_refl _ _) | (with_reducible refine gb_drew ?_)))).out).mono ?_; rintro e w6 ⟨rfl, g6⟩))
        all_goals
          go_wp2_with fail
          go_roundg (q.length - (k + 1))
        all_goals first
          | omega
          | exact ⟨k + 1, hlt, rfl, by rw [hal.out, ← hFB.out, Bool.and_assoc], by first | rw [hq1.out] | go_num | rfl, ⟨S4, rfl, hS4e⟩, Lib.hid (gb_trans (gb_trans hg.out g2) (by assumption))⟩
    · have hke : k = q.length := by omega
      subst hke
      rw [List.take_length] at hTe
      rw [List.take_length]
      obtain ⟨FQ, hFQ⟩ : ∃ B, (F1 && q.all parOK) = B := ⟨_, rfl⟩
      rw [hFQ]
      have hfq : (fine1 rm rp && q.all parOK) = FQ := by rw [hF1.out]; exact hFQ
      have hTe2 : T = btx (tgtO rp q) := hTe.out
      have hTd : T.data.toList = tgtO rp q := by rw [hTe2, btx_list]
      have hTs : T.size = (tgtO rp q).length := by rw [hTe2, btx_size]
      have hni : ¬ ((q.length : Int) < (q.length : Int)) := by omega
      have kz := kFh.out wr hg.out
      have z0 := kz.c0
      have z2 := kz.c2
      have z3 := kz.c3
      have z4 := kz.c4
      replace hgr := Lib.hid hgr
      clear hcl hA hpl kz hFQ hTe hTe2 hF1 hW1 hgw g3 hg kFh
      cases FQ with
      | false =>
        have hr := Lib.hid (may_fine ⟨rm, rp, q, body, cl1⟩ hfq)
        clear hfq
        go_wp2_with fail
        refine bodyPost_ret (v := .tuple #[.slice none 0 0, .int .i64 2]) (by simp [results, Tryz.results27, go_sem]) rfl ?_
        exact ⟨hgr.out, fun _ => by rw [hr.out], fun h => absurd (hr.out.symm.trans h) (by decide)⟩
      | true =>
        have hok := may_ok ⟨rm, rp, q, body, cl1⟩ hfq
        dsimp only at hok
        clear hfq
        have b1 : ¬ (262144 : Int) < (body.length : Int) := by omega
        by_cases h1 : 2048 < (tgtO rp q).length
        · have hr := Lib.hid (hok.trans (if_pos (.inl h1)))
          have i1 : (2048 : Int) < (T.size : Int) := by omega
          clear hok
          go_wp2_with fail
          refine bodyPost_ret (v := .tuple #[.slice none 0 0, .int .i64 3]) (by simp [results, Tryz.results27, go_sem]) rfl ?_
          exact ⟨hgr.out, fun _ => by rw [hr.out], fun h => absurd (hr.out.symm.trans h) (by decide)⟩
        · have i1 : ¬ (2048 : Int) < (T.size : Int) := by omega
          by_cases h2 : 32 < q.length
          · have hr := Lib.hid (hok.trans (if_pos (.inr (.inr h2))))
            have i2 : (32 : Int) < (q.length : Int) := by omega
            clear hok
            go_wp2_with fail
            refine bodyPost_ret (v := .tuple #[.slice none 0 0, .int .i64 3]) (by simp [results, Tryz.results27, go_sem]) rfl ?_
            exact ⟨hgr.out, fun _ => by rw [hr.out], fun h => absurd (hr.out.symm.trans h) (by decide)⟩
          · have hr := Lib.hid (hok.trans (if_neg (by omega)))
            have i2 : ¬ (32 : Int) < (q.length : Int) := by omega
            have z5 := s3
            have hMz : M.size ≤ 20000 := by omega
            have hTz : T.size ≤ 2048 := by omega
            clear hok h1 h2 hni
            obtain ⟨L1, hL1⟩ : ∃ S, M ++ ⟨#[32]⟩ = S := ⟨_, rfl⟩
            obtain ⟨L2, hL2⟩ : ∃ S, L1 ++ T = S := ⟨_, rfl⟩
            obtain ⟨L3, hL3⟩ : ∃ S, L2 ++ ⟨#[32]⟩ = S := ⟨_, rfl⟩
            obtain ⟨L4, hL4⟩ : ∃ S, L3 ++ ⟨#[72, 84, 84, 80, 47, 49, 46, 49]⟩ = S := ⟨_, rfl⟩
            obtain ⟨L5, hL5⟩ : ∃ S, L4 ++ ⟨#[13, 10]⟩ = S := ⟨_, rfl⟩
            have c1 : (⟨#[32]⟩ : ByteArray).size = 1 := rfl
            have c8 : (⟨#[72, 84, 84, 80, 47, 49, 46, 49]⟩ : ByteArray).size = 8 := rfl
            have c2 : (⟨#[13, 10]⟩ : ByteArray).size = 2 := rfl
            have n1 : L1.size ≤ 20001 := by rw [← hL1, app_size]; omega
            have n2 : L2.size ≤ 30000 := by rw [← hL2, app_size]; omega
            have n3 : L3.size ≤ 30001 := by rw [← hL3, app_size]; omega
            have n4 : L4.size ≤ 30009 := by rw [← hL4, app_size]; omega
            have n5 : L5.size ≤ 30011 := by rw [← hL5, app_size]; omega
            have q1 : ∀ W, (Op.stringOp .add M ⟨#[32]⟩).run Tryz.prog W = .ok (.string L1) W := fun W => by rw [← hL1]; exact add_any _ _ (by omega) (by decide) W
            have q2 : ∀ W, (Op.stringOp .add L1 T).run Tryz.prog W = .ok (.string L2) W := fun W => by rw [← hL2]; exact add_any _ _ (by omega) (by omega) W
            have q3 : ∀ W, (Op.stringOp .add L2 ⟨#[32]⟩).run Tryz.prog W = .ok (.string L3) W := fun W => by rw [← hL3]; exact add_any _ _ (by omega) (by decide) W
            have q4 : ∀ W, (Op.stringOp .add L3 ⟨#[72, 84, 84, 80, 47, 49, 46, 49]⟩).run Tryz.prog W = .ok (.string L4) W := fun W => by rw [← hL4]; exact add_any _ _ (by omega) (by decide) W
            have q5 : ∀ W, (Op.stringOp .add L4 ⟨#[13, 10]⟩).run Tryz.prog W = .ok (.string L5) W := fun W => by rw [← hL5]; exact add_any _ _ (by omega) (by decide) W
            have hL5d : Hid (L5.data.toList = rm ++ 32 :: (tgtO rp q ++ sSpVers)) := Lib.hid (by rw [← hL5, app_list, ← hL4, app_list, ← hL3, app_list, ← hL2, app_list, ← hL1, app_list, hMd, hTd]; simp [sSpVers, vers, crlf])
            replace n5 := Lib.hid n5
            clear hL1 hL2 hL3 hL4 hL5 n1 n2 n3 n4 c1 c8
            go_upto_region 14 with fail
            clear q1 q2 q3 q4 q5
            have hcv := fun W => Lib.run_convert_string_bytes (P := Tryz.prog) W 9 22 5
            have hTw := hT.grown hgr.out
            replace hTw := Lib.hid hTw
            have hbvh := Lib.hid hbv
            clear hbv hb2 hT z0 z2
            by_cases hbe : body = []
            · have hbl : body.length = 0 := by rw [hbe]; rfl
              cases cl1 with
              | true =>
                have j0 : ¬ (0 : Int) < (body.length : Int) := by omega
                have hbeh := Lib.hid hbe
                clear hbl hbe
                obtain ⟨L6, hL6⟩ : ∃ S : ByteArray, S = L5 := ⟨_, rfl⟩
                subst hL6
                have n6 := n5.out
                have hL6d := hL5d
                have hbX := Lib.hid (hbvh.out.kp hgr.out)
                have hgX := hgr
                obtain ⟨L7, hL7⟩ : ∃ S, L6 ++ ⟨#[67, 111, 110, 110, 101, 99, 116, 105, 111, 110, 58, 32, 99, 108, 111, 115, 101, 13, 10]⟩ = S := ⟨_, rfl⟩
                have n9 : L7.size ≤ 40000 := by rw [← hL7, app_size]; have : (⟨#[67, 111, 110, 110, 101, 99, 116, 105, 111, 110, 58, 32, 99, 108, 111, 115, 101, 13, 10]⟩ : ByteArray).size = 19 := rfl; omega
                have q4 : ∀ W, (Op.stringOp .add L6 ⟨#[67, 111, 110, 110, 101, 99, 116, 105, 111, 110, 58, 32, 99, 108, 111, 115, 101, 13, 10]⟩).run Tryz.prog W = .ok (.string L7) W := fun W => by rw [← hL7]; exact add_any _ _ (by omega) (by decide) W
                have hL7d := Lib.hid (show L7.data.toList = L6.data.toList ++ sClose from by rw [← hL7, app_list]; rfl)
                clear hL7
                obtain ⟨L8, hL8⟩ : ∃ S, L7 ++ ⟨#[13, 10]⟩ = S := ⟨_, rfl⟩
                have n10 : L8.size ≤ 40002 := by rw [← hL8, app_size]; omega
                have q5 : ∀ W, (Op.stringOp .add L7 ⟨#[13, 10]⟩).run Tryz.prog W = .ok (.string L8) W := fun W => by rw [← hL8]; exact add_any _ _ (by omega) (by decide) W
                have hL8d := Lib.hid (show L8.data.toList = L7.data.toList ++ crlf from by rw [← hL8, app_list]; rfl)
                replace n10 := Lib.hid n10
                have hcv8 := fun W => hcv W L8 Tryz.underlying9 Tryz.underlying22 Tryz.underlying5
                clear hL8 n6 n9 hcv
                have hfd : Hid (L8.data.toList ++ body = sendP ⟨rm, rp, q, body, true⟩) := Lib.hid (by rw [hL8d.out, hL7d.out, hL6d.out]; unfold sendP; dsimp only; rw [if_pos hbeh.out]; simp [sClose, crlf])
                have z4b := cell_grown z4 (gb_of_below (Lib.bytesWorld_below _ 5 L8)) (by simp)
                go_wp2_with (first
                  | (at_builtin; refine wpList_append_conv rfl _ _ rfl rfl rfl rfl hbX.out (by have := n10.out; omega) ?_; intro A9 c9 w10 hbs9 g10; replace hbs9 := Lib.hid hbs9; replace g10 := Lib.hid g10))
                refine bodyPost_ret (v := .tuple #[.slice A9 (L8.data.toList ++ body).length c9, .int .i64 0]) (by simp [results, Tryz.results27, go_sem]) rfl ?_
                refine ⟨gb_trans hgX.out g10.out, fun h => absurd hr.out h, fun _ => ⟨_, rfl, ?_⟩⟩
                rw [← hfd.out]
                exact hbs9.out.mono (fun k _ h => Nat.le_trans hgX.out.size h)
              | false =>
                have j0 : ¬ (0 : Int) < (body.length : Int) := by omega
                have hbeh := Lib.hid hbe
                clear hbl hbe
                obtain ⟨L6, hL6⟩ : ∃ S : ByteArray, S = L5 := ⟨_, rfl⟩
                subst hL6
                have n6 := n5.out
                have hL6d := hL5d
                have hbX := Lib.hid (hbvh.out.kp hgr.out)
                have hgX := hgr
                obtain ⟨L7, hL7⟩ : ∃ S : ByteArray, S = L6 := ⟨_, rfl⟩
                subst hL7
                have n9 : L7.size ≤ 40000 := by omega
                obtain ⟨L8, hL8⟩ : ∃ S, L7 ++ ⟨#[13, 10]⟩ = S := ⟨_, rfl⟩
                have n10 : L8.size ≤ 40002 := by rw [← hL8, app_size]; omega
                have q5 : ∀ W, (Op.stringOp .add L7 ⟨#[13, 10]⟩).run Tryz.prog W = .ok (.string L8) W := fun W => by rw [← hL8]; exact add_any _ _ (by omega) (by decide) W
                have hL8d := Lib.hid (show L8.data.toList = L7.data.toList ++ crlf from by rw [← hL8, app_list]; rfl)
                replace n10 := Lib.hid n10
                have hcv8 := fun W => hcv W L8 Tryz.underlying9 Tryz.underlying22 Tryz.underlying5
                clear hL8 n6 n9 hcv
                have hfd : Hid (L8.data.toList ++ body = sendP ⟨rm, rp, q, body, false⟩) := Lib.hid (by rw [hL8d.out, hL6d.out]; unfold sendP; dsimp only; rw [if_pos hbeh.out]; simp [crlf])
                have z4b := cell_grown z4 (gb_of_below (Lib.bytesWorld_below _ 5 L8)) (by simp)
                go_wp2_with (first
                  | (at_builtin; refine wpList_append_conv rfl _ _ rfl rfl rfl rfl hbX.out (by have := n10.out; omega) ?_; intro A9 c9 w10 hbs9 g10; replace hbs9 := Lib.hid hbs9; replace g10 := Lib.hid g10))
                refine bodyPost_ret (v := .tuple #[.slice A9 (L8.data.toList ++ body).length c9, .int .i64 0]) (by simp [results, Tryz.results27, go_sem]) rfl ?_
                refine ⟨gb_trans hgX.out g10.out, fun h => absurd hr.out h, fun _ => ⟨_, rfl, ?_⟩⟩
                rw [← hfd.out]
                exact hbs9.out.mono (fun k _ h => Nat.le_trans hgX.out.size h)
            · cases cl1 with
              | true =>
                have j0 : (0 : Int) < (body.length : Int) := by have := List.length_pos_iff.mpr hbe; omega
                have hit := Lib.hid (itoa_w (body.length : Nat) (by omega) (by omega) wr hTw.out)
                have hil := itoa_len (body.length : Nat) (by omega) (by omega)
                obtain ⟨J, hJ⟩ : ∃ J, btx (Lib.itoa (body.length : Nat)) = J := ⟨_, rfl⟩
                have hJs : J.size ≤ 10 := by rw [← hJ, btx_size]; exact hil
                have hJd : J.data.toList = Lib.itoa (body.length : Nat) := by rw [← hJ, btx_list]
                rw [hJ] at hit
                obtain ⟨K1, hK1⟩ : ∃ S, (⟨#[67, 111, 110, 116, 101, 110, 116, 45, 76, 101, 110, 103, 116, 104, 58, 32]⟩ : ByteArray) ++ J = S := ⟨_, rfl⟩
                obtain ⟨K2, hK2⟩ : ∃ S, K1 ++ ⟨#[13, 10]⟩ = S := ⟨_, rfl⟩
                obtain ⟨L6, hL6⟩ : ∃ S, L5 ++ K2 = S := ⟨_, rfl⟩
                have c16 : (⟨#[67, 111, 110, 116, 101, 110, 116, 45, 76, 101, 110, 103, 116, 104, 58, 32]⟩ : ByteArray).size = 16 := rfl
                have n7 : K1.size ≤ 26 := by rw [← hK1, app_size]; omega
                have n8 : K2.size ≤ 28 := by rw [← hK2, app_size]; omega
                have n6 : L6.size ≤ 30039 := by rw [← hL6, app_size]; have := n5.out; omega
                have q1 : ∀ W, (Op.stringOp .add ⟨#[67, 111, 110, 116, 101, 110, 116, 45, 76, 101, 110, 103, 116, 104, 58, 32]⟩ J).run Tryz.prog W = .ok (.string K1) W := fun W => by rw [← hK1]; exact add_any _ _ (by decide) (by omega) W
                have q2 : ∀ W, (Op.stringOp .add K1 ⟨#[13, 10]⟩).run Tryz.prog W = .ok (.string K2) W := fun W => by rw [← hK2]; exact add_any _ _ (by omega) (by decide) W
                have q3 : ∀ W, (Op.stringOp .add L5 K2).run Tryz.prog W = .ok (.string L6) W := fun W => by rw [← hL6]; exact add_any _ _ (by have := n5.out; omega) (by omega) W
                have hL6d : Hid (L6.data.toList = rm ++ 32 :: (tgtO rp q ++ (sSpVers ++ (sLen ++ Lib.itoa (body.length : Nat) ++ crlf)))) := Lib.hid (by rw [← hL6, app_list, hL5d.out, ← hK2, app_list, ← hK1, app_list, hJd]; simp [sLen, crlf])
                clear hJ hK1 hK2 hL6 hil hJs hJd c16 n7 n8
                obtain ⟨L7, hL7⟩ : ∃ S, L6 ++ ⟨#[67, 111, 110, 110, 101, 99, 116, 105, 111, 110, 58, 32, 99, 108, 111, 115, 101, 13, 10]⟩ = S := ⟨_, rfl⟩
                have n9 : L7.size ≤ 40000 := by rw [← hL7, app_size]; have : (⟨#[67, 111, 110, 110, 101, 99, 116, 105, 111, 110, 58, 32, 99, 108, 111, 115, 101, 13, 10]⟩ : ByteArray).size = 19 := rfl; omega
                have q4 : ∀ W, (Op.stringOp .add L6 ⟨#[67, 111, 110, 110, 101, 99, 116, 105, 111, 110, 58, 32, 99, 108, 111, 115, 101, 13, 10]⟩).run Tryz.prog W = .ok (.string L7) W := fun W => by rw [← hL7]; exact add_any _ _ (by omega) (by decide) W
                have hL7d := Lib.hid (show L7.data.toList = L6.data.toList ++ sClose from by rw [← hL7, app_list]; rfl)
                clear hL7
                obtain ⟨L8, hL8⟩ : ∃ S, L7 ++ ⟨#[13, 10]⟩ = S := ⟨_, rfl⟩
                have n10 : L8.size ≤ 40002 := by rw [← hL8, app_size]; omega
                have q5 : ∀ W, (Op.stringOp .add L7 ⟨#[13, 10]⟩).run Tryz.prog W = .ok (.string L8) W := fun W => by rw [← hL8]; exact add_any _ _ (by omega) (by decide) W
                have hL8d := Lib.hid (show L8.data.toList = L7.data.toList ++ crlf from by rw [← hL8, app_list]; rfl)
                replace n10 := Lib.hid n10
                have hcv8 := fun W => hcv W L8 Tryz.underlying9 Tryz.underlying22 Tryz.underlying5
                clear hL8 n6 n9 hcv
                have hfd : Hid (L8.data.toList ++ body = sendP ⟨rm, rp, q, body, true⟩) := Lib.hid (by rw [hL8d.out, hL7d.out, hL6d.out]; unfold sendP; dsimp only; rw [if_neg hbe]; simp [sClose, crlf])
                go_wp2_with (first
                  | (go_at_call 48; refine (hit.out).mono ?_; rintro e w9 ⟨rfl, g9⟩; have hgX := Lib.hid (gb_trans hgr.out g9); have hbX := Lib.hid (hbvh.out.kp hgX.out); have z3 := cell_grown z3 g9 (by simp); have z4 := cell_grown z4 g9 (by simp); have z4b := cell_grown z4 (gb_of_below (Lib.bytesWorld_below _ 5 L8)) (by simp); clear g9)
                  | (at_builtin; refine wpList_append_conv rfl _ _ rfl rfl rfl rfl hbX.out (by have := n10.out; omega) ?_; intro A9 c9 w10 hbs9 g10; replace hbs9 := Lib.hid hbs9; replace g10 := Lib.hid g10))
                refine bodyPost_ret (v := .tuple #[.slice A9 (L8.data.toList ++ body).length c9, .int .i64 0]) (by simp [results, Tryz.results27, go_sem]) rfl ?_
                refine ⟨gb_trans hgX.out g10.out, fun h => absurd hr.out h, fun _ => ⟨_, rfl, ?_⟩⟩
                rw [← hfd.out]
                exact hbs9.out.mono (fun k _ h => Nat.le_trans hgX.out.size h)
              | false =>
                have j0 : (0 : Int) < (body.length : Int) := by have := List.length_pos_iff.mpr hbe; omega
                have hit := Lib.hid (itoa_w (body.length : Nat) (by omega) (by omega) wr hTw.out)
                have hil := itoa_len (body.length : Nat) (by omega) (by omega)
                obtain ⟨J, hJ⟩ : ∃ J, btx (Lib.itoa (body.length : Nat)) = J := ⟨_, rfl⟩
                have hJs : J.size ≤ 10 := by rw [← hJ, btx_size]; exact hil
                have hJd : J.data.toList = Lib.itoa (body.length : Nat) := by rw [← hJ, btx_list]
                rw [hJ] at hit
                obtain ⟨K1, hK1⟩ : ∃ S, (⟨#[67, 111, 110, 116, 101, 110, 116, 45, 76, 101, 110, 103, 116, 104, 58, 32]⟩ : ByteArray) ++ J = S := ⟨_, rfl⟩
                obtain ⟨K2, hK2⟩ : ∃ S, K1 ++ ⟨#[13, 10]⟩ = S := ⟨_, rfl⟩
                obtain ⟨L6, hL6⟩ : ∃ S, L5 ++ K2 = S := ⟨_, rfl⟩
                have c16 : (⟨#[67, 111, 110, 116, 101, 110, 116, 45, 76, 101, 110, 103, 116, 104, 58, 32]⟩ : ByteArray).size = 16 := rfl
                have n7 : K1.size ≤ 26 := by rw [← hK1, app_size]; omega
                have n8 : K2.size ≤ 28 := by rw [← hK2, app_size]; omega
                have n6 : L6.size ≤ 30039 := by rw [← hL6, app_size]; have := n5.out; omega
                have q1 : ∀ W, (Op.stringOp .add ⟨#[67, 111, 110, 116, 101, 110, 116, 45, 76, 101, 110, 103, 116, 104, 58, 32]⟩ J).run Tryz.prog W = .ok (.string K1) W := fun W => by rw [← hK1]; exact add_any _ _ (by decide) (by omega) W
                have q2 : ∀ W, (Op.stringOp .add K1 ⟨#[13, 10]⟩).run Tryz.prog W = .ok (.string K2) W := fun W => by rw [← hK2]; exact add_any _ _ (by omega) (by decide) W
                have q3 : ∀ W, (Op.stringOp .add L5 K2).run Tryz.prog W = .ok (.string L6) W := fun W => by rw [← hL6]; exact add_any _ _ (by have := n5.out; omega) (by omega) W
                have hL6d : Hid (L6.data.toList = rm ++ 32 :: (tgtO rp q ++ (sSpVers ++ (sLen ++ Lib.itoa (body.length : Nat) ++ crlf)))) := Lib.hid (by rw [← hL6, app_list, hL5d.out, ← hK2, app_list, ← hK1, app_list, hJd]; simp [sLen, crlf])
                clear hJ hK1 hK2 hL6 hil hJs hJd c16 n7 n8
                obtain ⟨L7, hL7⟩ : ∃ S : ByteArray, S = L6 := ⟨_, rfl⟩
                subst hL7
                have n9 : L7.size ≤ 40000 := by omega
                obtain ⟨L8, hL8⟩ : ∃ S, L7 ++ ⟨#[13, 10]⟩ = S := ⟨_, rfl⟩
                have n10 : L8.size ≤ 40002 := by rw [← hL8, app_size]; omega
                have q5 : ∀ W, (Op.stringOp .add L7 ⟨#[13, 10]⟩).run Tryz.prog W = .ok (.string L8) W := fun W => by rw [← hL8]; exact add_any _ _ (by omega) (by decide) W
                have hL8d := Lib.hid (show L8.data.toList = L7.data.toList ++ crlf from by rw [← hL8, app_list]; rfl)
                replace n10 := Lib.hid n10
                have hcv8 := fun W => hcv W L8 Tryz.underlying9 Tryz.underlying22 Tryz.underlying5
                clear hL8 n6 n9 hcv
                have hfd : Hid (L8.data.toList ++ body = sendP ⟨rm, rp, q, body, false⟩) := Lib.hid (by rw [hL8d.out, hL6d.out]; unfold sendP; dsimp only; rw [if_neg hbe]; simp [crlf])
                go_wp2_with (first
                  | (go_at_call 48; refine (hit.out).mono ?_; rintro e w9 ⟨rfl, g9⟩; have hgX := Lib.hid (gb_trans hgr.out g9); have hbX := Lib.hid (hbvh.out.kp hgX.out); have z3 := cell_grown z3 g9 (by simp); have z4 := cell_grown z4 g9 (by simp); have z4b := cell_grown z4 (gb_of_below (Lib.bytesWorld_below _ 5 L8)) (by simp); clear g9)
                  | (at_builtin; refine wpList_append_conv rfl _ _ rfl rfl rfl rfl hbX.out (by have := n10.out; omega) ?_; intro A9 c9 w10 hbs9 g10; replace hbs9 := Lib.hid hbs9; replace g10 := Lib.hid g10))
                refine bodyPost_ret (v := .tuple #[.slice A9 (L8.data.toList ++ body).length c9, .int .i64 0]) (by simp [results, Tryz.results27, go_sem]) rfl ?_
                refine ⟨gb_trans hgX.out g10.out, fun h => absurd hr.out h, fun _ => ⟨_, rfl, ?_⟩⟩
                rw [← hfd.out]
                exact hbs9.out.mono (fun k _ h => Nat.le_trans hgX.out.size h)
end Go.Proofs.YtdfgnoflohfnmaaGreatDoor.Hx
/-! HTTP: is a request not large: the law's smallRequest. -/
namespace Go.Proofs.YtdfgnoflohfnmaaGreatDoor.Hx
open Go.RowKit Go.Maps

/-- what smallRequest leaves -/
def SmK (r : Rq) (w : World) (e : Ending) (w' : World) : Prop := ∃ B : Bool, e = .returned (.bool B) ∧ (B = true → SmR r) ∧ w.grownBy w' none
set_option maxRecDepth 100000 in
set_option maxHeartbeats 800000 in
theorem small_any (r : Rq) (x : R5) (w : World) (hx : RA w (fun _ => True) r x) (b1 : r.m.length ≤ 1000000000000000) (b2 : r.p.length ≤ 1000000000000000) (b3 : r.body.length ≤ 1000000000000000) :
    Calls Tryz.prog 20 #[x.val] w (SmK r w) := by
  obtain ⟨rm, rp, q, body, cl⟩ := r
  obtain ⟨M, P, qv, cl1, bv⟩ := x
  have hm1 := hx.m
  have hp1 := hx.p
  dsimp only at hm1 hp1 b1 b2 b3
  obtain ⟨A, c, b, o, hA0, hl, hA, hcl⟩ := hx.q
  unfold maxLen at hl
  dsimp only at hA0 hA hcl hl
  subst hA0
  obtain ⟨A2, c2, hb0, _, _⟩ := hx.b.bv
  dsimp only at hb0
  subst hb0
  have hMs : M.size = rm.length := by rw [hm1]; show rm.toArray.size = _; simp
  have hPs : P.size = rp.length := by rw [hp1]; show rp.toArray.size = _; simp
  clear hm1 hp1 hx
  obtain ⟨W1, hW1⟩ : ∃ W1, w.alloc (.cells #[.string M, .string P, .slice A q.length c, .bool cl1, .slice A2 body.length c2] 32) = W1 := ⟨_, rfl⟩
  have hgw : w.grownBy W1 none := hW1 ▸ gb_alloc (gb_refl w none) _
  have e0 : W1.heap[w.heap.size]? = some (.cells #[.string M, .string P, .slice A q.length c, .bool cl1, .slice A2 body.length c2] 32 (0, 0)) := hW1 ▸ heap_alloc_new w _
  have kF : ∀ W, W1.grownBy W none → ZF W w.heap.size (.string M) (.string P) (.slice A q.length c) (.bool cl1) (.slice A2 body.length c2) := fun W hW => (hW.block _ (Array.getElem?_eq_some_iff.1 e0).1 (by simp)).trans e0
  have z1 := kF W1 (gb_refl _ _)
  have z0 := z1.c0
  have zp := z1.c1
  have zb := z1.c4
  clear e0 z1
  have kFh := Lib.hid kF
  clear kF
  have wA : IntKind.i64.wrap ((M.size : Int) + (P.size : Int)) = (M.size : Int) + (P.size : Int) := wrap_id (by omega) (by omega)
  have wA' : wrap64 ((M.size : Int) + (P.size : Int)) = (M.size : Int) + (P.size : Int) := wrap64_id (by omega) (by omega)
  have wB' : wrap64 ((M.size : Int) + (P.size : Int) + (body.length : Int)) = (M.size : Int) + (P.size : Int) + (body.length : Int) := wrap64_id (by omega) (by omega)
  show Calls Tryz.prog 20 #[.agg #[.string M, .string P, .slice A q.length c, .bool cl1, .slice A2 body.length c2]] w _
  go_enter Tryz.func20, Tryz.ntmps20
  go_upto_region 1 with fail
  try rw [hW1]
  replace hW1 := Lib.hid hW1
  replace hgw := Lib.hid hgw
  replace hcl := Lib.hid hcl
  replace hA := Lib.hid hA
  replace hMs := Lib.hid hMs
  replace hPs := Lib.hid hPs
  go_upto_region 2 with fail
  rw [wB']
  clear wA wA' wB' z0 zp zb
  go_wp2_with fail
  go_loopg [3, 4] q.length (fun z u3 u4 wr => ∃ (k : Nat) (n : Int), k ≤ q.length ∧ k ≤ 41 ∧ z = q.length - k ∧ u4 = .int .i64 k ∧ u3 = .int .i64 n ∧ (M.size : Int) + (P.size : Int) + (body.length : Int) ≤ n ∧ n ≤ 3000000000000000 + k * 40002 ∧ Hid (n ≤ 20000 → ∀ i (h : i < q.length), i < k → q[i].1.length ≤ 20000 ∧ q[i].2.length ≤ 20000) ∧ Hid (W1.grownBy wr none))
  case atStart => exact ⟨0, _, Nat.zero_le _, by omega, rfl, rfl, rfl, by omega, by have := hMs.out; have := hPs.out; omega, fun _ i _ h => by omega, gb_refl _ _⟩
  case round =>
    obtain ⟨k, n, hk, hk2, rfl, rfl, rfl, hn1, hn2, hsm, hg⟩ := hrel
    have zq := (kFh.out wr hg.out).c2
    have hgr := gb_trans hgw.out hg.out
    by_cases hlt : k < q.length
    · have hki : (k : Int) < (q.length : Int) := by omega
      by_cases h40 : k ≤ 40
      · have hki2 : (k : Int) ≤ 40 := by omega
        obtain ⟨rfl, _⟩ := hA.out (by omega)
        have k0 := cell_grown (hcl.out k hlt).1 hgr (by simp)
        have k1 := cell_grown (hcl.out k hlt).2 hgr (by simp)
        obtain ⟨N, hN⟩ : ∃ N : ByteArray, (⟨q[k].1.toArray⟩ : ByteArray) = N := ⟨_, rfl⟩
        obtain ⟨V, hV⟩ : ∃ N : ByteArray, (⟨q[k].2.toArray⟩ : ByteArray) = N := ⟨_, rfl⟩
        rw [hN] at k0
        rw [hV] at k1
        have hNs : N.size = q[k].1.length := by rw [← hN]; show q[k].1.toArray.size = _; simp
        have hVs : V.size = q[k].2.length := by rw [← hV]; show q[k].2.toArray.size = _; simp
        obtain ⟨x1, hx1⟩ : ∃ x : Int, min (20001 : Int) (N.size : Int) = x := ⟨_, rfl⟩
        obtain ⟨x2, hx2⟩ : ∃ x : Int, min (20001 : Int) (V.size : Int) = x := ⟨_, rfl⟩
        have w1 : wrap64 (n + x1) = n + x1 := wrap64_id (by omega) (by omega)
        have w2 : wrap64 (n + x1 + x2) = n + x1 + x2 := wrap64_id (by omega) (by omega)
        have w1' : IntKind.i64.wrap (n + x1) = n + x1 := wrap_id (by omega) (by omega)
        have w2' : IntKind.i64.wrap (n + x1 + x2) = n + x1 + x2 := wrap_id (by omega) (by omega)
        have hq1 := Lib.hid (show wrap64 ((k : Int) + 1) = ((k + 1 : Nat) : Int) from (wrap64_id (by omega) (by omega)).trans (by omega))
        have hs2 : Hid (n + x1 + x2 ≤ 20000 → ∀ i (h : i < q.length), i < k + 1 → q[i].1.length ≤ 20000 ∧ q[i].2.length ≤ 20000) := by
          intro h i hi hik
          by_cases he : i = k
          · subst he; exact ⟨by omega, by omega⟩
          · exact hsm.out (by omega) i hi (by omega)
        have hb1 : (M.size : Int) + (P.size : Int) + (body.length : Int) ≤ n + x1 + x2 := by omega
        have hb2 : n + x1 + x2 ≤ 3000000000000000 + ((k + 1 : Nat) : Int) * 40002 := by omega
        replace hb1 := Lib.hid hb1
        replace hb2 := Lib.hid hb2
        clear hcl hA hN hV hNs hVs hsm hn1 hn2
        go_upto_region 5 with fail
        go_region
        all_goals
          go_wp2_with fail
          go_roundg (q.length - (k + 1))
        all_goals first
          | omega
          | exact ⟨k + 1, n + x1 + x2, hlt, by omega, rfl, by first | rw [hq1.out] | go_num, by first | rfl | go_num, hb1.out, hb2.out, hs2, Lib.hid (gb_drew hg.out)⟩
      · have hki2 : ¬ (k : Int) ≤ 40 := by omega
        have hl4 : ¬ (q.length : Int) ≤ 40 := by omega
        clear hcl hA
        go_wp2_with fail
        go_ret
        exact ⟨false, rfl, (fun h => Bool.noConfusion h), hgr⟩
    · have hki : ¬ (k : Int) < (q.length : Int) := by omega
      have hke : k = q.length := by omega
      clear hcl hA
      by_cases hl4 : (q.length : Int) ≤ 40
      · by_cases hn : n ≤ 20000
        · have hS : SmR ⟨rm, rp, q, body, cl⟩ := ⟨by show rm.length ≤ _; have := hMs.out; omega, by show rp.length ≤ _; have := hPs.out; omega, by show body.length ≤ _; omega, by show q.length ≤ _; omega, fun i h => hsm.out hn i h (by rw [hke]; exact h)⟩
          replace hS := Lib.hid hS
          clear hke
          go_wp2_with fail
          go_ret
          exact ⟨true, rfl, fun _ => hS.out, hgr⟩
        · clear hke
          go_wp2_with fail
          go_ret
          exact ⟨false, rfl, (fun h => Bool.noConfusion h), hgr⟩
      · clear hke
        go_wp2_with fail
        go_ret
        exact ⟨false, rfl, (fun h => Bool.noConfusion h), hgr⟩
end Go.Proofs.YtdfgnoflohfnmaaGreatDoor.Hx
