/- Regions that draw their order: the executor's own run, as a row of events. -/
import Derived.Test.YtnnhkajjifmlfaaDoorX24
namespace Go.Proofs.YtnnhkajjifmlfaaDoor
namespace Ax
/-- pending blocks as a heap -/
noncomputable def PH : Pend → Hp
  | [] => fun _ => .x
  | e :: r => ovl (PH r) (upd (fun _ => .x) e.2.1 e.2.2)
theorem ovl_assoc (X Y H : Hp) : ovl (ovl X Y) H = ovl X (ovl Y H) := by
  funext b
  by_cases hX : X b = .x
  · by_cases hY : Y b = .x
    · rw [ovl_none (by rw [ovl_none hX]; exact hY), ovl_none hX, ovl_none hY]
    · rw [ovl_some (by rw [ovl_none hX]; exact hY), ovl_none hX, ovl_none hX, ovl_some hY]
  · rw [ovl_some (by rw [ovl_some hX]; exact hX), ovl_some hX, ovl_some hX]
theorem ovl_one {H : Hp} {n : Pn} {o : AO} (ho : o ≠ .x) : ovl (upd (fun _ => .x) n o) H = upd H n o := by
  funext b
  by_cases hb : b = n
  · subst hb; rw [ovl_some (by rw [upd_same]; exact ho), upd_same, upd_same]
  · rw [ovl_none (by rw [upd_other _ _ hb]), upd_other _ _ hb]
theorem ovl_empty (H : Hp) : ovl (fun _ => .x) H = H := by funext b; exact ovl_none rfl
theorem layP_eq (i : Nat) : ∀ (l : Pend) (h : Tr AO), (∀ e ∈ l, e.2.2 ≠ .x) → ∃ h', (∀ k : Pend → Tr AO → R, layP i l h k = k (l.filter fun e => !(Nat.ble e.1 i)) h') ∧ hv h' = ovl (PH (l.filter fun e => Nat.ble e.1 i)) (hv h)
  | [], h, _ => ⟨h, fun k => rfl, (ovl_empty _).symm⟩
  | e :: l, h, hx => by
    have e0 : ∀ k : Pend → Tr AO → R, layP i (e :: l) h k = Bool.rec (layP i l h fun l h => k (e :: l) h) (h.setK .x e.2.2 e.2.1 fun h => layP i l h k) (Nat.ble e.1 i) := fun k => rfl
    cases hb : Nat.ble e.1 i with
    | false =>
      obtain ⟨h', h1, h2⟩ := layP_eq i l h (fun e he => hx e (by simp [he]))
      refine ⟨h', fun k => ?_, ?_⟩
      · rw [e0, hb, List.filter_cons, hb]; exact h1 fun l h => k (e :: l) h
      · rw [List.filter_cons, hb]; exact h2
    | true =>
      obtain ⟨h', h1, h2⟩ := layP_eq i l (h.put .x e.2.2 e.2.1) (fun e he => hx e (by simp [he]))
      refine ⟨h', fun k => ?_, ?_⟩
      · rw [e0, hb, List.filter_cons, hb]
        show (h.setK .x e.2.2 e.2.1 fun h => layP i l h k) = _
        rw [setK_eq]; exact h1 k
      · rw [List.filter_cons, hb, h2, hv_put]
        show ovl _ (upd (hv h) e.2.1 e.2.2) = ovl (ovl _ _) _
        rw [ovl_assoc, ovl_one (hx e (by simp))]
/-- the executor's state between two operations -/
structure St where
  tm : Tr AV
  df : List AD
  h : Tr AO
  n : Pn
  k : Nat
  pd : Pend
/-- an operation, as the executor met it -/
structure Ev where
  o : Oper
  lo : Nat
  hi : Nat
  b : Bool
  v : AV
  d : Option Pn
  al : Option AO
  eff : Bool
  s : St
  s' : St
  hl : Tr AO
section
variable {E : Env}
/-- what a value read in a heap is -/
def RSem (E : Env) (o : Oper) (tm : Tr AV) (h : Tr AO) (v : AV) : Prop := ∀ (ρ : Ren) (a : Act) (w : World), VRo ρ tm a o → Rel ρ (hv h) w → ∃ v', VR ρ v v' ∧ (execOp a.eval o).run E.P w = .ok (.value v') w
/-- a wanted operation that lays nothing: what is known of it -/
def PuEv (E : Env) (ck : List Ck) (e : Ev) : Prop :=
  (∀ c, e.o.op ≠ .defer c) ∧ ((∀ h, RSem E e.o e.s.tm h e.v) ∨ (RSem E e.o e.s.tm e.s.h e.v ∧ (e.lo = e.hi ∨ ∃ c ∈ ck, c.lo = e.lo ∧ c.hi = e.hi ∧ c.v = e.v ∧ ∀ h (k : AV → R), Ok (c.f h k) → ∃ v, c.f h k = k v ∧ RSem E e.o e.s.tm h v)))
/-- one that lays a block -/
def AlEv (E : Env) (e : Ev) (ob : AO) : Prop :=
  (∀ c, e.o.op ≠ .defer c) ∧ own ob ∧ ∀ (ρ : Ren) (a : Act) (w : World), VRo ρ e.s.tm a e.o → ρ e.s.n = none → ∃ v' w' ob' t, (execOp a.eval e.o).run E.P w = .ok (.value v') w' ∧ Newer w w' ob' ∧ t.c = w.heap.size ∧ VR (updR ρ e.s.n t) e.v v' ∧ OR (updR ρ e.s.n t) (some ob') t ob
/-- an effect -/
def EfEv (E : Env) (l : Option Nat) (e : Ev) : Prop :=
  ∀ (ρ : Ren) (a : Act) (w : World), GL E ρ → VRo ρ e.s.tm a e.o → DR E ρ e.s.df a.defers → Rel ρ (hv e.hl) w → Fresh ρ (hv e.hl) e.s.n e.s'.n →
    ∀ (next : Act → World → Prop) (Q : Exit → Act → World → Prop), (∀ ρ' v' w' ds', Step ρ (hv e.hl) w e.s.n ρ' (hv e.s'.h) w' e.s'.n → VR ρ' e.v v' → DR E ρ' e.s'.df ds' → next (({ a with defers := ds' } : Act).put e.o.dst v') w') → e.o.wpIn (FW l) 0 E.P a w next Q
/-- what is known of an event -/
structure EvOK (E : Env) (l : Option Nat) (ops : Array Oper) (nt : Nat) (ck : List Ck) (e : Ev) : Prop where
  gd : ∀ (ρ : Ren) (tmps : Array Value), (∀ t, GdT ops e.o t → VR ρ (e.s.tm.get (.tu []) (pth t)) (tmps.getD t undef)) → Region.wanted e.o (yielded ops tmps) = e.b
  dst : dstOf nt e.o = some e.d
  gok : gOk E e.o = true
  tm : e.s'.tm = putD e.d e.v e.s.tm
  le : e.s.n.nat ≤ e.s'.n.nat
  nb : e.b = false → e.v = .tu [] ∧ e.al = none ∧ e.s'.n = e.s.n ∧ e.s'.df = e.s.df
  ne : e.eff = false → e.s'.k = e.s.k ∧ e.s'.h = e.s.h ∧ e.s'.df = e.s.df
  na : e.eff = false → e.al = none → e.s'.n = e.s.n ∧ e.s'.pd = e.s.pd
  ef : e.eff = true → e.al = none ∧ e.s'.k = e.s.k + 1 ∧ e.s'.pd = (e.s.pd.filter fun p => !(Nat.ble p.1 e.s.k)) ∧ hv e.hl = ovl (PH (e.s.pd.filter fun p => Nat.ble p.1 e.s.k)) (hv e.s.h)
  efb : e.eff = true → e.b = false → e.s'.h = e.hl
  pu : e.b = true → e.eff = false → e.al = none → PuEv E ck e
  al : ∀ ob, e.al = some ob → e.b = true ∧ e.eff = false ∧ e.s'.n = e.s.n.succ ∧ e.s'.pd = (e.hi, e.s.n, ob) :: e.s.pd ∧ AlEv E e ob
  efs : e.b = true → e.eff = true → EfEv E l e
/-- a row of events -/
def Links : List Ev → St → St → Prop
  | [], s, s' => s = s'
  | e :: r, s, s' => e.s = s ∧ Links r e.s' s'
def stOf (tm : Tr AV) (df : List AD) (h : Tr AO) (n : Pn) (s : Dr) : St := { tm, df, h, n, k := s.kc, pd := s.pd }
theorem PuEv.mono {ck ck' : List Ck} (h : ∀ c ∈ ck, c ∈ ck') {e : Ev} (k : PuEv E ck e) : PuEv E ck' e := by
  refine ⟨k.1, ?_⟩
  rcases k.2 with k | ⟨h1, h3⟩
  · exact .inl k
  · refine .inr ⟨h1, ?_⟩
    rcases h3 with h3 | ⟨c, g1, g2⟩
    · exact .inl h3
    · exact .inr ⟨c, h c g1, g2⟩
theorem EvOK.mono {l : Option Nat} {ops : Array Oper} {nt : Nat} {ck ck' : List Ck} (h : ∀ c ∈ ck, c ∈ ck') {e : Ev} (k : EvOK E l ops nt ck e) : EvOK E l ops nt ck' e :=
  { k with pu := fun h1 h2 h3 => (k.pu h1 h2 h3).mono h }
/-- a check goes on with a value -/
def WfC (c : Ck) : Prop := ∀ h (k : AV → R), Ok (c.f h k) → ∃ v, c.f h k = k v
/-- what an operation does to the bookkeeping -/
structure Bk2 (s s1 : Dr) (h : Tr AO) (eff : Bool) : Prop where
  ck : ∀ c ∈ s.ck, c ∈ s1.ck
  no : eff = false → s1.sn = s.sn ∧ s1.kc = s.kc
  ye : eff = true → s1.sn = h :: s.sn ∧ s1.kc = s.kc + 1
  pd : (∀ p ∈ s.pd, own p.2.2) → ∀ p ∈ s1.pd, own p.2.2
  wf : (∀ c ∈ s.ck, WfC c) → ∀ c ∈ s1.ck, WfC c
theorem runD1_inv {o : Oper} {ops : Array Oper} {nt : Nat} {c : DO} (hc : CS E o c.c.c) {l : Option Nat} (hl : (∃ f, c.c.c = .de f) → l = none) {B : Bd} (hB : BdOK E B) {tm : Tr AV} {df : List AD} {h : Tr AO} {n : Pn} {s : Dr} {K : KD} (hown : ∀ p ∈ s.pd, own p.2.2)
    (hgd : ∀ (ρ : Ren) (tmps : Array Value), (∀ t, GdT ops o t → VR ρ (tm.get (.tu []) (pth t)) (tmps.getD t undef)) → Region.wanted o (yielded ops tmps) = true) (hdst : dstOf nt o = some c.c.d) (hgok : gOk E o = true) (hk : Ok (runD1 c B tm df h n s K)) :
    ∃ e tm1 df1 h1 n1 s1, runD1 c B tm df h n s K = K tm1 df1 h1 n1 s1 ∧ e.o = o ∧ e.s = stOf tm df h n s ∧ e.s' = stOf tm1 df1 h1 n1 s1 ∧ e.lo = c.lo ∧ e.hi = c.hi ∧ e.eff = isEff c.c.c ∧ EvOK E l ops nt s1.ck e ∧ Bk2 s s1 h (isEff c.c.c) := by
  obtain ⟨co, lo, hi⟩ := c
  obtain ⟨g, d, c⟩ := co
  simp only at hc hl hdst hk ⊢
  have hex : ∀ {ro : Option Nat} {ρ : Operand → Value}, (∀ c, o.op ≠ .defer c) → o.semAt ro ρ = execOp ρ o := fun h => Oper.semAt_eq _ _ _ h
  cases c with
  | pu f =>
    obtain ⟨hnd, hs⟩ := hc
    have e : runD1 ⟨⟨g, d, .pu f⟩, lo, hi⟩ B tm df h n s K = f tm fun v => put d v tm fun tm => K tm df h n s := rfl
    rw [e] at hk ⊢
    obtain ⟨v, h1, h2⟩ := hs tm _ hk
    rw [h1, put_eq]
    refine ⟨⟨o, lo, hi, true, v, d, none, false, stOf tm df h n s, stOf (putD d v tm) df h n s, h⟩, _, _, _, _, _, rfl, rfl, rfl, rfl, rfl, rfl, rfl, ?_, ⟨fun _ h => h, fun _ => ⟨rfl, rfl⟩, fun h => (by cases h), fun h => h, fun h => h⟩⟩
    exact { gd := hgd, dst := hdst, gok := hgok, tm := rfl, le := Nat.le_refl _, nb := fun h => (by cases h), ne := fun _ => ⟨rfl, rfl, rfl⟩, na := fun _ _ => ⟨rfl, rfl⟩, ef := fun h => (by cases h), efb := fun h => (by cases h),
            pu := fun _ _ _ => ⟨hnd, .inl fun _ ρ a w hr _ => h2 ρ a w hr⟩, al := fun ob h => (by cases h), efs := fun _ h => (by cases h) }
  | rd f =>
    obtain ⟨hnd, hs⟩ := hc
    have e : runD1 ⟨⟨g, d, .rd f⟩, lo, hi⟩ B tm df h n s K = f tm h fun v => put d v tm fun tm' => K tm' df h n (Bool.rec { s with ck := { lo := lo, hi := hi, f := f tm, v } :: s.ck } s (Nat.beq lo hi)) := rfl
    rw [e] at hk ⊢
    obtain ⟨v, h1, h2⟩ := hs tm h _ hk
    rw [h1, put_eq]
    cases hlh : Nat.beq lo hi with
    | true =>
      refine ⟨⟨o, lo, hi, true, v, d, none, false, stOf tm df h n s, stOf (putD d v tm) df h n s, h⟩, _, _, _, _, _, rfl, rfl, rfl, rfl, rfl, rfl, rfl, ?_, ⟨fun _ h => h, fun _ => ⟨rfl, rfl⟩, fun h => (by cases h), fun h => h, fun h => h⟩⟩
      exact { gd := hgd, dst := hdst, gok := hgok, tm := rfl, le := Nat.le_refl _, nb := fun h => (by cases h), ne := fun _ => ⟨rfl, rfl, rfl⟩, na := fun _ _ => ⟨rfl, rfl⟩, ef := fun h => (by cases h), efb := fun h => (by cases h),
              pu := fun _ _ _ => ⟨hnd, .inr ⟨h2, .inl (beq_iff.1 hlh)⟩⟩, al := fun ob h => (by cases h), efs := fun _ h => (by cases h) }
    | false =>
      refine ⟨⟨o, lo, hi, true, v, d, none, false, stOf tm df h n s, stOf (putD d v tm) df h n { s with ck := { lo := lo, hi := hi, f := f tm, v } :: s.ck }, h⟩, _, _, _, _, { s with ck := { lo := lo, hi := hi, f := f tm, v } :: s.ck }, rfl, rfl, rfl, rfl, rfl, rfl, rfl, ?_, ⟨fun _ h => by simp [h], fun _ => ⟨rfl, rfl⟩, fun h => (by cases h), fun h => h, fun hw c hc => ?_⟩⟩
      · exact { gd := hgd, dst := hdst, gok := hgok, tm := rfl, le := Nat.le_refl _, nb := fun h => (by cases h), ne := fun _ => ⟨rfl, rfl, rfl⟩, na := fun _ _ => ⟨rfl, rfl⟩, ef := fun h => (by cases h), efb := fun h => (by cases h),
                pu := fun _ _ _ => ⟨hnd, .inr ⟨h2, .inr ⟨{ lo := lo, hi := hi, f := f tm, v }, by simp, rfl, rfl, rfl, fun h k hk => hs tm h k hk⟩⟩⟩, al := fun ob h => (by cases h), efs := fun _ h => (by cases h) }
      · rcases List.mem_cons.1 hc with rfl | hc
        · exact fun h k hk => by obtain ⟨v, q, _⟩ := hs tm h k hk; exact ⟨v, q⟩
        · exact hw c hc
  | al f =>
    obtain ⟨hnd, hs⟩ := hc
    have e : runD1 ⟨⟨g, d, .al f⟩, lo, hi⟩ B tm df h n s K = f tm n fun v b => put d v tm fun tm => K tm df h n.succ { s with pd := (hi, n, b) :: s.pd } := rfl
    rw [e] at hk ⊢
    obtain ⟨v, b, h1, hob, h2⟩ := hs tm n _ hk
    rw [h1, put_eq]
    refine ⟨⟨o, lo, hi, true, v, d, some b, false, stOf tm df h n s, stOf (putD d v tm) df h n.succ { s with pd := (hi, n, b) :: s.pd }, h⟩, _, _, _, _, _, rfl, rfl, rfl, rfl, rfl, rfl, rfl, ?_, ⟨fun _ h => h, fun _ => ⟨rfl, rfl⟩, fun h => (by cases h), fun hp p hpm => ?_, fun h => h⟩⟩
    · exact { gd := hgd, dst := hdst, gok := hgok, tm := rfl, le := (by show n.nat ≤ n.succ.nat; rw [nat_succ]; omega), nb := fun h => (by cases h), ne := fun _ => ⟨rfl, rfl, rfl⟩, na := fun _ h => (by cases h), ef := fun h => (by cases h), efb := fun h => (by cases h),
              pu := fun _ _ h => (by cases h), al := fun ob h => (by injection h with h; subst h; exact ⟨rfl, rfl, rfl, rfl, hnd, hob, h2⟩), efs := fun _ h => (by cases h) }
    · rcases List.mem_cons.1 hpm with rfl | hpm
      · exact hob
      · exact hp p hpm
  | ef f =>
    obtain ⟨hnd, hs⟩ := hc
    have e : runD1 ⟨⟨g, d, .ef f⟩, lo, hi⟩ B tm df h n s K = layP s.kc s.pd h fun pd h' => f B tm h' n fun v h'' n => put d v tm fun tm => K tm df h'' n (bump s h pd) := rfl
    rw [e] at hk ⊢
    obtain ⟨hh, h1, h2⟩ := layP_eq s.kc s.pd h (fun p hp => (hown p hp).1)
    rw [h1] at hk ⊢
    obtain ⟨v, h', n', h3, hle, h4⟩ := hs B hB tm hh n _ hk
    rw [h3, put_eq]
    refine ⟨⟨o, lo, hi, true, v, d, none, true, stOf tm df h n s, stOf (putD d v tm) df h' n' (bump s h (s.pd.filter fun e => !(Nat.ble e.1 s.kc))), hh⟩, _, _, _, _, _, rfl, rfl, rfl, rfl, rfl, rfl, rfl, ?_, ⟨fun _ h => h, fun h => (by cases h), fun _ => ⟨rfl, rfl⟩, fun hp p hpm => hp p (List.mem_filter.1 hpm).1, fun h => h⟩⟩
    exact { gd := hgd, dst := hdst, gok := hgok, tm := rfl, le := hle, nb := fun h => (by cases h), ne := fun h => (by cases h), na := fun h => (by cases h), ef := fun _ => ⟨rfl, rfl, rfl, h2⟩, efb := fun _ h => (by cases h),
            pu := fun _ h => (by cases h), al := fun ob h => (by cases h),
            efs := fun _ _ ρ a w hg hr hd hR hF next Q hn => ⟨fun _ _ => trivial, by
              rw [hex hnd]
              exact h4 ρ a w hg hr hR hF l next Q fun ρ' v' w' st r => hn ρ' v' w' a.defers st r (hd.mono st.ext)⟩ }
  | de f =>
    obtain ⟨hdf, hs⟩ := hc
    have e : runD1 ⟨⟨g, d, .de f⟩, lo, hi⟩ B tm df h n s K = layP s.kc s.pd h fun pd h' => f tm fun a => put d (.tu []) tm fun tm => K tm (a :: df) h' n (bump s h pd) := rfl
    rw [e] at hk ⊢
    obtain ⟨hh, h1, h2⟩ := layP_eq s.kc s.pd h (fun p hp => (hown p hp).1)
    rw [h1] at hk ⊢
    obtain ⟨ad, h3, h4⟩ := hs tm _ hk
    rw [h3, put_eq]
    obtain rfl := hl ⟨f, rfl⟩
    refine ⟨⟨o, lo, hi, true, .tu [], d, none, true, stOf tm df h n s, stOf (putD d (.tu []) tm) (ad :: df) hh n (bump s h (s.pd.filter fun e => !(Nat.ble e.1 s.kc))), hh⟩, _, _, _, _, _, rfl, rfl, rfl, rfl, rfl, rfl, rfl, ?_, ⟨fun _ h => h, fun h => (by cases h), fun _ => ⟨rfl, rfl⟩, fun hp p hpm => hp p (List.mem_filter.1 hpm).1, fun h => h⟩⟩
    exact { gd := hgd, dst := hdst, gok := hgok, tm := rfl, le := Nat.le_refl _, nb := fun h => (by cases h), ne := fun h => (by cases h), na := fun h => (by cases h), ef := fun _ => ⟨rfl, rfl, rfl, h2⟩, efb := fun _ h => (by cases h),
            pu := fun _ h => (by cases h), al := fun ob h => (by cases h),
            efs := fun _ _ ρ a w hg hr hd hR hF next Q hn => ⟨fun _ _ => trivial, by
              obtain ⟨dd, g1, g2⟩ := h4 ρ a w hr
              show o.uponIn (FW none) 0 E.P a next Q ((execOp a.eval o).run E.P w)
              rw [g1]
              refine hn ρ undef w (dd :: a.defers) (Step.refl hR) (VR.undef ρ) ?_
              cases ad with
              | fn g us => exact ⟨g2.1, hd⟩
              | mk b => exact ⟨g2.1, hd⟩⟩ }
  | no c => exact (ok_er hk).elim
theorem dNo_inv {o : Oper} {ops : Array Oper} {nt : Nat} {c : DO} {l : Option Nat} {tm : Tr AV} {df : List AD} {h : Tr AO} {n : Pn} {s : Dr} {K : KD} (hown : ∀ p ∈ s.pd, own p.2.2)
    (hgd : ∀ (ρ : Ren) (tmps : Array Value), (∀ t, GdT ops o t → VR ρ (tm.get (.tu []) (pth t)) (tmps.getD t undef)) → Region.wanted o (yielded ops tmps) = false) (hdst : dstOf nt o = some c.c.d) (hgok : gOk E o = true) :
    ∃ e tm1 df1 h1 n1 s1, dNo c tm df h n s K = K tm1 df1 h1 n1 s1 ∧ e.o = o ∧ e.s = stOf tm df h n s ∧ e.s' = stOf tm1 df1 h1 n1 s1 ∧ e.lo = c.lo ∧ e.hi = c.hi ∧ e.eff = isEff c.c.c ∧ EvOK E l ops nt s1.ck e ∧ Bk2 s s1 h (isEff c.c.c) := by
  unfold dNo
  rw [put_eq]
  cases hee : isEff c.c.c with
  | false =>
    refine ⟨⟨o, c.lo, c.hi, false, .tu [], c.c.d, none, false, stOf tm df h n s, stOf (putD c.c.d (.tu []) tm) df h n s, h⟩, _, _, _, _, _, rfl, rfl, rfl, rfl, rfl, rfl, rfl, ?_, ⟨fun _ h => h, fun _ => ⟨rfl, rfl⟩, fun h => (by cases h), fun h => h, fun h => h⟩⟩
    exact { gd := hgd, dst := hdst, gok := hgok, tm := rfl, le := Nat.le_refl _, nb := fun _ => ⟨rfl, rfl, rfl, rfl⟩, ne := fun _ => ⟨rfl, rfl, rfl⟩, na := fun _ _ => ⟨rfl, rfl⟩, ef := fun h => (by cases h), efb := fun h => (by cases h),
            pu := fun h => (by cases h), al := fun ob h => (by cases h), efs := fun h => (by cases h) }
  | true =>
    obtain ⟨hh, h1, h2⟩ := layP_eq s.kc s.pd h (fun p hp => (hown p hp).1)
    simp only [h1]
    refine ⟨⟨o, c.lo, c.hi, false, .tu [], c.c.d, none, true, stOf tm df h n s, stOf (putD c.c.d (.tu []) tm) df hh n (bump s h (s.pd.filter fun e => !(Nat.ble e.1 s.kc))), hh⟩, _, _, _, _, _, rfl, rfl, rfl, rfl, rfl, rfl, rfl, ?_, ⟨fun _ h => h, fun h => (by cases h), fun _ => ⟨rfl, rfl⟩, fun hp p hpm => hp p (List.mem_filter.1 hpm).1, fun h => h⟩⟩
    exact { gd := hgd, dst := hdst, gok := hgok, tm := rfl, le := Nat.le_refl _, nb := fun _ => ⟨rfl, rfl, rfl, rfl⟩, ne := fun h => (by cases h), na := fun h => (by cases h), ef := fun _ => ⟨rfl, rfl, rfl, h2⟩, efb := fun _ _ => rfl,
            pu := fun h => (by cases h), al := fun ob h => (by cases h), efs := fun h => (by cases h) }
theorem drwL_inv (hE : EOK E) {ix : FuncId → Option Ix} (hI : IxOK E ix) {B : Bd} (hB : BdOK E B) {nt : Nat} {ro : Bool} {l : Option Nat} (hl : ro = false → l = none) {ops : Array Oper} {bs es : List Nat} :
    ∀ (rest : List Oper) (i : Nat) {tm : Tr AV} {df : List AD} {h : Tr AO} {n : Pn} {s : Dr} {K : KD}, Ok (drwL (dosOf bs es (cosOf E ix nt ro ops.toList rest) i) B tm df h n s K) → (∀ p ∈ s.pd, own p.2.2) → s.sn.length = s.kc → (∀ c ∈ s.ck, WfC c) →
    ∃ evs tm' df' h' n' s', drwL (dosOf bs es (cosOf E ix nt ro ops.toList rest) i) B tm df h n s K = K tm' df' h' n' s' ∧ Links evs (stOf tm df h n s) (stOf tm' df' h' n' s') ∧ evs.map (·.o) = rest ∧
      (∀ q ev, evs[q]? = some ev → ev.lo = loOf (bs.getD (i + q) 0) es ∧ ev.hi = hiOf bs (i + q) es ∧ ev.eff = isEff (coOf E ix nt ro ops.toList ev.o).c) ∧ (∀ c ∈ s.ck, c ∈ s'.ck) ∧ (∀ ev ∈ evs, EvOK E l ops nt s'.ck ev) ∧
      (∀ c ∈ s'.ck, WfC c) ∧ (∀ p ∈ s'.pd, own p.2.2) ∧ s'.sn.length = s'.kc ∧ (∃ t, s'.sn.reverse ++ [h'] = s.sn.reverse ++ h :: t) ∧ ∀ ev ∈ evs, (s'.sn.reverse ++ [h'])[ev.s.k]? = some ev.s.h := by
  intro rest
  induction rest with
  | nil =>
    intro i tm df h n s K _ hown hsn hwf
    exact ⟨[], tm, df, h, n, s, rfl, rfl, rfl, fun q ev h => by simp at h, fun _ h => h, by simp, hwf, hown, hsn, ⟨[], rfl⟩, by simp⟩
  | cons o rest ih =>
    intro i tm df h n s K hk hown hsn hwf
    have e : drwL (dosOf bs es (cosOf E ix nt ro ops.toList (o :: rest)) i) B tm df h n s K =
        gd (coOf E ix nt ro ops.toList o).g tm
          (runD1 { c := coOf E ix nt ro ops.toList o, lo := loOf (bs.getD i 0) es, hi := hiOf bs i es } B tm df h n s fun tm df h n s => drwL (dosOf bs es (cosOf E ix nt ro ops.toList rest) (i + 1)) B tm df h n s K)
          (dNo { c := coOf E ix nt ro ops.toList o, lo := loOf (bs.getD i 0) es, hi := hiOf bs i es } tm df h n s fun tm df h n s => drwL (dosOf bs es (cosOf E ix nt ro ops.toList rest) (i + 1)) B tm df h n s K) := rfl
    rw [e] at hk ⊢
    rcases coOf_inv (E := E) (ix := ix) (nt := nt) (ro := ro) (ops := ops.toList) (o := o) with ⟨c, hc⟩ | ⟨g, d, hgu, hds, hgo, hc⟩
    · rw [hc] at hk; exact (ok_er hk).elim
    · have hstep : ∃ ev tm1 df1 h1 n1 s1, gd (coOf E ix nt ro ops.toList o).g tm
            (runD1 { c := coOf E ix nt ro ops.toList o, lo := loOf (bs.getD i 0) es, hi := hiOf bs i es } B tm df h n s fun tm df h n s => drwL (dosOf bs es (cosOf E ix nt ro ops.toList rest) (i + 1)) B tm df h n s K)
            (dNo { c := coOf E ix nt ro ops.toList o, lo := loOf (bs.getD i 0) es, hi := hiOf bs i es } tm df h n s fun tm df h n s => drwL (dosOf bs es (cosOf E ix nt ro ops.toList rest) (i + 1)) B tm df h n s K) =
            drwL (dosOf bs es (cosOf E ix nt ro ops.toList rest) (i + 1)) B tm1 df1 h1 n1 s1 K ∧ ev.o = o ∧ ev.s = stOf tm df h n s ∧ ev.s' = stOf tm1 df1 h1 n1 s1 ∧ ev.lo = loOf (bs.getD i 0) es ∧ ev.hi = hiOf bs i es ∧
            ev.eff = isEff (coOf E ix nt ro ops.toList o).c ∧ EvOK E l ops nt s1.ck ev ∧ Bk2 s s1 h (isEff (coOf E ix nt ro ops.toList o).c) := by
        rw [hc] at hk ⊢
        obtain ⟨b, h1, h2⟩ := gd_inv hgu hk
        rw [h1] at hk ⊢
        cases b with
        | true =>
          simp only [if_true] at hk ⊢
          exact runD1_inv (c := { c := { g, d, c := noDef ro (cop E ix o) }, lo := loOf (bs.getD i 0) es, hi := hiOf bs i es }) (noDef_cs (cop_cs hE hI)) (noDef_de hl) hB hown h2 hds hgo hk
        | false =>
          simp only [Bool.false_eq_true, if_false] at hk ⊢
          exact dNo_inv (c := { c := { g, d, c := noDef ro (cop E ix o) }, lo := loOf (bs.getD i 0) es, hi := hiOf bs i es }) hown h2 hds hgo
      obtain ⟨ev, tm1, df1, h1, n1, s1, g1, g2, g3, g4, g5, g6, g7, g8, g9⟩ := hstep
      rw [g1] at hk ⊢
      have hsn1 : s1.sn.length = s1.kc ∧ (∃ t, s1.sn.reverse ++ [h1] = s.sn.reverse ++ h :: t) := by
        cases hee : isEff (coOf E ix nt ro ops.toList o).c with
        | false =>
          obtain ⟨q1, q2⟩ := g9.no hee
          have hh : h1 = h := by
            have := (g8.ne (by rw [g7, hee])).2.1
            rw [g3, g4] at this
            exact this
          rw [q1, q2, hh]
          exact ⟨hsn, [], rfl⟩
        | true =>
          obtain ⟨q1, q2⟩ := g9.ye hee
          rw [q1, q2]
          exact ⟨by simp [hsn], [h1], by simp⟩
      obtain ⟨evs, tm', df', h', n', s', k1, k2, k3, k4, k5, k6, k6', k7, k8, ⟨t2, k9⟩, k10⟩ := ih (i + 1) hk (g9.pd hown) hsn1.1 (g9.wf hwf)
      obtain ⟨t1, p1⟩ := hsn1.2
      have hfin : ∃ t, s'.sn.reverse ++ [h'] = s.sn.reverse ++ h :: t := by
        refine ⟨t1 ++ t2, ?_⟩
        rw [k9]
        have : s1.sn.reverse ++ h1 :: t2 = (s1.sn.reverse ++ [h1]) ++ t2 := by simp
        rw [this, p1]
        simp
      refine ⟨ev :: evs, tm', df', h', n', s', k1, ⟨g3, by rw [g4]; exact k2⟩, by rw [List.map_cons, k3, g2], ?_, fun c hc => k5 c (g9.ck c hc), ?_, k6', k7, k8, hfin, ?_⟩
      · intro q e2 hq
        cases q with
        | zero => simp at hq; subst hq; exact ⟨g5, g6, by rw [g2]; exact g7⟩
        | succ q =>
          have := k4 q e2 (by simpa using hq)
          rw [show i + 1 + q = i + (q + 1) from by omega] at this
          exact this
      · intro e2 he
        rcases List.mem_cons.1 he with rfl | he
        · exact g8.mono k5
        · exact k6 e2 he
      · intro e2 he
        rcases List.mem_cons.1 he with rfl | he
        · obtain ⟨t, ht⟩ := hfin
          rw [ht, g3]
          show (s.sn.reverse ++ h :: t)[s.kc]? = some h
          rw [← hsn, List.getElem?_append_right (by simp)]
          simp
        · exact k10 e2 he
end
end Ax
end Go.Proofs.YtnnhkajjifmlfaaDoor
