/- The executor's small words, each as what it comes to. -/
import Derived.Test.YtnnhkajjifmlfaaDoorX3
namespace Go.Proofs.YtnnhkajjifmlfaaDoor
namespace Ax

def Ok (r : R) : Prop := ∀ c, r ≠ .er c
theorem ok_er {c : Nat} (h : Ok (.er c)) : False := h c rfl
theorem ok_of {r : R} (h : okR r = true) : Ok r := by
  intro c e; subst e; simp [okR] at h

section tr
variable {α β : Type}
theorem getK_eq (d : α) (p : Pn) : ∀ (t : Tr α) (k : α → β), Tr.getK d p t k = k (t.get d p) := by
  unfold Tr.get
  induction p with
  | one => intro t k; cases t <;> rfl
  | o p ih => intro t k; cases t with
    | leaf => rfl
    | node l v r => exact ih l k
  | i p ih => intro t k; cases t with
    | leaf => rfl
    | node l v r => exact ih r k
noncomputable def Tr.put (d x : α) (p : Pn) (t : Tr α) : Tr α := Tr.setK d x p t id
theorem setK_eq (d x : α) (p : Pn) : ∀ (t : Tr α) (k : Tr α → β), Tr.setK d x p t k = k (t.put d x p) := by
  unfold Tr.put
  suffices h : ∀ (γ : Type) (t : Tr α) (k : Tr α → γ), Tr.setK d x p t k = k (Tr.setK d x p t id) from fun t k => h β t k
  intro γ
  induction p generalizing γ with
  | one => intro t k; cases t <;> rfl
  | o p ih => intro t k; cases t with
    | leaf => exact (ih γ .leaf fun l => k (.node l d .leaf)).trans (congrArg k (ih (Tr α) .leaf fun l => Tr.node l d .leaf).symm)
    | node l v r => exact (ih γ l fun l => k (.node l v r)).trans (congrArg k (ih (Tr α) l fun l => Tr.node l v r).symm)
  | i p ih => intro t k; cases t with
    | leaf => exact (ih γ .leaf fun r => k (.node .leaf d r)).trans (congrArg k (ih (Tr α) .leaf fun r => Tr.node .leaf d r).symm)
    | node l v r => exact (ih γ r fun r => k (.node l v r)).trans (congrArg k (ih (Tr α) r fun r => Tr.node l v r).symm)
theorem get_leaf (d : α) (p : Pn) : (Tr.leaf : Tr α).get d p = d := by cases p <;> rfl
theorem put_o_leaf (d x : α) (p : Pn) : (Tr.leaf : Tr α).put d x (.o p) = .node ((Tr.leaf : Tr α).put d x p) d .leaf := setK_eq d x p .leaf fun l => Tr.node l d .leaf
theorem put_o_node (d x v : α) (l r : Tr α) (p : Pn) : (Tr.node l v r).put d x (.o p) = .node (l.put d x p) v r := setK_eq d x p l fun l => Tr.node l v r
theorem put_i_leaf (d x : α) (p : Pn) : (Tr.leaf : Tr α).put d x (.i p) = .node .leaf d ((Tr.leaf : Tr α).put d x p) := setK_eq d x p .leaf fun r => Tr.node .leaf d r
theorem put_i_node (d x v : α) (l r : Tr α) (p : Pn) : (Tr.node l v r).put d x (.i p) = .node l v (r.put d x p) := setK_eq d x p r fun r => Tr.node l v r
theorem get_put_same (d x : α) (p : Pn) : ∀ t : Tr α, (t.put d x p).get d p = x := by
  induction p with
  | one => intro t; cases t <;> rfl
  | o p ih => intro t; cases t with
    | leaf => rw [put_o_leaf]; exact ih .leaf
    | node l v r => rw [put_o_node]; exact ih l
  | i p ih => intro t; cases t with
    | leaf => rw [put_i_leaf]; exact ih .leaf
    | node l v r => rw [put_i_node]; exact ih r
theorem get_put_other (d x : α) (p q : Pn) : p ≠ q → ∀ t : Tr α, (t.put d x p).get d q = t.get d q := by
  induction p generalizing q with
  | one => intro h t; cases q with
    | one => exact absurd rfl h
    | o q => cases t with
      | leaf => exact get_leaf d q
      | node l v r => rfl
    | i q => cases t with
      | leaf => exact get_leaf d q
      | node l v r => rfl
  | o p ih => intro h t; cases q with
    | one => cases t with
      | leaf => rw [put_o_leaf]; rfl
      | node l v r => rw [put_o_node]; rfl
    | o q => cases t with
      | leaf => rw [put_o_leaf]; exact (ih q (fun e => h (by rw [e])) .leaf).trans (get_leaf d q)
      | node l v r => rw [put_o_node]; exact ih q (fun e => h (by rw [e])) l
    | i q => cases t with
      | leaf => rw [put_o_leaf]; exact get_leaf d q
      | node l v r => rw [put_o_node]; rfl
  | i p ih => intro h t; cases q with
    | one => cases t with
      | leaf => rw [put_i_leaf]; rfl
      | node l v r => rw [put_i_node]; rfl
    | o q => cases t with
      | leaf => rw [put_i_leaf]; exact get_leaf d q
      | node l v r => rw [put_i_node]; rfl
    | i q => cases t with
      | leaf => rw [put_i_leaf]; exact (ih q (fun e => h (by rw [e])) .leaf).trans (get_leaf d q)
      | node l v r => rw [put_i_node]; exact ih q (fun e => h (by rw [e])) r
end tr

theorem nat_pos (p : Pn) : 0 < p.nat := by
  induction p with
  | one => exact Nat.one_pos
  | o p ih => show 0 < 2 * p.nat; omega
  | i p _ => show 0 < 2 * p.nat + 1; omega
theorem nat_succ (p : Pn) : p.succ.nat = p.nat + 1 := by
  induction p with
  | one => rfl
  | o p _ => show 2 * p.nat + 1 = 2 * p.nat + 1; rfl
  | i p ih => show 2 * p.succ.nat = 2 * p.nat + 1 + 1; omega
theorem nat_inj : ∀ p q : Pn, p.nat = q.nat → p = q := by
  intro p
  induction p with
  | one => intro q h; cases q with
    | one => rfl
    | o q => have h : 1 = 2 * q.nat := h; omega
    | i q => have h : 1 = 2 * q.nat + 1 := h; have := nat_pos q; omega
  | o p ih => intro q h; cases q with
    | one => have h : 2 * p.nat = 1 := h; omega
    | o q => have h : 2 * p.nat = 2 * q.nat := h; rw [ih q (by omega)]
    | i q => have h : 2 * p.nat = 2 * q.nat + 1 := h; omega
  | i p ih => intro q h; cases q with
    | one => have h : 2 * p.nat + 1 = 1 := h; have := nat_pos p; omega
    | o q => have h : 2 * p.nat + 1 = 2 * q.nat := h; omega
    | i q => have h : 2 * p.nat + 1 = 2 * q.nat + 1 := h; rw [ih q (by omega)]
theorem nat_pth (n : Nat) : (pth n).nat = n + 1 := by
  induction n with
  | zero => rfl
  | succ n ih => show (pth n).succ.nat = _; rw [nat_succ, ih]
theorem pth_inj {m n : Nat} (h : pth m = pth n) : m = n := by
  have := congrArg Pn.nat h
  rw [nat_pth, nat_pth] at this
  omega
theorem pn_eq (p : Pn) : ∀ q, p.eq q = true ↔ p = q := by
  induction p with
  | one => intro q; cases q <;> simp [Pn.eq]
  | o p ih => intro q; cases q with
    | one => simp [Pn.eq]
    | o q => have := ih q; simp only [Pn.o.injEq]; exact this
    | i q => simp [Pn.eq]
  | i p ih => intro q; cases q with
    | one => simp [Pn.eq]
    | o q => simp [Pn.eq]
    | i q => have := ih q; simp only [Pn.i.injEq]; exact this

theorem ifK_inv {b : Bool} {c : Nat} {k : Unit → R} (h : Ok (ifK b c k)) : b = true ∧ ifK b c k = k () := by
  cases b
  · exact (ok_er h).elim
  · exact ⟨rfl, rfl⟩
theorem asP_inv {v : AV} {k : Pn → Nat → R} (h : Ok (asP v k)) : ∃ b o, v = .p b o ∧ asP v k = k b o := by
  cases v <;> first | exact ⟨_, _, rfl, rfl⟩ | exact (ok_er h).elim
theorem asI_inv {v : AV} {k : IntKind → Int → R} (h : Ok (asI v k)) : ∃ q a, v = .i q a ∧ asI v k = k q a := by
  cases v <;> first | exact ⟨_, _, rfl, rfl⟩ | exact (ok_er h).elim
theorem asS_inv {v : AV} {k : List UInt8 → R} (h : Ok (asS v k)) : ∃ l, v = .s l ∧ asS v k = k l := by
  cases v <;> first | exact ⟨_, rfl, rfl⟩ | exact (ok_er h).elim
theorem asAg_inv {v : AV} {k : List AV → R} (h : Ok (asAg v k)) : ∃ l, v = .ag l ∧ asAg v k = k l := by
  cases v <;> first | exact ⟨_, rfl, rfl⟩ | exact (ok_er h).elim
theorem asTu_inv {v : AV} {k : List AV → R} (h : Ok (asTu v k)) : ∃ l, v = .tu l ∧ asTu v k = k l := by
  cases v <;> first | exact ⟨_, rfl, rfl⟩ | exact (ok_er h).elim
theorem asB_inv {v : AV} {y n : R} (h : Ok (asB v y n)) : ∃ x, v = .b x ∧ asB v y n = if x then y else n := by
  cases v with
  | b x => exact ⟨x, rfl, by cases x <;> rfl⟩
  | _ => exact (ok_er h).elim
theorem asM_inv {v : AV} {e : R} {k : Pn → R} (h : Ok (asM v e k)) : (v = .nm ∧ asM v e k = e) ∨ ∃ b, v = .m b ∧ asM v e k = k b := by
  cases v with
  | nm => exact .inl ⟨rfl, rfl⟩
  | m b => exact .inr ⟨b, rfl, rfl⟩
  | _ => exact (ok_er h).elim
theorem asSl_inv {v : AV} {e : R} {k : Pn → Nat → Nat → Nat → Nat → R} (h : Ok (asSl v e k)) : (v = .ns ∧ asSl v e k = e) ∨ ∃ b o n c x, v = .sl b o n c x ∧ asSl v e k = k b o n c x := by
  cases v with
  | ns => exact .inl ⟨rfl, rfl⟩
  | sl b o n c x => exact .inr ⟨b, o, n, c, x, rfl, rfl⟩
  | _ => exact (ok_er h).elim
theorem asIfc_inv {v : AV} {e : R} {k : TypeId → AV → R} (h : Ok (asIfc v e k)) : (v = .ni ∧ asIfc v e k = e) ∨ ∃ t u, v = .ifc t u ∧ asIfc v e k = k t u := by
  cases v with
  | ni => exact .inl ⟨rfl, rfl⟩
  | ifc t u => exact .inr ⟨t, u, rfl, rfl⟩
  | _ => exact (ok_er h).elim
/-- the cells of a value, in Lean -/
def cellsA (v : AV) : List AV := match v with
  | .ag l => l
  | v => [v]
theorem cellsK_inv {v : AV} {k : List AV → R} (h : Ok (cellsK v k)) : v ≠ .z ∧ cellsK v k = k (cellsA v) := by
  cases v <;> first | exact (ok_er h).elim | exact ⟨by simp, rfl⟩

theorem nthK_inv {α : Type} (l : List α) : ∀ {i : Nat} {k : α → R}, Ok (nthK l i k) → ∃ a, l[i]? = some a ∧ nthK l i k = k a := by
  induction l with
  | nil => exact fun h => (ok_er h).elim
  | cons a l ih => intro i k h; cases i with
    | zero => exact ⟨a, rfl, rfl⟩
    | succ i => exact ih (i := i) h
theorem takeK_inv {α : Type} (l : List α) : ∀ {n : Nat} {k : List α → R}, Ok (takeK l n k) → n ≤ l.length ∧ takeK l n k = k (l.take n) := by
  induction l with
  | nil => intro n k h; cases n with
    | zero => exact ⟨Nat.le_refl _, rfl⟩
    | succ n => exact (ok_er h).elim
  | cons a l ih => intro n k h; cases n with
    | zero => exact ⟨Nat.zero_le _, rfl⟩
    | succ n =>
      obtain ⟨h1, h2⟩ := ih (n := n) (k := fun r => k (a :: r)) h
      exact ⟨Nat.succ_le_succ h1, h2⟩
theorem dropK_inv {α : Type} (l : List α) : ∀ {n : Nat} {k : List α → R}, Ok (dropK l n k) → n ≤ l.length ∧ dropK l n k = k (l.drop n) := by
  induction l with
  | nil => intro n k h; cases n with
    | zero => exact ⟨Nat.le_refl _, rfl⟩
    | succ n => exact (ok_er h).elim
  | cons a l ih => intro n k h; cases n with
    | zero => exact ⟨Nat.zero_le _, rfl⟩
    | succ n =>
      obtain ⟨h1, h2⟩ := ih (n := n) (k := k) h
      exact ⟨Nat.succ_le_succ h1, h2⟩
theorem cutK_inv {α : Type} {l : List α} {o n : Nat} {k : List α → R} (h : Ok (cutK l o n k)) : o + n ≤ l.length ∧ cutK l o n k = k ((l.drop o).take n) := by
  unfold cutK at h ⊢
  obtain ⟨h1, h2⟩ := dropK_inv l h
  rw [h2] at h ⊢
  obtain ⟨h3, h4⟩ := takeK_inv _ h
  refine ⟨?_, h4⟩
  rw [List.length_drop] at h3
  omega
theorem layK_inv {α : Type} (xs : List α) : ∀ {l : List α} {k : List α → R}, Ok (layK xs l k) → xs.length ≤ l.length ∧ layK xs l k = k (xs ++ l.drop xs.length) := by
  induction xs with
  | nil => exact fun _ => ⟨Nat.zero_le _, rfl⟩
  | cons x xs ih => intro l k h; cases l with
    | nil => exact (ok_er h).elim
    | cons a l =>
      obtain ⟨h1, h2⟩ := ih (l := l) (k := fun r => k (x :: r)) h
      exact ⟨Nat.succ_le_succ h1, h2⟩
/-- xs over the cells of l from place o on -/
def laid {α : Type} (l : List α) (o : Nat) (xs : List α) : List α := l.take o ++ xs ++ l.drop (o + xs.length)
theorem putK_inv {α : Type} (xs l : List α) : ∀ {o : Nat} {k : List α → R}, Ok (putK xs l o k) → o + xs.length ≤ l.length ∧ putK xs l o k = k (laid l o xs) := by
  unfold laid
  induction l with
  | nil => intro o k h; cases o with
    | zero =>
      obtain ⟨h1, h2⟩ := layK_inv xs (l := []) (k := k) h
      exact ⟨by omega, (show putK xs [] 0 k = layK xs [] k from rfl).trans (by simpa using h2)⟩
    | succ o => exact (ok_er h).elim
  | cons a l ih => intro o k h; cases o with
    | zero =>
      obtain ⟨h1, h2⟩ := layK_inv xs (l := a :: l) (k := k) h
      exact ⟨by omega, (show putK xs (a :: l) 0 k = layK xs (a :: l) k from rfl).trans (by simpa using h2)⟩
    | succ o =>
      obtain ⟨h1, h2⟩ := ih (o := o) (k := fun r => k (a :: r)) h
      refine ⟨by simp; omega, h2.trans ?_⟩
      congr 1
      rw [show o + 1 + xs.length = (o + xs.length) + 1 from by omega]
      simp
theorem laid_length {α : Type} {l : List α} {o : Nat} {xs : List α} (h : o + xs.length ≤ l.length) : (laid l o xs).length = l.length := by
  unfold laid; simp; omega
theorem laid_get {α : Type} {l : List α} {o : Nat} {xs : List α} (h : o + xs.length ≤ l.length) (i : Nat) :
    (laid l o xs)[i]? = if o ≤ i ∧ i < o + xs.length then xs[i - o]? else l[i]? := by
  unfold laid
  rw [List.append_assoc, List.getElem?_append]
  simp only [List.length_take]
  by_cases h1 : i < o
  · rw [if_pos (by omega), if_neg (by omega), List.getElem?_take, if_pos h1]
  · rw [if_neg (by omega), List.getElem?_append]
    have e : min o l.length = o := by omega
    rw [e]
    by_cases h2 : i - o < xs.length
    · rw [if_pos h2, if_pos (by omega)]
    · rw [if_neg h2, if_neg (by omega), List.getElem?_drop]
      congr 1; omega

/-- a block that can be read -/
def isBlk (o : AO) (l : List AV) (ty : TypeId) (fz : Bool) : Prop := o = .c l ty fz ∨ (o = .k l ty ∧ fz = false)
theorem aoC_inv {o : AO} {k : List AV → TypeId → Bool → R} (h : Ok (aoC o k)) : ∃ l ty fz, isBlk o l ty fz ∧ aoC o k = k l ty fz := by
  cases o with
  | c l ty fz => exact ⟨l, ty, fz, .inl rfl, rfl⟩
  | k l ty => exact ⟨l, ty, false, .inr ⟨rfl, rfl⟩, rfl⟩
  | _ => exact (ok_er h).elim
theorem blkK_inv {h : Tr AO} {b : Pn} {k : List AV → TypeId → Bool → R} (hk : Ok (blkK h b k)) : ∃ l ty fz, isBlk (h.get .x b) l ty fz ∧ blkK h b k = k l ty fz := by
  unfold blkK at hk ⊢
  rw [getK_eq] at hk ⊢
  exact aoC_inv hk
theorem aoW_inv {o : AO} {k : List AV → TypeId → Bool → R} (h : Ok (aoW o k)) : ∃ l ty fz, o = .c l ty fz ∧ aoW o k = k l ty fz := by
  cases o with
  | c l ty fz => exact ⟨l, ty, fz, rfl, rfl⟩
  | _ => exact (ok_er h).elim
theorem wblkK_inv {h : Tr AO} {b : Pn} {k : List AV → TypeId → Bool → R} (hk : Ok (wblkK h b k)) : ∃ l ty fz, h.get .x b = .c l ty fz ∧ wblkK h b k = k l ty fz := by
  unfold wblkK at hk ⊢
  rw [getK_eq] at hk ⊢
  exact aoW_inv hk
theorem aoM_inv {o : AO} {k : List (AV × AV × Option Nat) → Nat → R} (h : Ok (aoM o k)) : ∃ l c, o = .mp l c ∧ aoM o k = k l c := by
  cases o with
  | mp l c => exact ⟨l, c, rfl, rfl⟩
  | _ => exact (ok_er h).elim
theorem mapK_inv {h : Tr AO} {b : Pn} {k : List (AV × AV × Option Nat) → Nat → R} (hk : Ok (mapK h b k)) : ∃ l c, h.get .x b = .mp l c ∧ mapK h b k = k l c := by
  unfold mapK at hk ⊢
  rw [getK_eq] at hk ⊢
  exact aoM_inv hk
theorem scals_all {l : List AV} (h : scals l = true) : ∀ v ∈ l, scal v = true := by
  induction l with
  | nil => simp
  | cons a l ih =>
    have e : scals (a :: l) = Bool.rec false (scals l) (scal a) := rfl
    rw [e] at h
    cases ha : scal a with
    | false => rw [ha] at h; cases h
    | true =>
      rw [ha] at h
      intro v hv
      rcases List.mem_cons.1 hv with rfl | hv
      · exact ha
      · exact ih h v hv
theorem stc_inv {h : Tr AO} {b : Pn} {o : Nat} {xs : List AV} {k : Tr AO → R} (hk : Ok (stc h b o xs k)) :
    scals xs = true ∧ ∃ l ty fz, h.get .x b = .c l ty fz ∧ o + xs.length ≤ l.length ∧ stc h b o xs k = k (h.put .x (.c (laid l o xs) ty fz) b) := by
  unfold stc at hk ⊢
  obtain ⟨h1, h2⟩ := ifK_inv hk
  rw [h2] at hk ⊢
  obtain ⟨l, ty, fz, h3, h4⟩ := wblkK_inv hk
  rw [h4] at hk ⊢
  obtain ⟨h5, h6⟩ := putK_inv _ _ hk
  rw [h6] at hk ⊢
  exact ⟨h1, l, ty, fz, h3, h5, by rw [setK_eq]⟩

/-- an operand's value, in Lean -/
noncomputable def eva (x : Operand) (tm : Tr AV) : Option AV := match x with
  | .tmp t => some (tm.get (.tu []) (pth t))
  | .const v => ofV v
  | .global g => some (.p (pth g) 0)
  | .func f => some (.f (.func f) [] [])
theorem opd_inv {x : Operand} {tm : Tr AV} {k : AV → R} (h : Ok (opd x tm k)) : ∃ v, eva x tm = some v ∧ opd x tm k = k v := by
  cases x with
  | tmp t => exact ⟨_, rfl, getK_eq _ _ _ _⟩
  | const v =>
    have e : opd (.const v) tm k = opV (ofV v) k := rfl
    rw [e] at h ⊢
    show ∃ u, ofV v = some u ∧ _
    cases hv : ofV v with
    | none => rw [hv] at h; exact (ok_er h).elim
    | some a => exact ⟨a, rfl, rfl⟩
  | global g => exact ⟨_, rfl, rfl⟩
  | func f => exact ⟨_, rfl, rfl⟩
/-- the values of several -/
def evas (tm : Tr AV) : List Operand → List AV → Prop
  | [], l => l = []
  | x :: r, l => ∃ v m, eva x tm = some v ∧ evas tm r m ∧ l = v :: m
theorem opds_inv {tm : Tr AV} (l : List Operand) : ∀ {k : List AV → R}, Ok (opds l tm k) → ∃ vs, evas tm l vs ∧ opds l tm k = k vs := by
  induction l with
  | nil => exact fun _ => ⟨[], rfl, rfl⟩
  | cons x r ih =>
    intro k h
    have e : opds (x :: r) tm k = opd x tm fun v => opds r tm fun l => k (v :: l) := rfl
    rw [e] at h ⊢
    obtain ⟨v, h1, h2⟩ := opd_inv h
    rw [h2] at h ⊢
    obtain ⟨vs, h3, h4⟩ := ih h
    exact ⟨v :: vs, ⟨v, vs, h1, h3, rfl⟩, h4⟩
end Ax
end Go.Proofs.YtnnhkajjifmlfaaDoor
