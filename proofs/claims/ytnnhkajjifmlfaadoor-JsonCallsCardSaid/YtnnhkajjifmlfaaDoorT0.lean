/- Values, checked and told: the plain functions. -/
import Derived.Test.YtnnhkajjifmlfaaDoorBy
import Derived.Lib.ItoaLen
namespace Go.Proofs.YtnnhkajjifmlfaaDoor
open Go.RowKit Go.Maps

mutual
/-- is a value nested deeper than so much? -/
def deepP : J → Nat → Bool
  | .mk k _ _ _ list, m => (decide (m = 0) && (decide (k = 5) || decide (k = 6))) || deepPs list m
/-- are parts of a value that may be nested so much nested too deep? -/
def deepPs : List J → Nat → Bool
  | [], _ => false
  | j :: r, m => (match m with | 0 => true | m + 1 => deepP j m) || deepPs r m
end
mutual
/-- may a value be, its depth aside? -/
def fineP : J → Bool
  | .mk k n t names list =>
    if k = 1 then decide (n = 0) && decide (t.size = 0) && decide (names.length = 0) && decide (list.length = 0)
    else if k = 2 then (decide (n = 0) || decide (n = 1)) && decide (t.size = 0) && decide (names.length = 0) && decide (list.length = 0)
    else if k = 3 then decide (t.size = 0) && decide (names.length = 0) && decide (list.length = 0)
    else if k = 4 then decide (n = 0) && decide (names.length = 0) && decide (list.length = 0)
    else if k = 5 then decide (n = 0) && decide (t.size = 0) && decide (names.length = 0) && finePs list
    else if k = 6 then decide (n = 0) && decide (t.size = 0) && decide (names.length = list.length) && finePs list
    else false
def finePs : List J → Bool
  | [] => true
  | j :: r => fineP j && finePs r
end
/-- a text in quotes -/
def quoteL (t : ByteArray) : List UInt8 := 34 :: (qlist t.data.toList ++ [34])
def opn (k : Int) : UInt8 := if k = 6 then 123 else 91
def cls (k : Int) : UInt8 := if k = 6 then 125 else 93
/-- a part's name and colon -/
def nameL (k : Int) (names : List ByteArray) : List UInt8 := if k = 6 then quoteL (names.headD ⟨#[]⟩) ++ [58] else []
mutual
/-- a value's text -/
def textJ : J → List UInt8
  | .mk k n t names list =>
    if k = 1 then [110, 117, 108, 108] else if k = 2 then (if n = 1 then [116, 114, 117, 101] else [102, 97, 108, 115, 101]) else if k = 3 then Lib.itoa n else if k = 4 then quoteL t
    else opn k :: (itemsJ k true names list ++ [cls k])
/-- the parts, told -/
def itemsJ (k : Int) : Bool → List ByteArray → List J → List UInt8
  | _, _, [] => []
  | first, names, j :: r => (if first then [] else [44]) ++ (nameL k names ++ (textJ j ++ itemsJ k false names.tail r))
end
def szN : List ByteArray → Nat
  | [] => 0
  | s :: r => 1 + s.size + szN r
mutual
/-- how many values and bytes -/
def szJ : J → Nat
  | .mk _ _ t names list => 1 + t.size + szN names + szJs list
def szJs : List J → Nat
  | [] => 0
  | j :: r => szJ j + szJs r
end
/-- what memory can hold -/
inductive JBd : J → Prop
  | mk {k n : Int} {t : ByteArray} {names : List ByteArray} {list : List J} (h0 : -9223372036854775808 ≤ n) (h1 : n ≤ 9223372036854775807) (ht : t.size ≤ 140737488355328)
    (hn : names.length ≤ 140737488355328) (hl : list.length ≤ 140737488355328) (hs : ∀ s ∈ names, s.size ≤ 140737488355328) (hr : ∀ j ∈ list, JBd j) : JBd (.mk k n t names list)

theorem finePs_mem : ∀ {l : List J}, finePs l = true → ∀ j ∈ l, fineP j = true
  | j :: r, h, x, hx => by
    rw [finePs, Bool.and_eq_true] at h
    rcases List.mem_cons.1 hx with rfl | hx
    · exact h.1
    · exact finePs_mem h.2 x hx
theorem finePs_of : ∀ {l : List J}, (∀ j ∈ l, fineP j = true) → finePs l = true
  | [], _ => rfl
  | j :: r, h => by rw [finePs, h j (by simp), finePs_of (fun x hx => h x (by simp [hx]))]; rfl
theorem szJ_pos (j : J) : 1 ≤ szJ j := by cases j; rw [szJ]; omega
theorem quoteL_len (t : ByteArray) : (quoteL t).length ≤ 6 * t.size + 2 := by
  have h1 := qlist_len t.data.toList
  have h2 : t.data.toList.length = t.size := by rw [Array.length_toList]; rfl
  unfold quoteL
  simp only [List.length_cons, List.length_append, List.length_nil]
  omega
theorem nameL_len (k : Int) (names : List ByteArray) : (nameL k names).length ≤ 6 * (names.headD ⟨#[]⟩).size + 3 := by
  unfold nameL
  split
  · have := quoteL_len (names.headD ⟨#[]⟩)
    simp only [List.length_append, List.length_singleton]; omega
  · simp
theorem szN_head (names : List ByteArray) : (names.headD ⟨#[]⟩).size + szN names.tail ≤ szN names := by
  cases names with
  | nil => exact Nat.le_refl _
  | cons a r => simp only [List.headD_cons, List.tail_cons, szN]; omega
/-- a text is no longer than this -/
theorem textJ_len {j : J} (hj : JBd j) : (textJ j).length + 5 ≤ 30 * szJ j := by
  induction hj with
  | @mk k n t names list h0 h1 _ _ _ _ _ ih =>
    have hi : ∀ (l : List J) (names : List ByteArray) (first : Bool), (∀ j ∈ l, (textJ j).length + 5 ≤ 30 * szJ j) → (itemsJ k first names l).length ≤ 30 * szN names + 30 * szJs l := by
      intro l
      induction l with
      | nil => intro names first _; rw [itemsJ]; simp
      | cons j r ih2 =>
        intro names first hl
        have a1 := hl j (by simp)
        have a2 := ih2 names.tail false (fun x hx => hl x (by simp [hx]))
        have a3 := nameL_len k names
        have a4 := szN_head names
        have a5 : (if first = true then ([] : List UInt8) else [44]).length ≤ 1 := by split <;> simp
        rw [itemsJ, szJs]
        simp only [List.length_append]
        omega
    rw [textJ, szJ]
    split
    · simp; omega
    · split
      · split <;> simp <;> omega
      · split
        · have := Lib.itoa_length_le n h0 h1; omega
        · split
          · have := quoteL_len t; omega
          · have := hi list names true ih
            simp only [List.length_cons, List.length_append, List.length_nil]
            omega

theorem items_nil (k : Int) (first : Bool) (names : List ByteArray) : itemsJ k first names [] = [] := by rw [itemsJ]

/-! numerals -/
theorem dval_append : ∀ (l r : List UInt8) (a : Nat), dval (l ++ r) a = dval r (dval l a)
  | [], _, _ => rfl
  | _ :: l, r, _ => dval_append l r _
theorem dec_all : ∀ (n u : Nat), u < n → dval (Lib.decDigits u) 0 = u ∧ digs (Lib.decDigits u) ∧ Lib.decDigits u ≠ [] ∧ (∀ c l, Lib.decDigits u = c :: l → l ≠ [] → c.toNat ≠ 48) ∧ (1 ≤ u → ∀ c l, Lib.decDigits u = c :: l → c.toNat ≠ 48)
  | 0, u, h => absurd h (Nat.not_lt_zero _)
  | n + 1, u, h => by
    by_cases h10 : u < 10
    · have e : (UInt8.ofNat (48 + u)).toNat = 48 + u := by simp [UInt8.toNat_ofNat']; omega
      rw [Lib.decDigits, dif_pos h10]
      refine ⟨?_, ?_, by simp, ?_, ?_⟩
      · show dval [] (0 * 10 + ((UInt8.ofNat (48 + u)).toNat - 48)) = u
        rw [e]; show 0 * 10 + (48 + u - 48) = u; omega
      · intro c hc; rw [List.mem_singleton.1 hc, e]; omega
      · intro c l hcl hl; injection hcl with h1 h2; exact absurd h2.symm hl
      · intro h1 c l hcl; injection hcl with h2 h3; rw [← h2, e]; omega
    · have e : (UInt8.ofNat (48 + u % 10)).toNat = 48 + u % 10 := by simp [UInt8.toNat_ofNat']; omega
      obtain ⟨a1, a2, a3, a4, a5⟩ := dec_all n (u / 10) (by omega)
      have key : ∀ c l, Lib.decDigits u = c :: l → c.toNat ≠ 48 := by
        intro c l hcl
        rw [Lib.decDigits, dif_neg h10] at hcl
        cases hd : Lib.decDigits (u / 10) with
        | nil => exact absurd hd a3
        | cons c' l' =>
          rw [hd] at hcl
          injection hcl with h1 h2
          rw [← h1]
          exact a5 (by omega) c' l' hd
      refine ⟨?_, ?_, ?_, fun c l hcl _ => key c l hcl, fun _ => key⟩
      · rw [Lib.decDigits, dif_neg h10, dval_append, a1]
        show dval [] (u / 10 * 10 + ((UInt8.ofNat (48 + u % 10)).toNat - 48)) = u
        rw [e]; show u / 10 * 10 + (48 + u % 10 - 48) = u; omega
      · rw [Lib.decDigits, dif_neg h10]
        intro c hc
        rcases List.mem_append.1 hc with hc | hc
        · exact a2 c hc
        · rw [List.mem_singleton.1 hc, e]; omega
      · rw [Lib.decDigits, dif_neg h10]; simp
theorem dec_val (u : Nat) : dval (Lib.decDigits u) 0 = u := (dec_all (u + 1) u (by omega)).1
theorem dec_digs (u : Nat) : digs (Lib.decDigits u) := (dec_all (u + 1) u (by omega)).2.1
theorem dec_ne (u : Nat) : Lib.decDigits u ≠ [] := (dec_all (u + 1) u (by omega)).2.2.1
end Go.Proofs.YtnnhkajjifmlfaaDoor
